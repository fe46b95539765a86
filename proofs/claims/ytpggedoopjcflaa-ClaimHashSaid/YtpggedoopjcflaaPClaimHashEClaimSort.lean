/- slices.SortFunc and slices.SortedFunc at claims. -/
import Derived.Test.YtpggedoopjcflaaPClaimHashx0
import Derived.Test.YtpggedoopjcflaaSort
import Derived.Test.YtpggedoopjcflaaSortK
import Derived.Test.YtpggedoopjcflaaPClaimHashEClaimSeq
import Derived.Test.YtpggedoopjcflaaPClaimHashEClaimNormP
namespace Go.Proofs.Ytpggedoopjcflaa.PClaimHash
open Go.RowKit Go.Proofs.YtpggedoopjcflaaW.PrintWords Go.Sort
set_option maxRecDepth 100000
instance : Inhabited Cl := ⟨z24⟩
theorem reps_flat {α : Type} {R : α → List Value → Prop} (enc : α → List Value) (k : Nat) (hk : ∀ x, (enc x).length = k) (hR : ∀ x, R x (enc x)) (zs : List α) : Reps R k zs (zs.flatMap enc) := by
  have h : ∀ n, n ≤ zs.length → Reps R k (zs.take n) ((zs.take n).flatMap enc) := by
    intro n
    induction n with
    | zero => intro _; exact Reps.none _ _
    | succ n ih =>
      intro hn
      rw [take_succ zs n (by omega), List.flatMap_append, show [zs[n]].flatMap enc = enc zs[n] by simp]
      exact (ih (by omega)).snoc (hR zs[n]) (hk _)
  have := h zs.length (Nat.le_refl _)
  rwa [List.take_length] at this
/-- A row of claims of the call's own. -/
theorem R_ofC {w : World} {base : Nat} {ok : Nat → Prop} {v : Value} {zs : List Cl} (h : w.ownsRow base 24 5 v zs.length (zs.flatMap encCl)) (hok : ∀ k, v.ownBlock = some k → ok k) : Kd.R k24 24 w base ok v zs :=
  ⟨hok, _, h, reps_flat encCl 5 (fun _ => rfl) (fun x => k24_mkM _ _ _ x) zs⟩
theorem flat_of_reps {R : Cl → List Value → Prop} (hR : ∀ x cs, R x cs → cs = encCl x) : ∀ (zs : List Cl) (cs : List Value), Reps R 5 zs cs → cs = zs.flatMap encCl
  | [], cs, h => by
    have := h.1
    simp at this
    simpa using this
  | x :: r, cs, h => by
    have hl := h.1
    have h0 : cs.take 5 = encCl x := hR _ _ (by simpa using h.2 0 x rfl)
    have hr : Reps R 5 r (cs.drop 5) := by
      refine ⟨by rw [List.length_drop, hl, List.length_cons]; omega, fun j p hj => ?_⟩
      have := h.2 (j + 1) p (by simpa using hj)
      rw [List.drop_drop]
      rwa [show 5 + j * 5 = (j + 1) * 5 by omega]
    rw [List.flatMap_cons, ← flat_of_reps hR r _ hr, ← h0, List.take_append_drop]
theorem ownC_of {w : World} {base : Nat} {ok : Nat → Prop} {v : Value} {zs : List Cl} (h : Kd.R k24 24 w base ok v zs) : w.ownsRow base 24 5 v zs.length (zs.flatMap encCl) := by
  obtain ⟨_, inner, ho, hr⟩ := h
  rw [← flat_of_reps (fun x cs hx => k24_openM hx) zs inner hr]
  exact ho
theorem SortFuncC (base : Nat) (v : Value) (zs : List Cl) (w : World) (h : w.ownsRow base 24 5 v zs.length (zs.flatMap encCl)) (hl : zs.length < 4611686018427387904) :
    Calls Try.prog 14 #[v, .func (.func 12) #[] #[]] w fun e w' => e = .returned (.tuple #[]) ∧ ∃ ys, ys.Perm zs ∧ Asc ys ∧ w'.ownsRow base 24 5 v ys.length (ys.flatMap encCl) ∧ w.grownBy w' v.ownBlock := by
  refine (SortK.SortFunc_own Try.sortC k24 encCl (fun h => k24_openM h) (fun w b o x => k24_mkM w b o x) (fun _ => rfl) (fun x v hv => by simp [encCl] at hv; rcases hv with rfl | rfl | rfl | rfl | rfl <;> rfl) Try.isAgg24 Try.sizeOf24 cmpC swoC 12 #[]
    (enters_of Try.func12 (by kernel_rfl) rfl) (fun W x y => compare_any x y W) 24 base (fun _ => True) v zs w (R_ofC h (fun _ _ => trivial)) hl).mono ?_
  rintro e w' ⟨rfl, ys, hp, hs, hR, hg⟩
  refine ⟨rfl, ys, hp, ?_, ownC_of hR, hg⟩
  refine List.pairwise_iff_getElem.2 fun i j hi hj hij => ?_
  have := hs i j hij hj hi
  rw [ltOf_cmpC, decide_eq_false_iff_not] at this
  exact this
theorem CollectC_in (F : Fence) (n : Nat) (hF : ∀ k, F.fn k) (hro : F.round = none) (hn : 4 ≤ n) (Bq : Nat) (A : Option Addr) (c : Nat) (zs : List Cl) (hreach : zs.length ≤ 3518437208883) (w : World) (hBq : Bq < w.heap.size) (hc : w.cell? ⟨Bq, 0, none⟩ = some (.slice A zs.length c)) (hC : Kd.C k24 w A zs.length zs) :
    CallsIn F n Try.prog 22 #[.func (.func 23) #[] #[.pointer (some ⟨Bq, 0, none⟩)]] w fun e W' => ∃ v, e = .returned v ∧ W'.ownsRow w.heap.size 24 5 v zs.length (zs.flatMap encCl) ∧ Below w.heap.size w W' := by
  have hap := AppendSeqC_in F (n - 1) hF hro (by omega) Bq A c zs hreach w hBq hc hC
  have hF42 := hF 42
  have h1 : 1 ≤ n := by omega
  refine callsIn_of_wp Try.func22 rfl (hF _) ?_ hro
  simp only [Try.ntmps22, List.size_toArray, List.length_cons, List.length_nil, Nat.reduceAdd, Nat.reduceSub, Array.replicate_succ, Array.replicate_zero, List.push_toArray, List.append_toArray, List.nil_append, List.cons_append]
  gi_wp2_with (gi_at_call 42; refine hap.mono ?_; rintro e w' ⟨v, rfl, h3, h2⟩)
  go_ret
  exact ⟨_, rfl, h3, h2⟩
theorem SortedFuncC (Bq : Nat) (A : Option Addr) (c : Nat) (zs : List Cl) (hreach : zs.length ≤ 3518437208883) (w : World) (hBq : Bq < w.heap.size) (hc : w.cell? ⟨Bq, 0, none⟩ = some (.slice A zs.length c)) (hC : Kd.C k24 w A zs.length zs) :
    Calls Try.prog 10 #[.func (.func 23) #[] #[.pointer (some ⟨Bq, 0, none⟩)], .func (.func 12) #[] #[]] w fun e W' => ∃ v ys, e = .returned v ∧ ys.Perm zs ∧ Asc ys ∧ W'.ownsRow w.heap.size 24 5 v ys.length (ys.flatMap encCl) ∧ Below w.heap.size w W' := by
  have hcol := (callsIn_wide (n := 4)).1 (CollectC_in Fence.wide 4 (fun _ => trivial) rfl (Nat.le_refl _) Bq A c zs hreach w hBq hc hC)
  go_enter Try.func10, Try.ntmps10
  go_wp2_with fail
  refine hcol.mono ?_
  rintro e w1 ⟨v, rfl, hown, hB⟩
  go_wp2_with fail
  refine (SortFuncC w.heap.size v zs w1 hown (by omega)).mono ?_
  rintro e w2 ⟨rfl, ys, hp, hs, hown2, hg⟩
  go_wp2
  go_ret
  exact ⟨_, _, rfl, hp, hs, hown2, hB.grown hg hB.size (fun k hk => (hown.lt k hk).1)⟩
end Go.Proofs.Ytpggedoopjcflaa.PClaimHash
