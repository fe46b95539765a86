/- slices' functions at claims that take a predicate. -/
import Derived.Test.YtpggedoopjcflaaPClaimHashx0
import Derived.Lib.Hide
import Derived.Lib.SliceRun
import Derived.Test.YtpggedoopjcflaaPClaimHashEClaimSort
namespace Go.Proofs.Ytpggedoopjcflaa.PClaimHash
open Go.RowKit Go.Proofs.YtpggedoopjcflaaW.PrintWords
set_option maxRecDepth 100000
/-- The first index at which p holds, or -1. -/
def idxIC (p : Cl → Bool) (l : List Cl) : Int := if l.any p = true then (l.findIdx p : Int) else -1
theorem idxIC_at (p : Cl → Bool) (l : List Cl) (k : Nat) (hk : k < l.length) (hn : ∀ x ∈ l.take k, p x = false) (hp : p l[k] = true) : idxIC p l = k := by
  have h1 : l.any p = true := List.any_eq_true.2 ⟨_, List.getElem_mem hk, hp⟩
  rw [idxIC, if_pos h1]
  congr 1
  refine (List.findIdx_eq hk).2 ⟨hp, fun j hj => ?_⟩
  have := hn l[j] (by rw [List.mem_take_iff_getElem]; exact ⟨j, by omega, rfl⟩)
  exact this
theorem idxIC_none (p : Cl → Bool) (l : List Cl) (hn : ∀ x ∈ l, p x = false) : idxIC p l = -1 := by
  rw [idxIC, if_neg]
  intro h
  obtain ⟨x, hx, hp⟩ := List.any_eq_true.1 h
  rw [hn x hx] at hp
  cases hp
theorem idxIC_nonneg (p : Cl → Bool) (l : List Cl) : decide (0 ≤ idxIC p l) = l.any p := by
  unfold idxIC
  cases h : l.any p
  · simp
  · simp
set_option maxHeartbeats 2000000 in
theorem IndexFuncC (A0 : Option Addr) (c0 : Nat) (l0 : List Cl) (w : World) (hr0 : Kd.C k24 w A0 l0.length l0) (g : Nat) (cb : Array Value) (eg : ∀ args w, (callFunc g args).run Try.prog w = .ok (.enter g args) w) (p : Cl → Bool) (Inv : World → Prop) (h0 : Inv w)
    (hp : ∀ x ∈ l0, ∀ W, Inv W → Below w.heap.size w W → Calls Try.prog g (#[.agg (encCl x).toArray] ++ cb) W fun e W' => e = .returned (.bool (p x)) ∧ Inv W' ∧ Below w.heap.size W W') :
    Calls Try.prog 82 #[.slice A0 l0.length c0, .func (.func g) #[] cb] w fun e W' => e = .returned (.int .i64 (idxIC p l0)) ∧ Inv W' ∧ Below w.heap.size w W' := by
  have hlen := C_le hr0
  go_enter Try.func82, Try.ntmps82
  go_wp2
  go_loopw [8] (fun i wr => ∃ k : Nat, k ≤ l0.length ∧ i = .int .i64 k ∧ (∀ x ∈ l0.take k, p x = false) ∧ Inv wr ∧ Below w.heap.size w wr) (fun i _ => l0.length - (intOf i).toNat)
  case atStart => exact ⟨0, Nat.zero_le _, rfl, by simp, h0, Below.refl _ _⟩
  case round =>
    obtain ⟨k, hk, rfl, hno, hI, hB⟩ := hrel
    by_cases hlt : k < l0.length
    · obtain ⟨ad, rfl, hx0, hx1, hx2, hx3, hx4⟩ := at_nat (Kd.C_below hr0 hB) k hlt hlt
      have hcall := hp l0[k] (List.getElem_mem hlt) wr hI hB
      have hat := Lib.hid (idxIC_at p l0 k hlt hno)
      have hst := Lib.hid (take_succ l0 k hlt)
      obtain ⟨x, hx⟩ : ∃ x, l0[k] = x := ⟨_, rfl⟩
      rw [hx] at hx0 hx1 hx2 hx3 hx4 hcall hat hst
      unfold encCl at hcall
      cases hpx : p x <;> rw [hpx] at hcall
      · go_wp2_with (go_at_fn g; refine hcall.mono ?_; rintro e w' ⟨rfl, hI', hB'⟩)
        go_roundw
        case rel =>
          refine ⟨k + 1, by omega, by go_num, fun y hy => ?_, hI', hB.trans hB'⟩
          rw [hst.out] at hy
          rcases List.mem_append.1 hy with hy | hy
          · exact hno y hy
          · simp at hy
            rw [hy]
            exact hpx
        case measure => simp [intOf]; omega
      · have e1 := Lib.hid (hat.out hpx)
        go_wp2_with (go_at_fn g; refine hcall.mono ?_; rintro e w' ⟨rfl, hI', hB'⟩)
        go_ret
        exact ⟨by rw [e1.out]; rfl, hI', hB.trans hB'⟩
    · obtain rfl : k = l0.length := by omega
      rw [List.take_length] at hno
      have e1 := Lib.hid (idxIC_none p l0 hno)
      go_wp2
      go_ret
      exact ⟨by rw [e1.out]; rfl, hI, hB⟩
theorem ContainsFuncC (A0 : Option Addr) (c0 : Nat) (l0 : List Cl) (w : World) (hr0 : Kd.C k24 w A0 l0.length l0) (g : Nat) (cb : Array Value) (eg : ∀ args w, (callFunc g args).run Try.prog w = .ok (.enter g args) w) (p : Cl → Bool) (Inv : World → Prop) (h0 : Inv w)
    (hp : ∀ x ∈ l0, ∀ W, Inv W → Below w.heap.size w W → Calls Try.prog g (#[.agg (encCl x).toArray] ++ cb) W fun e W' => e = .returned (.bool (p x)) ∧ Inv W' ∧ Below w.heap.size W W') :
    Calls Try.prog 58 #[.slice A0 l0.length c0, .func (.func g) #[] cb] w fun e W' => e = .returned (.bool (l0.any p)) ∧ Inv W' ∧ Below w.heap.size w W' := by
  have hi := IndexFuncC A0 c0 l0 w hr0 g cb eg p Inv h0 hp
  have hn := idxIC_nonneg p l0
  obtain ⟨i, hii⟩ : ∃ i, idxIC p l0 = i := ⟨_, rfl⟩
  rw [hii] at hi hn
  go_enter Try.func58, Try.ntmps58
  go_wp2_with fail
  refine hi.mono ?_
  rintro e w' ⟨rfl, hI, hB⟩
  go_wp2
  go_ret
  exact ⟨by rw [← hn]; rfl, hI, hB⟩
theorem one_encCl (x : Cl) : ∀ u ∈ encCl x, u.oneCell' = true := by
  intro u hu
  simp [encCl] at hu
  rcases hu with rfl | rfl | rfl | rfl | rfl <;> rfl
theorem cells_of_CC {w : World} {ad : Addr} {n : Nat} {xs : List Cl} (h : Kd.C k24 w (some ad) n xs) (hn : 0 < n) : ∀ j u, (xs.flatMap encCl)[j]? = some u → w.cell? (ad.add j) = some u := by
  have hl : ∀ s : List Cl, (s.flatMap encCl).length = s.length * 5 := by
    intro s
    induction s with
    | nil => rfl
    | cons y r ih => rw [List.flatMap_cons, List.length_append, ih, List.length_cons]; simp [encCl]; omega
  obtain ⟨hlen, _, hc⟩ := h
  obtain ⟨ad', e, hc⟩ := hc hn
  cases e
  intro j u hj
  have hjl : j < xs.length * 5 := by rw [← hl]; exact (List.getElem?_eq_some_iff.1 hj).1
  have hq : j / 5 < xs.length := (Nat.div_lt_iff_lt_mul (by decide)).2 hjl
  obtain ⟨c, hcl, hK, hcell⟩ := hc (j / 5) _ (List.getElem?_eq_getElem hq)
  have hK' := k24_open hK
  have e1 : j / 5 * 5 + j % 5 = j := by rw [Nat.mul_comm]; exact Nat.div_add_mod j 5
  have e2 : (xs.flatMap encCl)[j]? = c[j % 5]? := by
    have hsplit : xs = xs.take (j / 5) ++ xs[j / 5] :: xs.drop (j / 5 + 1) := by
      rw [← List.drop_eq_getElem_cons hq, List.take_append_drop]
    have hlt : (xs.take (j / 5)).length = j / 5 := by rw [List.length_take]; omega
    have hmod : j % 5 < 5 := Nat.mod_lt _ (by decide)
    conv => lhs; rw [hsplit]
    rw [List.flatMap_append, List.getElem?_append_right (by rw [hl, hlt]; omega), hl, hlt, List.flatMap_cons, show j - j / 5 * 5 = j % 5 by omega, List.getElem?_append_left (by simpa [encCl] using hmod), hK']
    rfl
  rw [← e1]
  exact hcell _ u (by rw [← e2]; exact hj)
set_option maxHeartbeats 1000000 in
/-- slices.Clone: a row of the call's own that holds the same. -/
theorem CloneC (A0 : Option Addr) (c0 : Nat) (l0 : List Cl) (w : World) (hr0 : Kd.C k24 w A0 l0.length l0) (hlen : l0.length * 40 ≤ 140737488355328) :
    Calls Try.prog 62 #[.slice A0 l0.length c0] w fun e w' => ∃ v, e = .returned v ∧ w'.ownsRow w.heap.size 24 5 v l0.length (l0.flatMap encCl) ∧ Below w.heap.size w w' := by
  obtain ⟨i0, hi, hz0, hz1, hz2⟩ := info_parts info24
  have hml : 140737488355328 ≤ maxLen := by decide
  cases A0 with
  | none =>
    have h0 : l0.length = 0 := by
      rcases Nat.eq_zero_or_pos l0.length with h | h
      · exact h
      · obtain ⟨_, e, _⟩ := hr0.2.2 h
        cases e
    obtain rfl := List.eq_nil_of_length_eq_zero h0
    have he := fun W => Lib.run_eql_slice_nil (P := Try.prog) W 25 24 none 0 c0 0 0 Try.underlying25
    go_enter Try.func62, Try.ntmps62
    go_wp2
    go_ret
    exact ⟨_, rfl, World.ownsRow_nil _ _ _ _, Below.refl _ _⟩
  | some ad =>
    have hb : (w.alloc (.cells #[] 24)).ownsRow w.heap.size 24 5 (.slice (some ⟨w.heap.size, 0, none⟩) 0 0) 0 [] := ⟨rfl, .inr ⟨w.heap.size, 0, #[], rfl, Nat.le_refl _, (MapKept.heap_alloc w _).1, Nat.le_refl _, Nat.zero_le _, rfl, rfl⟩⟩
    have hB := (Below.refl w.heap.size w).alloc (Nat.le_refl _) (.cells #[] 24)
    have hR' := Kd.C_below hr0 hB
    have hcells : ∀ j u, (l0.flatMap encCl)[j]? = some u → (w.alloc (.cells #[] 24)).cell? (ad.add j) = some u := by
      rcases Nat.eq_zero_or_pos l0.length with h | h
      · obtain rfl := List.eq_nil_of_length_eq_zero h
        intro j u hj
        simp at hj
      · exact cells_of_CC hR' h
    have hone : ∀ u ∈ l0.flatMap encCl, u.oneCell' = true := by
      intro u hu
      obtain ⟨x, _, hx⟩ := List.mem_flatMap.1 hu
      exact one_encCl x u hx
    have hll : (l0.flatMap encCl).length = l0.length * 5 := by
      clear hone hcells hR' hr0 hlen
      induction l0 with
      | nil => rfl
      | cons y r ih => rw [List.flatMap_cons, List.length_append, ih, List.length_cons]; simp [encCl]; omega
    have he := fun W => Lib.run_eql_slice_nil (P := Try.prog) W 25 24 (some ad) l0.length c0 0 0 Try.underlying25
    go_enter Try.func62, Try.ntmps62
    go_wp2_with (at_builtin; refine wpList_append_own _ rfl _ _ 25 rfl w.heap.size 24 i0 _ 5 40 Try.underlying25 hi hz0 hz1 hz2 rfl (by decide) _ 0 [] rfl hb ad l0.length c0 (l0.flatMap encCl) rfl hll hcells hone (by omega) (by omega) (by simp) ?_; intro v1 w1 hown hg1 _)
    go_ret
    exact ⟨_, rfl, by simpa using hown, hB.grown hg1 (by simp) (fun k e => by cases e; exact Nat.le_refl _)⟩
end Go.Proofs.Ytpggedoopjcflaa.PClaimHash
