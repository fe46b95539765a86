/- claim.ValidView and claim.check at a view of one office. -/
import Derived.Test.YtpggedoopjcflaaPClaimHashx0
import Derived.Test.YtpggedoopjcflaaPClaimHashx2
import Derived.Test.YtpggedoopjcflaaPClaimHashx3
import Derived.Lib.Hide
import Derived.Deep.RegionHeld3
import Derived.BigQuiet
import Derived.Test.YtpggedoopjcflaaInts
import Derived.Test.YtpggedoopjcflaaPClaimHashEClaimShows
namespace Go.Proofs.Ytpggedoopjcflaa.PClaimHash
open Go.RowKit Go.Proofs.YtpggedoopjcflaaW.PrintWords
set_option maxRecDepth 100000
theorem int_at {w : World} {A : Option Addr} {n : Nat} {xs : List Int} (h : Kd.C (Kd.int .i64) w A n xs) (k : Nat) (hk : k < n) (hx : k < xs.length) : ∃ ad, A = some ad ∧ w.cell? (ad.add k) = some (.int .i64 xs[k]) := by
  obtain ⟨ad, e, hc⟩ := (Kd.reads_of_C (d := 0) h).2.2 (by omega)
  have := hc k hk
  rw [List.getD_eq_getElem?_getD, List.getElem?_eq_getElem hx, Option.getD_some] at this
  exact ⟨ad, e, this⟩
/-- The first index at which p holds, or -1. -/
def idxII (p : Int → Bool) (l : List Int) : Int := if l.any p = true then (l.findIdx p : Int) else -1
theorem idxII_at (p : Int → Bool) (l : List Int) (k : Nat) (hk : k < l.length) (hn : ∀ x ∈ l.take k, p x = false) (hp : p l[k] = true) : idxII p l = k := by
  have h1 : l.any p = true := List.any_eq_true.2 ⟨_, List.getElem_mem hk, hp⟩
  rw [idxII, if_pos h1]
  congr 1
  refine (List.findIdx_eq hk).2 ⟨hp, fun j hj => ?_⟩
  have := hn l[j] (by rw [List.mem_take_iff_getElem]; exact ⟨j, by omega, rfl⟩)
  exact this
theorem idxII_none (p : Int → Bool) (l : List Int) (hn : ∀ x ∈ l, p x = false) : idxII p l = -1 := by
  rw [idxII, if_neg]
  intro h
  obtain ⟨x, hx, hp⟩ := List.any_eq_true.1 h
  rw [hn x hx] at hp
  cases hp
theorem idxII_nonneg (p : Int → Bool) (l : List Int) : decide (0 ≤ idxII p l) = l.any p := by
  unfold idxII
  cases h : l.any p
  · simp
  · simp
set_option maxHeartbeats 2000000 in
theorem IndexFuncI (A0 : Option Addr) (c0 : Nat) (l0 : List Int) (w : World) (hr0 : Kd.C (Kd.int .i64) w A0 l0.length l0) (g : Nat) (cb : Array Value) (eg : ∀ args w, (callFunc g args).run Try.prog w = .ok (.enter g args) w) (p : Int → Bool) (Inv : World → Prop) (h0 : Inv w)
    (hp : ∀ x ∈ l0, ∀ W, Inv W → Below w.heap.size w W → Calls Try.prog g (#[.int .i64 x] ++ cb) W fun e W' => e = .returned (.bool (p x)) ∧ Inv W' ∧ Below w.heap.size W W') :
    Calls Try.prog 88 #[.slice A0 l0.length c0, .func (.func g) #[] cb] w fun e W' => e = .returned (.int .i64 (idxII p l0)) ∧ Inv W' ∧ Below w.heap.size w W' := by
  have hlen := C_le hr0
  go_enter Try.func88, Try.ntmps88
  go_wp2
  go_loopw [8] (fun i wr => ∃ k : Nat, k ≤ l0.length ∧ i = .int .i64 k ∧ (∀ x ∈ l0.take k, p x = false) ∧ Inv wr ∧ Below w.heap.size w wr) (fun i _ => l0.length - (intOf i).toNat)
  case atStart => exact ⟨0, Nat.zero_le _, rfl, by simp, h0, Below.refl _ _⟩
  case round =>
    obtain ⟨k, hk, rfl, hno, hI, hB⟩ := hrel
    by_cases hlt : k < l0.length
    · obtain ⟨ad, rfl, hx0⟩ := int_at (Kd.C_below hr0 hB) k hlt hlt
      have hcall := hp l0[k] (List.getElem_mem hlt) wr hI hB
      have hat := Lib.hid (idxII_at p l0 k hlt hno)
      have hst := Lib.hid (take_succ l0 k hlt)
      obtain ⟨x, hx⟩ : ∃ x, l0[k] = x := ⟨_, rfl⟩
      rw [hx] at hx0 hcall hat hst
      skip
      cases hpx : p x <;> rw [hpx] at hcall
      · go_wp2_with (go_at_fn g; refine hcall.mono ?_; rintro e w' ⟨rfl, hI', hB'⟩)
        go_roundw
        case rel =>
          refine ⟨k + 1, by omega, by go_num, fun y hy => ?_, hI', hB.trans hB'⟩
          rw [hst.out] at hy
          rcases List.mem_append.1 hy with hy | hy
          · exact hno y hy
          · simp at hy
            rw [hy]
            exact hpx
        case measure => simp [intOf]; omega
      · have e1 := Lib.hid (hat.out hpx)
        go_wp2_with (go_at_fn g; refine hcall.mono ?_; rintro e w' ⟨rfl, hI', hB'⟩)
        go_ret
        exact ⟨by rw [e1.out]; rfl, hI', hB.trans hB'⟩
    · obtain rfl : k = l0.length := by omega
      rw [List.take_length] at hno
      have e1 := Lib.hid (idxII_none p l0 hno)
      go_wp2
      go_ret
      exact ⟨by rw [e1.out]; rfl, hI, hB⟩
theorem ContainsFuncI (A0 : Option Addr) (c0 : Nat) (l0 : List Int) (w : World) (hr0 : Kd.C (Kd.int .i64) w A0 l0.length l0) (g : Nat) (cb : Array Value) (eg : ∀ args w, (callFunc g args).run Try.prog w = .ok (.enter g args) w) (p : Int → Bool) (Inv : World → Prop) (h0 : Inv w)
    (hp : ∀ x ∈ l0, ∀ W, Inv W → Below w.heap.size w W → Calls Try.prog g (#[.int .i64 x] ++ cb) W fun e W' => e = .returned (.bool (p x)) ∧ Inv W' ∧ Below w.heap.size W W') :
    Calls Try.prog 71 #[.slice A0 l0.length c0, .func (.func g) #[] cb] w fun e W' => e = .returned (.bool (l0.any p)) ∧ Inv W' ∧ Below w.heap.size w W' := by
  have hi := IndexFuncI A0 c0 l0 w hr0 g cb eg p Inv h0 hp
  have hn := idxII_nonneg p l0
  obtain ⟨i, hii⟩ : ∃ i, idxII p l0 = i := ⟨_, rfl⟩
  rw [hii] at hi hn
  go_enter Try.func71, Try.ntmps71
  go_wp2_with fail
  refine hi.mono ?_
  rintro e w' ⟨rfl, hI, hB⟩
  go_wp2
  go_ret
  exact ⟨by rw [← hn]; rfl, hI, hB⟩
theorem VV1_any (o : Int) (W : World) : Calls Try.prog 72 #[.int .i64 o] W fun e W' => e = .returned (.bool (!inB o 0 63)) ∧ Below W.heap.size W W' := by
  have hio := fun W' => claim_isOffice.calls o _ W' (show claim_isOffice.f o = some (inB o 0 63) by unfold claim_isOffice.f; rw [in_eq]; rfl)
  obtain ⟨r, hr⟩ : ∃ r, inB o 0 63 = r := ⟨_, rfl⟩
  rw [hr] at hio ⊢
  go_enter Try.func72, Try.ntmps72
  go_wp2_with fail
  refine (hio _).mono ?_
  rintro e w' ⟨rfl, ⟨⟨q, rfl⟩⟩⟩
  go_wp2
  go_ret
  exact ⟨rfl, ⟨rfl, rfl, rfl, Nat.le_refl _, fun _ _ => rfl⟩⟩
theorem own_drewQ {W : World} {base : Nat} {e : TypeId} {size n : Nat} {v : Value} {xs : List Value} (h : W.ownsRow base e size v n xs) (q : Nat) : (W.drewN q).ownsRow base e size v n xs := h
set_option maxHeartbeats 4000000 in
theorem ValidView1 (o : Int) (ho : 0 ≤ o ∧ o ≤ 63) (Ao : Option Addr) (co : Nat) (w : World) (hro : Kd.C (Kd.int .i64) w Ao 1 [o]) :
    Calls Try.prog 56 #[.agg #[.int .i64 0, .slice Ao 1 co]] w fun e w' => e = .returned (.int .i64 0) ∧ Below w.heap.size w w' := by
  have hB1 := (Below.refl w.heap.size w).alloc (Nat.le_refl _) (.cells #[.int .i64 0, .slice Ao 1 co] 61)
  have hB2 := hB1.alloc (by simp) (.cells #[.slice Ao 1 co] 52)
  have hin := fun W' => claim_in.calls 1 1 1 _ W' (in_eq 1 1 1)
  have hv : ((w.alloc (.cells #[.int .i64 0, .slice Ao 1 co] 61)).alloc (.cells #[.slice Ao 1 co] 52)).cell? ⟨w.heap.size, 1, none⟩ = some (.slice Ao 1 co) := Lib.cell?_alloc_some _ (World.cell?_alloc_at _ _ _ 1 rfl)
  go_enter Try.func56, Try.ntmps56
  go_wp2_with fail
  refine ((callsIn_wide (n := 1)).1 (Ints.values_in Fence.wide 1 trivial rfl Ao 1 co _)).mono ?_
  rintro e w1 ⟨rfl, rfl⟩
  go_wp2_with fail
  refine (Ints.Sorted_any _ Ao co [o] (by simp) _ ?_ ?_ (readsInt_of.2 (Kd.reads_of_C (Kd.C_below hro hB2)))).mono ?_
  · simp
  · exact World.cell?_alloc_at _ _ _ 0 (by simp)
  rintro e w2 ⟨v, rfl, hown, hB3⟩
  have hms : ([o].mergeSort fun x y => decide (x ≤ y)) = [o] := by simp
  rw [hms] at hown
  have hv2 : w2.cell? ⟨w.heap.size, 1, none⟩ = some (.slice Ao 1 co) := (hB3.cell (p := ⟨w.heap.size, 1, none⟩) (by simp; omega)).trans hv
  have hBw2 : Below w.heap.size w w2 := hB2.trans (hB3.mono (by simp; omega))
  obtain ⟨A, c, rfl, hcap⟩ := own_slice hown
  have hlc : Lib.compact [o] = [o] := by simp [Lib.compact, Lib.compactUpTo, Lib.keeps, List.range, List.range.loop]
  have hcp := fun q => Ints.CompactI _ _ [o] (w2.drewN q) (own_drewQ hown q) (by simp)
  rw [hlc] at hcp
  have hin1 : inB 1 1 1 = true := by decide
  rw [hin1] at hin
  simp only [List.length_singleton] at hcp hown ⊢
  go_wp2
  go_region_held3 (fun w' => w'.cell? ⟨w.heap.size, 1, none⟩ = some (.slice Ao 1 co)) (go_keep)
    (first
      | (go_at_call 39; refine (hin _).mono ?_; rintro e w' ⟨rfl, ⟨⟨q, rfl⟩⟩⟩)
      | (go_at_call 36; refine (hcp _).mono ?_; rintro e w' ⟨v', rfl, hown', hg'⟩; obtain ⟨A', c', rfl, hcap'⟩ := own_slice hown'; have hv3 : w'.cell? ⟨w.heap.size, 1, none⟩ = some (.slice Ao 1 co) := (hg'.cell_far ⟨w.heap.size, 1, none⟩ (World.block_lt_of_cell? w2 _ hv2) (fun e => by have := (hown.lt _ e.symm).1; simp at this; omega)).trans hv2))
  all_goals
    have hBw3 : Below w.heap.size w w' := (pw_below_drewN hBw2 _).grown hg' (by have := hBw2.size; simpa using this) (fun k e => by have := (hown.lt _ e).1; simp at this; omega)
    have hany : ([o].any fun x => !inB x 0 63) = false := by
      have : inB o 0 63 = true := by unfold inB; simp [ho]
      simp [this]
    have hcf := ContainsFuncI Ao co [o] w' (Kd.C_below hro hBw3) 72 #[] (enters_of Try.func72 (by kernel_rfl) rfl) (fun x => !inB x 0 63) (fun _ => True) trivial (fun x _ W _ hB => (VV1_any x W).mono fun e W' h => ⟨h.1, trivial, h.2.mono hB.size⟩)
    rw [hany] at hcf
    go_wp2_with fail
    refine hcf.mono ?_
    rintro e w5 ⟨rfl, _, hB5⟩
    go_wp2
    go_ret
    exact ⟨rfl, hBw3.trans (hB5.mono hBw3.size)⟩
theorem or2_eq (a b : Int) : api_Errno.f 3 [a, b] = some (if a = 0 then b else a) := by
  unfold api_Errno.f
  simp only [api_Errno.l0, List.length_cons, List.length_nil]
  by_cases ha : a = 0 <;> by_cases hb : b = 0 <;> simp [Go.Proofs.YtpggedoopjcflaaW.PrintWords.rd, ha, hb, wrap64]
theorem cells2_C {V : World} {a b : Int} {T : TypeId} : Kd.C (Kd.int .i64) (V.alloc (.cells #[.int .i64 a, .int .i64 b] T)) (some ⟨V.heap.size, 0, none⟩) 2 [a, b] := by
  refine Kd.C_of_reads (d := 0) ⟨rfl, by omega, fun hn => ⟨_, rfl, fun i hi => ?_⟩⟩
  rcases i with _ | _ | i
  · exact World.cell?_alloc_at _ _ _ 0 rfl
  · exact World.cell?_alloc_at _ _ _ 1 rfl
  · omega
set_option maxHeartbeats 4000000 in
theorem check1 (o : Int) (ho : 0 ≤ o ∧ o ≤ 63) (Ao : Option Addr) (co : Nat) (A0 : Option Addr) (c0 : Nat) (l0 : List Cl) (w : World) (hro : Kd.C (Kd.int .i64) w Ao 1 [o]) (hr0 : Kd.C k24 w A0 l0.length l0) (hc0 : l0.length ≤ c0) (hv : l0.all vldC = true) :
    Calls Try.prog 34 #[.agg #[.int .i64 0, .slice Ao 1 co], .slice A0 l0.length c0] w fun e w' => e = .returned (.int .i64 0) ∧ Below w.heap.size w w' := by
  have hB1 := (Below.refl w.heap.size w).alloc (Nat.le_refl _) (.cells #[.int .i64 0, .slice Ao 1 co] 61)
  have hvv := ValidView1 o ho Ao co _ (Kd.C_below hro hB1)
  go_enter Try.func34, Try.ntmps34
  go_wp2_with fail
  refine hvv.mono ?_
  rintro e w1 ⟨rfl, hB2⟩
  have hBw1 : Below w.heap.size w w1 := hB1.trans (hB2.mono (by simp))
  go_wp2_with fail
  refine (claim_valid.calls (l0.length + 1) A0 c0 l0 0 w1 (Kd.C_below hr0 hBw1) hc0 (by rw [valid_eq l0 (C_le hr0), hv]; rfl)).mono ?_
  rintro e w2 ⟨rfl, hB3⟩
  have hBw2 : Below w.heap.size w w2 := hBw1.trans (hB3.mono hBw1.size)
  go_wp2_with fail
  refine (api_Errno.calls 3 (some ⟨w2.heap.size, 0, none⟩) 2 [0, 0] 0 _ cells2_C (Nat.le_refl _) (by rw [or2_eq]; rfl)).mono ?_
  rintro e w3 ⟨rfl, ⟨⟨q, rfl⟩⟩⟩
  go_wp2
  go_ret
  exact ⟨rfl, pw_below_drewN (hBw2.alloc hBw2.size _) _⟩
end Go.Proofs.Ytpggedoopjcflaa.PClaimHash
