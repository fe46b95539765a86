/- claim.Encode: its bytes, and the walk. -/
import Derived.Test.YtpggedoopjcflaaPClaimHashx0
import Derived.Test.YtpggedoopjcflaaPClaimHashx2
import Derived.Test.YtpggedoopjcflaaWire
import Derived.Test.YtpggedoopjcflaaPClaimHashEClaimV
namespace Go.Proofs.Ytpggedoopjcflaa.PClaimHash
open Go.RowKit Go.Proofs.YtpggedoopjcflaaW.PrintWords
set_option maxRecDepth 100000
def claimInts (c : Cl) : List Int := [c.f0, c.f1, c.f2, c.f3, c.f4]
def encInts (l : List Int) : List Int := l.flatMap Wire.ivar
def encClaim (c : Cl) : List Int := encInts (claimInts c)
def encClaims (l : List Cl) : List Int := Wire.ivar l.length ++ l.flatMap encClaim
def claim_Encode.f (l0 : List Cl) : Option (List Int × Int) :=
  some (if l0.all vldC = true then (if 64 < l0.length then ([], 4) else (encClaims l0, 0)) else ([], 1))
theorem ivar_len (n : Int) : (Wire.ivar n).length ≤ 11 := Wire.uvar_len _
theorem encInts_len : ∀ l : List Int, (encInts l).length ≤ 11 * l.length
  | [] => by simp [encInts]
  | n :: r => by have := encInts_len r; have := ivar_len n; simp [encInts] at *; omega
theorem encClaim_len (c : Cl) : (encClaim c).length ≤ 55 := encInts_len _
theorem encAll_len : ∀ l : List Cl, (l.flatMap encClaim).length ≤ 55 * l.length
  | [] => by simp
  | c :: r => by have := encAll_len r; have := encClaim_len c; simp at *; omega
theorem take_one {α : Type} (l : List α) (j : Nat) (h : j < l.length) : l.take (j + 1) = l.take j ++ [l[j]] := by
  rw [List.take_add_one, List.getElem?_eq_getElem h]
  rfl
theorem encInts_step (l : List Int) (j : Nat) (h : j < l.length) : encInts (l.take (j + 1)) = encInts (l.take j) ++ Wire.ivar (l.getD j 0) := by
  rw [take_one l j h, encInts, List.flatMap_append, List.getD_eq_getElem?_getD, List.getElem?_eq_getElem h]
  simp [encInts]
theorem encAll_step (l : List Cl) (j : Nat) (h : j < l.length) : (l.take (j + 1)).flatMap encClaim = (l.take j).flatMap encClaim ++ encClaim l[j] := by
  rw [take_one l j h, List.flatMap_append]
  simp
theorem ints_range {c : Cl} (h : vldC c = true) : ∀ n ∈ claimInts c, 0 ≤ n ∧ n ≤ 1048576 := by
  have := vldC_iff.1 h
  intro n hn
  simp [claimInts] at hn
  rcases hn with rfl | rfl | rfl | rfl | rfl <;> omega
theorem arr_index (W : World) (x0 x1 x2 x3 x4 : Int) (j : Nat) (hj : j < 5) :
    (Instr.index 50 (.agg #[.int .i64 x0, .int .i64 x1, .int .i64 x2, .int .i64 x3, .int .i64 x4]) (.int .i64 (j : Int))).run Try.prog W = .ok (.int .i64 ([x0, x1, x2, x3, x4].getD j 0)) W := by
  rcases j with _ | _ | _ | _ | _ | j
  · kernel_rfl
  · kernel_rfl
  · kernel_rfl
  · kernel_rfl
  · kernel_rfl
  · omega
set_option maxHeartbeats 4000000 in
theorem Encode_ok (A0 : Option Addr) (c0 : Nat) (l0 : List Cl) (w : World) (hr0 : Kd.C k24 w A0 l0.length l0) (hc0 : l0.length ≤ c0) (hv : l0.all vldC = true) (hlen : l0.length ≤ 64) :
    Calls Try.prog 6 #[.slice A0 l0.length c0] w fun e w' => ∃ v0_ : Value, e = .returned (.tuple #[v0_, .int .i64 0]) ∧ w'.ownsRow w.heap.size 5 1 v0_ (encClaims l0).length (nums .u8 (encClaims l0)) ∧ Below w.heap.size w w' := by
  have hval := claim_valid.calls (l0.length + 1) A0 c0 l0 0 w hr0 hc0 (by rw [valid_eq l0 (C_le hr0), hv]; rfl)
  go_enter Try.func6, Try.ntmps6
  go_wp2_with fail
  refine hval.mono ?_
  rintro e w1 ⟨rfl, hB1⟩
  have hR1 := Kd.C_below hr0 hB1
  have hW0 := Wire.IsW.start w.heap.size w1 48
  have hB2 : Below w.heap.size w (w1.alloc (.cells #[.slice none 0 0] 48)) := hB1.alloc hB1.size _
  clear hval
  go_wp2_with fail
  refine (Wire.Int_any w.heap.size w1.heap.size 48 (by decide) hB1.size [] l0.length (by omega) (by omega) (by simp) _ hB2.size hW0).mono ?_
  rintro e w2 ⟨rfl, hW2, hB3, hK3⟩
  have hB4 : Below w.heap.size w w2 := hB2.trans hB3
  rw [List.nil_append] at hW2
  clear hW0 hK3 hB3 hB2
  go_wp2
  go_loopw [23] (fun i wr => ∃ k : Nat, k ≤ l0.length ∧ i = .int .i64 k ∧ Wire.IsW w.heap.size w1.heap.size 48 wr (Wire.ivar l0.length ++ (l0.take k).flatMap encClaim) ∧ Below w.heap.size w wr) (fun i _ => l0.length - (intOf i).toNat)
  case atStart => exact ⟨0, Nat.zero_le _, rfl, by simpa using hW2, hB4⟩
  case round =>
    obtain ⟨k, hk, rfl, hWr, hBr⟩ := hrel
    have hl1 := ivar_len (l0.length : Int)
    have hl2 := encAll_len (l0.take k)
    have hl3 : (l0.take k).length ≤ 64 := by rw [List.length_take]; omega
    by_cases hlt : k < l0.length
    · obtain ⟨ad, rfl, hx0, hx1, hx2, hx3, hx4⟩ := at_nat (Kd.C_below hr0 hBr) k hlt hlt
      have hst := Lib.hid (encAll_step l0 k hlt)
      have hvc : vldC l0[k] = true := List.all_eq_true.1 hv _ (List.getElem_mem hlt)
      obtain ⟨c, hc⟩ : ∃ c, l0[k] = c := ⟨_, rfl⟩
      rw [hc] at hx0 hx1 hx2 hx3 hx4 hvc hst
      have hrg := ints_range hvc
      clear hc hvc
      rename World => wo
      go_wp2
      go_loopw [9, 38] (fun v i wr => ∃ j : Nat, j ≤ 5 ∧ i = .int .i64 j ∧ Wire.IsW w.heap.size w1.heap.size 48 wr (Wire.ivar l0.length ++ (l0.take k).flatMap encClaim ++ encInts ((claimInts c).take j)) ∧ Below w.heap.size w wr) (fun _ i _ => 5 - (intOf i).toNat)
      case atStart => exact ⟨0, by omega, rfl, by simpa [encInts] using hWr.alloc _, hBr.alloc hBr.size _⟩
      case round =>
        obtain ⟨j, hj, rfl, hWj, hBj⟩ := hrel
        by_cases hj5 : j < 5
        · have hix := fun W => arr_index W c.f0 c.f1 c.f2 c.f3 c.f4 j hj5
          have hstep := Lib.hid (encInts_step (claimInts c) j hj5)
          have hl4 := encInts_len ((claimInts c).take j)
          have hl5 : ((claimInts c).take j).length ≤ 5 := by rw [List.length_take]; omega
          have hbd := hrg ((claimInts c).getD j 0) (by rw [List.getD_eq_getElem?_getD, List.getElem?_eq_getElem (show j < (claimInts c).length from hj5)]; exact List.getElem_mem _)
          obtain ⟨x, hx⟩ : ∃ x, [c.f0, c.f1, c.f2, c.f3, c.f4].getD j 0 = x := ⟨_, rfl⟩
          rw [show (claimInts c).getD j 0 = x from hx] at hbd hstep
          rw [hx] at hix
          clear hx
          go_wp2_with fail
          refine (Wire.Int_any w.heap.size w1.heap.size 48 (by decide) hB1.size _ x (by omega) (by omega) (by simp only [List.length_append]; omega) _ hBj.size hWj).mono ?_
          rintro e w3 ⟨rfl, hW3, hB3, hK3⟩
          rw [List.append_assoc, ← hstep.out] at hW3
          go_wp2
          go_roundw
          case rel => exact ⟨j + 1, by omega, by go_num, hW3, hBj.trans hB3⟩
          case measure => simp [intOf]; omega
        · obtain rfl : j = 5 := by omega
          go_wp2
          go_roundw
          case rel => exact ⟨k + 1, by omega, by go_num, by rw [hst.out, ← List.append_assoc]; exact hWj, hBj⟩
          case measure => simp [intOf]; omega
    · obtain rfl : k = l0.length := by omega
      rw [List.take_length] at hWr hl2
      go_wp2_with fail
      refine (Wire.Done_any w.heap.size w1.heap.size 48 _ wr (by simp only [List.length_append]; omega) hWr).mono ?_
      rintro e w3 ⟨v, rfl, ho, hB3⟩
      go_wp2
      go_ret2
      exact ⟨_, rfl, own_weaken ho hBr.size, hBr.trans (hB3.mono hBr.size)⟩
theorem Encode_bad (A0 : Option Addr) (c0 : Nat) (l0 : List Cl) (w : World) (hr0 : Kd.C k24 w A0 l0.length l0) (hc0 : l0.length ≤ c0) (hv : l0.all vldC = false) :
    Calls Try.prog 6 #[.slice A0 l0.length c0] w fun e w' => e = .returned (.tuple #[.slice none 0 0, .int .i64 1]) ∧ Below w.heap.size w w' := by
  have hval := claim_valid.calls (l0.length + 1) A0 c0 l0 1 w hr0 hc0 (by rw [valid_eq l0 (C_le hr0), hv]; rfl)
  go_enter Try.func6, Try.ntmps6
  go_wp2_with fail
  refine hval.mono ?_
  rintro e w1 ⟨rfl, hB1⟩
  go_wp2
  go_ret2
  exact ⟨rfl, hB1⟩
theorem Encode_many (A0 : Option Addr) (c0 : Nat) (l0 : List Cl) (w : World) (hr0 : Kd.C k24 w A0 l0.length l0) (hc0 : l0.length ≤ c0) (hv : l0.all vldC = true) (hlen : 64 < l0.length) :
    Calls Try.prog 6 #[.slice A0 l0.length c0] w fun e w' => e = .returned (.tuple #[.slice none 0 0, .int .i64 4]) ∧ Below w.heap.size w w' := by
  have hval := claim_valid.calls (l0.length + 1) A0 c0 l0 0 w hr0 hc0 (by rw [valid_eq l0 (C_le hr0), hv]; rfl)
  have hle := C_le hr0
  go_enter Try.func6, Try.ntmps6
  go_wp2_with fail
  refine hval.mono ?_
  rintro e w1 ⟨rfl, hB1⟩
  go_wp2
  go_ret2
  exact ⟨rfl, hB1⟩
theorem claim_Encode.calls (A0 : Option Addr) (c0 : Nat) (l0 : List Cl) (r1 : List Int) (r2 : Int) (w : World) (hr0 : Kd.C k24 w A0 l0.length l0) (hc0 : l0.length ≤ c0) (h : claim_Encode.f l0 = some (r1, r2)) :
    Calls Try.prog 6 #[.slice A0 l0.length c0] w fun e w' => ∃ v0_ : Value, e = .returned (.tuple #[v0_, .int .i64 r2]) ∧ Kd.R (Kd.int .u8) 5 w' w.heap.size (fun _ => True) v0_ r1 ∧ Below w.heap.size w w' := by
  unfold claim_Encode.f at h
  injection h with h
  cases hv : l0.all vldC
  · rw [hv, if_neg (by decide)] at h
    cases h
    refine (Encode_bad A0 c0 l0 w hr0 hc0 hv).mono ?_
    rintro e w' ⟨rfl, hB⟩
    exact ⟨_, rfl, Kd.R_nil _ _ _ _ _, hB⟩
  · rw [hv, if_pos rfl] at h
    by_cases hlen : 64 < l0.length
    · rw [if_pos hlen] at h
      cases h
      refine (Encode_many A0 c0 l0 w hr0 hc0 hv hlen).mono ?_
      rintro e w' ⟨rfl, hB⟩
      exact ⟨_, rfl, Kd.R_nil _ _ _ _ _, hB⟩
    · rw [if_neg hlen] at h
      cases h
      refine (Encode_ok A0 c0 l0 w hr0 hc0 hv (by omega)).mono ?_
      rintro e w' ⟨v, rfl, ho, hB⟩
      exact ⟨_, rfl, Kd.R_of_own ho (fun _ _ => trivial), hB⟩
end Go.Proofs.Ytpggedoopjcflaa.PClaimHash
