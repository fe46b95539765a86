/- When claims are valid: what claim.valid answers. -/
import Derived.Test.YtpggedoopjcflaaPClaimHashx0
import Derived.Test.YtpggedoopjcflaaPClaimHashx2
namespace Go.Proofs.Ytpggedoopjcflaa.PClaimHash
open Go.RowKit Go.Proofs.YtpggedoopjcflaaW.PrintWords
abbrev Cl := S24
def inB (n lo hi : Int) : Bool := decide (lo ≤ n) && decide (n ≤ hi)
/-- Is a claim valid? -/
def vldC (c : Cl) : Bool := inB c.f0 0 2 && inB c.f1 0 63 && inB c.f2 0 73048 && inB c.f3 0 73048 && decide (c.f2 ≤ c.f3) && inB c.f4 0 1048576
theorem vldC_iff {c : Cl} : vldC c = true ↔ (0 ≤ c.f0 ∧ c.f0 ≤ 2) ∧ (0 ≤ c.f1 ∧ c.f1 ≤ 63) ∧ (0 ≤ c.f2 ∧ c.f2 ≤ 73048) ∧ (0 ≤ c.f3 ∧ c.f3 ≤ 73048) ∧ c.f2 ≤ c.f3 ∧ (0 ≤ c.f4 ∧ c.f4 ≤ 1048576) := by
  simp [vldC, inB, Bool.and_eq_true, and_assoc]
theorem in_eq (n lo hi : Int) : claim_in.f n lo hi = some (inB n lo hi) := by
  unfold claim_in.f inB
  by_cases h : n ≥ lo
  · rw [if_pos h]; simp [show lo ≤ n from h]
  · rw [if_neg h]; simp [show ¬ lo ≤ n from h]
theorem valid1_eq (c : Cl) : claim_Valid.f c.f0 c.f1 c.f2 c.f3 c.f4 = some (if vldC c = true then 0 else 1) := by
  unfold claim_Valid.f claim_isOffice.f claim_isDay.f vldC
  simp only [in_eq, Option.bind_some]
  cases inB c.f0 0 2 <;> cases inB c.f1 0 63 <;> cases inB c.f2 0 73048 <;> cases inB c.f3 0 73048 <;> cases inB c.f4 0 1048576 <;> simp
  all_goals (by_cases h : c.f3 < c.f2 <;> simp [h] <;> omega)
theorem valid_from (l : List Cl) (hl : l.length ≤ 9223372036854775807) : ∀ (d i k : Nat), i + d = l.length → d < k → claim_valid.l0 k l (l.length : Int) (i : Int) = some (if (l.drop i).all vldC = true then 0 else 1) := by
  intro d
  induction d with
  | zero =>
    intro i k h hk
    obtain ⟨k, rfl⟩ : ∃ m, k = m + 1 := ⟨k - 1, by omega⟩
    simp only [claim_valid.l0]
    rw [if_neg (by omega), List.drop_eq_nil_of_le (by omega)]
    rfl
  | succ d ih =>
    intro i k h hk
    obtain ⟨k, rfl⟩ : ∃ m, k = m + 1 := ⟨k - 1, by omega⟩
    have hlt : i < l.length := by omega
    have hrd : rd_T24 l (i : Int) = l[i] := by simp [rd_T24, List.getD_eq_getElem?_getD, List.getElem?_eq_getElem hlt]
    simp only [claim_valid.l0]
    rw [if_pos (by omega), if_pos (by omega), if_pos (by omega), valid1_eq, hrd, List.drop_eq_getElem_cons hlt, List.all_cons]
    simp only [Option.bind_some]
    by_cases hv : vldC l[i] = true
    · rw [if_pos hv, if_pos rfl, show wrap64 ((i : Int) + 1) = ((i + 1 : Nat) : Int) by unfold wrap64; omega, ih (i + 1) k (by omega) (by omega), hv, Bool.true_and]
    · rw [if_neg hv, if_neg (by decide), Bool.eq_false_iff.2 hv, Bool.false_and]
      rfl
theorem valid_eq (l : List Cl) (hl : l.length ≤ 9223372036854775807) : claim_valid.f (l.length + 1) l = some (if l.all vldC = true then 0 else 1) := by
  have := valid_from l hl l.length 0 (l.length + 1) (by omega) (by omega)
  simpa [claim_valid.f] using this
theorem C_le {α : Type} {d : Kd α} {w : World} {A : Option Addr} {n : Nat} {xs : List α} (h : d.C w A n xs) : n ≤ 9223372036854775807 := h.2.1
/-- The cells of element k. -/
theorem at_nat {w : World} {A : Option Addr} {n : Nat} {xs : List Cl} (h : Kd.C k24 w A n xs) (k : Nat) (hk : k < n) (hx : k < xs.length) : ∃ ad, A = some ad ∧ w.cell? (ad.add (k * 5)) = some (.int .i64 xs[k].f0) ∧ w.cell? ⟨(ad.add (k * 5)).block, (ad.add (k * 5)).off + 1, none⟩ = some (.int .i64 xs[k].f1) ∧ w.cell? ⟨(ad.add (k * 5)).block, (ad.add (k * 5)).off + 2, none⟩ = some (.int .i64 xs[k].f2) ∧ w.cell? ⟨(ad.add (k * 5)).block, (ad.add (k * 5)).off + 3, none⟩ = some (.int .i64 xs[k].f3) ∧ w.cell? ⟨(ad.add (k * 5)).block, (ad.add (k * 5)).off + 4, none⟩ = some (.int .i64 xs[k].f4) := by
  have hrd : rd_T24 xs (k : Int) = xs[k] := by simp [rd_T24, List.getD_eq_getElem?_getD, List.getElem?_eq_getElem hx]
  have := at_T24 h (k : Int) (by omega) (by omega)
  rwa [hrd, Int.toNat_natCast] at this
end Go.Proofs.Ytpggedoopjcflaa.PClaimHash
