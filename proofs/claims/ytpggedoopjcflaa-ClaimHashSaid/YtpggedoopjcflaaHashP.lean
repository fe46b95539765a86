/- Plain laws of the 64-bit hash: words of bytes, mixing, when two hashes are equal. No program in sight. -/
import Derived.Laws.BitsLemmas
import Derived.Laws.BitsAllLaws
import Derived.RowKit
namespace Go.Proofs.Ytpggedoopjcflaa.Hash
open Go.RowKit

/-- A byte's range, for a list. -/
def okB (l : List Int) : Bool := l.all fun x => decide (0 ≤ x) && decide (x ≤ 255)
theorem okB_iff {l : List Int} : okB l = true ↔ ∀ x ∈ l, 0 ≤ x ∧ x ≤ 255 := by simp [okB]
/-- The number that bytes say, the first one the least. -/
def horner : List Int → Int
  | [] => 0
  | b :: r => b + 256 * horner r
/-- Word i of some bytes. -/
def wordAt (l : List Int) (i : Nat) : Int := horner ((l.drop (8 * i)).take 8)
def nWords (n : Nat) : Nat := (n + 7) / 8
def wordsI (l : List Int) : List Int := (List.range (nWords l.length)).map (wordAt l)
def mixI (s w : Int) : Int := bits .xor .u64 (IntKind.u64.wrap (bits .xor .u64 s w * 11400714819323198485)) (IntKind.u64.wrap (bits .xor .u64 s w * 11400714819323198485) / 4294967296)
def sumI (label : List Int) (l : List Int) : Int :=
  mixI (l.foldl mixI (mixI (mixI ((wordsI label).foldl mixI 0) label.length) l.length)) 0
def hashI (label b : List Int) : Int := sumI label (wordsI b ++ [(b.length : Int)])

theorem pow256 (n : Nat) : (0 : Int) < 256 ^ n := Int.pow_pos (by decide)
theorem horner_bd : ∀ l : List Int, (∀ x ∈ l, 0 ≤ x ∧ x ≤ 255) → 0 ≤ horner l ∧ horner l < 256 ^ l.length
  | [], _ => by simp [horner]
  | b :: r, h => by
    have h1 := horner_bd r (fun x hx => h x (List.mem_cons_of_mem _ hx))
    have h2 := h b (List.mem_cons_self ..)
    simp only [horner, List.length_cons, Int.pow_succ]
    omega
theorem horner_snoc (b : Int) : ∀ l : List Int, horner (l ++ [b]) = horner l + b * 256 ^ l.length
  | [] => by simp [horner]
  | a :: r => by
    simp only [List.cons_append, horner, horner_snoc b r, List.length_cons, Int.pow_succ, Int.mul_add, Int.add_assoc]
    rw [Int.mul_comm (256 ^ r.length) 256, ← Int.mul_assoc, ← Int.mul_assoc, Int.mul_comm 256 b]
theorem wrap_u64_in {n : Int} (h0 : 0 ≤ n) (h : n < 18446744073709551616) : IntKind.u64.wrap n = n := by
  simp [IntKind.wrap, IntKind.bits, IntKind.signed]; omega
theorem pow_two8 (j : Nat) : (2 : Int) ^ (8 * j) = 256 ^ j := by
  rw [Int.pow_mul]; rfl
theorem pow256_le {j : Nat} (hj : j < 8) : (256 : Int) ^ j * 256 ≤ 18446744073709551616 := by
  have : ∀ j, j < 8 → (256 : Int) ^ j * 256 ≤ 18446744073709551616 := by decide
  exact this j hj
/-- One byte more in a word. -/
theorem or_step {w b : Int} {j : Nat} (hj : j < 8) (hw : 0 ≤ w) (hw2 : w < 256 ^ j) (hb : 0 ≤ b) (hb2 : b ≤ 255) :
    bits .or .u64 w (IntKind.u64.wrap (b * 2 ^ min (8 * j) 64)) = w + b * 256 ^ j := by
  have hm : min (8 * j) 64 = 8 * j := by omega
  have hp := pow256_le hj
  have hp0 := pow256 j
  have hlt : b * 256 ^ j < 18446744073709551616 := by
    have : b * 256 ^ j ≤ 255 * 256 ^ j := Int.mul_le_mul_of_nonneg_right hb2 (Int.le_of_lt hp0)
    omega
  have hnn : 0 ≤ b * 256 ^ j := Int.mul_nonneg hb (Int.le_of_lt hp0)
  rw [hm, pow_two8, wrap_u64_in hnn hlt]
  have hc : ∀ x y : Int, 0 ≤ x → x < 18446744073709551616 → 0 ≤ y → y < 18446744073709551616 → bits .or .u64 x y = bits .or .u64 y x := fun x y h1 h2 h3 h4 => by
    rw [u64_or x y h1 h2 h3 h4, u64_or y x h3 h4 h1 h2, Nat.or_comm]
  rw [hc w _ hw (by omega) hnn hlt]
  rw [bits_join .u64 64 (by decide) (fun n h1 h2 => wrap_u64_in h1 (by simpa using h2)) (8 * j) (b * 256 ^ j) w hnn (by rw [pow_two8]; simp) (by simpa using hlt) hw (by rw [pow_two8]; exact hw2) (by simp; omega)]
  omega
theorem okB_drop {l : List Int} (h : ∀ x ∈ l, 0 ≤ x ∧ x ≤ 255) (i n : Nat) : ∀ x ∈ (l.drop i).take n, 0 ≤ x ∧ x ≤ 255 := fun x hx => h x (List.mem_of_mem_drop (List.mem_of_mem_take hx))
theorem take_step (l : List Int) (i j : Nat) (h : i + j < l.length) : (l.drop i).take (j + 1) = (l.drop i).take j ++ [l.getD (i + j) 0] := by
  rw [List.take_add_one]
  simp [List.getElem?_drop, List.getElem?_eq_getElem h, List.getD_eq_getElem?_getD]
/-- The word so far, one byte on. -/
theorem word_step (l : List Int) (hb : ∀ x ∈ l, 0 ≤ x ∧ x ≤ 255) (i j : Nat) (hj : j < 8) (h : i + j < l.length) :
    bits .or .u64 (horner ((l.drop i).take j)) (IntKind.u64.wrap (l.getD (i + j) 0 * 2 ^ min (8 * j) 64)) = horner ((l.drop i).take (j + 1)) := by
  have h1 := horner_bd _ (okB_drop hb i j)
  have hl : ((l.drop i).take j).length = j := by rw [List.length_take, List.length_drop]; omega
  rw [hl] at h1
  have h2 : 0 ≤ l.getD (i + j) 0 ∧ l.getD (i + j) 0 ≤ 255 := by
    rw [List.getD_eq_getElem?_getD, List.getElem?_eq_getElem h]; exact hb _ (List.getElem_mem h)
  rw [or_step hj h1.1 h1.2 h2.1 h2.2, take_step l i j h, horner_snoc, hl]
theorem wordsI_length (l : List Int) : (wordsI l).length = nWords l.length := by simp [wordsI]
theorem horner_lt {l : List Int} (hb : ∀ x ∈ l, 0 ≤ x ∧ x ≤ 255) (i : Nat) : 0 ≤ horner ((l.drop i).take 8) ∧ horner ((l.drop i).take 8) < 18446744073709551616 := by
  have h1 := horner_bd _ (okB_drop hb i 8)
  have hl : ((l.drop i).take 8).length ≤ 8 := by rw [List.length_take]; omega
  have : (256 : Int) ^ ((l.drop i).take 8).length ≤ 18446744073709551616 := by
    have hd : ∀ n, n ≤ 8 → (256 : Int) ^ n ≤ 18446744073709551616 := by decide
    exact hd _ hl
  omega
theorem wordAt_bd {l : List Int} (hb : ∀ x ∈ l, 0 ≤ x ∧ x ≤ 255) (i : Nat) : 0 ≤ wordAt l i ∧ wordAt l i < 18446744073709551616 := horner_lt hb (8 * i)
theorem wordsI_bd {l : List Int} (hb : ∀ x ∈ l, 0 ≤ x ∧ x ≤ 255) : ∀ x ∈ wordsI l, 0 ≤ x ∧ x < 18446744073709551616 := fun x hx => by
  obtain ⟨i, _, rfl⟩ := List.mem_map.1 hx
  exact wordAt_bd hb i

/-! ### When two hashes are equal -/
theorem bits_u64_bd (op : BinOp) (x y : Int) : 0 ≤ bits op .u64 x y ∧ bits op .u64 x y < 18446744073709551616 := by
  unfold bits
  dsimp only
  rw [IntKind.wrap_u64]
  omega
theorem mixI_bd (s w : Int) : 0 ≤ mixI s w ∧ mixI s w < 18446744073709551616 := bits_u64_bd _ _ _
theorem xor_cancel {s a b : Int} (hs : 0 ≤ s ∧ s < 18446744073709551616) (ha : 0 ≤ a ∧ a < 18446744073709551616) (hb : 0 ≤ b ∧ b < 18446744073709551616) (h : bits .xor .u64 s a = bits .xor .u64 s b) : a = b := by
  rw [u64_xor s a hs.1 hs.2 ha.1 ha.2, u64_xor s b hs.1 hs.2 hb.1 hb.2] at h
  have h2 : s.toNat ^^^ a.toNat = s.toNat ^^^ b.toNat := Int.ofNat.inj h
  have h3 := congrArg (fun z => s.toNat ^^^ z) h2
  simp only [← Nat.xor_assoc, Nat.xor_self, Nat.zero_xor] at h3
  omega
theorem xor_comm64 {s a : Int} (hs : 0 ≤ s ∧ s < 18446744073709551616) (ha : 0 ≤ a ∧ a < 18446744073709551616) : bits .xor .u64 s a = bits .xor .u64 a s := by
  rw [u64_xor s a hs.1 hs.2 ha.1 ha.2, u64_xor a s ha.1 ha.2 hs.1 hs.2, Nat.xor_comm]
/-- x to x xor (x shifted by half its bits) loses nothing. -/
theorem fold_cancel {x y : Int} (hx : 0 ≤ x ∧ x < 18446744073709551616) (hy : 0 ≤ y ∧ y < 18446744073709551616) (h : bits .xor .u64 x (x / 4294967296) = bits .xor .u64 y (y / 4294967296)) : x = y := by
  rw [u64_xor x _ hx.1 hx.2 (by omega) (by omega), u64_xor y _ hy.1 hy.2 (by omega) (by omega)] at h
  have h2 : x.toNat ^^^ (x / 4294967296).toNat = y.toNat ^^^ (y / 4294967296).toNat := Int.ofNat.inj h
  have e1 : (x / 4294967296).toNat = x.toNat / 2 ^ 32 := by omega
  have e2 : (y / 4294967296).toNat = y.toNat / 2 ^ 32 := by omega
  rw [e1, e2] at h2
  have hxl : x.toNat < 2 ^ 64 := by omega
  have hyl : y.toNat < 2 ^ 64 := by omega
  have hhi : ∀ i, 32 ≤ i → x.toNat.testBit i = y.toNat.testBit i := fun i hi => by
    have h3 := congrArg (fun z => z.testBit i) h2
    simp only [Nat.testBit_xor, Nat.testBit_div_two_pow] at h3
    have z1 : x.toNat.testBit (32 + i) = false := Nat.testBit_lt_two_pow (Nat.lt_of_lt_of_le hxl (Nat.pow_le_pow_right (by decide) (by omega)))
    have z2 : y.toNat.testBit (32 + i) = false := Nat.testBit_lt_two_pow (Nat.lt_of_lt_of_le hyl (Nat.pow_le_pow_right (by decide) (by omega)))
    have c1 : i + 32 = 32 + i := Nat.add_comm _ _
    simpa [c1, z1, z2] using h3
  have : x.toNat = y.toNat := by
    apply Nat.eq_of_testBit_eq
    intro i
    rcases Nat.lt_or_ge i 32 with hi | hi
    · have h3 := congrArg (fun z => z.testBit i) h2
      simp only [Nat.testBit_xor, Nat.testBit_div_two_pow] at h3
      have h4 := hhi (i + 32) (by omega)
      rw [h4] at h3
      cases hx1 : x.toNat.testBit i <;> cases hy1 : y.toNat.testBit i <;> cases hz : y.toNat.testBit (i + 32) <;> simp_all
    · exact hhi i hi
  omega
theorem mul_back (z : Int) (h0 : 0 ≤ z) (h1 : z < 18446744073709551616) : (z * 11400714819323198485 % 18446744073709551616) * 17428512612931826493 % 18446744073709551616 = z := by
  rw [Int.mul_emod, Int.emod_emod, ← Int.mul_emod, Int.mul_assoc]
  have e : (11400714819323198485 * 17428512612931826493 : Int) = 1 + 18446744073709551616 * 10771413168148108919 := by decide
  rw [e, Int.mul_add, Int.mul_one, ← Int.mul_assoc, Int.mul_comm z 18446744073709551616, Int.mul_assoc, Int.add_mul_emod_self_left]
  exact Int.emod_eq_of_lt h0 h1
theorem mul_cancel {x y : Int} (hx : 0 ≤ x ∧ x < 18446744073709551616) (hy : 0 ≤ y ∧ y < 18446744073709551616) (h : IntKind.u64.wrap (x * 11400714819323198485) = IntKind.u64.wrap (y * 11400714819323198485)) : x = y := by
  rw [IntKind.wrap_u64, IntKind.wrap_u64] at h
  rw [← mul_back x hx.1 hx.2, ← mul_back y hy.1 hy.2, h]
theorem wbd (n : Int) : 0 ≤ IntKind.u64.wrap n ∧ IntKind.u64.wrap n < 18446744073709551616 := by rw [IntKind.wrap_u64]; omega
theorem mixI_right {s a b : Int} (hs : 0 ≤ s ∧ s < 18446744073709551616) (ha : 0 ≤ a ∧ a < 18446744073709551616) (hb : 0 ≤ b ∧ b < 18446744073709551616) (h : mixI s a = mixI s b) : a = b := by
  unfold mixI at h
  exact xor_cancel hs ha hb (mul_cancel (bits_u64_bd _ _ _) (bits_u64_bd _ _ _) (fold_cancel (wbd _) (wbd _) h))
theorem mixI_left {s t a : Int} (hs : 0 ≤ s ∧ s < 18446744073709551616) (ht : 0 ≤ t ∧ t < 18446744073709551616) (ha : 0 ≤ a ∧ a < 18446744073709551616) (h : mixI s a = mixI t a) : s = t := by
  unfold mixI at h
  have h1 := mul_cancel (bits_u64_bd _ _ _) (bits_u64_bd _ _ _) (fold_cancel (wbd _) (wbd _) h)
  rw [xor_comm64 hs ha, xor_comm64 ht ha] at h1
  exact xor_cancel ha hs ht h1
theorem foldl_bd : ∀ (l : List Int) (s : Int), 0 ≤ s ∧ s < 18446744073709551616 → 0 ≤ l.foldl mixI s ∧ l.foldl mixI s < 18446744073709551616
  | [], _, h => h
  | _ :: r, _, _ => foldl_bd r _ (mixI_bd _ _)
theorem foldl_left : ∀ (l : List Int), (∀ x ∈ l, 0 ≤ x ∧ x < 18446744073709551616) → ∀ (s t : Int), 0 ≤ s ∧ s < 18446744073709551616 → 0 ≤ t ∧ t < 18446744073709551616 → l.foldl mixI s = l.foldl mixI t → s = t
  | [], _, _, _, _, _, h => h
  | x :: r, hl, s, t, hs, ht, h => mixI_left hs ht (hl x (List.mem_cons_self ..)) (foldl_left r (fun y hy => hl y (List.mem_cons_of_mem _ hy)) _ _ (mixI_bd _ _) (mixI_bd _ _) h)
end Go.Proofs.Ytpggedoopjcflaa.Hash
