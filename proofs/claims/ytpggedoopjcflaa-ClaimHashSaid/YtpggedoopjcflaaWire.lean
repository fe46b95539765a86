/- The walks of package wire's Writer: what it has written. -/
import Derived.RangeFuncBox
import Derived.WalkKit
import Derived.OwnWalk
import Derived.Maps.AppendAt
import Derived.Lib.Hide
import Derived.Lib.SliceRun
import Derived.Outline
import Derived.Laws.BitsAllLaws
import Derived.Test.YtpggedoopjcflaaProg
import Derived.Test.YtpggedoopjcflaaWWords
namespace Go.Proofs.Ytpggedoopjcflaa.Wire
open Go.RowKit Go.Proofs.YtpggedoopjcflaaW.PrintWords
set_option maxRecDepth 100000

/-! ### Plain: varints -/
def uvarF : Nat → Int → List Int
  | 0, x => [x]
  | k + 1, x => if 128 ≤ x then (128 + x % 128) :: uvarF k (x / 128) else [x]
/-- The bytes of an unsigned number. -/
def uvar (x : Int) : List Int := uvarF 10 x
def zz (n : Int) : Int := if n < 0 then -2 * n - 1 else 2 * n
/-- The bytes of a signed number. -/
def ivar (n : Int) : List Int := uvar (zz n)
theorem uvarF_small (k : Nat) {x : Int} (h : x < 128) : uvarF k x = [x] := by
  cases k with
  | zero => rfl
  | succ k => rw [uvarF, if_neg (by omega)]
theorem uvarF_more : ∀ (k : Nat) (x : Int), 0 ≤ x → x < 128 ^ (k + 1) → uvarF (k + 1) x = uvarF k x
  | 0, x, h0, h => by have h2 : x < 128 := by simpa using h
                      rw [uvarF_small _ h2, uvarF_small _ h2]
  | k + 1, x, h0, h => by
    by_cases hx : 128 ≤ x
    · rw [uvarF, if_pos hx]
      conv => rhs; rw [uvarF, if_pos hx]
      rw [uvarF_more k (x / 128) (by omega) (by rw [Int.pow_succ] at h; omega)]
    · rw [uvarF_small _ (by omega), uvarF_small _ (by omega)]
theorem uvar_big {x : Int} (h0 : 128 ≤ x) (h : x < 18446744073709551616) : uvar x = (128 + x % 128) :: uvar (x / 128) := by
  unfold uvar
  rw [uvarF, if_pos h0, ← uvarF_more 9 (x / 128) (by omega) (by simp; omega)]
theorem uvar_small {x : Int} (h : x < 128) : uvar x = [x] := uvarF_small _ h
theorem uvarF_len : ∀ (k : Nat) (x : Int), (uvarF k x).length ≤ k + 1
  | 0, _ => by simp [uvarF]
  | k + 1, x => by
    rw [uvarF]
    split
    · have := uvarF_len k (x / 128); simp; omega
    · simp
theorem uvar_len (x : Int) : (uvar x).length ≤ 11 := uvarF_len 10 x
theorem or128 {x : Int} : bits .or .u8 (x % 256) 128 = 128 + x % 128 := by
  have h0 : 0 ≤ x % 256 := by omega
  have h1 : x % 256 < 256 := by omega
  rw [u8_or _ _ h0 h1 (by omega) (by omega)]
  have hd : ∀ a : Nat, a < 256 → ((a ||| 128 : Nat) : Int) = 128 + (a : Int) % 128 := by decide
  have := hd (x % 256).toNat (by omega)
  rw [show (128 : Int).toNat = 128 from rfl, this]
  omega
theorem uvarF_range : ∀ (k : Nat) (x : Int), 0 ≤ x → x < 128 ^ (k + 1) → ∀ b ∈ uvarF k x, 0 ≤ b ∧ b ≤ 255
  | 0, x, h0, h, b, hb => by simp [uvarF] at hb; subst hb; simp at h; omega
  | k + 1, x, h0, h, b, hb => by
    rw [uvarF] at hb
    split at hb
    · rcases List.mem_cons.1 hb with rfl | hb
      · omega
      · exact uvarF_range k (x / 128) (by omega) (by rw [Int.pow_succ] at h; omega) b hb
    · simp at hb; subst hb; omega
theorem uvar_range {x : Int} (h0 : 0 ≤ x) (h : x < 18446744073709551616) : ∀ b ∈ uvar x, 0 ≤ b ∧ b ≤ 255 := uvarF_range 10 x h0 (by simp; omega)

/-! ### The writer in memory -/
/-- Block g (of type t) holds a row of the call's own, with these bytes. -/
def IsW (n₀ g t : Nat) (W : World) (l : List Int) : Prop := ∃ v, Boxed W g t v ∧ W.ownsRow n₀ 5 1 v l.length (nums .u8 l)
/-- All but block g, and blocks of bytes, lie as they lay. -/
structure KeepW (g : Nat) (W W' : World) : Prop where
  size : W.heap.size ≤ W'.heap.size
  same : ∀ k o, W.heap[k]? = some o → k ≠ g → (∀ c f, o ≠ .cells c 5 f) → W'.heap[k]? = some o
theorem KeepW.refl (g : Nat) (W : World) : KeepW g W W := ⟨Nat.le_refl _, fun _ _ h _ _ => h⟩
theorem KeepW.trans {g : Nat} {X Y Z : World} (h : KeepW g X Y) (k : KeepW g Y Z) : KeepW g X Z := ⟨Nat.le_trans h.size k.size, fun i o hi hg ht => k.same i o (h.same i o hi hg ht) hg ht⟩
theorem KeepW.boxed {g B t : Nat} {W W' : World} {v : Value} (h : KeepW g W W') (hb : Boxed W B t v) (hB : B ≠ g) (ht : t ≠ 5) : Boxed W' B t v :=
  h.same _ _ hb hB (fun c f e => by cases e; exact ht rfl)
theorem KeepW.alloc {g : Nat} {W W' : World} (h : KeepW g W W') (o : Obj) : KeepW g W (W'.alloc o) :=
  h.trans ⟨by simp, fun k o' hk _ _ => (Below.heap_alloc W' o k (Array.getElem?_eq_some_iff.1 hk).1).trans hk⟩
theorem IsW.grown {n₀ g t : Nat} {W W' : World} {l : List Int} {row : Option Nat} (h : IsW n₀ g t W l) (hg : W.grownBy W' row) (h1 : some g ≠ row) (h2 : ∀ v, Boxed W g t v → v.ownBlock = none ∨ v.ownBlock ≠ row) : IsW n₀ g t W' l := by
  obtain ⟨v, hb, hr⟩ := h
  exact ⟨v, hb.kept hg h1, hr.kept hg (h2 v hb)⟩
theorem IsW.alloc {n₀ g t : Nat} {W : World} {l : List Int} (h : IsW n₀ g t W l) (o : Obj) : IsW n₀ g t (W.alloc o) l := by
  obtain ⟨v, hb, hr⟩ := h
  exact ⟨v, hb.alloc o, hr.alloc o⟩
theorem IsW.start (n₀ : Nat) (W : World) (t : Nat) : IsW n₀ W.heap.size t (W.alloc (.cells #[.slice none 0 0] t)) [] := ⟨_, Boxed.new W t _, World.ownsRow_nil _ _ _ _⟩
theorem IsW.setCell {n₀ g t B : Nat} {W : World} {l : List Int} {tb : TypeId} {u u' : Value} (h : IsW n₀ g t W l) (hb : Boxed W B tb u) (hB : B ≠ g) (ht : tb ≠ 5) : IsW n₀ g t (W.setCell ⟨B, 0, none⟩ u') l := by
  obtain ⟨v, hg, hr⟩ := h
  exact ⟨v, hg.kept (grownBy_setCell' W B u') (by simpa using Ne.symm hB), hr.kept (grownBy_setCell' W B u') (.inr (hb.not_row ht hr).symm)⟩
/-- Behind an append to the writer's row and the store into its block. -/
theorem IsW.put {n₀ g t : Nat} {W w1 : World} {l ys : List Int} {v v' : Value} {tmp : Obj} (ht : t ≠ 5) (hv : Boxed W g t v) (hrow : W.ownsRow n₀ 5 1 v l.length (nums .u8 l)) (hn : n₀ ≤ W.heap.size) (hg : n₀ ≤ g)
    (hown : w1.ownsRow n₀ 5 1 v' (l ++ ys).length (nums .u8 (l ++ ys))) (hgrow : (W.alloc tmp).grownBy w1 v.ownBlock) :
    Boxed w1 g t v ∧ IsW n₀ g t (w1.setCell ⟨g, 0, none⟩ v') (l ++ ys) ∧ Below n₀ W (w1.setCell ⟨g, 0, none⟩ v') ∧ KeepW g W (w1.setCell ⟨g, 0, none⟩ v') := by
  obtain ⟨h1, h2, h3, _, h5⟩ := hv.appended ht hrow hn hg hown hgrow
  refine ⟨h1, ⟨v', h2, h3⟩, h5, ⟨h5.size, fun k o hk hne hty => ?_⟩⟩
  have hlt : k < W.heap.size := (Array.getElem?_eq_some_iff.1 hk).1
  have e1 : (W.alloc tmp).heap[k]? = some o := (Below.heap_alloc W tmp k hlt).trans hk
  have e2 : w1.heap[k]? = some o := by
    refine (hgrow.block k (by simp; omega) (fun e => ?_)).trans e1
    rcases hrow.2 with ⟨rfl, _⟩ | ⟨g', cap, cur, rfl, _, hgb, _⟩
    · simp [Value.ownBlock] at e
    · obtain rfl : k = g' := by simpa [Value.ownBlock] using e
      rw [hgb] at hk
      cases hk
      exact hty _ _ rfl
  exact (Below.heap_setCell w1 ⟨g, 0, none⟩ v' k hne).trans e2

theorem info_byte : (Try.prog.info? 5).map (fun i => (i.zero, i.size, i.bytes)) = some (some (.int .u8 0), 1, 1) := by kernel_rfl

set_option maxHeartbeats 2000000 in
theorem Uint_any (n₀ g t : Nat) (ht : t ≠ 5) (hg : n₀ ≤ g) (l : List Int) (x : Int) (hx0 : 0 ≤ x) (hx : x < 18446744073709551616) (hl : l.length ≤ 140737488351232) (W : World) (hn : n₀ ≤ W.heap.size) (hI : IsW n₀ g t W l) :
    Calls Try.prog 28 #[.pointer (some ⟨g, 0, none⟩), .int .u64 x] W fun e W' => e = .returned (.tuple #[]) ∧ IsW n₀ g t W' (l ++ uvar x) ∧ Below n₀ W W' ∧ KeepW g W W' := by
  obtain ⟨i0, hi, hz0, hz1, hz2⟩ := info_parts info_byte
  go_enter Try.func28, Try.ntmps28
  go_wp2
  go_loopw [1] (fun v wr => ∃ l' y, v = .int .u64 y ∧ 0 ≤ y ∧ y < 18446744073709551616 ∧ l ++ uvar x = l' ++ uvar y ∧ l'.length + (uvar y).length ≤ l.length + 11 ∧ IsW n₀ g t wr l' ∧ Below n₀ W wr ∧ KeepW g W wr) (fun v _ => (intOf v).toNat)
  case atStart => exact ⟨l, x, rfl, hx0, hx, rfl, by have := uvar_len x; omega, hI, Below.refl _ _, KeepW.refl _ _⟩
  case round =>
    obtain ⟨l', y, rfl, hy0, hy, hly, hlen, ⟨v, hv, hrow⟩, hB, hK⟩ := hrel
    have hc := hv.cell
    have Hly := Lib.hid hly
    clear hly
    have hlen' : l'.length ≤ 140737488351243 := by omega
    by_cases hbig : 128 ≤ y
    · have Hu := Lib.hid (uvar_big hbig hy)
      have Ho := Lib.hid (@or128 y)
      go_wp2_with (at_builtin; refine wpList_append_own _ rfl _ _ 29 rfl n₀ 5 i0 (.int .u8 0) 1 1 Try.underlying29 hi hz0 hz1 hz2 rfl (by decide) _ _ _ rfl (hrow.alloc _) ⟨wr.heap.size, 0, none⟩ 1 1 [.int .u8 (bits .or .u8 (y % 256) 128)] rfl rfl (cell_one_new _ _ _) (by simp [Value.oneCell']) (by unfold maxLen; omega) (by omega) (by have := hB.size; simp; omega) ?_; intro v' w1 hown' hgrow _; obtain ⟨g', cap', rfl⟩ := ownsRow_succ hown'; obtain ⟨hv1, hw2, hb2, hk2⟩ := IsW.put (ys := [128 + y % 128]) ht hv hrow (Nat.le_trans hn hB.size) hg (by simpa [nums, Ho.out] using hown') hgrow; have hc1 := hv1.cell; have hf1 := hv1.frozen)
      go_roundw
      case rel => exact ⟨l' ++ [128 + y % 128], y / 128, rfl, by omega, by omega, by rw [Hly.out, Hu.out]; simp, by have := congrArg List.length Hu.out; simp at this; simp; omega, hw2, hB.trans hb2, hK.trans hk2⟩
      case measure => simp [intOf]; omega
    · have Hu := Lib.hid (uvar_small (x := y) (by omega))
      go_wp2_with (at_builtin; refine wpList_append_own _ rfl _ _ 29 rfl n₀ 5 i0 (.int .u8 0) 1 1 Try.underlying29 hi hz0 hz1 hz2 rfl (by decide) _ _ _ rfl (hrow.alloc _) ⟨wr.heap.size, 0, none⟩ 1 1 [.int .u8 y] rfl rfl (cell_one_new _ _ _) (by simp [Value.oneCell']) (by unfold maxLen; omega) (by omega) (by have := hB.size; simp; omega) ?_; intro v' w1 hown' hgrow _; obtain ⟨g', cap', rfl⟩ := ownsRow_succ hown'; obtain ⟨hv1, hw2, hb2, hk2⟩ := IsW.put (ys := [y]) ht hv hrow (Nat.le_trans hn hB.size) hg (by simpa [nums] using hown') hgrow; have hc1 := hv1.cell; have hf1 := hv1.frozen)
      go_end0
      exact ⟨rfl, by rw [Hly.out, Hu.out]; exact hw2, hB.trans hb2, hK.trans hk2⟩

theorem zz_range {n : Int} (h0 : -9223372036854775808 ≤ n) (h1 : n ≤ 9223372036854775807) : 0 ≤ zz n ∧ zz n < 18446744073709551616 := by
  unfold zz
  split <;> omega
theorem xor_ones {a : Int} (h0 : 0 ≤ a) (h1 : a < 18446744073709551616) : bits .xor .u64 a 18446744073709551615 = 18446744073709551615 - a := by
  rw [u64_xor _ _ h0 h1 (by omega) (by omega)]
  have e : a.toNat ^^^ (18446744073709551615 : Int).toNat = 2 ^ 64 - 1 - a.toNat := by
    rw [show (18446744073709551615 : Int).toNat = 2 ^ 64 - 1 from rfl]
    apply Nat.eq_of_testBit_eq
    intro i
    rw [Nat.testBit_xor, Nat.testBit_two_pow_sub_one, show 2 ^ 64 - 1 - a.toNat = 2 ^ 64 - (a.toNat + 1) by omega, Nat.testBit_two_pow_sub_succ (by omega)]
    by_cases hi : i < 64
    · simp [hi]
    · have : a.toNat.testBit i = false := Nat.testBit_lt_two_pow (Nat.lt_of_lt_of_le (show a.toNat < 2 ^ 64 by omega) (Nat.pow_le_pow_right (by decide) (by omega)))
      simp [hi, this]
  rw [e]
  omega
theorem xor_zero {a : Int} (h0 : 0 ≤ a) (h1 : a < 18446744073709551616) : bits .xor .u64 a 0 = a := by
  rw [u64_xor _ _ h0 h1 (by omega) (by omega)]
  simp
  omega
theorem zigzag_eq {n : Int} (h0 : -9223372036854775808 ≤ n) (h1 : n ≤ 9223372036854775807) :
    bits .xor .u64 (IntKind.u64.wrap (IntKind.u64.wrap n * 2)) (IntKind.u64.wrap (n / 9223372036854775808)) = zz n := by
  simp only [IntKind.wrap_u64]
  unfold zz
  split
  · rw [show n / 9223372036854775808 % 18446744073709551616 = 18446744073709551615 by omega, xor_ones (by omega) (by omega)]
    omega
  · rw [show n / 9223372036854775808 % 18446744073709551616 = 0 by omega, xor_zero (by omega) (by omega)]
    omega
theorem zigzag_any (n : Int) (h0 : -9223372036854775808 ≤ n) (h1 : n ≤ 9223372036854775807) (w : World) : Calls Try.prog 29 #[.int .i64 n] w fun e w' => e = .returned (.int .u64 (zz n)) ∧ w = w' := by
  have H := Lib.hid (zigzag_eq h0 h1)
  clear h0 h1
  go_enter Try.func29, Try.ntmps29
  go_wp2
  go_ret
  exact ⟨by rw [← H.out]; rfl, rfl⟩

theorem Int_any (n₀ g t : Nat) (ht : t ≠ 5) (hg : n₀ ≤ g) (l : List Int) (n : Int) (h0 : -9223372036854775808 ≤ n) (h1 : n ≤ 9223372036854775807) (hl : l.length ≤ 140737488351232) (W : World) (hn : n₀ ≤ W.heap.size) (hI : IsW n₀ g t W l) :
    Calls Try.prog 15 #[.pointer (some ⟨g, 0, none⟩), .int .i64 n] W fun e W' => e = .returned (.tuple #[]) ∧ IsW n₀ g t W' (l ++ ivar n) ∧ Below n₀ W W' ∧ KeepW g W W' := by
  have hz := zz_range h0 h1
  go_enter Try.func15, Try.ntmps15
  go_wp2_with fail
  refine (zigzag_any n h0 h1 _).mono ?_
  rintro e w' ⟨rfl, rfl⟩
  go_wp2_with fail
  refine (Uint_any n₀ g t ht hg l _ hz.1 hz.2 hl W hn hI).mono ?_
  rintro e w' ⟨rfl, hI', hb, hk⟩
  go_wp2
  go_end0
  exact ⟨rfl, hI', hb, hk⟩

set_option maxHeartbeats 1000000 in
theorem Clone_any (A : Option Addr) (n c : Nat) (xs : List Int) (w : World) (hR : ReadsInt w .u8 A n xs) (hn : n ≤ 140737488355328) :
    Calls Try.prog 30 #[.slice A n c] w fun e w' => ∃ v, e = .returned v ∧ w'.ownsRow w.heap.size 5 1 v xs.length (nums .u8 xs) ∧ Below w.heap.size w w' := by
  cases A with
  | none =>
    have h0 : n = 0 := by
      rcases Nat.eq_zero_or_pos n with h | h
      · exact h
      · obtain ⟨_, e, _⟩ := hR.2.2 h
        cases e
    subst h0
    obtain rfl : xs = [] := List.eq_nil_of_length_eq_zero hR.1
    have he := fun W => Lib.run_eql_slice_nil (P := Try.prog) W 29 5 none 0 c 0 0 Try.underlying29
    go_enter Try.func30, Try.ntmps30
    go_wp2
    go_ret
    exact ⟨_, rfl, own_nil _ _ _ _, Below.refl _ _⟩
  | some ad =>
    have hb := own_lit w w.heap.size 5 .u8 [] (Nat.le_refl _) (by simp)
    have hB := (Below.refl w.heap.size w).alloc (Nat.le_refl _) (.cells #[] 5)
    have hR' := hR.below hB
    have he := fun W => Lib.run_eql_slice_nil (P := Try.prog) W 29 5 (some ad) n c 0 0 Try.underlying29
    go_enter Try.func30, Try.ntmps30
    go_wp2_with (at_builtin; refine print_append_row (w0 := w) w.heap.size rfl _ _ 29 5 .u8 1 rfl Try.underlying29 info_byte (by decide) _ [] xs (some ad) n c rfl rfl hb hR' hB (by simp) (by simp; omega) ?_; intro v1 w1 hown hB1 _ _)
    go_ret
    exact ⟨_, rfl, by simpa using hown, hB1⟩

theorem Done_any (n₀ g t : Nat) (l : List Int) (W : World) (hl : l.length ≤ 140737488355328) (hI : IsW n₀ g t W l) :
    Calls Try.prog 16 #[.pointer (some ⟨g, 0, none⟩)] W fun e W' => ∃ v, e = .returned v ∧ W'.ownsRow W.heap.size 5 1 v l.length (nums .u8 l) ∧ Below W.heap.size W W' := by
  obtain ⟨v, hb, hr⟩ := hI
  obtain ⟨A, c, rfl, hR⟩ := own_reads hr
  have hc := hb.cell
  go_enter Try.func16, Try.ntmps16
  go_wp2_with fail
  refine (Clone_any A l.length c l W hR hl).mono ?_
  rintro e w' ⟨v, rfl, ho, hB⟩
  go_wp2
  go_ret
  exact ⟨_, rfl, ho, hB⟩
end Go.Proofs.Ytpggedoopjcflaa.Wire
