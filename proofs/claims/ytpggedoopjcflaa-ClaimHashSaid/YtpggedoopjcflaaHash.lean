/- The walks of package hash: what its functions return. -/
import Derived.RangeFuncNested
import Derived.RangeFuncBound
import Derived.RangeFuncCalls
import Derived.RangeFuncLeaves
import Derived.RangeFuncBox
import Derived.Shelf.Abstract
import Derived.Shelf.RegionOpen
import Derived.WalkKit
import Derived.OwnWalkIn
import Derived.TacticsInMore
import Derived.LoopNIn
import Derived.LoopIn
import Derived.Maps.AppendAt
import Derived.Outline
import Derived.Lib.Hide
import Derived.Test.YtpggedoopjcflaaProg
import Derived.Test.YtpggedoopjcflaaHashP
import Derived.Test.YtpggedoopjcflaaWWords
namespace Go.Proofs.Ytpggedoopjcflaa.Hash
open Go.RowKit Go.Shelf Go.Proofs.YtpggedoopjcflaaW.PrintWords
attribute [local go_sem] Oper.semAt_some
set_option maxRecDepth 100000

/-- What lay below n₀, and block B, lie as they lay. -/
def KB (n₀ B : Nat) (W W' : World) : Prop := Below n₀ W W' ∧ (B < W.heap.size → W'.heap[B]? = W.heap[B]?)
theorem KB.refl (n₀ B : Nat) (W : World) : KB n₀ B W W := ⟨Below.refl _ _, fun _ => rfl⟩
theorem KB.trans {n₀ B : Nat} {X Y Z : World} (h : KB n₀ B X Y) (k : KB n₀ B Y Z) : KB n₀ B X Z := ⟨h.1.trans k.1, fun hl => (k.2 (Nat.lt_of_lt_of_le hl h.1.size)).trans (h.2 hl)⟩
theorem kb_t {n₀ B : Nat} {X Y Z : World} (h : KB n₀ B X Y) (k : KB n₀ B Y Z) : KB n₀ B X Z := h.trans k
theorem kb_b {n₀ B : Nat} {w : World} (hn : n₀ ≤ w.heap.size) (hB : B < w.heap.size) (W : World) (l : Nat) (o o' : Obj) (hl : w.heap.size ≤ l) (h : W.heap[l]? = some o) (h1 : o.isCells = false) (h2 : o.isWalk = false) : KB n₀ B W (W.putObj l o') :=
  ⟨belowK_b hn W l o o' hl h h1 h2, fun _ => World.putObj_heap_other (by omega)⟩
theorem KB.cell {n₀ B : Nat} {W W' : World} {v : Value} (h : KB n₀ B W W') (hc : W.cell? ⟨B, 0, none⟩ = some v) : W'.cell? ⟨B, 0, none⟩ = some v := by
  have hl := World.block_lt_of_cell? W _ hc
  have := h.2 hl
  simpa [World.cell?, this] using hc
theorem KB.setCell {n₀ B : Nat} {W : World} {p : Addr} (hp : n₀ ≤ p.block) (hB : p.block ≠ B) (v : Value) : KB n₀ B W (W.setCell p v) :=
  ⟨(Below.refl n₀ W).setCell hp _, fun _ => Below.heap_setCell W p v B (Ne.symm hB)⟩
theorem KB.grown {n₀ B : Nat} {W W' : World} {row : Option Nat} (hg : W.grownBy W' row) (hn : n₀ ≤ W.heap.size) (hr : ∀ k, row = some k → n₀ ≤ k ∧ k ≠ B) : KB n₀ B W W' :=
  ⟨(Below.refl n₀ W).grown hg hn (fun k e => (hr k e).1), fun hl => hg.block B hl (fun e => (hr B e.symm).2 rfl)⟩
/-- What has come when k rounds are over. -/
def upto (l : List Int) (k : Nat) : List Int := (List.range k).map (wordAt l)
theorem upto_succ (l : List Int) (k : Nat) : upto l (k + 1) = upto l k ++ [wordAt l k] := by simp [upto, List.range_succ]
theorem upto_length (l : List Int) (k : Nat) : (upto l k).length = k := by simp [upto]
theorem upto_prefix (l : List Int) {k : Nat} (hk : k ≤ nWords l.length) : upto l k <+: wordsI l := by
  refine ⟨(List.range' k (nWords l.length - k)).map (wordAt l), ?_⟩
  unfold upto wordsI
  rw [← List.map_append]
  congr 1
  rw [List.range_eq_range', List.range_eq_range']
  have := @List.range'_append_1 0 k (nWords l.length - k)
  rw [Nat.zero_add] at this
  rw [this]
  congr 1
  omega

theorem byte_getD (s : ByteArray) (i : Nat) (h : i < s.size) : (bytesOf s).getD i 0 = ((s[i]'h).toNat : Int) := by
  have h' : i < s.data.toList.length := by rw [data_length]; exact h
  simp [bytesOf, List.getD_eq_getElem?_getD, List.getElem?_eq_getElem h']
  rfl
set_option maxHeartbeats 2000000 in
/-- The closure of words[[]byte]. -/
theorem wordsB1_in (F : Fence) (n : Nat) (h7 : F.fn 31) (hro : F.round = none) (hn : 1 ≤ n) (l Bs n₀ : Nat) (A : Option Addr) (c : Nat) (zs : List Int) (hzs : ∀ x ∈ zs, 0 ≤ x ∧ x ≤ 255) (hreach : zs.length ≤ 140737488351232) (J Jx : List Int → World → Prop)
    (hY : ∀ pre x W, J pre W → pre.length < nWords zs.length → YieldAt F (n - 1) Try.prog l #[.int .u64 x] W fun e W' =>
      (e = .returned (.bool true) ∧ J (pre ++ [x]) W' ∧ KB n₀ Bs W W') ∨ (e = .returned (.bool false) ∧ Jx (pre ++ [x]) W'))
    (W : World) (hBs : W.cell? ⟨Bs, 0, none⟩ = some (.slice A zs.length c)) (hc : 0 < zs.length → ∃ ad, A = some ad ∧ ad.block < n₀ ∧ ∀ j, j < zs.length → W.cell? (ad.add j) = some (.int .u8 (zs.getD j 0))) (h0 : J [] W) :
    CallsIn F n Try.prog 31 #[.func (.yield l) #[] #[], .pointer (some ⟨Bs, 0, none⟩)] W fun e W' => (∃ v, e = .returned v) ∧
      ((∃ ys, ys = wordsI zs ∧ J ys W') ∨ (∃ pre, (pre <+: wordsI zs) ∧ Jx pre W')) := by
  refine callsIn_of_wp Try.func31 rfl h7 ?_ hro
  simp only [Try.ntmps31, List.size_toArray, List.length_cons, List.length_nil, Nat.reduceAdd, Nat.reduceSub, Array.replicate_succ, Array.replicate_zero, List.push_toArray, List.append_toArray, List.nil_append, List.cons_append]
  gi_wp2
  gi_loopw [3] (fun i wr => ∃ k : Nat, k ≤ nWords zs.length ∧ i = .int .i64 (8 * (k : Int)) ∧ J (upto zs k) wr ∧ KB n₀ Bs W wr)
    (fun i _ => 8 * nWords zs.length - (intOf i).toNat)
  case atStart => exact ⟨0, Nat.zero_le _, rfl, h0, KB.refl _ _ _⟩
  case round =>
    obtain ⟨k, hk, rfl, hJs, hnx⟩ := hrel
    have hbx : wr.cell? ⟨Bs, 0, none⟩ = some (.slice A zs.length c) := hnx.cell hBs
    by_cases hlt : 8 * k < zs.length
    · obtain ⟨ad, rfl, hadb, hcell⟩ := hc (by omega)
      rename World => wo
      gi_wp2
      gi_loopw [4, 5] (fun x i w2 => ∃ j : Nat, j ≤ 8 ∧ 8 * k + j ≤ zs.length ∧ i = .int .i64 (8 * (k : Int) + (j : Int)) ∧ x = .int .u64 (horner ((zs.drop (8 * k)).take j)) ∧ wo = w2)
        (fun _ i _ => zs.length - (intOf i).toNat)
      case atStart => exact ⟨0, by omega, by omega, by simp, by simp [horner], rfl⟩
      case round =>
        obtain ⟨j, hj, hjl, rfl, rfl, rfl⟩ := hrel
        have hadb' := hadb
        by_cases hlt2 : j < 8 ∧ 8 * k + j < zs.length
        · obtain ⟨hj8, hjl2⟩ := hlt2
          obtain ⟨b, hb⟩ : ∃ b, zs.getD (8 * k + j) 0 = b := ⟨_, rfl⟩
          have hbd : 0 ≤ b ∧ b ≤ 255 := by
            rw [← hb, List.getD_eq_getElem?_getD, List.getElem?_eq_getElem hjl2]; exact hzs _ (List.getElem_mem hjl2)
          have hst := word_step zs hzs (8 * k) j hj8 hjl2
          have hcx : wo.cell? (ad.add (8 * k + j)) = some (.int .u8 b) := by
            rw [← hb]; exact (hnx.1.cell (p := ad.add (8 * k + j)) (by rw [add_block]; exact hadb)).trans (hcell _ hjl2)
          rw [hb, show min (8 * j) 64 = 8 * j by omega] at hst
          have Hst := Lib.hid hst
          obtain ⟨hb0, hb1⟩ := hbd
          clear hst hb
          by_cases hmin : (zs.length : Int) < 8 * (k : Int) + 8
          all_goals
            gi_wp2
            go_roundw
            case rel => exact ⟨j + 1, by omega, by omega, by go_num, by rw [Hst.out], trivial⟩
            case measure => simp [intOf]; omega
        · have hw : horner ((zs.drop (8 * k)).take j) = wordAt zs k := by
            unfold wordAt
            rcases Nat.lt_or_ge j 8 with h | h
            · rw [List.take_of_length_le (by rw [List.length_drop]; omega), List.take_of_length_le (by rw [List.length_drop]; omega)]
            · rw [show j = 8 by omega]
          have Hw := Lib.hid hw
          clear hw
          obtain ⟨fn, tmps, assign, body, hy, hR⟩ := hY (upto zs k) (horner ((zs.drop (8 * k)).take j)) wo hJs (by rw [upto_length]; unfold nWords; omega)
          have hj' : (zs.length : Int) ≤ 8 * (k : Int) + (j : Int) ∨ 8 ≤ (j : Int) := by omega
          by_cases hmin : (zs.length : Int) < 8 * (k : Int) + 8
          all_goals
            gi_wp2
            refine hR.mono ?_
            rintro e W3 (⟨rfl, hJ3, hk3⟩ | ⟨rfl, hJx3⟩)
            · gi_wp2
              go_roundw
              case rel => exact ⟨k + 1, by unfold nWords; omega, by go_num, by rw [upto_succ, ← Hw.out]; exact hJ3, hnx.trans hk3⟩
              case measure => simp [intOf]; unfold nWords; omega
            · gi_wp2
              refine bodyPost_ret (results_none rfl _ _ _) rfl ?_
              refine ⟨⟨_, rfl⟩, .inr ⟨_, upto_prefix zs (k := k + 1) (by unfold nWords; omega), ?_⟩⟩
              rw [upto_succ, ← Hw.out]
              exact hJx3
    · gi_wp2
      go_end0
      exact ⟨⟨_, rfl⟩, .inl ⟨_, by rw [show k = nWords zs.length by unfold nWords at *; omega]; rfl, hJs⟩⟩

set_option maxHeartbeats 2000000 in
/-- The closure of words[string]. -/
theorem wordsS1_in (F : Fence) (n : Nat) (h7 : F.fn 54) (hro : F.round = none) (hn : 1 ≤ n) (l Bs n₀ : Nat) (s : ByteArray) (zs : List Int) (hs : zs = bytesOf s) (hzs : ∀ x ∈ zs, 0 ≤ x ∧ x ≤ 255) (hreach : s.size ≤ 140737488351232) (J Jx : List Int → World → Prop)
    (hY : ∀ pre x W, J pre W → pre.length < nWords s.size → YieldAt F (n - 1) Try.prog l #[.int .u64 x] W fun e W' =>
      (e = .returned (.bool true) ∧ J (pre ++ [x]) W' ∧ KB n₀ Bs W W') ∨ (e = .returned (.bool false) ∧ Jx (pre ++ [x]) W'))
    (W : World) (hBs : W.cell? ⟨Bs, 0, none⟩ = some (.string s)) (h0 : J [] W) :
    CallsIn F n Try.prog 54 #[.func (.yield l) #[] #[], .pointer (some ⟨Bs, 0, none⟩)] W fun e W' => (∃ v, e = .returned v) ∧
      ((∃ ys, ys = wordsI zs ∧ J ys W') ∨ (∃ pre, (pre <+: wordsI zs) ∧ Jx pre W')) := by
  have Hlen : Hid (zs.length = s.size) := Lib.hid (by rw [hs]; exact bytesOf_length s)
  have Hs := Lib.hid hs
  clear hs
  refine callsIn_of_wp Try.func54 rfl h7 ?_ hro
  simp only [Try.ntmps54, List.size_toArray, List.length_cons, List.length_nil, Nat.reduceAdd, Nat.reduceSub, Array.replicate_succ, Array.replicate_zero, List.push_toArray, List.append_toArray, List.nil_append, List.cons_append]
  gi_wp2
  gi_loopw [3] (fun i wr => ∃ k : Nat, k ≤ nWords s.size ∧ i = .int .i64 (8 * (k : Int)) ∧ J (upto zs k) wr ∧ KB n₀ Bs W wr)
    (fun i _ => 8 * nWords s.size - (intOf i).toNat)
  case atStart => exact ⟨0, Nat.zero_le _, rfl, h0, KB.refl _ _ _⟩
  case round =>
    obtain ⟨k, hk, rfl, hJs, hnx⟩ := hrel
    have hbx : wr.cell? ⟨Bs, 0, none⟩ = some (.string s) := hnx.cell hBs
    by_cases hlt : 8 * k < s.size
    · rename World => wo
      have hd0 : decide (8 * (k : Int) < (s.size : Int)) = true := decide_eq_true (by omega)
      gi_wp2
      gi_loopw [4, 5] (fun x i w2 => ∃ j : Nat, j ≤ 8 ∧ 8 * k + j ≤ s.size ∧ i = .int .i64 (8 * (k : Int) + (j : Int)) ∧ x = .int .u64 (horner ((zs.drop (8 * k)).take j)) ∧ wo = w2)
        (fun _ i _ => s.size - (intOf i).toNat)
      case atStart => exact ⟨0, by omega, by omega, by simp, by simp [horner], rfl⟩
      case round =>
        obtain ⟨j, hj, hjl, rfl, rfl, rfl⟩ := hrel
        by_cases hlt2 : j < 8 ∧ 8 * k + j < s.size
        · obtain ⟨hj8, hjl2⟩ := hlt2
          obtain ⟨b, hb⟩ : ∃ b, zs.getD (8 * k + j) 0 = b := ⟨_, rfl⟩
          have hlen := Hlen.out
          have hbd : 0 ≤ b ∧ b ≤ 255 := by
            rw [← hb, List.getD_eq_getElem?_getD, List.getElem?_eq_getElem (by omega)]; exact hzs _ (List.getElem_mem _)
          have hst := word_step zs hzs (8 * k) j hj8 (by omega)
          have hcx : ((s[8 * k + j]'hjl2).toNat : Int) = b := by
            rw [← hb, Hs.out]; exact (byte_getD s _ hjl2).symm
          rw [hb, show min (8 * j) 64 = 8 * j by omega] at hst
          have Hst := Lib.hid hst
          obtain ⟨hb0, hb1⟩ := hbd
          clear hst hb hlen
          by_cases hmin : (s.size : Int) < 8 * (k : Int) + 8
          all_goals
            gi_wp2
            go_roundw
            case rel => exact ⟨j + 1, by omega, by omega, by go_num, by rw [Hst.out], trivial⟩
            case measure => simp [intOf]; omega
        · have hw : horner ((zs.drop (8 * k)).take j) = wordAt zs k := by
            have hlen := Hlen.out
            unfold wordAt
            rcases Nat.lt_or_ge j 8 with h | h
            · rw [List.take_of_length_le (by rw [List.length_drop]; omega), List.take_of_length_le (by rw [List.length_drop]; omega)]
            · rw [show j = 8 by omega]
          have Hw := Lib.hid hw
          clear hw
          obtain ⟨fn, tmps, assign, body, hy, hR⟩ := hY (upto zs k) (horner ((zs.drop (8 * k)).take j)) wo hJs (by rw [upto_length]; unfold nWords; omega)
          have hj' : (s.size : Int) ≤ 8 * (k : Int) + (j : Int) ∨ 8 ≤ (j : Int) := by omega
          by_cases hmin : (s.size : Int) < 8 * (k : Int) + 8
          all_goals
            gi_wp2
            refine hR.mono ?_
            rintro e W3 (⟨rfl, hJ3, hk3⟩ | ⟨rfl, hJx3⟩)
            · gi_wp2
              go_roundw
              case rel => exact ⟨k + 1, by unfold nWords; omega, by go_num, by rw [upto_succ, ← Hw.out]; exact hJ3, hnx.trans hk3⟩
              case measure => simp [intOf]; unfold nWords; omega
            · gi_wp2
              refine bodyPost_ret (results_none rfl _ _ _) rfl ?_
              refine ⟨⟨_, rfl⟩, .inr ⟨_, upto_prefix zs (k := k + 1) (by rw [Hlen.out]; unfold nWords; omega), ?_⟩⟩
              rw [upto_succ, ← Hw.out]
              exact hJx3
    · gi_wp2
      go_end0
      exact ⟨⟨_, rfl⟩, .inl ⟨_, by rw [show k = nWords s.size by unfold nWords at *; omega, ← Hlen.out]; rfl, hJs⟩⟩

set_option maxHeartbeats 1000000 in
theorem wordsB_in (F : Fence) (n : Nat) (h5 : F.fn 17) (hro : F.round = none) (a : Option Addr) (len cap : Nat) (w : World) :
    CallsIn F n Try.prog 17 #[.slice a len cap] w fun e w' => e = .returned (.func (.func 31) #[] #[.pointer (some ⟨w.heap.size, 0, none⟩)]) ∧ w' = w.alloc (.cells #[.slice a len cap] 29) := by
  refine callsIn_of_wp Try.func17 rfl h5 ?_ hro
  simp only [Try.ntmps17, List.size_toArray, List.length_cons, List.length_nil, Nat.reduceAdd, Nat.reduceSub, Array.replicate_succ, Array.replicate_zero, List.push_toArray, List.append_toArray, List.nil_append, List.cons_append]
  gi_wp2
  go_ret
  exact ⟨rfl, rfl⟩

theorem wordsB_stops (F : Fence) (n : Nat) (h7 : F.fn 31) (hro : F.round = none) (hn : 1 ≤ n) (Bs n₀ : Nat) (A : Option Addr) (c : Nat) (zs : List Int) (hzs : ∀ x ∈ zs, 0 ≤ x ∧ x ≤ 255) (hreach : zs.length ≤ 140737488351232) (w : World) (hB0 : Bs < w.heap.size) (hn₀ : n₀ ≤ w.heap.size)
    (hc : w.cell? ⟨Bs, 0, none⟩ = some (.slice A zs.length c)) (hI : ReadsInt w .u8 A zs.length zs) (hA : ∀ ad, A = some ad → 0 < zs.length → ad.block < n₀) :
    SeqStopsK F n Try.prog 31 #[.pointer (some ⟨Bs, 0, none⟩)] (fun x : Int => #[Value.int .u64 x]) (KB n₀ Bs) (fun ys => ys = wordsI zs) (fun pre => pre <+: wordsI zs) (nWords zs.length) w := fun l J Jx W hW _ _ hY h0 => by
  refine wordsB1_in F n h7 hro hn l Bs n₀ A c zs hzs hreach J Jx hY W ((hW.cell (p := ⟨Bs, 0, none⟩) hB0).trans hc) (fun hp => ?_) h0
  obtain ⟨ad, rfl, hcc⟩ := hI.2.2 hp
  have hb : ad.block < n₀ := hA ad rfl hp
  have hb2 : ad.block < w.heap.size := Nat.lt_of_lt_of_le hb hn₀
  exact ⟨ad, rfl, hb, fun j hj => (hW.cell (p := ad.add j) (by rw [add_block]; exact hb2)).trans (hcc j hj)⟩

set_option maxHeartbeats 1000000 in
theorem wordsS_in (F : Fence) (n : Nat) (h5 : F.fn 32) (hro : F.round = none) (s : ByteArray) (w : World) :
    CallsIn F n Try.prog 32 #[.string s] w fun e w' => e = .returned (.func (.func 54) #[] #[.pointer (some ⟨w.heap.size, 0, none⟩)]) ∧ w' = w.alloc (.cells #[.string s] 9) := by
  refine callsIn_of_wp Try.func32 rfl h5 ?_ hro
  simp only [Try.ntmps32, List.size_toArray, List.length_cons, List.length_nil, Nat.reduceAdd, Nat.reduceSub, Array.replicate_succ, Array.replicate_zero, List.push_toArray, List.append_toArray, List.nil_append, List.cons_append]
  gi_wp2
  go_ret
  exact ⟨rfl, rfl⟩

theorem bytesOf_range (s : ByteArray) : ∀ x ∈ bytesOf s, 0 ≤ x ∧ x ≤ 255 := fun x hx => by
  obtain ⟨b, _, rfl⟩ := List.mem_map.1 hx
  have := b.toNat_lt
  omega
theorem wordsS_stops (F : Fence) (n : Nat) (h7 : F.fn 54) (hro : F.round = none) (hn : 1 ≤ n) (Bs n₀ : Nat) (s : ByteArray) (hreach : s.size ≤ 140737488351232) (w : World) (hB0 : Bs < w.heap.size) (hn₀ : n₀ ≤ w.heap.size)
    (hc : w.cell? ⟨Bs, 0, none⟩ = some (.string s)) :
    SeqStopsK F n Try.prog 54 #[.pointer (some ⟨Bs, 0, none⟩)] (fun x : Int => #[Value.int .u64 x]) (KB n₀ Bs) (fun ys => ys = wordsI (bytesOf s)) (fun pre => pre <+: wordsI (bytesOf s)) (nWords s.size) w := fun l J Jx W hW _ _ hY h0 =>
  wordsS1_in F n h7 hro hn l Bs n₀ s (bytesOf s) rfl (bytesOf_range s) hreach J Jx hY W ((hW.cell (p := ⟨Bs, 0, none⟩) hB0).trans hc) h0

theorem mix_any (s x : Int) (w : World) : Calls Try.prog 33 #[.int .u64 s, .int .u64 x] w fun e w' => e = .returned (.int .u64 (mixI s x)) ∧ w = w' := by
  go_enter Try.func33, Try.ntmps33
  go_wp2
  go_ret
  exact ⟨rfl, rfl⟩
theorem mix_in (F : Fence) (n : Nat) (h5 : F.fn 33) (hro : F.round = none) (s x : Int) (w : World) : CallsIn F n Try.prog 33 #[.int .u64 s, .int .u64 x] w fun e w' => e = .returned (.int .u64 (mixI s x)) ∧ w = w' := by
  refine callsIn_of_wp Try.func33 rfl h5 ?_ hro
  simp only [Try.ntmps33, List.size_toArray, List.length_cons, List.length_nil, Nat.reduceAdd, Nat.reduceSub, Array.replicate_succ, Array.replicate_zero, List.push_toArray, List.append_toArray, List.nil_append, List.cons_append]
  gi_wp2
  go_ret
  exact ⟨rfl, rfl⟩

end Go.Proofs.Ytpggedoopjcflaa.Hash
