/- The walks of hash.Sum and hash.Bytes. -/
import Derived.RangeFuncNested
import Derived.RangeFuncBound
import Derived.RangeFuncCalls
import Derived.RangeFuncLeaves
import Derived.RangeFuncBox
import Derived.Shelf.Abstract
import Derived.Shelf.RegionOpen
import Derived.WalkKit
import Derived.OwnWalkIn
import Derived.TacticsInMore
import Derived.LoopNIn
import Derived.LoopIn
import Derived.Maps.AppendAt
import Derived.Outline
import Derived.Lib.Hide
import Derived.Test.YtpggedoopjcflaaProg
import Derived.Test.YtpggedoopjcflaaHash
import Derived.Test.YtpggedoopjcflaaWWords
namespace Go.Proofs.Ytpggedoopjcflaa.Hash
open Go.RowKit Go.Shelf Go.Proofs.YtpggedoopjcflaaW.PrintWords
attribute [local go_sem] Oper.semAt_some
set_option maxRecDepth 100000

theorem set_cell_same {W : World} {p : Addr} {v : Value} (h : W.cell? p = some v) (u : Value) : (W.setCell p u).cell? p = some u := World.cell?_setCell_same' _ _ _ (by rw [h]; rfl)
theorem take_map_step (zs : List Int) (k : Nat) (h : k < zs.length) : (zs.map IntKind.u64.wrap).take (k + 1) = (zs.map IntKind.u64.wrap).take k ++ [IntKind.u64.wrap (zs.getD k 0)] := by
  rw [List.take_add_one, List.getElem?_map, List.getElem?_eq_getElem h, List.getD_eq_getElem?_getD, List.getElem?_eq_getElem h]
  rfl
set_option maxHeartbeats 4000000 in
theorem Sum_in (F : Fence) (n : Nat) (hF : ∀ k, F.fn k) (hro : F.round = none) (hn : 4 ≤ n) (s : ByteArray) (A : Option Addr) (c : Nat) (zs : List Int) (hs : s.size ≤ 140737488351232) (w : World) (hI : ReadsInt w .i64 A zs.length zs) :
    CallsIn F n Try.prog 18 #[.string s, .slice A zs.length c] w fun e W' => e = .returned (.int .u64 (sumI (bytesOf s) (zs.map IntKind.u64.wrap))) ∧ Below w.heap.size w W' := by
  have h1 : 1 ≤ n := by omega
  have hzl := hI.2.1
  refine callsIn_of_wp_marks Try.func18 rfl (hF _) ?_ hro
  simp only [Try.ntmps18, List.size_toArray, List.length_cons, List.length_nil, Nat.reduceAdd, Nat.reduceSub, Array.replicate_succ, Array.replicate_zero, List.push_toArray, List.append_toArray, List.nil_append, List.cons_append]
  have hF32 := hF 32
  have hF33 := hF 33
  gi_wp2_with (gi_at_call 32; refine (wordsS_in F (n - 1) hF32 hro _ _).mono ?_; rintro e w' ⟨rfl, rfl⟩)
  have bS := Boxed.new w 32 (.int .u64 0)
  have bN := Boxed.new (w.alloc (.cells #[.int .u64 0] 32)) 9 (.string s)
  rw [World.size_alloc] at bN
  have hB0 : Below w.heap.size w ((w.alloc (.cells #[.int .u64 0] 32)).alloc (.cells #[.string s] 9)) := ((Below.refl _ w).alloc (Nat.le_refl _) _).alloc (by simp) _
  refine wpIn_rangeFunc_ownG hro h1 (gf := 54) (lb := #[.pointer (some ⟨w.heap.size + 1, 0, none⟩)]) rfl (hF _) (enters_of Try.func54 (by kernel_rfl) rfl)
    (wordsS_stops F (n - 1) (hF _) hro (by omega) (w.heap.size + 1) w.heap.size s hs _ (by simp) (by simp; omega) bN.cell) kb_t (kb_b (by simp; omega) (by simp)) (Below.refl _ _) (fun _ => rfl)
    (fun pre W => (W.cell? ⟨w.heap.size, 0, none⟩ = some (.int .u64 (pre.foldl mixI 0)) ∧ W.frozen? ⟨w.heap.size, 0, none⟩ = false) ∧ Below w.heap.size w W)
    (fun _ _ _ => False)
    (OwnFrom.and (Own.from (fun s A B row hs hg hr => ⟨cell_kept hs.1 hg hr, (frozen_kept hs.1 hg hr).trans hs.2⟩) _) (ownFrom_below (Nat.le_refl _) (by simp; omega)))
    (fun _ _ _ _ _ hs _ _ => hs)
    ⟨⟨(bS.alloc _).cell, (bS.alloc _).frozen⟩, hB0⟩
    (fun x => { tmps := #[Value.string s, Value.slice A zs.length c, undef, undef, Value.int IntKind.u64 0,
          Value.pointer (some { block := w.heap.size, off := 0 }), .int .u64 x, undef, undef, Value.string s,
          Value.func (Fn.func 54) #[] #[Value.pointer (some { block := w.heap.size + 1, off := 0 })], .int .u64 x, undef,
          undef, undef, undef, undef, undef, undef, undef, undef, undef, undef, undef, undef, undef, undef, undef,
          undef, undef, undef, undef, undef, undef, undef, undef, undef], defers := [] }) ?assign ?body ?done ?stop
  case assign =>
    intro l x W K hK
    gi_wp2
    exact hK
  case body =>
    rintro l pre x W ⟨⟨hc, hf⟩, hB⟩ _
    have hn' : 1 ≤ n - 1 - 1 := by omega
    gi_wp2_with (gi_at_call 33; refine (CallsIn.inRound l (mix_in F _ hF33 hro _ _ _)).mono ?_; rintro e w' ⟨rfl, rfl⟩)
    exact ⟨(KeepsOthers.setCell _ _ _).from _, KB.setCell (p := ⟨w.heap.size, 0, none⟩) (Nat.le_refl _) (by simp) _, ⟨by rw [List.foldl_append]; exact World.cell?_setCell_same' _ _ _ (by rw [hc]; rfl), by rw [World.frozen?_setCell]; exact hf⟩, hB.setCell (p := ⟨w.heap.size, 0, none⟩) (Nat.le_refl _) _⟩
  case done =>
    rintro D ys W hD rfl ⟨⟨hc, hf⟩, hB⟩ hK
    gi_wp2_with (gi_at_call 33; refine (mix_in F _ hF33 hro _ _ _).mono ?_; rintro e w' ⟨rfl, rfl⟩)
    have hcs := World.cell?_setCell_same' W ⟨w.heap.size, 0, none⟩ (.int .u64 (mixI (mixI (List.foldl mixI 0 (wordsI (bytesOf s))) s.size) zs.length)) (by rw [hc]; rfl)
    gi_loopw [8, 26] (fun v i wr => ∃ k : Nat, k ≤ zs.length ∧ i = .int .i64 k ∧ wr.cell? ⟨w.heap.size, 0, none⟩ = some (.int .u64 (((zs.map IntKind.u64.wrap).take k).foldl mixI (mixI (mixI (List.foldl mixI 0 (wordsI (bytesOf s))) s.size) zs.length))) ∧ wr.frozen? ⟨w.heap.size, 0, none⟩ = false ∧ Below w.heap.size w wr ∧ wr.heap[D]? = some (.deferred (some [])))
      (fun _ i _ => zs.length - (intOf i).toNat)
    case atStart => exact ⟨0, Nat.zero_le _, rfl, by simpa using hcs, by rw [World.frozen?_setCell]; exact hf, hB.setCell (p := ⟨w.heap.size, 0, none⟩) (Nat.le_refl _) _, (KeepsOthers.setCell W ⟨w.heap.size, 0, none⟩ _).same D _ hK rfl⟩
    case round =>
      obtain ⟨k, hk, rfl, hcr, hfr, hBr, hKr⟩ := hrel
      clear hc hf hB hK hcs
      by_cases hlt : k < zs.length
      · obtain ⟨ad, rfl, hcc⟩ := hI.2.2 (by omega)
        have hcx := pw_cell_below hBr (hcc k hlt)
        obtain ⟨z, hz⟩ : ∃ z, zs.getD k 0 = z := ⟨_, rfl⟩
        rw [hz] at hcx
        have hst : (zs.map IntKind.u64.wrap).take (k + 1) = (zs.map IntKind.u64.wrap).take k ++ [IntKind.u64.wrap z] := by
          rw [← hz]; exact take_map_step zs k hlt
        have Hst := Lib.hid hst
        clear hst hz hcc
        gi_wp2_with (gi_at_call 33; refine (mix_in F _ hF33 hro _ _ _).mono ?_; rintro e w' ⟨rfl, rfl⟩)
        go_roundw
        case rel => exact ⟨k + 1, by omega, by go_num, by rw [Hst.out, List.foldl_append, List.foldl_cons, List.foldl_nil]; exact set_cell_same hcr _, by rw [World.frozen?_setCell]; exact hfr, hBr.setCell (p := ⟨w.heap.size, 0, none⟩) (Nat.le_refl _) _, (KeepsOthers.setCell wr ⟨w.heap.size, 0, none⟩ _).same D _ hKr rfl⟩
        case measure => simp [intOf]; omega
      · obtain rfl : k = zs.length := by omega
        rw [show zs.length = (zs.map IntKind.u64.wrap).length by simp, List.take_length] at hcr
        gi_wp2_with (gi_at_call 33; refine (mix_in F _ hF33 hro _ _ _).mono ?_; rintro e w' ⟨rfl, rfl⟩)
        refine ⟨by simp, .inl ⟨_, _, rfl, run_takeDeferred hKr, ?_⟩⟩
        refine ⟨_, results_tmp rfl _ _ _, by simp [sumI, bytesOf_length], hBr.trans (belowK_b (w := w) (Nat.le_refl _) wr D _ _ (by simp at hD; omega) hKr rfl rfl)⟩
  case stop =>
    rintro D c pre W _ _ h _
    exact h.elim

/-- hash.Sum, for its caller. -/
theorem Sum_any (s : ByteArray) (A : Option Addr) (c : Nat) (zs : List Int) (hs : s.size ≤ 140737488351232) (w : World) (hI : ReadsInt w .i64 A zs.length zs) :
    Calls Try.prog 18 #[.string s, .slice A zs.length c] w fun e W' => e = .returned (.int .u64 (sumI (bytesOf s) (zs.map IntKind.u64.wrap))) ∧ Below w.heap.size w W' :=
  (callsIn_wide (n := 4)).1 (Sum_in Fence.wide 4 (fun _ => trivial) rfl (Nat.le_refl _) s A c zs hs w hI)
theorem Sum_in' (F : Fence) (n : Nat) (hF : ∀ k, F.fn k) (hro : F.round = none) (hn : 4 ≤ n) (s : ByteArray) (A : Option Addr) (m c : Nat) (zs : List Int) (hs : s.size ≤ 140737488351232) (w : World) (hI : ReadsInt w .i64 A m zs) :
    CallsIn F n Try.prog 18 #[.string s, .slice A m c] w fun e W' => e = .returned (.int .u64 (sumI (bytesOf s) (zs.map IntKind.u64.wrap))) ∧ Below w.heap.size w W' := by
  obtain rfl : zs.length = m := hI.1
  exact Sum_in F n hF hro hn s A c zs hs w hI
theorem own_keeps {W w1 : World} {n₀ : Nat} {e : TypeId} {size : Nat} {v : Value} {k : Nat} {xs : List Value} {tmp : Obj} (hrow : W.ownsRow n₀ e size v k xs) (hgrow : (W.alloc tmp).grownBy w1 v.ownBlock) : KeepsOthers W w1 :=
  (KeepsOthers.alloc W tmp).trans (KeepsOthers.of_grownBy hgrow fun j o ej hj => by
    rcases (hrow.alloc tmp).2 with ⟨rfl, _⟩ | ⟨g, cap, cur, rfl, _, hgb, _⟩
    · simp [Value.ownBlock] at ej
    · obtain rfl : g = j := by simpa [Value.ownBlock] using ej
      rw [hgb] at hj; cases hj; rfl)
theorem own_below {W w1 : World} {n₀ : Nat} {e : TypeId} {size : Nat} {v : Value} {k : Nat} {xs : List Value} {tmp : Obj} (hrow : W.ownsRow n₀ e size v k xs) (hn₀ : n₀ ≤ W.heap.size) (hgrow : (W.alloc tmp).grownBy w1 v.ownBlock) : Below n₀ W w1 :=
  ((Below.refl n₀ W).alloc hn₀ tmp).grown hgrow (by simp; omega) fun j ej => own_base hrow j ej
theorem info_int : (Try.prog.info? 3).map (fun i => (i.zero, i.size, i.bytes)) = some (some (.int .i64 0), 1, 8) := by kernel_rfl

theorem word_back {x : Int} (h0 : 0 ≤ x) (h : x < 18446744073709551616) : IntKind.u64.wrap (wrap64 x) = x := by
  rw [IntKind.wrap_u64]
  unfold wrap64
  omega
theorem words_back {l : List Int} (hl : ∀ x ∈ l, 0 ≤ x ∧ x ≤ 255) (hn : l.length ≤ 9223372036854775807) : (((wordsI l).map wrap64 ++ [(l.length : Int)]).map IntKind.u64.wrap) = wordsI l ++ [(l.length : Int)] := by
  rw [List.map_append, List.map_map]
  congr 1
  · rw [List.map_congr_left (g := id) (fun x hx => by have := wordsI_bd hl x hx; exact word_back this.1 this.2), List.map_id]
  · rw [List.map_singleton, wrap_u64_in (by omega) (by omega)]

theorem ret_hash {L : List Int} {zs : List Int} (h : (((wordsI zs).map wrap64 ++ [(zs.length : Int)]).map IntKind.u64.wrap) = wordsI zs ++ [(zs.length : Int)]) :
    Ending.returned (.int .u64 (sumI L (List.map (IntKind.u64.wrap ∘ wrap64) (wordsI zs) ++ [IntKind.u64.wrap ↑zs.length]))) = Ending.returned (.int .u64 (hashI L zs)) := by
  simp only [List.map_append, List.map_map, List.map_cons, List.map_nil] at h
  rw [h]
  rfl
set_option maxHeartbeats 4000000 in
theorem Bytes_in (F : Fence) (n : Nat) (hF : ∀ k, F.fn k) (hro : F.round = none) (hn : 6 ≤ n) (s : ByteArray) (A : Option Addr) (c : Nat) (zs : List Int) (hzs : ∀ x ∈ zs, 0 ≤ x ∧ x ≤ 255) (hs : s.size ≤ 140737488351232) (hreach : zs.length ≤ 140737488351232) (w : World) (hI : ReadsInt w .u8 A zs.length zs) :
    CallsIn F n Try.prog 7 #[.string s, .slice A zs.length c] w fun e W' => e = .returned (.int .u64 (hashI (bytesOf s) zs)) ∧ Below w.heap.size w W' := by
  have h1 : 1 ≤ n := by omega
  obtain ⟨i0, hi, hz0, hz1, hz2⟩ := info_parts info_int
  refine callsIn_of_wp_marks Try.func7 rfl (hF _) ?_ hro
  simp only [Try.ntmps7, List.size_toArray, List.length_cons, List.length_nil, Nat.reduceAdd, Nat.reduceSub, Array.replicate_succ, Array.replicate_zero, List.push_toArray, List.append_toArray, List.nil_append, List.cons_append]
  have hF17 := hF 17
  have hF18 := hF 18
  gi_wp2_with (gi_at_call 17; refine (wordsB_in F (n - 1) hF17 hro _ _ _ _).mono ?_; rintro e w' ⟨rfl, rfl⟩)
  have bO := Boxed.new w 52 (.slice none 0 0)
  have bN := Boxed.new (w.alloc (.cells #[.slice none 0 0] 52)) 29 (.slice A zs.length c)
  rw [World.size_alloc] at bN
  have hB0 : Below w.heap.size w ((w.alloc (.cells #[.slice none 0 0] 52)).alloc (.cells #[.slice A zs.length c] 29)) := ((Below.refl _ w).alloc (Nat.le_refl _) _).alloc (by simp) _
  have hA : ∀ ad, A = some ad → 0 < zs.length → ad.block < w.heap.size := fun ad e hp => by
    obtain ⟨ad', e', hcc⟩ := hI.2.2 hp
    rw [e] at e'
    cases e'
    have := World.block_lt_of_cell? w _ (hcc 0 hp)
    rwa [add_block] at this
  refine wpIn_rangeFunc_ownG hro h1 (gf := 31) (lb := #[.pointer (some ⟨w.heap.size + 1, 0, none⟩)]) rfl (hF _) (enters_of Try.func31 (by kernel_rfl) rfl)
    (wordsB_stops F (n - 1) (hF _) hro (by omega) (w.heap.size + 1) w.heap.size A c zs hzs hreach _ (by simp) (by simp; omega) bN.cell (hI.below hB0) hA) kb_t (kb_b (by simp; omega) (by simp)) (Below.refl _ _) (fun _ => rfl)
    (fun (pre : List Int) W => ((∃ v, Boxed W w.heap.size 52 v ∧ W.ownsRow w.heap.size 3 1 v pre.length (nums .i64 (pre.map wrap64)) ∧ True) ∧ Boxed W (w.heap.size + 1) 29 (.slice A zs.length c)) ∧ Below w.heap.size w W)
    (fun _ _ _ => False)
    (OwnFrom.and (OwnFrom.and (Own.from (holdsRow_own w.heap.size w.heap.size 52 3 1 (fun pre : List Int => pre.length) (fun pre : List Int => nums .i64 (pre.map wrap64)) (fun _ _ => True)) _) (Own.from (boxed_own _ _ _) _)) (ownFrom_below (Nat.le_refl _) (by simp; omega)))
    (fun _ _ _ _ _ hs _ _ => hs)
    ⟨⟨⟨_, bO.alloc _, World.ownsRow_nil _ _ _ _, trivial⟩, bN⟩, hB0⟩
    (fun x => { tmps := #[Value.string s, Value.slice A zs.length c, undef, undef, Value.int IntKind.u64 0, .pointer (some ⟨w.heap.size, 0, none⟩), .int .u64 x, Value.slice A zs.length c, .func (.func 31) #[] #[.pointer (some ⟨w.heap.size + 1, 0, none⟩)], .int .u64 x, undef, undef, undef, undef, undef, undef, undef, undef, undef, undef, undef, undef], defers := [] }) ?assign ?body ?done ?stop
  case assign =>
    intro l x W K hK
    gi_wp2
    exact hK
  case body =>
    rintro l pre x W ⟨⟨⟨v, hv, hrow, _⟩, hbx⟩, hB⟩ hlt
    have hc := hv.cell
    have hlt' : 8 * (pre.length + 1) ≤ 140737488351239 := by unfold nWords at hlt; omega
    clear hlt
    gi_wp2_with (gi_at_builtin; refine wpListIn_append_own _ rfl _ _ 52 rfl w.heap.size 3 i0 (.int .i64 0) 1 8 Try.underlying52 hi hz0 hz1 hz2 rfl (by decide) _ _ _ rfl (hrow.alloc _) ⟨W.heap.size, 0, none⟩ 1 1 [.int .i64 (wrap64 x)] rfl rfl (cell_one_new _ _ _) (by simp [Value.oneCell']) (by unfold maxLen; omega) (by omega) (by have := hB.size; simp; omega) ?_; intro v' w1 hown' hgrow _; obtain ⟨g', cap', rfl⟩ := ownsRow_succ hown'; obtain ⟨hv1, hv2, hr2, hk2, hb2⟩ := hv.appended (by decide) hrow hB.size (Nat.le_refl _) hown' hgrow; have hc1 := hv1.cell; have hf1 := hv1.frozen; have hbx1 := (hbx.alloc (.cells #[.int .i64 (wrap64 x)] 3)).kept hgrow (hbx.not_row (by decide) hrow))
    have hbx2 := hbx1.kept (grownBy_setCell' w1 w.heap.size (.slice (some ⟨g', 0, none⟩) (pre.length + 1) cap')) (by simp)
    exact ⟨hk2.from _, ⟨hb2, fun _ => hbx2.trans hbx.symm⟩, ⟨⟨_, hv2, by simpa [nums] using hr2, trivial⟩, hbx2⟩, hB.trans hb2⟩
  case done =>
    rintro D ys W hD rfl ⟨⟨⟨v, hv, hrow, _⟩, hbx⟩, hB⟩ hK
    have hc := hv.cell
    have hwl : 8 * (wordsI zs).length ≤ 140737488351239 := by rw [wordsI_length]; unfold nWords; omega
    have hn' : 1 ≤ n - 1 := by omega
    have Hback := Lib.hid (words_back hzs (by omega))
    gi_wp2_with (first
      | (gi_at_builtin; refine wpListIn_append_own _ rfl _ _ 52 rfl w.heap.size 3 i0 (.int .i64 0) 1 8 Try.underlying52 hi hz0 hz1 hz2 rfl (by decide) _ _ _ rfl (hrow.alloc _) ⟨W.heap.size, 0, none⟩ 1 1 [.int .i64 zs.length] rfl rfl (cell_one_new _ _ _) (by simp [Value.oneCell']) (by unfold maxLen; omega) (by omega) (by have := hB.size; simp; omega) ?_; intro v' w1 hown' hgrow _; obtain ⟨A2, c2, rfl, hR2⟩ := own_reads (k := .i64) (xs := (wordsI zs).map wrap64 ++ [(zs.length : Int)]) (by simpa [nums] using hown'); have hk1 := own_keeps hrow hgrow; have hb1 := own_below hrow hB.size hgrow)
      | (gi_at_call 18; refine (Sum_in' F (n - 1) hF hro (by omega) _ _ _ _ _ hs _ hR2).mono ?_; rintro e w2 ⟨rfl, hb3⟩))
    have hK1 := hk1.same D _ hK rfl
    have hK2 := (hb3.block D (Array.getElem?_eq_some_iff.1 hK1).1).trans hK1
    refine ⟨by simp, .inl ⟨_, _, rfl, run_takeDeferred hK2, ?_⟩⟩
    refine ⟨_, results_tmp rfl _ _ _, ?_, ((hB.trans hb1).trans ((hb3.mono (Nat.le_trans hB.size hb1.size)))).trans (belowK_b (w := w) (Nat.le_refl _) w2 D _ _ (by simp at hD; omega) hK2 rfl rfl)⟩
    exact ret_hash Hback.out
  case stop =>
    rintro D c pre W _ _ h _
    exact h.elim

/-- hash.Bytes, for its callers. -/
theorem Bytes_any (s : ByteArray) (A : Option Addr) (m c : Nat) (zs : List Int) (hzs : ∀ x ∈ zs, 0 ≤ x ∧ x ≤ 255) (hs : s.size ≤ 140737488351232) (hreach : zs.length ≤ 140737488351232) (w : World) (hI : ReadsInt w .u8 A m zs) :
    Calls Try.prog 7 #[.string s, .slice A m c] w fun e W' => e = .returned (.int .u64 (hashI (bytesOf s) zs)) ∧ Below w.heap.size w W' := by
  obtain rfl : zs.length = m := hI.1
  exact (callsIn_wide (n := 6)).1 (Bytes_in Fence.wide 6 (fun _ => trivial) rfl (Nat.le_refl _) s A c zs hzs hs hreach w hI)
end Go.Proofs.Ytpggedoopjcflaa.Hash
