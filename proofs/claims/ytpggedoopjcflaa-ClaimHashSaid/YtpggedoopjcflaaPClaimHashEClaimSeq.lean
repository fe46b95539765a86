/- slices.Values and slices.Collect at claims: the iterator's contract, and what is collected. -/
import Derived.Test.YtpggedoopjcflaaPClaimHashx0
import Derived.RangeFuncNested
import Derived.RangeFuncBound
import Derived.RangeFuncCalls
import Derived.RangeFuncLeaves
import Derived.RangeFuncBox
import Derived.Shelf.Abstract
import Derived.Shelf.RegionOpen
import Derived.WalkKit
import Derived.OwnWalkIn
import Derived.TacticsInMore
import Derived.LoopNIn
import Derived.LoopIn
import Derived.Maps.AppendAt
import Derived.Lib.Hide
import Derived.Test.YtpggedoopjcflaaPClaimHashEClaimCmp
namespace Go.Proofs.Ytpggedoopjcflaa.PClaimHash
open Go.RowKit Go.Shelf Go.Proofs.YtpggedoopjcflaaW.PrintWords
attribute [local go_sem] Oper.semAt_some
set_option maxRecDepth 100000
theorem take_succ {α : Type} (l : List α) (j : Nat) (h : j < l.length) : l.take (j + 1) = l.take j ++ [l[j]] := by
  rw [List.take_add_one, List.getElem?_eq_getElem h]
  rfl
set_option maxHeartbeats 2000000 in
/-- The closure of slices.Values at claims. -/
theorem values1C_in (F : Fence) (n : Nat) (h7 : F.fn 23) (hro : F.round = none) (hn : 1 ≤ n) (l Bs n₀ : Nat) (A : Option Addr) (c : Nat) (zs : List Cl) (hreach : zs.length ≤ 140737488351232) (J Jx : List Cl → World → Prop)
    (hY : ∀ pre x W, J pre W → pre.length < zs.length → YieldAt F (n - 1) Try.prog l #[.agg (encCl x).toArray] W fun e W' =>
      (e = .returned (.bool true) ∧ J (pre ++ [x]) W' ∧ Below n₀ W W') ∨ (e = .returned (.bool false) ∧ Jx (pre ++ [x]) W'))
    (W : World) (hJ : AbidesFrom W.heap.size J) (hn₀ : n₀ ≤ W.heap.size) (hBs : W.cell? ⟨Bs, 0, none⟩ = some (.slice A zs.length c)) (hC : Kd.C k24 W A zs.length zs) (hA : ∀ ad, A = some ad → 0 < zs.length → ad.block < n₀) (h0 : J [] W) :
    CallsIn F n Try.prog 23 #[.func (.yield l) #[] #[], .pointer (some ⟨Bs, 0, none⟩)] W fun e W' => (∃ v, e = .returned v) ∧
      ((∃ ys, ys = zs ∧ J ys W') ∨ (∃ pre, (pre <+: zs) ∧ Jx pre W')) := by
  refine callsIn_of_wp Try.func23 rfl h7 ?_ hro
  simp only [Try.ntmps23, List.size_toArray, List.length_cons, List.length_nil, Nat.reduceAdd, Nat.reduceSub, Array.replicate_succ, Array.replicate_zero, List.push_toArray, List.append_toArray, List.nil_append, List.cons_append]
  gi_wp2
  gi_loopw [7] (fun i wr => ∃ k : Nat, k ≤ zs.length ∧ i = .int .i64 k ∧ J (zs.take k) wr ∧ Below n₀ W wr)
    (fun i _ => zs.length - (intOf i).toNat)
  case atStart => exact ⟨0, Nat.zero_le _, rfl, h0, Below.refl _ _⟩
  case round =>
    obtain ⟨k, hk, rfl, hJs, hnx⟩ := hrel
    by_cases hlt : k < zs.length
    · obtain ⟨ad, rfl, hx0, hx1, hx2, hx3, hx4⟩ := at_nat hC k hlt hlt
      have hadb : ad.block < n₀ := hA ad rfl (by omega)
      have hst := Lib.hid (take_succ zs k hlt)
      obtain ⟨x, hx⟩ : ∃ x, zs[k] = x := ⟨_, rfl⟩
      rw [hx] at hx0 hx1 hx2 hx3 hx4 hst
      have hab : (ad.add (k * 5)).block < n₀ := by rw [add_block]; exact hadb
      replace hx0 := (hnx.cell (p := ad.add (k * 5)) hab).trans hx0
      replace hx1 := (hnx.cell (p := ⟨(ad.add (k * 5)).block, (ad.add (k * 5)).off + 1, none⟩) hab).trans hx1
      replace hx2 := (hnx.cell (p := ⟨(ad.add (k * 5)).block, (ad.add (k * 5)).off + 2, none⟩) hab).trans hx2
      replace hx3 := (hnx.cell (p := ⟨(ad.add (k * 5)).block, (ad.add (k * 5)).off + 3, none⟩) hab).trans hx3
      replace hx4 := (hnx.cell (p := ⟨(ad.add (k * 5)).block, (ad.add (k * 5)).off + 4, none⟩) hab).trans hx4
      have hJ2 : J (zs.take k) (wr.alloc (.cells (encCl x).toArray 24)) := hJ _ wr _ none hJs (World.grownBy_alloc wr _ none) (fun r e => by cases e)
      have hB2 : Below n₀ wr (wr.alloc (.cells (encCl x).toArray 24)) := (Below.refl n₀ wr).alloc (Nat.le_trans hn₀ hnx.size) _
      obtain ⟨fn, tmps, assign, body, hy, hR⟩ := hY _ x _ hJ2 (by rw [List.length_take]; omega)
      unfold encCl at hy hR hB2
      gi_wp2
      refine hR.mono ?_
      rintro e W3 (⟨rfl, hJ3, hk3⟩ | ⟨rfl, hJx3⟩)
      · gi_wp2
        go_roundw
        case rel => exact ⟨k + 1, by omega, by go_num, by rw [hst.out]; exact hJ3, hnx.trans (hB2.trans hk3)⟩
        case measure => simp [intOf]; omega
      · gi_wp2
        refine bodyPost_ret (results_none rfl _ _ _) rfl ?_
        exact ⟨⟨_, rfl⟩, .inr ⟨_, by rw [← hst.out]; exact List.take_prefix _ _, hJx3⟩⟩
    · obtain rfl : k = zs.length := by omega
      rw [List.take_length] at hJs
      gi_wp2
      go_end0
      exact ⟨⟨_, rfl⟩, .inl ⟨_, rfl, hJs⟩⟩
theorem valuesC_in (F : Fence) (n : Nat) (h5 : F.fn 11) (hro : F.round = none) (a : Option Addr) (len cap : Nat) (w : World) :
    CallsIn F n Try.prog 11 #[.slice a len cap] w fun e w' => e = .returned (.func (.func 23) #[] #[.pointer (some ⟨w.heap.size, 0, none⟩)]) ∧ w' = w.alloc (.cells #[.slice a len cap] 25) := by
  refine callsIn_of_wp Try.func11 rfl h5 ?_ hro
  simp only [Try.ntmps11, List.size_toArray, List.length_cons, List.length_nil, Nat.reduceAdd, Nat.reduceSub, Array.replicate_succ, Array.replicate_zero, List.push_toArray, List.append_toArray, List.nil_append, List.cons_append]
  gi_wp2
  go_ret
  exact ⟨rfl, rfl⟩
theorem valuesC_stops (F : Fence) (n : Nat) (h7 : F.fn 23) (hro : F.round = none) (hn : 1 ≤ n) (Bs n₀ : Nat) (A : Option Addr) (c : Nat) (zs : List Cl) (hreach : zs.length ≤ 140737488351232) (w : World) (hB0 : Bs < w.heap.size) (hn₀ : n₀ ≤ w.heap.size)
    (hc : w.cell? ⟨Bs, 0, none⟩ = some (.slice A zs.length c)) (hC : Kd.C k24 w A zs.length zs) (hA : ∀ ad, A = some ad → 0 < zs.length → ad.block < n₀) :
    SeqStopsK F n Try.prog 23 #[.pointer (some ⟨Bs, 0, none⟩)] (fun x : Cl => #[Value.agg (encCl x).toArray]) (Below n₀) (fun ys => ys = zs) (fun pre => pre <+: zs) zs.length w := fun l J Jx W hW hJ _ hY h0 =>
  values1C_in F n h7 hro hn l Bs n₀ A c zs hreach J Jx hY W hJ (Nat.le_trans hn₀ hW.size) ((hW.cell (p := ⟨Bs, 0, none⟩) hB0).trans hc) (Kd.C_below hC hW) hA h0
theorem cells_new (W : World) (os : List Value) (T : TypeId) : ∀ j u, os[j]? = some u → (W.alloc (.cells os.toArray T)).cell? (Addr.add ⟨W.heap.size, 0, none⟩ j) = some u := by
  intro j u h
  have e : (Addr.add ⟨W.heap.size, 0, none⟩ j) = ⟨W.heap.size, j, none⟩ := by
    rcases j with _ | j
    · rfl
    · simp [Addr.add]
  rw [e]
  rw [World.cell?_alloc_at _ _ _ _ rfl]
  simpa using h
/-- A claim's box. -/
def BoxC (B : Nat) (x : Cl) (W : World) : Prop := W.heap[B]? = some (.cells (encCl x).toArray 24 (0, 0))
theorem BoxC.own (B : Nat) : Own (fun x W => BoxC B x W) := fun s X Y row hs hg hrow => by
  have hlt : B < X.heap.size := (Array.getElem?_eq_some_iff.1 hs).1
  exact (hg.block B hlt (fun e' => by obtain ⟨o, ho, hc⟩ := hrow B e'.symm; rw [show X.heap[B]? = _ from hs] at ho; cases ho; cases hc)).trans hs
theorem BoxC.cells {B : Nat} {x : Cl} {W : World} (h : BoxC B x W) : W.cell? ⟨B, 0, none⟩ = some (.int .i64 x.f0) ∧ W.cell? ⟨B, 1, none⟩ = some (.int .i64 x.f1) ∧ W.cell? ⟨B, 2, none⟩ = some (.int .i64 x.f2) ∧ W.cell? ⟨B, 3, none⟩ = some (.int .i64 x.f3) ∧ W.cell? ⟨B, 4, none⟩ = some (.int .i64 x.f4) := by
  refine ⟨?_, ?_, ?_, ?_, ?_⟩ <;> (simp only [World.cell?, show W.heap[B]? = _ from h]; rfl)
set_option maxHeartbeats 4000000 in
theorem AppendSeqC_in (F : Fence) (n : Nat) (hF : ∀ k, F.fn k) (hro : F.round = none) (hn : 3 ≤ n) (Bq : Nat) (A : Option Addr) (c : Nat) (zs : List Cl) (hreach : zs.length ≤ 3518437208883) (w : World) (hBq : Bq < w.heap.size) (hc : w.cell? ⟨Bq, 0, none⟩ = some (.slice A zs.length c)) (hC : Kd.C k24 w A zs.length zs) :
    CallsIn F n Try.prog 42 #[.slice none 0 0, .func (.func 23) #[] #[.pointer (some ⟨Bq, 0, none⟩)]] w fun e W' => ∃ v, e = .returned v ∧ W'.ownsRow w.heap.size 24 5 v zs.length (zs.flatMap encCl) ∧ Below w.heap.size w W' := by
  have h1 : 1 ≤ n := by omega
  refine callsIn_of_wp_marks Try.func42 rfl (hF _) ?_ hro
  simp only [Try.ntmps42, List.size_toArray, List.length_cons, List.length_nil, Nat.reduceAdd, Nat.reduceSub, Array.replicate_succ, Array.replicate_zero, List.push_toArray, List.append_toArray, List.nil_append, List.cons_append]
  gi_wp2
  have bS := Boxed.new w 25 (.slice none 0 0)
  have hB0 : Below w.heap.size w (w.alloc (.cells #[.slice none 0 0] 25)) := (Below.refl _ w).alloc (Nat.le_refl _) _
  obtain ⟨i0, hi, hz0, hz1, hz2⟩ := info_parts info24
  have hlt0 : ∀ ad, A = some ad → 0 < zs.length → ad.block < w.heap.size := fun ad e h => by
    obtain ⟨ad', e', hx, _⟩ := at_nat hC 0 h h
    rw [e] at e'
    cases e'
    have := World.block_lt_of_cell? w _ hx
    rwa [add_block] at this
  refine wpIn_rangeFunc_ownH hro h1 (gf := 23) (lb := #[.pointer (some ⟨Bq, 0, none⟩)]) rfl (hF _) (enters_of Try.func23 (by kernel_rfl) rfl)
    (valuesC_stops F (n - 1) (hF _) hro (by omega) Bq w.heap.size A c zs (by omega) _ (by simp; omega) (by simp) ((hB0.cell (p := ⟨Bq, 0, none⟩) hBq).trans hc) (Kd.C_below hC hB0) hlt0) belowK_t (belowK_b (by simp)) (Below.refl _ _) (fun _ => rfl)
    (fun (pre : List Cl) W => (∃ v, Boxed W w.heap.size 25 v ∧ W.ownsRow w.heap.size 24 5 v pre.length (pre.flatMap encCl) ∧ True) ∧ Below w.heap.size w W)
    (fun _ _ _ => False)
    (OwnFrom.and (Own.from (holdsRow_own _ _ _ _ _ (fun pre : List Cl => pre.length) (fun pre : List Cl => pre.flatMap encCl) (fun _ _ => True)) _) (ownFrom_below (Nat.le_refl _) (by simp)))
    (fun _ _ _ _ _ hs _ _ => hs)
    ⟨⟨_, bS, World.ownsRow_nil _ _ _ _, trivial⟩, hB0⟩
    (fun (x : Cl) a' W => ∃ Bx, w.heap.size < Bx ∧ BoxC Bx x W ∧ a' = { tmps := #[.slice none 0 0, .func (.func 23) #[] #[.pointer (some ⟨Bq, 0, none⟩)], .pointer (some ⟨w.heap.size, 0, none⟩), undef, .slice none 0 0, .pointer (some ⟨Bx, 0, none⟩), .func (.func 23) #[] #[.pointer (some ⟨Bq, 0, none⟩)], .agg (encCl x).toArray, undef, undef, undef, undef, undef], defers := [] })
    (fun x a' => Own.from (fun _ X Y row hs hg hrow => by obtain ⟨Bx, h1, h2, h3⟩ := hs; exact ⟨Bx, h1, BoxC.own Bx x X Y row h2 hg hrow, h3⟩) _) ?assign ?body ?done ?stop
  case assign =>
    rintro l pre x W K ⟨⟨v, hb, hrow, _⟩, hB⟩ hK
    have hsz := hB.size
    have hlt := hb.lt
    have hbox : BoxC W.heap.size x (W.alloc (.cells (encCl x).toArray 24)) := World.alloc_heap_new W _
    have hK' := hK _ _ ((KeepsOthers.alloc W (.cells (encCl x).toArray 24)).from _) ((Below.refl _ W).alloc hB.size _) ⟨⟨v, hb.alloc _, hrow.alloc _, trivial⟩, hB.alloc hB.size _⟩ ⟨W.heap.size, hlt, hbox, rfl⟩
    unfold encCl at hK' ⊢
    gi_wp2
    exact hK'
  case body =>
    rintro l pre x a' W hl ⟨r, hr⟩ ⟨⟨v, hv, hrow, _⟩, hB⟩ ⟨Bx, hBx, hbx, rfl⟩ hlt
    have hle := Nat.le_refl w.heap.size
    have hvc := hv.cell
    obtain ⟨hx0, hx1, hx2, hx3, hx4⟩ := hbx.cells
    have hflat : (pre ++ [x]).flatMap encCl = pre.flatMap encCl ++ [Value.int .i64 x.f0, .int .i64 x.f1, .int .i64 x.f2, .int .i64 x.f3, .int .i64 x.f4] := by simp [encCl]
    have Hflat := Lib.hid hflat
    clear hflat hbx
    have hml : 3518437208883 ≤ maxLen := by decide
    have hone : ∀ u ∈ [Value.int .i64 x.f0, .int .i64 x.f1, .int .i64 x.f2, .int .i64 x.f3, .int .i64 x.f4], u.oneCell' = true := by simp [Value.oneCell']
    gi_wp2_with (gi_at_builtin; refine wpListIn_append_own _ rfl _ _ 25 rfl w.heap.size 24 i0 _ 5 40 Try.underlying25 hi hz0 hz1 hz2 rfl (by decide) _ _ _ rfl (hrow.alloc _) ⟨W.heap.size, 0, none⟩ 1 1 [.int .i64 x.f0, .int .i64 x.f1, .int .i64 x.f2, .int .i64 x.f3, .int .i64 x.f4] rfl rfl (cells_new _ _ _) hone (by omega) (by omega) (by have := hB.size; simp; omega) ?_; intro v' w1 hown' hgrow _; obtain ⟨g', cap', rfl⟩ := ownsRow_succ hown'; obtain ⟨hv1, hv2, hr2, hk2, hb2⟩ := hv.appended (by decide) hrow hB.size hle hown' hgrow; have hc1 := hv1.cell; have hf1 := hv1.frozen)
    exact ⟨hk2.from _, hb2, ⟨_, hv2, by rw [List.length_append, Hflat.out]; exact hr2, trivial⟩, hB.trans hb2⟩
  case done =>
    rintro D ys W hD rfl ⟨⟨v, hv, hrow, _⟩, hB⟩ hK
    have hvc := hv.cell
    gi_wp2
    refine ⟨by simp, .inl ⟨_, _, rfl, run_takeDeferred hK, ?_⟩⟩
    exact ⟨_, results_tmp rfl _ _ _, _, rfl, ownsRow_putObj hrow _ hK rfl, hB.trans (belowK_b (w := w) (Nat.le_refl _) W D _ _ (by simp at hD; omega) hK rfl rfl)⟩
  case stop =>
    rintro D c pre W _ _ h _
    exact h.elim
end Go.Proofs.Ytpggedoopjcflaa.PClaimHash
