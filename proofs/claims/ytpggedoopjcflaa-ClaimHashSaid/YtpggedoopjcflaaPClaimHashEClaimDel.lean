/- slices.DeleteFunc at claims. -/
import Derived.Test.YtpggedoopjcflaaPClaimHashx0
import Derived.Lib.Hide
import Derived.Laws.CopyRow
import Derived.Maps.AppendAt
import Derived.Test.YtpggedoopjcflaaPClaimHashEClaimNormG
import Derived.Test.YtpggedoopjcflaaPClaimHashEClaimFn
namespace Go.Proofs.Ytpggedoopjcflaa.PClaimHash
open Go.RowKit Go.Proofs.YtpggedoopjcflaaW.PrintWords
set_option maxRecDepth 100000
/-- A row's cells. -/
theorem row_at {W : World} {base g cap n : Nat} {zs : List Cl} (h : W.ownsRow base 24 5 (.slice (some ⟨g, 0, none⟩) n cap) n (zs.flatMap encCl)) (hn : zs.length = n) (k : Nat) (hk : k < zs.length) :
    (W.cell? ⟨g, k * 5, none⟩ = some (.int .i64 zs[k].f0) ∧ W.cell? ⟨g, k * 5 + 1, none⟩ = some (.int .i64 zs[k].f1) ∧ W.cell? ⟨g, k * 5 + 2, none⟩ = some (.int .i64 zs[k].f2) ∧ W.cell? ⟨g, k * 5 + 3, none⟩ = some (.int .i64 zs[k].f3) ∧ W.cell? ⟨g, k * 5 + 4, none⟩ = some (.int .i64 zs[k].f4)) ∧ ∀ j, W.frozen? ⟨g, j, none⟩ = false := by
  obtain ⟨hl, hr⟩ := h
  rcases hr with ⟨e, _⟩ | ⟨g', cap', cur, e, hb, hh, hnc, hcm, hcs, htk⟩
  · cases e
  cases e
  have hcell : ∀ i (hi : i < 5), W.cell? ⟨g, k * 5 + i, none⟩ = (encCl zs[k])[i]? := by
    intro i hi
    have hlt : k * 5 + i < n * 5 := by omega
    simp only [World.cell?, hh]
    show cur[k * 5 + i]? = _
    have e1 : cur[k * 5 + i]? = (zs.flatMap encCl)[k * 5 + i]? := by rw [← htk, List.getElem?_take_of_lt hlt, Array.getElem?_toList]
    have hsplit : zs = zs.take k ++ zs[k] :: zs.drop (k + 1) := by rw [← List.drop_eq_getElem_cons hk, List.take_append_drop]
    have hlt2 : (zs.take k).length = k := by rw [List.length_take]; omega
    rw [e1]
    conv => lhs; rw [hsplit]
    rw [List.flatMap_append, List.getElem?_append_right (by rw [enc_len, hlt2]; omega), enc_len, hlt2, List.flatMap_cons, show k * 5 + i - k * 5 = i by omega, List.getElem?_append_left (by simpa [encCl] using hi)]
  exact ⟨⟨hcell 0 (by omega), hcell 1 (by omega), hcell 2 (by omega), hcell 3 (by omega), hcell 4 (by omega)⟩, fun j => by simp [World.frozen?, hh]⟩
theorem set_five (L : List Value) (k : Nat) (a b c d e : Value) (h : k + 5 ≤ L.length) : ((((L.set k a).set (k + 1) b).set (k + 2) c).set (k + 3) d).set (k + 4) e = L.take k ++ [a, b, c, d, e] ++ L.drop (k + 5) := by
  apply List.ext_getElem?
  intro j
  simp only [List.getElem?_set, List.length_set, List.append_assoc]
  rcases Nat.lt_or_ge j k with hj | hj
  · rw [List.getElem?_append_left (by rw [List.length_take]; omega), List.getElem?_take_of_lt hj]
    rw [if_neg (by omega), if_neg (by omega), if_neg (by omega), if_neg (by omega), if_neg (by omega)]
  · have hlt : (L.take k).length = k := by rw [List.length_take]; omega
    rw [List.getElem?_append_right (by omega), hlt]
    rcases Nat.lt_or_ge j (k + 5) with hj2 | hj2
    · rw [List.getElem?_append_left (by simp; omega)]
      obtain ⟨i, rfl⟩ : ∃ i, j = k + i := ⟨j - k, by omega⟩
      rw [show k + i - k = i by omega]
      rcases i with _ | _ | _ | _ | _ | i
      · simp; omega
      · simp; omega
      · simp; omega
      · simp; omega
      · simp; omega
      · omega
    · rw [List.getElem?_append_right (by simp; omega), List.getElem?_drop, if_neg (by omega), if_neg (by omega), if_neg (by omega), if_neg (by omega), if_neg (by omega)]
      congr 1
      simp
      omega
/-- A claim stored into a row. -/
theorem row_put {W : World} {base g cap n : Nat} {zs : List Cl} (h : W.ownsRow base 24 5 (.slice (some ⟨g, 0, none⟩) n cap) n (zs.flatMap encCl)) (hn : zs.length = n) (k : Nat) (hk : k < n) (x : Cl) :
    (((((W.setCell ⟨g, k * 5, none⟩ (.int .i64 x.f0)).setCell ⟨g, k * 5 + 1, none⟩ (.int .i64 x.f1)).setCell ⟨g, k * 5 + 2, none⟩ (.int .i64 x.f2)).setCell ⟨g, k * 5 + 3, none⟩ (.int .i64 x.f3)).setCell ⟨g, k * 5 + 4, none⟩ (.int .i64 x.f4)).ownsRow base 24 5 (.slice (some ⟨g, 0, none⟩) n cap) n ((zs.set k x).flatMap encCl) := by
  obtain ⟨hl, hr⟩ := h
  rcases hr with ⟨e, _⟩ | ⟨g', cap', cur, e, hb, hh, hnc, hcm, hcs, htk⟩
  · cases e
  cases e
  have hle : n * 5 ≤ cap * 5 := Nat.mul_le_mul_right _ hnc
  refine ⟨by rw [enc_len, List.length_set, hn], .inr ⟨g, cap, _, rfl, hb, blk_set (blk_set (blk_set (blk_set (blk_set hh _ _) _ _) _ _) _ _) _ _, hnc, hcm, by simp [hcs], ?_⟩⟩
  simp only [Array.toList_setIfInBounds]
  rw [List.take_set, List.take_set, List.take_set, List.take_set, List.take_set, htk, set_five _ _ _ _ _ _ _ (by rw [enc_len]; omega)]
  have hset : zs.set k x = zs.take k ++ x :: zs.drop (k + 1) := List.set_eq_take_append_cons_drop.trans (by rw [if_pos (by omega)])
  have hk1 : (zs.flatMap encCl).take (k * 5) = (zs.take k).flatMap encCl := by
    conv => lhs; rw [← List.take_append_drop k zs]
    rw [List.flatMap_append, List.take_append_of_le_length (by rw [enc_len, List.length_take]; omega), List.take_of_length_le (by rw [enc_len, List.length_take]; omega)]
  have hk2 : (zs.flatMap encCl).drop (k * 5 + 5) = (zs.drop (k + 1)).flatMap encCl := by
    conv => lhs; rw [← List.take_append_drop (k + 1) zs]
    rw [List.flatMap_append, List.drop_append_of_le_length (by rw [enc_len, List.length_take]; omega), List.drop_of_length_le (by rw [enc_len, List.length_take]; omega), List.nil_append]
  rw [hset, List.flatMap_append, List.flatMap_cons, hk1, hk2, List.append_assoc]
  rfl
section
variable {P : Program} {ops : Array Oper} {rest : List Oper} {o : Oper} {a : Act} {Q : Exit → Act → World → Prop}
theorem wp_clear {w w' : World} {v : Value} (hg : o.guard = none) (x : Operand) (t : TypeId) (hop : o.op = .call { callee := .builtin .clear, args := #[x], argTypes := #[t] }) (y : Value) (hx : a.eval x = y) (hrun : (Builtin.clear_ #[t] o.type #[y]).run P w = .ok v w') (hK : wpList P ops Q rest (a.put o.dst v) w') : wpList P ops Q (o :: rest) a w := by
  refine wpList_plain hg fun K' hK' => ?_
  unfold Oper.wp
  simp [execOp, hop, resolve, invoke, builtin, hx, hrun, Result.andThen]
  exact hK' _ _ hK
end
theorem set_take {α : Type} (l : List α) (k : Nat) (x : α) (h : k < l.length) : (l.set k x).take (k + 1) = l.take k ++ [x] := by
  rw [take_succ _ k (by rw [List.length_set]; exact h), List.take_set, List.getElem_set_self, List.set_eq_of_length_le (by rw [List.length_take]; omega)]
theorem grown5 (W : World) (g o : Nat) (a b c d e : Value) : W.grownBy (((((W.setCell ⟨g, o, none⟩ a).setCell ⟨g, o + 1, none⟩ b).setCell ⟨g, o + 2, none⟩ c).setCell ⟨g, o + 3, none⟩ d).setCell ⟨g, o + 4, none⟩ e) (some g) := by
  have h : ∀ (W : World) (i : Nat) (u : Value), W.grownBy (W.setCell ⟨g, i, none⟩ u) (some g) := fun W i u => ⟨rfl, rfl, rfl, by simp [World.setCell], fun j _ hj => Below.heap_setCell _ _ _ j (fun e => hj (by rw [e]))⟩
  exact World.grownBy.trans (World.grownBy.trans (World.grownBy.trans (World.grownBy.trans (h _ _ _) (h _ _ _)) (h _ _ _)) (h _ _ _)) (h _ _ _)
/-- clear of a row's end: the row's beginning stands. -/
theorem clear_tail {W : World} {base g cap n : Nat} {zs : List Cl} (h : W.ownsRow base 24 5 (.slice (some ⟨g, 0, none⟩) n cap) n (zs.flatMap encCl)) (hn : zs.length = n) (k c ty : Nat) (hk : k < n) :
    ∃ W', (Builtin.clear_ #[25] ty #[.slice (some ⟨g, k * 5, none⟩) (n - k) c]).run Try.prog W = .ok (.tuple #[]) W' ∧ W'.ownsRow base 24 5 (.slice (some ⟨g, 0, none⟩) k cap) k ((zs.take k).flatMap encCl) ∧ W.grownBy W' (some g) := by
  obtain ⟨hl, hr⟩ := h
  rcases hr with ⟨e, _⟩ | ⟨g', cap', cur, e, hb, hh, hnc, hcm, hcs, htk⟩
  · cases e
  cases e
  have hle : n * 5 ≤ cap * 5 := Nat.mul_le_mul_right _ hnc
  obtain ⟨m, hm⟩ : ∃ m, n - k = m + 1 := ⟨n - k - 1, by omega⟩
  have hz : (Builtin.zeroCells (Value.cells (.agg #[.int .i64 0, .int .i64 0, .int .i64 0, .int .i64 0, .int .i64 0])) (m + 1)).toList.length = (m + 1) * 5 := by
    simp [Builtin.zeroCells, Value.cells]
  have hone : ∀ v ∈ (Builtin.zeroCells (Value.cells (.agg #[.int .i64 0, .int .i64 0, .int .i64 0, .int .i64 0, .int .i64 0])) (m + 1)).toList, v.oneCell' = true := by
    intro v hv
    simp only [Builtin.zeroCells, Value.cells, Array.toList_map, List.mem_map] at hv
    obtain ⟨i, _, rfl⟩ := hv
    have : i % 5 < 5 := Nat.mod_lt _ (by decide)
    rcases h5 : i % 5 with _ | _ | _ | _ | _ | j
    · simp [h5]; rfl
    · simp [h5]; rfl
    · simp [h5]; rfl
    · simp [h5]; rfl
    · simp [h5]; rfl
    · omega
  obtain ⟨Z, hZ⟩ : ∃ Z, (Builtin.zeroCells (Value.cells (.agg #[.int .i64 0, .int .i64 0, .int .i64 0, .int .i64 0, .int .i64 0])) (m + 1)).toList = Z := ⟨_, rfl⟩
  rw [hZ] at hz hone
  have hst := run_storeCells_at (P := Try.prog) g (k * 5) 24 Z 0 cur W hh (by rw [hz, hcs]; omega) hone
  have hv := Try.zeroValue24
  refine ⟨W.setRow g (cur.toList.take (k * 5 + 0) ++ Z ++ cur.toList.drop (k * 5 + 0 + Z.length)).toArray, ?_, ⟨by rw [enc_len, List.length_take, hn]; omega, .inr ⟨g, cap, _, rfl, hb, setRow_heap W g cur _ 24 _ hh, by omega, hcm, ?_, ?_⟩⟩, ⟨rfl, rfl, rfl, by simp, fun j _ hj => setRow_other W g j _ (fun e => hj (by rw [e]))⟩⟩
  · rw [hm]
    simp [Builtin.clear_, run_underlying Try.underlying25, hv]
    rw [hZ, hst]
    simp [Result.andThen]
  · simp only [List.size_toArray, List.length_append, List.length_take, List.length_drop, hz, Array.length_toList, hcs]
    omega
  · rw [List.append_assoc, List.take_append_of_le_length (by simp [hcs]; omega), List.take_take, Nat.min_eq_left (by omega)]
    have e1 : (cur.toList.take (n * 5)).take (k * 5) = (zs.flatMap encCl).take (k * 5) := by rw [htk]
    rw [List.take_take, Nat.min_eq_left (by omega)] at e1
    rw [e1]
    conv => lhs; rw [← List.take_append_drop k zs]
    rw [List.flatMap_append, List.take_append_of_le_length (by rw [enc_len, List.length_take]; omega), List.take_of_length_le (by rw [enc_len, List.length_take]; omega)]
theorem take_filter_step (p : Cl → Bool) (zs : List Cl) (j : Nat) (h : j < zs.length) : (zs.take (j + 1)).filter (fun x => !p x) = (zs.take j).filter (fun x => !p x) ++ (if p zs[j] = true then [] else [zs[j]]) := by
  rw [take_succ zs j h, List.filter_append]
  congr 1
  cases hp : p zs[j] <;> simp [hp]
set_option maxHeartbeats 4000000 in
theorem DeleteFuncC (base : Nat) (v : Value) (zs : List Cl) (w : World) (hrow : w.ownsRow base 24 5 v zs.length (zs.flatMap encCl)) (hbase : base ≤ w.heap.size) (hlen : zs.length ≤ 3518437208882) (fn : Nat) (cb : Array Value) (eg : ∀ args w, (callFunc fn args).run Try.prog w = .ok (.enter fn args) w) (p : Cl → Bool) (Inv : World → Prop) (h0 : Inv w)
    (hIa : ∀ W o, Inv W → Inv (W.alloc o)) (hIg : ∀ W W', W.grownBy W' v.ownBlock → Inv W → Inv W') (hp : ∀ x ∈ zs, ∀ W, Inv W → Calls Try.prog fn (#[.agg (encCl x).toArray] ++ cb) W fun e W' => e = .returned (.bool (p x)) ∧ Inv W' ∧ Below W.heap.size W W') :
    Calls Try.prog 61 #[v, .func (.func fn) #[] cb] w fun e w' => ∃ v', e = .returned v' ∧ w'.ownsRow base 24 5 v' (zs.filter fun x => !p x).length ((zs.filter fun x => !p x).flatMap encCl) ∧ Inv w' ∧ w.grownBy w' v.ownBlock := by
  obtain ⟨A, cap, rfl, hcap⟩ := own_slice hrow
  have hC := (Kd.R_reads' (R_ofC (ok := fun _ => True) hrow (fun _ _ => trivial))).2.2
  have hidx := IndexFuncC A cap zs w hC fn cb eg p Inv h0 (fun x hx W hI hB => (hp x hx W hI).mono fun e W' h => ⟨h.1, h.2.1, h.2.2.mono hB.size⟩)
  by_cases hany : zs.any p = true
  · have hlt : zs.findIdx p < zs.length := List.findIdx_lt_length.2 (by obtain ⟨x, hx, hpx⟩ := List.any_eq_true.1 hany; exact ⟨x, hx, hpx⟩)
    obtain ⟨i0, hi0⟩ : ∃ i0, zs.findIdx p = i0 := ⟨_, rfl⟩
    rw [idxIC, if_pos hany, hi0] at hidx
    rw [hi0] at hlt
    have hpi : p zs[i0] = true := by subst hi0; exact List.findIdx_getElem
    have hpre : (zs.take i0).filter (fun x => !p x) = zs.take i0 := by
      refine List.filter_eq_self.2 fun x hx => ?_
      obtain ⟨j, hj, rfl⟩ := List.mem_take_iff_getElem.1 hx
      have := List.not_of_lt_findIdx (p := p) (xs := zs) (i := j) (by rw [hi0]; omega)
      simp [this]
    obtain ⟨g, rfl, hgb⟩ : ∃ g, A = some ⟨g, 0, none⟩ ∧ base ≤ g := by
      rcases hrow.2 with ⟨_, h0⟩ | ⟨g, cap', cur, e, hb, _⟩
      · omega
      · cases e; exact ⟨g, rfl, hb⟩
    have hgw := (hrow.lt g rfl).2
    have hstep0 := take_filter_step p zs i0 hlt
    rw [if_pos hpi, List.append_nil, hpre] at hstep0
    clear hi0 hpre hpi hany
    go_enter Try.func61, Try.ntmps61
    go_wp2_with fail
    refine hidx.mono ?_
    rintro e w1 ⟨rfl, hI1, hB1⟩
    have hd : ((i0 : Int) == -1) = false := beq_eq_false_iff_ne.2 (by omega)
    have hr1 := own_move hrow (w1 := w1) (fun k hk => hB1.block k (hrow.lt k hk).2)
    have hg1 := grown_of_below hB1 (some g)
    go_wp2
    go_loopw [5, 6] (fun i j wr => ∃ (ni nj : Nat) (ys : List Cl), i = .int .i64 ni ∧ j = .int .i64 nj ∧ ni < nj ∧ nj ≤ zs.length ∧ ys.length = zs.length ∧ ys.take ni = (zs.take nj).filter (fun x => !p x) ∧ ys.drop nj = zs.drop nj ∧ wr.ownsRow base 24 5 (.slice (some ⟨g, 0, none⟩) zs.length cap) zs.length (ys.flatMap encCl) ∧ Inv wr ∧ w.grownBy wr (some g)) (fun _ j _ => zs.length - (intOf j).toNat)
    case atStart => exact ⟨i0, i0 + 1, zs, rfl, by go_num, by omega, by omega, rfl, hstep0.symm, rfl, hr1, hI1, hg1⟩
    case round =>
      obtain ⟨ni, nj, ys, rfl, rfl, hij, hj, hyl, htk, hdr, hrr, hI, hg⟩ := hrel
      by_cases hlt2 : nj < zs.length
      · have hy1 : ys[nj]'(by omega) = zs[nj] := by
          have e1 := List.drop_eq_getElem_cons (l := ys) (i := nj) (by omega)
          have e2 := List.drop_eq_getElem_cons (l := zs) (i := nj) (by omega)
          rw [hdr, e2] at e1
          exact (List.cons.inj e1).1.symm
        have hat := row_at hrr hyl nj (by omega)
        have hati := row_at hrr hyl ni (by omega)
        rw [hy1] at hat
        obtain ⟨⟨hx0, hx1, hx2, hx3, hx4⟩, hfz⟩ := hat
        obtain ⟨⟨hi0, hi1, hi2, hi3, hi4⟩, _⟩ := hati
        have hcall := hp zs[nj] (List.getElem_mem hlt2) (wr.alloc (.cells (encCl zs[nj]).toArray 24)) (hIa _ _ hI)
        have hst := Lib.hid (take_filter_step p zs nj hlt2)
        obtain ⟨x, hx⟩ : ∃ x, zs[nj] = x := ⟨_, rfl⟩
        rw [hx] at hx0 hx1 hx2 hx3 hx4 hcall hst
        unfold encCl at hcall
        have hwl : w.heap.size ≤ wr.heap.size := hg.size
        have hmv : ∀ w' : World, Below (wr.alloc (.cells #[.int .i64 x.f0, .int .i64 x.f1, .int .i64 x.f2, .int .i64 x.f3, .int .i64 x.f4] 24)).heap.size (wr.alloc (.cells #[.int .i64 x.f0, .int .i64 x.f1, .int .i64 x.f2, .int .i64 x.f3, .int .i64 x.f4] 24)) w' →
            BoxC wr.heap.size x w' ∧ w'.ownsRow base 24 5 (.slice (some ⟨g, 0, none⟩) zs.length cap) zs.length (ys.flatMap encCl) ∧ wr.grownBy w' (some g) := by
          intro w' hB'
          refine ⟨(hB'.block _ (by simp)).trans (MapKept.heap_alloc wr _).1, own_move (hrr.alloc _) (fun k hk => hB'.block k ((hrr.alloc _).lt k hk).2), World.grownBy.trans (World.grownBy_alloc wr _ (some g)) (grown_of_below hB' (some g))⟩
        cases hpx : p x <;> rw [hpx] at hcall hst
        · go_wp2_with (go_at_fn fn; refine hcall.mono ?_; rintro e w' ⟨rfl, hI', hB'⟩; obtain ⟨hbx, hrr', hgr'⟩ := hmv w' hB'; obtain ⟨hb0, hb1, hb2, hb3, hb4⟩ := hbx.cells; obtain ⟨⟨hr0, hr1, hr2, hr3, hr4⟩, hfr⟩ := row_at hrr' hyl ni (by omega))
          have hput := row_put hrr' hyl ni (by omega) x
          have hg5 := grown5 w' g (ni * 5) (.int .i64 x.f0) (.int .i64 x.f1) (.int .i64 x.f2) (.int .i64 x.f3) (.int .i64 x.f4)
          go_roundw
          case rel =>
            refine ⟨ni + 1, nj + 1, ys.set ni x, by go_num, by go_num, by omega, by omega, by rw [List.length_set]; exact hyl, ?_, ?_, hput, hIg _ _ hg5 hI', World.grownBy.trans hg (World.grownBy.trans hgr' hg5)⟩
            · rw [hst.out, set_take ys ni x (by omega), htk]
              simp
            · rw [List.drop_set_of_lt (by omega), ← List.drop_drop (i := 1), hdr, List.drop_drop]
          case measure => simp [intOf]; omega
        · go_wp2_with (go_at_fn fn; refine hcall.mono ?_; rintro e w' ⟨rfl, hI', hB'⟩; obtain ⟨hbx, hrr', hgr'⟩ := hmv w' hB'; obtain ⟨hb0, hb1, hb2, hb3, hb4⟩ := hbx.cells)
          go_roundw
          case rel =>
            refine ⟨ni, nj + 1, ys, rfl, by go_num, by omega, by omega, hyl, ?_, ?_, hrr', hI', World.grownBy.trans hg hgr'⟩
            · rw [hst.out, htk]
              simp
            · rw [← List.drop_drop (i := 1), hdr, List.drop_drop]
          case measure => simp [intOf]; omega
      · obtain rfl : nj = zs.length := by omega
        obtain ⟨wc, hrun, hrowc, hgc⟩ := clear_tail hrr hyl ni (cap - ni) 0 (by omega)
        have hfl := Lib.hid htk
        rw [List.take_length] at hfl
        have hnl := Lib.hid (congrArg List.length hfl.out)
        clear htk hdr
        have hcap2 : zs.length ≤ cap := by
          rcases hrr.2 with ⟨e, _⟩ | ⟨g', cap', cur, e, _, _, hnc, _⟩
          · cases e
          · cases e; exact hnc
        have hne1 : ¬ cap = ni := by omega
        have hne2 : ¬ ni = cap := by omega
        go_wp2
        go_ret
        have hl2 : (zs.filter fun x => !p x).length = ni := by rw [← hnl.out, List.length_take]; omega
        refine ⟨_, rfl, ?_, hIg _ _ hgc hI, World.grownBy.trans hg hgc⟩
        rw [hl2, ← hfl.out]
        exact hrowc
  · have hno : ∀ x ∈ zs, p x = false := fun x hx => by
      cases h : p x
      · rfl
      · exact absurd (List.any_eq_true.2 ⟨x, hx, h⟩) hany
    rw [idxIC_none p zs hno] at hidx
    have hf : zs.filter (fun x => !p x) = zs := List.filter_eq_self.2 fun x hx => by simp [hno x hx]
    rw [hf]
    go_enter Try.func61, Try.ntmps61
    go_wp2_with fail
    refine hidx.mono ?_
    rintro e w1 ⟨rfl, hI1, hB1⟩
    go_wp2
    go_ret
    exact ⟨_, rfl, own_move hrow (fun k hk => hB1.block k (hrow.lt k hk).2), hI1, grown_of_below hB1 _⟩
end Go.Proofs.Ytpggedoopjcflaa.PClaimHash
