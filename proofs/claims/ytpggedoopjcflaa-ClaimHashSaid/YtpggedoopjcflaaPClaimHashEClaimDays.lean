/- claim.Days at a view of one office. -/
import Derived.Test.YtpggedoopjcflaaPClaimHashx0
import Derived.Lib.Hide
import Derived.Deep.RegionHeld3
import Derived.BigQuiet
import Derived.Test.YtpggedoopjcflaaPClaimHashEClaimView
namespace Go.Proofs.Ytpggedoopjcflaa.PClaimHash
open Go.RowKit Go.Proofs.YtpggedoopjcflaaW.PrintWords
set_option maxRecDepth 100000
def encP (p : Int × Int) : List Value := [.int .i64 p.1, .int .i64 p.2]
theorem encP_len (s : List (Int × Int)) : (s.flatMap encP).length = s.length * 2 := by
  induction s with
  | nil => rfl
  | cons y r ih => rw [List.flatMap_cons, List.length_append, ih, List.length_cons]; simp [encP]; omega
/-- One day more. -/
def stepD (os : List Int) (l : List Cl) (out : List (Int × Int)) (d last : Int) : List (Int × Int) :=
  if showsB os (actC d l) = true then
    match out.getLast? with
    | some p => if p.2 = d - 1 then out.dropLast ++ [(p.1, last)] else out ++ [(d, last)]
    | none => [(d, last)]
  else out
def daysOut (os : List Int) (l : List Cl) : List Int → List (Int × Int) → List (Int × Int)
  | [], out => out
  | [_], out => out
  | d :: e :: r, out => daysOut os l (e :: r) (stepD os l out d (e - 1))
def daysI (l : List Cl) : List Int := [0, 73049] ++ l.flatMap fun c => [c.f2, c.f3 + 1]
theorem daysOut_step (os : List Int) (l : List Cl) (D : List Int) (k : Nat) (out : List (Int × Int)) (hk : k + 1 < D.length) : daysOut os l (D.drop k) out = daysOut os l (D.drop (k + 1)) (stepD os l out D[k] (D[k + 1] - 1)) := by
  rw [List.drop_eq_getElem_cons (by omega : k < D.length), List.drop_eq_getElem_cons hk]
  rfl
theorem daysOut_end (os : List Int) (l : List Cl) (D : List Int) (k : Nat) (out : List (Int × Int)) (hk : D.length ≤ k + 1) : daysOut os l (D.drop k) out = out := by
  rcases Nat.lt_or_ge k D.length with h | h
  · rw [List.drop_eq_getElem_cons h, List.drop_of_length_le hk]
    rfl
  · rw [List.drop_of_length_le h]
    rfl
/-- The last pair of a row. -/
theorem prow_last {W : World} {n₁ g cap m : Nat} {t : List (Int × Int)} {x : Int × Int} (hm : t.length = m) (h : W.ownsRow n₁ 63 2 (.slice (some ⟨g, 0, none⟩) (m + 1) cap) (m + 1) ((t ++ [x]).flatMap encP)) :
    W.cell? ⟨g, m * 2 + 1, none⟩ = some (.int .i64 x.2) ∧ W.frozen? ⟨g, m * 2 + 1, none⟩ = false ∧
    ∀ n : Int, (W.setCell ⟨g, m * 2 + 1, none⟩ (.int .i64 n)).ownsRow n₁ 63 2 (.slice (some ⟨g, 0, none⟩) (m + 1) cap) (m + 1) ((t ++ [(x.1, n)]).flatMap encP) := by
  subst hm
  obtain ⟨hl, hr⟩ := h
  rcases hr with ⟨e, _⟩ | ⟨g', cap', cur, e, hb, hh, hnc, hcm, hcs, htk⟩
  · cases e
  cases e
  have hsz : t.length * 2 + 2 ≤ cur.size := by rw [hcs]; omega
  have hcell : cur[t.length * 2 + 1]? = some (.int .i64 x.2) := by
    have e1 : cur[t.length * 2 + 1]? = ((t ++ [x]).flatMap encP)[t.length * 2 + 1]? := by
      rw [← htk, List.getElem?_take_of_lt (by omega), Array.getElem?_toList]
    rw [e1, List.flatMap_append, List.getElem?_append_right (by rw [encP_len]; omega), encP_len]
    rw [show t.length * 2 + 1 - t.length * 2 = 1 by omega]
    rfl
  refine ⟨by simp only [World.cell?, hh]; exact hcell, by simp [World.frozen?, hh], fun n => ⟨by rw [encP_len]; simp, .inr ⟨g, cap, _, rfl, hb, blk_set hh _ _, hnc, hcm, by rw [Array.size_setIfInBounds, hcs], ?_⟩⟩⟩
  rw [Array.toList_setIfInBounds, List.take_set, htk, List.flatMap_append, List.flatMap_append, List.set_append, if_neg (by rw [encP_len]; omega), encP_len, show t.length * 2 + 1 - t.length * 2 = 1 by omega]
  rfl
/-- The view's box. -/
def BoxedV (B : Nat) (Ao : Option Addr) (co : Nat) (W : World) : Prop := W.heap[B]? = some (.cells #[.int .i64 0, .slice Ao 1 co] 61 (0, 0))
theorem cells_newN' (W : World) (os : List Value) (T : TypeId) (N : Nat) (hN : N = W.heap.size) : ∀ j u, os[j]? = some u → (W.alloc (.cells os.toArray T)).cell? (Addr.add ⟨N, 0, none⟩ j) = some u := by
  subst hN
  exact cells_new W os T
theorem pair_info : (Try.prog.info? 63).map (fun i => (i.zero, i.size, i.bytes)) = some (some (.agg #[.int .i64 0, .int .i64 0]), 2, 16) := by kernel_rfl
theorem nums_take_step (l : List Cl) (k : Nat) (h : k < l.length) : nums .i64 ([0, 73049] ++ (l.take (k + 1)).flatMap fun c => [c.f2, c.f3 + 1]) = nums .i64 ([0, 73049] ++ (l.take k).flatMap fun c => [c.f2, c.f3 + 1]) ++ [.int .i64 l[k].f2, .int .i64 (l[k].f3 + 1)] := by
  rw [take_succ l k h, List.flatMap_append]
  simp [nums]
set_option maxHeartbeats 8000000 in
theorem Days_any (o : Int) (ho : 0 ≤ o ∧ o ≤ 63) (Ao : Option Addr) (co : Nat) (A0 : Option Addr) (c0 : Nat) (l0 : List Cl) (w : World) (hro : Kd.C (Kd.int .i64) w Ao 1 [o]) (hr0 : Kd.C k24 w A0 l0.length l0) (hc0 : l0.length ≤ c0) (hv : l0.all vldC = true) (hlen : l0.length ≤ 1000000)
    (D : List Int) (hD : Lib.compact ((daysI l0).mergeSort fun x y => decide (x ≤ y)) = D) (hDb : ∀ x ∈ D, 0 ≤ x ∧ x ≤ 73049) (hD1 : 1 ≤ D.length) (hDl : D.length ≤ 3000000) :
    Calls Try.prog 19 #[.agg #[.int .i64 0, .slice Ao 1 co], .slice A0 l0.length c0] w fun e w' => ∃ v, e = .returned (.tuple #[v, .int .i64 0]) ∧ w'.ownsRow w.heap.size 63 2 v (daysOut [o] l0 D []).length ((daysOut [o] l0 D []).flatMap encP) ∧ Below w.heap.size w w' := by
  have hB1 := (Below.refl w.heap.size w).alloc (Nat.le_refl _) (.cells #[.int .i64 0, .slice Ao 1 co] 61)
  have hck := check1 o ho Ao co A0 c0 l0 _ (Kd.C_below hro hB1) (Kd.C_below hr0 hB1) hc0 hv
  obtain ⟨i0, hi, hz0, hz1, hz2⟩ := info_parts Ints.int_info
  obtain ⟨j0, hj, hy0, hy1, hy2⟩ := info_parts pair_info
  have hml : 3518437208883 ≤ maxLen := by decide
  have hbv : BoxedV w.heap.size Ao co (w.alloc (.cells #[.int .i64 0, .slice Ao 1 co] 61)) := (MapKept.heap_alloc w _).1
  have hsz : w.heap.size < (w.alloc (.cells #[.int .i64 0, .slice Ao 1 co] 61)).heap.size := by simp
  go_enter Try.func19, Try.ntmps19
  go_wp2_with fail
  refine hck.mono ?_
  rintro e w1 ⟨rfl, hB2⟩
  obtain ⟨wb, hwb⟩ : ∃ wb, w.alloc (.cells #[.int .i64 0, .slice Ao 1 co] 61) = wb := ⟨_, rfl⟩
  rw [hwb] at hB1 hbv hsz hB2
  clear hck hwb
  have hCb := Kd.C_below hr0 hB1
  have hOb := Kd.C_below hro hB1
  have hrow0 : (w1.alloc (.cells #[.int .i64 0, .int .i64 73049] 3)).ownsRow wb.heap.size 3 1 (.slice (some ⟨w1.heap.size, 0, none⟩) 2 2) 2 (nums .i64 [0, 73049]) := ⟨rfl, .inr ⟨w1.heap.size, 2, _, rfl, hB2.size, (MapKept.heap_alloc w1 _).1, Nat.le_refl _, by decide, rfl, rfl⟩⟩
  have hB3 : Below wb.heap.size wb (w1.alloc (.cells #[.int .i64 0, .int .i64 73049] 3)) := hB2.alloc hB2.size _
  go_wp2
  go_loopw [7, 24] (fun v i wr => ∃ k : Nat, k ≤ l0.length ∧ i = .int .i64 k ∧ wr.ownsRow wb.heap.size 3 1 v (2 + 2 * k) (nums .i64 ([0, 73049] ++ (l0.take k).flatMap fun c => [c.f2, c.f3 + 1])) ∧ Below wb.heap.size wb wr) (fun _ i _ => l0.length - (intOf i).toNat)
  case atStart => exact ⟨0, Nat.zero_le _, rfl, hrow0, hB3⟩
  case round =>
    obtain ⟨k, hk, rfl, hrow, hB⟩ := hrel
    by_cases hlt : k < l0.length
    · obtain ⟨ad, rfl, hx0, hx1, hx2, hx3, hx4⟩ := at_nat (Kd.C_below hCb hB) k hlt hlt
      have hst := Lib.hid (nums_take_step l0 k hlt)
      have hvc := vldC_iff.1 (List.all_eq_true.1 hv _ (List.getElem_mem hlt))
      obtain ⟨c, hc⟩ : ∃ c, l0[k] = c := ⟨_, rfl⟩
      rw [hc] at hx0 hx1 hx2 hx3 hx4 hvc hst
      obtain ⟨hv0, hv1, hv2, hv3, hv4⟩ := hvc
      have hsb : wb.heap.size ≤ wr.heap.size := hB.size
      have hone : ∀ u ∈ [Value.int .i64 c.f2, .int .i64 (c.f3 + 1)], u.oneCell' = true := by simp [Value.oneCell']
      go_wp2_with (at_builtin; refine wpList_append_own _ rfl _ _ 52 rfl wb.heap.size 3 i0 (.int .i64 0) 1 8 Try.underlying52 hi hz0 hz1 hz2 rfl (by decide) _ (2 + 2 * k) _ rfl ((hrow.alloc _).alloc _) ⟨wr.heap.size + 1, 0, none⟩ 2 2 [.int .i64 c.f2, .int .i64 (c.f3 + 1)] rfl rfl (cells_newN' _ _ _ _ (by simp)) hone (by omega) (by omega) (by simp; omega) ?_; intro v' w5 hown5 hg5 hnil5)
      go_roundw
      case rel =>
        refine ⟨k + 1, by omega, by go_num, ?_, ((hB.alloc hB.size _).alloc (by simp; omega) _).grown hg5 (by simp; omega) (fun j e => (hrow.lt j e).1)⟩
        rw [hst.out, show 2 + 2 * (k + 1) = 2 + 2 * k + 2 by omega]
        exact hown5
      case measure => simp [intOf]; omega
    · obtain rfl : k = l0.length := by omega
      rw [List.take_length] at hrow
      have hdl : (daysI l0).length = 2 + 2 * l0.length := by
        have : ∀ l : List Cl, (l.flatMap fun c => [c.f2, c.f3 + 1]).length = 2 * l.length := by
          intro l
          induction l with
          | nil => rfl
          | cons y r ih => rw [List.flatMap_cons, List.length_append, ih, List.length_cons]; simp; omega
        unfold daysI
        rw [List.length_append, this]
        rfl
      have hrow' := hrow
      have ez : ([0, 73049] ++ l0.flatMap fun c => [c.f2, c.f3 + 1]) = daysI l0 := rfl
      rw [ez, ← hdl] at hrow'
      have hDz := Lib.hid hD
      have hZl : (daysI l0).length ≤ 2000002 := by omega
      obtain ⟨Z, hZ⟩ : ∃ Z, daysI l0 = Z := ⟨_, rfl⟩
      rw [hZ] at hrow' hDz hZl
      obtain ⟨Az, cz, rfl, hcz⟩ := own_slice hrow'
      have hsort := Ints.SortI wb.heap.size _ Z wr hrow' (by omega)
      clear hZ hdl ez hD hrow
      go_wp2_with fail
      refine hsort.mono ?_
      rintro e w2 ⟨rfl, hown2, hg2⟩
      have hml2 : (Z.mergeSort fun x y => decide (x ≤ y)).length = Z.length := List.length_mergeSort _
      have hcomp := Ints.CompactI wb.heap.size _ (Z.mergeSort fun x y => decide (x ≤ y)) w2 (by rw [hml2]; exact hown2) (by rw [hml2]; omega)
      rw [hDz.out] at hcomp
      go_wp2_with fail
      refine hcomp.mono ?_
      rintro e w3 ⟨vd, rfl, hown3, hg3⟩
      have hBw3 : Below wb.heap.size wb w3 := (hB.grown hg2 hB.size (fun k e => (hrow'.lt k e).1)).grown hg3 (by have := hB.size; have := hg2.size; omega) (fun k e => (hrow'.lt k e).1)
      obtain ⟨n, hn⟩ : ∃ n, D.length = n + 1 := ⟨D.length - 1, by omega⟩
      rw [hn] at hown3
      obtain ⟨gd, cd, rfl, hgd⟩ : ∃ gd cd, vd = .slice (some ⟨gd, 0, none⟩) (n + 1) cd ∧ wb.heap.size ≤ gd := by
        rcases hown3.2 with ⟨_, h0⟩ | ⟨g, cap, cur, e, hb, _⟩
        · omega
        · exact ⟨g, cap, e, hb⟩
      have hgdw := (hown3.lt gd rfl).2
      have hncd : n + 1 ≤ cd := by
        rcases hown3.2 with ⟨e, _⟩ | ⟨g', cap', cur, e, _, _, hnc, _⟩
        · cases e
        · cases e; exact hnc
      have hdcell : ∀ j (hj : j < D.length), w3.cell? ⟨gd, j, none⟩ = some (.int .i64 D[j]) := by
        intro j hj
        have := cells_of_own hown3 j (.int .i64 D[j]) (by simp [nums, hj])
        have e1 : (Addr.add ⟨gd, 0, none⟩ j) = ⟨gd, j, none⟩ := by
          rcases j with _ | j
          · rfl
          · simp [Addr.add]
        rwa [e1] at this
      have hb3 : w3.heap[w.heap.size]? = some (.cells #[.int .i64 0, .slice Ao 1 co] 61 (0, 0)) := (hBw3.block _ hsz).trans hbv
      have hsz3 : w.heap.size < w3.heap.size := Nat.lt_of_lt_of_le hsz hBw3.size
      clear hsort hcomp hown2 hg2 hg3 hml2 hB2 hrow0 hB3
      have hnn1 : ¬ cd = n := by omega
      go_wp2
      go_loopw [10, 47] (fun v i wq => ∃ (k : Nat) (outs : List (Int × Int)), k ≤ n ∧ i = .int .i64 k ∧ daysOut [o] l0 (D.drop k) outs = daysOut [o] l0 D [] ∧ outs.length ≤ k ∧ wq.ownsRow w3.heap.size 63 2 v outs.length (outs.flatMap encP) ∧ Below w3.heap.size w3 wq) (fun _ i _ => n - (intOf i).toNat)
      case atStart => exact ⟨0, [], Nat.zero_le _, rfl, rfl, Nat.le_refl _, World.ownsRow_nil _ _ _ _, Below.refl _ _⟩
      case round =>
        rename World => wq
        obtain ⟨k, outs, hk, rfl, hout, hol, hrq, hBq⟩ := hrel
        obtain ⟨Ao2, co2, rfl, hco2⟩ := own_slice hrq
        have hbox : wq.heap[w.heap.size]? = some (.cells #[.int .i64 0, .slice Ao 1 co] 61 (0, 0)) := (hBq.block _ hsz3).trans hb3
        by_cases hlt : k < n
        · have hd0 := (hBq.cell (p := ⟨gd, k, none⟩) hgdw).trans (hdcell k (by omega))
          have hd1 := (hBq.cell (p := ⟨gd, k + 1, none⟩) hgdw).trans (hdcell (k + 1) (by omega))
          have hstep := Lib.hid (daysOut_step [o] l0 D k outs (by omega))
          have hb0 := hDb _ (List.getElem_mem (show k < D.length by omega))
          have hb1 := hDb _ (List.getElem_mem (show k + 1 < D.length by omega))
          obtain ⟨d, hd⟩ : ∃ d, D[k]'(by omega) = d := ⟨_, rfl⟩
          obtain ⟨d', hd'⟩ : ∃ d', D[k + 1]'(by omega) = d' := ⟨_, rfl⟩
          rw [hd] at hd0 hstep hb0
          rw [hd'] at hd1 hstep hb1
          have hv0 : wq.cell? ⟨w.heap.size, 0, none⟩ = some (.int .i64 0) := by simp [World.cell?, hbox]
          have hv1 : wq.cell? ⟨w.heap.size, 1, none⟩ = some (.slice Ao 1 co) := by simp [World.cell?, hbox]
          have hBwq : Below wb.heap.size wb wq := hBw3.trans (hBq.mono hBw3.size)
          have hCq := Kd.C_below hCb hBwq
          have hOq := Kd.C_below hOb hBwq
          have hszq : w.heap.size < wq.heap.size := Nat.lt_of_lt_of_le hsz hBwq.size
          have hgdq : gd < wq.heap.size := Nat.lt_of_lt_of_le hgdw hBq.size
          have hone : ∀ u ∈ [Value.int .i64 d, .int .i64 (d' - 1)], u.oneCell' = true := by simp [Value.oneCell']
          cases hsh : showsB [o] (actC d l0)
          · have hst : stepD [o] l0 outs d (d' - 1) = outs := by unfold stepD; rw [hsh]; rfl
            rw [hst] at hstep
            go_wp2
            go_region_held3 (fun w' => w'.cell? ⟨w.heap.size, 0, none⟩ = some (.int .i64 0) ∧ w'.cell? ⟨w.heap.size, 1, none⟩ = some (.slice Ao 1 co)) (go_keep)
              (first
                | (go_at_call 37; refine (shows_any 0 (by decide) Ao co [o] Aa ca (actC d l0) _ (Kd.R_reads' (R_ofC (ok := fun _ => True) howna (fun _ _ => trivial))).2.2 (Kd.C_below hOq (pw_below_drewN (Below.refl _ _) _ |>.trans hBa))).mono ?_; rintro e w6 ⟨rfl, hBs⟩; have hbxs := (hBs.block w.heap.size (by have := hBa.size; simp at this; omega)).trans hbxa; have hvs0 : w6.cell? ⟨w.heap.size, 0, none⟩ = some (.int .i64 0) := (by simp [World.cell?, hbxs]); have hvs1 : w6.cell? ⟨w.heap.size, 1, none⟩ = some (.slice Ao 1 co) := (by simp [World.cell?, hbxs]))
                | (go_at_call 38; refine (active_any A0 c0 l0 d _ (Kd.C_below hCq (pw_below_drewN (Below.refl _ _) _)) (by omega)).mono ?_; rintro e w' ⟨va, rfl, howna, hBa⟩; obtain ⟨Aa, ca, rfl, hca⟩ := own_slice howna; have hbxa := (hBa.block w.heap.size hszq).trans hbox; have hva0 : w'.cell? ⟨w.heap.size, 0, none⟩ = some (.int .i64 0) := (by simp [World.cell?, hbxa]); have hva1 : w'.cell? ⟨w.heap.size, 1, none⟩ = some (.slice Ao 1 co) := (by simp [World.cell?, hbxa])))
            all_goals
              have hBq6 : Below wq.heap.size wq w6 := ((pw_below_drewN (Below.refl wq.heap.size wq) _).trans hBa).trans (hBs.mono (by have := hBa.size; simpa using this))
              go_wp2
              go_roundw
              case rel => exact ⟨k + 1, outs, by omega, by go_num, by rw [← hout, hstep.out], by omega, own_move hrq (fun j hj => hBq6.block j (hrq.lt j hj).2), hBq.trans (hBq6.mono hBq.size)⟩
              case measure => simp [intOf]; omega
          · have hst : stepD [o] l0 outs d (d' - 1) = (match outs.getLast? with
              | some p => if p.2 = d - 1 then outs.dropLast ++ [(p.1, d' - 1)] else outs ++ [(d, d' - 1)]
              | none => [(d, d' - 1)]) := by unfold stepD; rw [hsh]; rfl
            rw [hst] at hstep
            clear hst
            go_wp2
            go_region_held3 (fun w' => w'.cell? ⟨w.heap.size, 0, none⟩ = some (.int .i64 0) ∧ w'.cell? ⟨w.heap.size, 1, none⟩ = some (.slice Ao 1 co)) (go_keep)
              (first
                | (go_at_call 37; refine (shows_any 0 (by decide) Ao co [o] Aa ca (actC d l0) _ (Kd.R_reads' (R_ofC (ok := fun _ => True) howna (fun _ _ => trivial))).2.2 (Kd.C_below hOq (pw_below_drewN (Below.refl _ _) _ |>.trans hBa))).mono ?_; rintro e w6 ⟨rfl, hBs⟩; have hbxs := (hBs.block w.heap.size (by have := hBa.size; simp at this; omega)).trans hbxa; have hvs0 : w6.cell? ⟨w.heap.size, 0, none⟩ = some (.int .i64 0) := (by simp [World.cell?, hbxs]); have hvs1 : w6.cell? ⟨w.heap.size, 1, none⟩ = some (.slice Ao 1 co) := (by simp [World.cell?, hbxs]))
                | (go_at_call 38; refine (active_any A0 c0 l0 d _ (Kd.C_below hCq (pw_below_drewN (Below.refl _ _) _)) (by omega)).mono ?_; rintro e w' ⟨va, rfl, howna, hBa⟩; obtain ⟨Aa, ca, rfl, hca⟩ := own_slice howna; have hbxa := (hBa.block w.heap.size hszq).trans hbox; have hva0 : w'.cell? ⟨w.heap.size, 0, none⟩ = some (.int .i64 0) := (by simp [World.cell?, hbxa]); have hva1 : w'.cell? ⟨w.heap.size, 1, none⟩ = some (.slice Ao 1 co) := (by simp [World.cell?, hbxa])))
            all_goals
              have hBq6 : Below wq.heap.size wq w6 := ((pw_below_drewN (Below.refl wq.heap.size wq) _).trans hBa).trans (hBs.mono (by have := hBa.size; simpa using this))
              have hr6 := own_move hrq (w1 := w6) (fun j hj => hBq6.block j (hrq.lt j hj).2)
              have hB6 := hBq.trans (hBq6.mono hBq.size)
              have hd16 := (hBq6.cell (p := ⟨gd, k + 1, none⟩) hgdq).trans hd1
              have hs6 : w3.heap.size ≤ w6.heap.size := hB6.size
              clear hBs hBa howna hbxa hbxs hrq
              rcases eq_snoc outs with rfl | ⟨t, x, rfl⟩
              · simp only [List.length_nil] at hr6 ⊢
                go_wp2_with (at_builtin; refine wpList_append_own _ rfl _ _ 57 rfl w3.heap.size 63 j0 (.agg #[.int .i64 0, .int .i64 0]) 2 16 Try.underlying57 hj hy0 hy1 hy2 rfl (by decide) _ 0 _ rfl (hr6.alloc _) ⟨w6.heap.size, 0, none⟩ 1 1 [.int .i64 d, .int .i64 (d' - 1)] rfl rfl (cells_newN' _ _ _ _ (by simp)) hone (by omega) (by omega) (by simp; omega) ?_; intro v' w7 hown7 hg7 hnil7)
                go_roundw
                case rel => exact ⟨k + 1, [(d, d' - 1)], by omega, by go_num, by rw [← hout, hstep.out]; rfl, by simp, by simpa [encP] using hown7, (hB6.alloc hB6.size _).grown hg7 (by simp; omega) (fun j e => (hr6.lt j e).1)⟩
                case measure => simp [intOf]; omega
              · obtain ⟨m, hm⟩ : ∃ m, t.length = m := ⟨_, rfl⟩
                have hl : (t ++ [x]).length = m + 1 := by simp [hm]
                rw [hl] at hr6 ⊢
                obtain ⟨go, rfl, hgo⟩ : ∃ go, Ao2 = some ⟨go, 0, none⟩ ∧ w3.heap.size ≤ go := by
                  rcases hr6.2 with ⟨e, _⟩ | ⟨g, cap, cur, e, hb, _⟩
                  · cases e
                  · cases e; exact ⟨g, rfl, hb⟩
                obtain ⟨hxc, hxf, hxs⟩ := prow_last hm hr6
                have hmk : m + 1 ≤ k := by rw [← hl]; exact hol
                have hgl : (t ++ [x]).getLast? = some x := by simp
                have hdl2 : (t ++ [x]).dropLast = t := by simp
                rw [hgl, hdl2] at hstep
                by_cases hjn : x.2 = d - 1
                · have hstep2 := hstep.out
                  simp only [hjn, if_true] at hstep2
                  have Hs2 := Lib.hid hstep2
                  have hjd : (x.2 == d - 1) = true := by simpa using hjn
                  clear hstep hstep2 hgl hdl2
                  go_wp2
                  go_roundw
                  case rel => exact ⟨k + 1, t ++ [(x.1, d' - 1)], by omega, by go_num, by rw [← hout, Hs2.out], by simp; omega, by rw [show (t ++ [(x.1, d' - 1)]).length = m + 1 by simp [hm]]; exact hxs _, hB6.setCell (p := ⟨go, m * 2 + 1, none⟩) hgo _⟩
                  case measure => simp [intOf]; omega
                · have hstep2 := hstep.out
                  simp only [hjn, if_false] at hstep2
                  have Hs2 := Lib.hid hstep2
                  have hjd : (x.2 == d - 1) = false := by simpa using hjn
                  clear hstep hstep2 hgl hdl2
                  go_wp2_with (at_builtin; refine wpList_append_own _ rfl _ _ 57 rfl w3.heap.size 63 j0 (.agg #[.int .i64 0, .int .i64 0]) 2 16 Try.underlying57 hj hy0 hy1 hy2 rfl (by decide) _ (m + 1) _ rfl (hr6.alloc _) ⟨w6.heap.size, 0, none⟩ 1 1 [.int .i64 d, .int .i64 (d' - 1)] rfl rfl (cells_newN' _ _ _ _ (by simp)) hone (by omega) (by omega) (by simp; omega) ?_; intro v' w7 hown7 hg7 hnil7)
                  go_roundw
                  case rel => exact ⟨k + 1, t ++ [x] ++ [(d, d' - 1)], by omega, by go_num, by rw [← hout, Hs2.out], by simp; omega, by rw [show (t ++ [x] ++ [(d, d' - 1)]).length = m + 1 + 1 by simp [hm], List.flatMap_append]; exact hown7, (hB6.alloc hB6.size _).grown hg7 (by simp; omega) (fun j e => (hr6.lt j e).1)⟩
                  case measure => simp [intOf]; omega
        · obtain rfl : k = n := by omega
          rw [daysOut_end [o] l0 D _ outs (by omega)] at hout
          have hres := Lib.hid hout
          clear hout
          go_wp2
          go_ret2
          rw [← hres.out]
          exact ⟨_, rfl, own_weaken hrq (by omega), ((hB1.trans (hBw3.mono (by omega))).trans (hBq.mono (by omega)))⟩
end Go.Proofs.Ytpggedoopjcflaa.PClaimHash
