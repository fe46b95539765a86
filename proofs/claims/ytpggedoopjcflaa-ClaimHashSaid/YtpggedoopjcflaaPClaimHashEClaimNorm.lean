/- claim.Normal: the walk. -/
import Derived.Test.YtpggedoopjcflaaPClaimHashx0
import Derived.Test.YtpggedoopjcflaaPClaimHashx2
import Derived.Deep.RegionHeld3
import Derived.Deep.AppendLies
import Derived.BigQuiet
import Derived.Maps.AppendAt
import Derived.Lib.Hide
import Derived.Test.YtpggedoopjcflaaPClaimHashEClaimNormG
namespace Go.Proofs.Ytpggedoopjcflaa.PClaimHash
open Go.RowKit Go.Proofs.YtpggedoopjcflaaW.PrintWords
set_option maxRecDepth 100000
theorem heap_alloc_old' (w : World) (o : Obj) {i : Nat} (h : i < w.heap.size) : (w.alloc o).heap[i]? = w.heap[i]? := by
  show (w.heap.push o)[i]? = w.heap[i]?
  rw [Array.getElem?_push, if_neg (Nat.ne_of_lt h)]
/-- What lay below n₁ lies as it lay, but for block b. -/
structure KM (n₁ b : Nat) (W W' : World) : Prop where
  size : W.heap.size ≤ W'.heap.size
  block : ∀ j, j < n₁ → j ≠ b → W'.heap[j]? = W.heap[j]?
theorem KM.refl (n₁ b : Nat) (W : World) : KM n₁ b W W := ⟨Nat.le_refl _, fun _ _ _ => rfl⟩
theorem KM.trans {n₁ b : Nat} {X Y Z : World} (h : KM n₁ b X Y) (k : KM n₁ b Y Z) : KM n₁ b X Z := ⟨Nat.le_trans h.size k.size, fun j h1 h2 => (k.block j h1 h2).trans (h.block j h1 h2)⟩
theorem KM.alloc {n₁ b : Nat} {X Y : World} (h : KM n₁ b X Y) (hn : n₁ ≤ X.heap.size) (o : Obj) : KM n₁ b X (Y.alloc o) :=
  ⟨Nat.le_trans h.size (by simp), fun j h1 h2 => (heap_alloc_old' Y o (Nat.lt_of_lt_of_le h1 (Nat.le_trans hn h.size))).trans (h.block j h1 h2)⟩
theorem KM.grown {n₁ b : Nat} {X Y Z : World} {row : Option Nat} (h : KM n₁ b X Y) (hn : n₁ ≤ X.heap.size) (hg : Y.grownBy Z row) (hr : ∀ j, row = some j → n₁ ≤ j ∨ j = b) : KM n₁ b X Z :=
  ⟨Nat.le_trans h.size hg.size, fun j h1 h2 => (hg.block j (Nat.lt_of_lt_of_le h1 (Nat.le_trans hn h.size)) (fun e => by rcases hr j e.symm with h | h <;> omega)).trans (h.block j h1 h2)⟩
theorem KM.cell {n₁ b : Nat} {X Y : World} (h : KM n₁ b X Y) {p : Addr} {v : Value} (hp : p.block < n₁) (hb : p.block ≠ b) (hc : X.cell? p = some v) : Y.cell? p = some v := by
  have := h.block p.block hp hb
  simpa [World.cell?, this] using hc
theorem own_slice {W : World} {base : Nat} {e : TypeId} {size n : Nat} {v : Value} {xs : List Value} (h : W.ownsRow base e size v n xs) : ∃ A c, v = .slice A n c ∧ n ≤ c := by
  rcases h.2 with ⟨rfl, rfl⟩ | ⟨g, cap, cur, rfl, _, _, hn, _⟩
  · exact ⟨_, _, rfl, Nat.le_refl _⟩
  · exact ⟨_, _, rfl, hn⟩
theorem cells_newN (W : World) (os : List Value) (T : TypeId) (N : Nat) (hN : N = W.heap.size) : ∀ j u, os[j]? = some u → (W.alloc (.cells os.toArray T)).cell? (Addr.add ⟨N, 0, none⟩ j) = some u := by
  subst hN
  exact cells_new W os T
theorem cells_up {W : World} {os : List Value} {ad : Addr} (o : Obj) (h : ∀ j u, os[j]? = some u → W.cell? (ad.add j) = some u) : ∀ j u, os[j]? = some u → (W.alloc o).cell? (ad.add j) = some u :=
  fun j u hj => (World.cell?_alloc_some W _ o (by rw [h j u hj]; rfl)).trans (h j u hj)
theorem grown3 {W X : World} (a b c : Obj) (hX : X.heap = W.heap) (h1 : X.os = W.os) (h2 : X.tape = W.tape) (h3 : X.output = W.output) : W.grownBy (((X.alloc a).alloc b).alloc c) none :=
  ⟨h1, h2, h3, by simp [World.alloc, hX]; omega, fun k hk _ => by
    have e1 : k < X.heap.size := by rw [hX]; exact hk
    rw [heap_alloc_old' _ c (by simp; omega), heap_alloc_old' _ b (by simp; omega), heap_alloc_old' _ a e1, hX]⟩
theorem blk_up {W : World} {k : Nat} {x : Obj} (o : Obj) (h : W.heap[k]? = some x) : (W.alloc o).heap[k]? = some x :=
  (heap_alloc_old' W o (Array.getElem?_eq_some_iff.1 h).1).trans h
/-- Behind the append, and the store into the map. -/
theorem append_turn {Wq X w5 : World} {b g Bc : Nat} {row : Option Nat} {G : List Gr} {c : Cl} {o1 o2 o3 : Obj} (hM : Map.MapIs Wq b encK (prsG G)) (hbx : BoxC Bc c Wq) 
    (hg : (((X.alloc o1).alloc o2).alloc o3).grownBy w5 row) (hat : row = some g ∨ g = (((X.alloc o1).alloc o2).alloc o3).heap.size) (hrow : some Bc ≠ row) (hb : some b ≠ row) (v' : Value) (hX : X.heap = Wq.heap) (h1 : X.os = Wq.os) (h2 : X.tape = Wq.tape) (h3 : X.output = Wq.output) :
    ∃ w6, (Instr.mapUpdate 37 (.map (some b)) (encK (keyC c)) v').run Try.prog w5 = .ok () w6 ∧ Map.MapIs w6 b encK (Map.put (keyC c) v' (prsG G)) ∧ Wq.grownBy w5 row ∧ w5.grownBy w6 (some b) ∧ (row = some g ∨ Wq.heap.size ≤ g) ∧
      BoxC Bc c w5 ∧ BoxC Bc c w6 := by
  have hq0 := grown3 (W := Wq) o1 o2 o3 hX h1 h2 h3
  have hq5 : Wq.grownBy w5 row := ⟨hg.os.trans hq0.os, hg.tape.trans hq0.tape, hg.output.trans hq0.output, Nat.le_trans hq0.size hg.size, fun i hi hne => (hg.block i (Nat.lt_of_lt_of_le hi hq0.size) hne).trans (hq0.block i hi (by simp))⟩
  obtain ⟨w6, hrun6, hM6, hg6, hs6⟩ := (hM.kept hq5 hb).update keyK Try.underlying37 (keyC c) v'
  have hbx5 : BoxC Bc c w5 := (hq5.block Bc (Array.getElem?_eq_some_iff.1 hbx).1 hrow).trans hbx
  have hne : Bc ≠ b := by
    rintro rfl
    obtain ⟨ys, cl, hh, _⟩ := hM
    rw [show Wq.heap[Bc]? = _ from hbx] at hh
    cases hh
  have hbx6 : BoxC Bc c w6 := (hg6.block Bc (Array.getElem?_eq_some_iff.1 hbx5).1 (by simpa using hne)).trans hbx5
  exact ⟨w6, hrun6, hM6, hq5, hg6, hat.imp_right (fun e => by rw [e]; exact hq0.size), hbx5, hbx6⟩
/-- Between two rounds. -/
structure NI (w w3 : World) (b : Nat) (zs : List Cl) (k : Nat) (wr : World) (G : List Gr) : Prop where
  abs : absG G = groups (zs.take k)
  rows : GrAt wr w3.heap.size G
  map : Map.MapIs wr b encK (prsG G)
  km : KM w3.heap.size b w3 wr
  below : Below w.heap.size w wr
section
variable {w w3 W W' : World} {b k : Nat} {zs : List Cl} {G G1 G2 : List Gr} {c : Cl}
theorem NI.alloc (h : NI w w3 b zs k W G) (o : Obj) : NI w w3 b zs k (W.alloc o) G := ⟨h.abs, h.rows.alloc o, h.map.alloc o, h.km.alloc (Nat.le_refl _) o, h.below.alloc h.below.size o⟩
theorem own_drewN {W : World} {base : Nat} {e : TypeId} {size n : Nat} {v : Value} {xs : List Value} (h : W.ownsRow base e size v n xs) (q : Nat) : (W.drewN q).ownsRow base e size v n xs := h
theorem NI.drewN (h : NI w w3 b zs k W G) (q : Nat) : NI w w3 b zs k (W.drewN q) G := ⟨h.abs, ⟨h.rows.rows, h.rows.ne, h.rows.apart⟩, h.map, ⟨h.km.size, h.km.block⟩, ⟨h.below.os, h.below.tape, h.below.output, h.below.size, h.below.block⟩⟩
/-- The store into the map. -/
theorem NI.stored {G' : List Gr} (habs : absG G' = groups (zs.take k)) (hr : GrAt W w3.heap.size G') (hM : Map.MapIs W' b encK (prsG G')) (hk : KM w3.heap.size b w3 W) (hB : Below w.heap.size w W) (hg : W.grownBy W' (some b)) (hb : b < w3.heap.size) (hwb : w.heap.size ≤ b) : NI w w3 b zs k W' G' :=
  ⟨habs, hr.below hg hb, hM, hk.grown (Nat.le_refl _) hg (fun j e => by cases e; exact .inr rfl), hB.grown hg hB.size (fun j e => by cases e; exact hwb)⟩
theorem NI.new {W6 : World} {g cap : Nat} (h : NI w w3 b zs k W G) (hb : b < w3.heap.size) (hwb : w.heap.size ≤ b) (hstep : groups (zs.take (k + 1)) = putG c (groups (zs.take k))) (hn : ∀ x ∈ G, x.1 ≠ keyC c)
    (hq : W.grownBy W' none) (hown : W'.ownsRow w3.heap.size 24 5 (.slice (some ⟨g, 0, none⟩) 1 cap) 1 (encCl c)) (hg : W.heap.size ≤ g) (hM : Map.MapIs W6 b encK (Map.put (keyC c) (.slice (some ⟨g, 0, none⟩) 1 cap) (prsG G))) (hg6 : W'.grownBy W6 (some b)) :
    NI w w3 b zs (k + 1) W6 (G ++ [(keyC c, .slice (some ⟨g, 0, none⟩) 1 cap, [c])]) :=
  NI.stored (by rw [← putG_none c _ G hn, h.abs, hstep]) (h.rows.more hq (by simpa using hown) (by simp) ⟨g, rfl, hg⟩) (by rw [← put_none (keyC c) _ [c] G hn]; exact hM) (h.km.grown (Nat.le_refl _) hq (by simp)) (h.below.grown hq h.below.size (by simp)) hg6 hb hwb
theorem NI.longer {W6 : World} {gb g cap cap' m : Nat} {t : List Cl} {x : Cl} (h : NI w w3 b zs k W (G1 ++ (keyC c, .slice (some ⟨gb, 0, none⟩) (m + 1) cap, t ++ [x]) :: G2)) (ht : t.length = m) (hb : b < w3.heap.size) (hwb : w.heap.size ≤ b) (hstep : groups (zs.take (k + 1)) = putG c (groups (zs.take k))) (hn : ∀ x ∈ G1, x.1 ≠ keyC c) (hx : ¬ c.f2 ≤ x.f3 + 1)
    (hq : W.grownBy W' (some gb)) (hown : W'.ownsRow w3.heap.size 24 5 (.slice (some ⟨g, 0, none⟩) (m + 1 + 1) cap') (m + 1 + 1) ((t ++ [x]).flatMap encCl ++ encCl c)) (hg : some gb = some g ∨ W.heap.size ≤ g)
    (hM : Map.MapIs W6 b encK (Map.put (keyC c) (.slice (some ⟨g, 0, none⟩) (m + 1 + 1) cap') (prsG (G1 ++ (keyC c, .slice (some ⟨gb, 0, none⟩) (m + 1) cap, t ++ [x]) :: G2)))) (hg6 : W'.grownBy W6 (some b)) :
    NI w w3 b zs (k + 1) W6 (G1 ++ (keyC c, .slice (some ⟨g, 0, none⟩) (m + 1 + 1) cap', t ++ [x] ++ [c]) :: G2) := by
  have hj : joinLast (t ++ [x]) c = t ++ [x] ++ [c] := by rw [joinLast_snoc, if_neg hx]
  have hgb : w3.heap.size ≤ gb ∧ gb < W.heap.size := (h.rows.rows _ (List.mem_append_right _ (List.mem_cons_self ..))).lt gb rfl
  have e1 := putG_split c G2 (keyC c, .slice (some ⟨gb, 0, none⟩) (m + 1) cap, t ++ [x]) rfl (.slice (some ⟨g, 0, none⟩) (m + 1 + 1) cap') G1 hn
  simp only [hj] at e1
  refine NI.stored (by rw [← e1, h.abs, hstep]) (GrAt.turn (s' := t ++ [x] ++ [c]) h.rows hq ?_ (by simp) (by rcases hg with e | e; (exact .inl e.symm); exact .inr ⟨g, rfl, e⟩)) ?_ (h.km.grown (Nat.le_refl _) hq (fun j e => by cases e; exact .inl hgb.1)) (h.below.grown hq h.below.size (fun j e => by cases e; exact Nat.le_trans (Nat.le_trans hwb (Nat.le_of_lt hb)) hgb.1)) hg6 hb hwb
  · have hl : (t ++ [x] ++ [c]).length = m + 1 + 1 := by simp [ht]
    rw [hl]
    simpa using hown
  · rw [put_split (keyC c) _ (t ++ [x] ++ [c]) G2 _ rfl G1 hn] at hM
    exact hM
theorem NI.merged {gb cap m : Nat} {t : List Cl} {x : Cl} (h : NI w w3 b zs k W (G1 ++ (keyC c, .slice (some ⟨gb, 0, none⟩) (m + 1) cap, t ++ [x]) :: G2)) (ht : t.length = m) (hb : b < w3.heap.size) (hwb : w.heap.size ≤ b) (hstep : groups (zs.take (k + 1)) = putG c (groups (zs.take k))) (hn : ∀ x ∈ G1, x.1 ≠ keyC c) (hx : c.f2 ≤ x.f3 + 1) :
    NI w w3 b zs (k + 1) (W.setCell ⟨gb, m * 5 + 3, none⟩ (.int .i64 (max x.f3 c.f3))) (G1 ++ (keyC c, .slice (some ⟨gb, 0, none⟩) (m + 1) cap, t ++ [{ x with f3 := max x.f3 c.f3 }]) :: G2) := by
  have hj : joinLast (t ++ [x]) c = t ++ [{ x with f3 := max x.f3 c.f3 }] := by rw [joinLast_snoc, if_pos hx]
  have hrow := h.rows.rows _ (List.mem_append_right _ (List.mem_cons_self ..))
  have hgb : w3.heap.size ≤ gb ∧ gb < W.heap.size := hrow.lt gb rfl
  have hl : (t ++ [x]).length = m + 1 := by simp [ht]
  have hq : W.grownBy (W.setCell ⟨gb, m * 5 + 3, none⟩ (.int .i64 (max x.f3 c.f3))) (some gb) := ⟨rfl, rfl, rfl, by simp [World.setCell], fun j _ hj => Below.heap_setCell _ _ _ j (fun e => hj (by rw [e]))⟩
  have e1 := putG_split c G2 (keyC c, .slice (some ⟨gb, 0, none⟩) (m + 1) cap, t ++ [x]) rfl (.slice (some ⟨gb, 0, none⟩) (m + 1) cap) G1 hn
  simp only [hj] at e1
  simp only [← hl] at hrow
  have hset := (row_last hrow).2.2 (max x.f3 c.f3)
  rw [ht, hl] at hset
  refine ⟨by rw [← e1, h.abs, hstep], GrAt.turn (s' := t ++ [{ x with f3 := max x.f3 c.f3 }]) h.rows hq ?_ (by simp) (.inl rfl), ?_, h.km.grown (Nat.le_refl _) hq (fun j e => by cases e; exact .inl hgb.1), h.below.grown hq h.below.size (fun j e => by cases e; exact Nat.le_trans (Nat.le_trans hwb (Nat.le_of_lt hb)) hgb.1)⟩
  · have hl2 : (t ++ [{ x with f3 := max x.f3 c.f3 }]).length = m + 1 := by simp [ht]
    rw [hl2]
    exact hset
  · have : prsG (G1 ++ (keyC c, .slice (some ⟨gb, 0, none⟩) (m + 1) cap, t ++ [{ x with f3 := max x.f3 c.f3 }]) :: G2) = prsG (G1 ++ (keyC c, .slice (some ⟨gb, 0, none⟩) (m + 1) cap, t ++ [x]) :: G2) := by simp [prsG]
    rw [this]
    exact h.map.kept hq (by simp; omega)
end
set_option maxHeartbeats 8000000 in
theorem Normal_ok (A0 : Option Addr) (c0 : Nat) (l0 : List Cl) (w : World) (hr0 : Kd.C k24 w A0 l0.length l0) (hc0 : l0.length ≤ c0) (hv : l0.all vldC = true) (hlen : l0.length ≤ 3518437208882) :
    Calls Try.prog 5 #[.slice A0 l0.length c0] w fun e w' =>
      ((normC l0).length ≤ 64 ∧ ∃ v0_ : Value, e = .returned (.tuple #[v0_, .int .i64 0]) ∧ w'.ownsRow w.heap.size 24 5 v0_ (normC l0).length ((normC l0).flatMap encCl) ∧ Below w.heap.size w w') ∨
      (64 < (normC l0).length ∧ e = .returned (.tuple #[.slice none 0 0, .int .i64 4]) ∧ Below w.heap.size w w') := by
  have hval := claim_valid.calls (l0.length + 1) A0 c0 l0 0 w hr0 hc0 (by rw [valid_eq l0 (C_le hr0), hv]; rfl)
  have hmm := @run_makeMap Try.prog
  obtain ⟨i0, hi, hz0, hz1, hz2⟩ := info_parts info24
  have hml : 3518437208883 ≤ maxLen := by decide
  go_enter Try.func5, Try.ntmps5
  go_wp2_with fail
  refine hval.mono ?_
  rintro e w1 ⟨rfl, hB1⟩
  have hC1 := Kd.C_below hr0 hB1
  have hmap1 := Map.MapIs.made w1 encK
  have hC2 := Kd.C_below (Kd.C_below hC1 ((Below.refl _ w1).alloc (Nat.le_refl _) (.map #[] 0))) ((Below.refl _ (w1.alloc (.map #[] 0))).alloc (Nat.le_refl _) (.cells #[Value.slice A0 l0.length c0] 25))
  clear hval
  go_wp2_with fail
  refine ((callsIn_wide (n := 1)).1 (valuesC_in Fence.wide 1 trivial rfl A0 l0.length c0 (w1.alloc (.map #[] 0)))).mono ?_
  rintro e w2 ⟨rfl, rfl⟩
  go_wp2_with fail
  refine (SortedFuncC _ A0 c0 l0 (by omega) _ ?_ ?_ hC2).mono ?_
  · simp
  · exact World.cell?_alloc_at _ _ _ 0 (by simp)
  rintro e w3 ⟨v, zs, rfl, hp, hs, hown, hB3⟩
  have hB13 : Below w.heap.size w w3 := ((hB1.alloc hB1.size _).alloc (by have := hB1.size; simp; omega) _).trans (hB3.mono (by have := hB1.size; simp; omega))
  have hmap3 : Map.MapIs w3 w1.heap.size encK [] := (hmap1.alloc (.cells #[Value.slice A0 l0.length c0] 25)).move (hB3.block _ (by simp; omega))
  have hb3 : w1.heap.size < w3.heap.size := hmap3.lt
  have hwb : w.heap.size ≤ w1.heap.size := hB1.size
  obtain ⟨A, cz, rfl, hcz⟩ := own_slice hown
  have hCz := (Kd.R_reads' (R_ofC (ok := fun _ => True) hown (fun _ _ => trivial))).2.2
  have hzv : ∀ c ∈ zs, vldC c = true := fun c hc => List.all_eq_true.1 hv c (hp.mem_iff.1 hc)
  have hzl : zs.length ≤ 3518437208882 := by rw [hp.length_eq]; exact hlen
  clear hC2 hmap1 hC1 hr0
  go_wp2
  go_loopw [23] (fun i wr => ∃ (k : Nat) (G : List Gr), k ≤ zs.length ∧ i = .int .i64 k ∧ NI w w3 w1.heap.size zs k wr G) (fun i _ => zs.length - (intOf i).toNat)
  case atStart => exact ⟨0, [], Nat.zero_le _, rfl, rfl, ⟨by simp, by simp, by simp⟩, hmap3, KM.refl _ _ _, hB13⟩
  case round =>
    obtain ⟨k, G, hk, rfl, hNI⟩ := hrel
    have hM := hNI.map
    have hKM := hNI.km
    by_cases hlt : k < zs.length
    · obtain ⟨ad, rfl, hx0, hx1, hx2, hx3, hx4⟩ := at_nat hCz k hlt hlt
      have hadlt := World.block_lt_of_cell? w3 _ hx0
      have hadne : (ad.add (k * 5)).block ≠ w1.heap.size := by
        intro e
        obtain ⟨ys, cl, hh, _⟩ := hmap3
        simp [World.cell?, e, hh] at hx0
      have hstep := Lib.hid (groups_step zs k hlt)
      have hvc := hzv _ (List.getElem_mem hlt)
      obtain ⟨c, hc⟩ : ∃ c, zs[k] = c := ⟨_, rfl⟩
      rw [hc] at hx0 hx1 hx2 hx3 hx4 hstep hvc
      replace hx0 := hKM.cell (p := ad.add (k * 5)) hadlt hadne hx0
      replace hx1 := hKM.cell (p := ⟨(ad.add (k * 5)).block, (ad.add (k * 5)).off + 1, none⟩) hadlt hadne hx1
      replace hx2 := hKM.cell (p := ⟨(ad.add (k * 5)).block, (ad.add (k * 5)).off + 2, none⟩) hadlt hadne hx2
      replace hx3 := hKM.cell (p := ⟨(ad.add (k * 5)).block, (ad.add (k * 5)).off + 3, none⟩) hadlt hadne hx3
      replace hx4 := hKM.cell (p := ⟨(ad.add (k * 5)).block, (ad.add (k * 5)).off + 4, none⟩) hadlt hadne hx4
      rcases split_get (keyC c) G with ⟨hg0, hgn⟩ | ⟨G1, g, G2, rfl, hgk, hg1, hgg⟩
      · go_wp2_with (first
          | (go_at_call 13; refine (keyOf_any c _).mono ?_; rintro e w' ⟨rfl, o1, o2, rfl⟩)
          | (at_lookup; refine Map.wp_lookup _ rfl _ _ 37 rfl 44 25 keyK Try.underlying37 (Try.zeroValue25 _) w1.heap.size rfl (((hM.alloc _).alloc _).alloc _) (keyC c) rfl ?_; rw [hg0, Option.getD_none]))
        have hbx : BoxC wr.heap.size c (((wr.alloc (.cells (encCl c).toArray 24)).alloc o1).alloc o2) := blk_up _ (blk_up _ (MapKept.heap_alloc wr _).1)
        have hNq := ((hNI.alloc (.cells (encCl c).toArray 24)).alloc o1).alloc o2
        unfold encCl at hbx hNq
        obtain ⟨Wq, hWq⟩ : ∃ Wq, (((wr.alloc (.cells #[.int .i64 c.f0, .int .i64 c.f1, .int .i64 c.f2, .int .i64 c.f3, .int .i64 c.f4] 24)).alloc o1).alloc o2) = Wq := ⟨_, rfl⟩
        rw [hWq] at hbx hNq ⊢
        obtain ⟨hc0, hc1, hc2, hc3, hc4⟩ := hbx.cells
        have hMq := hNq.map
        have hsq : w3.heap.size ≤ Wq.heap.size := hNq.km.size
        have hBlt : wr.heap.size < Wq.heap.size := (Array.getElem?_eq_some_iff.1 hbx).1
        have hone : ∀ u ∈ [Value.int .i64 c.f0, .int .i64 c.f1, .int .i64 c.f2, .int .i64 c.f3, .int .i64 c.f4], u.oneCell' = true := by simp [Value.oneCell']
        clear hWq hM hKM hNI hx0 hx1 hx2 hx3 hx4
        go_quiet (fail)
        go_wp2
        go_region_held3 (fun w' => w'.cell? ⟨wr.heap.size, 0, none⟩ = some (.int .i64 c.f0) ∧ w'.cell? ⟨wr.heap.size, 1, none⟩ = some (.int .i64 c.f1) ∧ w'.cell? ⟨wr.heap.size, 2, none⟩ = some (.int .i64 c.f2) ∧ w'.cell? ⟨wr.heap.size, 3, none⟩ = some (.int .i64 c.f3) ∧ w'.cell? ⟨wr.heap.size, 4, none⟩ = some (.int .i64 c.f4)) (go_keep)
          (first
            | (go_at_call 13; refine (keyOf_any c _).mono ?_; rintro e w' ⟨rfl, o3, o4, rfl⟩)
            | (refine step_append_lies _ rfl _ _ _ rfl w3.heap.size 24 i0 _ 5 40 Try.underlying25 hi hz0 hz1 hz2 rfl (by decide) (.slice none 0 0) 0 [] rfl (World.ownsRow_nil _ _ _ _) _ 1 1 [.int .i64 c.f0, .int .i64 c.f1, .int .i64 c.f2, .int .i64 c.f3, .int .i64 c.f4] rfl rfl (by first | exact cells_newN _ _ _ _ (by simp) | exact cells_up _ (cells_up _ (cells_newN _ _ _ _ (by simp)))) hone (by decide) (by omega) (by omega) (by simp; omega) _ rfl ?_
               intro g cap w5 hown5 hgrow5 hat5 hlt5
               obtain ⟨w6, hrun6, hM6, hq5, hg6, hg5, hd, he⟩ := append_turn (Wq := Wq) (row := none) hMq hbx hgrow5 hat5 (by simp) (by simp) (.slice (some ⟨g, 0, none⟩) 1 cap) rfl rfl rfl rfl
               obtain ⟨hd0, hd1, hd2, hd3, hd4⟩ := hd.cells
               obtain ⟨he0, he1, he2, he3, he4⟩ := he.cells))
        all_goals
          go_wp2
          go_roundw
          case rel => exact ⟨k + 1, _, by omega, by go_num, hNq.new hb3 hwb hstep.out hgn hq5 hown5 (hg5.resolve_left (by simp)) hM6 hg6⟩
          case measure => simp [intOf]; omega
      · rcases g with ⟨gk, gv, gs⟩
        obtain ⟨gb, gcap, hgv, hgb⟩ := hNI.rows.row (g := (gk, gv, gs)) (by simp)
        obtain ⟨t, x, hgs⟩ := (eq_snoc gs).resolve_left (hNI.rows.ne (gk, gv, gs) (by simp))
        simp only at hgv hgs hgk
        subst hgs
        obtain ⟨m, hm⟩ : ∃ m, t.length = m := ⟨_, rfl⟩
        have hl : (t ++ [x]).length = m + 1 := by simp [hm]
        rw [hl] at hgv
        subst hgv
        subst hgk
        have hvx : 0 ≤ x.f3 ∧ x.f3 ≤ 73048 := by
          have h1 : (keyC c, t ++ [x]) ∈ groups (zs.take k) := by rw [← hNI.abs]; simp [absG]
          have h2 := vldC_iff.1 (groups_vld (zs.take k) (fun c hc => hzv c (List.mem_of_mem_take hc)) _ h1 x (by simp))
          omega
        have hml2 : m + 1 ≤ 3518437208882 := by
          have h1 : (keyC c, t ++ [x]) ∈ groups (zs.take k) := by rw [← hNI.abs]; simp [absG]
          have h2 := len_le_flat h1
          have h3 := groups_len (zs.take k)
          rw [List.length_take] at h3
          simp only [hl] at h2
          omega
        simp only at hgg
        go_wp2_with (first
          | (go_at_call 13; refine (keyOf_any c _).mono ?_; rintro e w' ⟨rfl, o1, o2, rfl⟩)
          | (at_lookup; refine Map.wp_lookup _ rfl _ _ 37 rfl 44 25 keyK Try.underlying37 (Try.zeroValue25 _) w1.heap.size rfl (((hM.alloc _).alloc _).alloc _) (keyC c) rfl ?_; rw [hgg, Option.getD_some]))
        have hbx : BoxC wr.heap.size c (((wr.alloc (.cells (encCl c).toArray 24)).alloc o1).alloc o2) := blk_up _ (blk_up _ (MapKept.heap_alloc wr _).1)
        have hNq := ((hNI.alloc (.cells (encCl c).toArray 24)).alloc o1).alloc o2
        unfold encCl at hbx hNq
        obtain ⟨Wq, hWq⟩ : ∃ Wq, (((wr.alloc (.cells #[.int .i64 c.f0, .int .i64 c.f1, .int .i64 c.f2, .int .i64 c.f3, .int .i64 c.f4] 24)).alloc o1).alloc o2) = Wq := ⟨_, rfl⟩
        rw [hWq] at hbx hNq ⊢
        obtain ⟨hc0, hc1, hc2, hc3, hc4⟩ := hbx.cells
        have hMq := hNq.map
        have hsq : w3.heap.size ≤ Wq.heap.size := hNq.km.size
        have hBlt : wr.heap.size < Wq.heap.size := (Array.getElem?_eq_some_iff.1 hbx).1
        have hone : ∀ u ∈ [Value.int .i64 c.f0, .int .i64 c.f1, .int .i64 c.f2, .int .i64 c.f3, .int .i64 c.f4], u.oneCell' = true := by simp [Value.oneCell']
        have hrowq := hNq.rows.rows _ (List.mem_append_right _ (List.mem_cons_self ..))
        simp only [← hl] at hrowq
        obtain ⟨hxc, hxf, _⟩ := row_last hrowq
        simp only [hl] at hrowq
        rw [hm] at hxc hxf
        have hgw : gb < wr.heap.size := ((hNI.rows.rows _ (List.mem_append_right _ (List.mem_cons_self ..))).lt gb rfl).2
        clear hWq hM hKM hNI hx0 hx1 hx2 hx3 hx4
        by_cases hjoin : c.f2 ≤ x.f3 + 1
        · have hd : decide (c.f2 ≤ x.f3 + 1) = true := decide_eq_true hjoin
          go_quiet (fail)
          go_wp2
          have hi0 : (0 : Int) ≤ (m : Int) := by omega
          have hi1 : (m : Int) < (m : Int) + 1 := by omega
          go_region
          all_goals
            go_wp2
            go_roundw
            case rel => exact ⟨k + 1, _, by omega, by go_num, (hNq.drewN _).merged hm hb3 hwb hstep.out hg1 hjoin⟩
            case measure => simp [intOf]; omega
        · have hd : decide (c.f2 ≤ x.f3 + 1) = false := decide_eq_false hjoin
          go_quiet (fail)
          go_wp2
          go_region_held3 (fun w' => w'.cell? ⟨wr.heap.size, 0, none⟩ = some (.int .i64 c.f0) ∧ w'.cell? ⟨wr.heap.size, 1, none⟩ = some (.int .i64 c.f1) ∧ w'.cell? ⟨wr.heap.size, 2, none⟩ = some (.int .i64 c.f2) ∧ w'.cell? ⟨wr.heap.size, 3, none⟩ = some (.int .i64 c.f3) ∧ w'.cell? ⟨wr.heap.size, 4, none⟩ = some (.int .i64 c.f4)) (go_keep)
            (first
              | (go_at_call 13; refine (keyOf_any c _).mono ?_; rintro e w' ⟨rfl, o3, o4, rfl⟩)
              | (refine step_append_lies _ rfl _ _ _ rfl w3.heap.size 24 i0 _ 5 40 Try.underlying25 hi hz0 hz1 hz2 rfl (by decide) (.slice (some ⟨gb, 0, none⟩) (m + 1) gcap) (m + 1) ((t ++ [x]).flatMap encCl) rfl ((((own_drewN hrowq _).alloc _).alloc _).alloc _) _ 1 1 [.int .i64 c.f0, .int .i64 c.f1, .int .i64 c.f2, .int .i64 c.f3, .int .i64 c.f4] rfl rfl (by first | exact cells_newN _ _ _ _ (by simp) | exact cells_up _ (cells_up _ (cells_newN _ _ _ _ (by simp)))) hone (by decide) (by omega) (by omega) (by simp; omega) _ rfl ?_
                 intro g cap w5 hown5 hgrow5 hat5 hlt5
                 obtain ⟨w6, hrun6, hM6, hq5, hg6, hg5, hd5, he⟩ := append_turn (Wq := Wq) (row := some gb) hMq hbx hgrow5 hat5 (by simp; omega) (by simp; omega) (.slice (some ⟨g, 0, none⟩) (m + 1 + 1) cap) rfl rfl rfl rfl
                 obtain ⟨hd0, hd1, hd2, hd3, hd4⟩ := hd5.cells
                 obtain ⟨he0, he1, he2, he3, he4⟩ := he.cells))
          all_goals
            go_wp2
            go_roundw
            case rel => exact ⟨k + 1, _, by omega, by go_num, hNq.longer hm hb3 hwb hstep.out hg1 (by omega) hq5 hown5 hg5 hM6 hg6⟩
            case measure => simp [intOf]; omega
    · obtain rfl : k = zs.length := by omega
      have habs := hNI.abs
      rw [List.take_length] at habs
      have hMr := hNI.map
      have hnod : (G.map (·.1)).Nodup := by simpa [prsG, Function.comp_def] using hMr.nodup
      have hvl : ∀ c ∈ l0, c.f2 ≤ c.f3 := fun c hc => (vldC_iff.1 (List.all_eq_true.1 hv c hc)).2.2.2.2.1
      have htot : ((groups zs).flatMap (·.2)).length ≤ 3518437208882 := Nat.le_trans (groups_len zs) hzl
      rw [← habs] at htot
      clear hmm
      go_wp2_with (at_range; refine Map.wp_range _ rfl _ 37 rfl 44 25 Try.underlying37 w1.heap.size rfl hMr ?_; intro w4 hR4 hg4 hs4)
      go_frame
      have hw4 : w.heap.size ≤ w4.heap.size := by have := hNI.below.size; omega
      go_loopw [10] (fun v wq => ∃ (done : List (K3 × Value)), Map.RangeIs wq w1.heap.size wr.heap.size encK (prsG G) done ∧ wq.ownsRow w4.heap.size 24 5 v (done.flatMap (lstG G)).length ((done.flatMap (lstG G)).flatMap encCl) ∧ KM w4.heap.size wr.heap.size w4 wq ∧ Below w.heap.size w wq) (fun _ wq => (prsG G).length - Map.seenN wq wr.heap.size)
      case atStart => exact ⟨[], hR4, World.ownsRow_nil _ _ _ _, KM.refl _ _ _, hNI.below.grown hg4 hNI.below.size (by simp)⟩
      case round =>
        rename World => wq
        obtain ⟨done, hR, hown4, hK4, hB4⟩ := hrel
        obtain ⟨os, hos⟩ : ∃ os, done.flatMap (lstG G) = os := ⟨_, rfl⟩
        rw [hos] at hown4
        obtain ⟨Ao, co, rfl, hco⟩ := own_slice hown4
        go_wp2_with (at_next; refine Map.wp_next _ rfl _ rfl w1.heap.size wr.heap.size done rfl hR ?_ ?_)
        · intro hperm
          have hpo : os.Perm ((groups zs).flatMap (·.2)) := by
            rw [← hos, ← habs, ← flat_lstG hnod]
            exact hperm.flatMap_right _
          have hsrt : sortC os = normC l0 := normC_of hvl hp hs hpo (sortC_perm os) (sortC_asc os)
          have hlen2 : (normC l0).length = os.length := by rw [← hsrt]; exact (sortC_perm os).length_eq
          have hosl : os.length ≤ 3518437208882 := by rw [hpo.length_eq, ← habs]; exact htot
          clear hos
          by_cases hgt : 64 < os.length
          · go_wp2
            go_ret2
            exact .inr ⟨by omega, rfl, hB4⟩
          · go_wp2_with fail
            refine (SortFuncC w4.heap.size _ os wq hown4 (by omega)).mono ?_
            rintro e w6 ⟨rfl, ys, hpy, hsy, hown6, hg6⟩
            have hys : ys = normC l0 := normC_of hvl hp hs hpo hpy hsy
            rw [hys] at hown6
            go_wp2
            go_ret2
            exact .inl ⟨by omega, _, rfl, own_weaken hown6 hw4, hB4.grown hg6 hB4.size (fun j e => Nat.le_trans hw4 (hown4.lt j e).1)⟩
        · intro q0 q1 q2 val w5 h1 h2 h3 hR5 hg5 hs5 hen
          obtain ⟨g, hgG, hge⟩ := List.mem_map.1 h1
          obtain ⟨gb, gcap, hgv, hgb⟩ := hNI.rows.row hgG
          have hgrow := hNI.rows.rows g hgG
          have hk1 := (Prod.mk.inj hge).1
          have hk2 := (Prod.mk.inj hge).2
          rw [hgv] at hgrow hk2
          subst hk2
          have hgw := hgrow.lt gb rfl
          have hcells : ∀ j u, (g.2.2.flatMap encCl)[j]? = some u → w5.cell? (Addr.add ⟨gb, 0, none⟩ j) = some u := by
            intro j u hj
            have h0 := cells_of_own hgrow j u hj
            have hblk : (Addr.add ⟨gb, 0, none⟩ j).block = gb := add_block _ _
            rw [hg5.cell_far _ (by rw [hblk]; have := hK4.size; omega) (by rw [hblk]; simp; omega)]
            exact hK4.cell (by rw [hblk]; omega) (by rw [hblk]; omega) ((hg4.cell_far _ (by rw [hblk]; exact hgw.2) (by simp)).trans h0)
          have hown5 := hown4.kept hg5 (.inr (fun e => by have := (hown4.lt _ e).1; omega))
          have hlst : (done ++ [((q0, q1, q2), Value.slice (some ⟨gb, 0, none⟩) g.2.2.length gcap)]).flatMap (lstG G) = os ++ g.2.2 := by
            rw [List.flatMap_append, hos, ← hk1, ← hgv]
            simp [lstG_of hnod hgG]
          have hbnd : os.length + g.2.2.length ≤ 3518437208882 := by
            have h := Map.flat_len_sub (lstG G) _ _ (Map.nodup_of_map _ hR5.sub.1) hR5.sub.2
            rw [hlst, flat_lstG hnod, List.length_append] at h
            omega
          have Hlst := Lib.hid hlst
          have hseen := hR.seen
          have hsz5 : w4.heap.size ≤ w5.heap.size := by have := hK4.size; omega
          have hK5 := hK4.grown (Nat.le_refl _) hg5 (fun j e => by cases e; exact .inr rfl)
          have hB5 := hB4.grown hg5 hB4.size (fun j e => by cases e; exact hNI.below.size)
          have hgl : (g.2.2.flatMap encCl).length = g.2.2.length * 5 := enc_len _
          obtain ⟨gl, hgl1⟩ : ∃ gl, g.2.2 = gl := ⟨_, rfl⟩
          rw [hgl1] at hcells hR5 hen hbnd hgl h1 h2 ⊢
          have HG := Lib.hid hgl1
          clear hlst hos hgrow hgl1 hgv hge
          go_wp2_with (at_builtin; refine wpList_append_own _ rfl _ _ 25 rfl w4.heap.size 24 i0 _ 5 40 Try.underlying25 hi hz0 hz1 hz2 rfl (by decide) _ os.length (os.flatMap encCl) rfl hown5 ⟨gb, 0, none⟩ gl.length gcap (gl.flatMap encCl) rfl hgl hcells enc_one (by omega) (by omega) hsz5 ?_; intro v' w6 hown6 hg6 hnil6)
          have hr6 : ∀ j, (Value.slice Ao os.length co).ownBlock = some j → w4.heap.size ≤ j := fun j e => (hown4.lt j e).1
          have hR6 := hR5.kept hg6 (fun e => by have := hr6 _ e.symm; omega) (fun e => by have := hr6 _ e.symm; omega)
          have hseen6 := hR6.seen
          go_roundw
          case rel => exact ⟨_, hR6, by rw [← HG.out, Hlst.out, HG.out, List.flatMap_append, List.length_append]; exact hown6, hK5.grown (Nat.le_refl _) hg6 (fun j e => .inl (hr6 j e)), hB5.grown hg6 hB5.size (fun j e => Nat.le_trans hw4 (hr6 j e))⟩
          case measure => rw [hseen, hseen6]; simp only [List.length_append, List.length_singleton]; omega
theorem Normal_bad (A0 : Option Addr) (c0 : Nat) (l0 : List Cl) (w : World) (hr0 : Kd.C k24 w A0 l0.length l0) (hc0 : l0.length ≤ c0) (hv : l0.all vldC = false) :
    Calls Try.prog 5 #[.slice A0 l0.length c0] w fun e w' => e = .returned (.tuple #[.slice none 0 0, .int .i64 1]) ∧ Below w.heap.size w w' := by
  have hval := claim_valid.calls (l0.length + 1) A0 c0 l0 1 w hr0 hc0 (by rw [valid_eq l0 (C_le hr0), hv]; rfl)
  go_enter Try.func5, Try.ntmps5
  go_wp2_with fail
  refine hval.mono ?_
  rintro e w1 ⟨rfl, hB1⟩
  go_wp2
  go_ret2
  exact ⟨rfl, hB1⟩
/-- What claim.Normal answers. -/
def claim_Normal.f (l0 : List Cl) : Option (List Cl × Int) :=
  if l0.length ≤ 3518437208882 then some (if l0.all vldC = true then (if (normC l0).length ≤ 64 then (normC l0, 0) else ([], 4)) else ([], 1)) else none
theorem claim_Normal.calls (A0 : Option Addr) (c0 : Nat) (l0 : List Cl) (r1 : List Cl) (r2 : Int) (w : World) (hr0 : Kd.C k24 w A0 l0.length l0) (hc0 : l0.length ≤ c0) (h : claim_Normal.f l0 = some (r1, r2)) :
    Calls Try.prog 5 #[.slice A0 l0.length c0] w fun e w' => ∃ v0_ : Value, e = .returned (.tuple #[v0_, .int .i64 r2]) ∧ Kd.R k24 24 w' w.heap.size (fun _ => True) v0_ r1 ∧ Below w.heap.size w w' := by
  unfold claim_Normal.f at h
  split at h
  · rename_i hlen
    injection h with h
    cases hv : l0.all vldC
    · rw [hv, if_neg (by decide)] at h
      cases h
      refine (Normal_bad A0 c0 l0 w hr0 hc0 hv).mono ?_
      rintro e w' ⟨rfl, hB⟩
      exact ⟨_, rfl, Kd.R_nil _ _ _ _ _, hB⟩
    · rw [hv, if_pos rfl] at h
      refine (Normal_ok A0 c0 l0 w hr0 hc0 hv hlen).mono ?_
      rintro e w' (⟨hle, v, rfl, hown, hB⟩ | ⟨hgt, rfl, hB⟩)
      · rw [if_pos hle] at h
        cases h
        exact ⟨_, rfl, R_ofC hown (fun _ _ => trivial), hB⟩
      · rw [if_neg (by omega)] at h
        cases h
        exact ⟨_, rfl, Kd.R_nil _ _ _ _ _, hB⟩
  · cases h
end Go.Proofs.Ytpggedoopjcflaa.PClaimHash
