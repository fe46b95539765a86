/- The example of the section on claims: the walk of lives. -/
import Derived.Test.YtpggedoopjcflaaPClaimHashx0
import Derived.Test.YtpggedoopjcflaaPClaimHashx3
import Derived.Test.YtpggedoopjcflaaPClaimHashEClaimNorm
import Derived.Test.YtpggedoopjcflaaPClaimHashEClaimDays
namespace Go.Proofs.Ytpggedoopjcflaa.PClaimHash
open Go.RowKit Go.Proofs.YtpggedoopjcflaaW.PrintWords
set_option maxRecDepth 100000
theorem sortq : (([0, 73049, 10, 21, 5, 7, 0, 10] : List Int).mergeSort fun x y => decide (x ≤ y)) = [0, 0, 5, 7, 10, 10, 21, 73049] := by
  simp [List.mergeSort, List.MergeSort.Internal.splitInTwo]
theorem compq : Lib.compact ([0, 0, 5, 7, 10, 10, 21, 73049] : List Int) = [0, 5, 7, 10, 21, 73049] := by decide
def exA : Cl := ⟨0, 1, 0, 9, 5⟩
def exB : Cl := ⟨0, 1, 10, 20, 5⟩
def exC : Cl := ⟨1, 1, 5, 6, 7⟩
theorem outq : daysOut [1] [exB, exC, exA] [0, 5, 7, 10, 21, 73049] [] = [(0, 4), (7, 20)] := by decide
theorem normq : normC [exB, exA] = [⟨0, 1, 0, 20, 5⟩] := by rfl
theorem normf : claim_Normal.f [exB, exA] = some ([⟨0, 1, 0, 20, 5⟩], 0) := by
  unfold claim_Normal.f
  rw [if_pos (by decide), if_pos (by decide), normq]
  rfl
/-- A new row of claims. -/
theorem C_new (W : World) (xs : List Cl) (hl : xs.length ≤ 100) : Kd.C k24 (W.alloc (.cells (xs.flatMap encCl).toArray 24)) (some ⟨W.heap.size, 0, none⟩) xs.length xs := by
  have hm : 100 ≤ maxLen := by decide
  have h : (W.alloc (.cells (xs.flatMap encCl).toArray 24)).ownsRow W.heap.size 24 5 (.slice (some ⟨W.heap.size, 0, none⟩) xs.length xs.length) xs.length (xs.flatMap encCl) :=
    ⟨enc_len xs, .inr ⟨W.heap.size, xs.length, _, rfl, Nat.le_refl _, (MapKept.heap_alloc W _).1, Nat.le_refl _, by omega, by rw [List.size_toArray, enc_len], by rw [← enc_len, List.take_length]⟩⟩
  exact (Kd.R_reads' (R_ofC (ok := fun _ => True) h (fun _ _ => trivial))).2.2
theorem C_one (V : World) (a : Int) (T : TypeId) : Kd.C (Kd.int .i64) (V.alloc (.cells #[.int .i64 a] T)) (some ⟨V.heap.size, 0, none⟩) 1 [a] := by
  refine Kd.C_of_reads (d := 0) ⟨rfl, by omega, fun hn => ⟨_, rfl, fun i hi => ?_⟩⟩
  rcases i with _ | i
  · exact World.cell?_alloc_at _ _ _ 0 rfl
  · omega
def meresmanlaw14_lives.f : Option Bool := some true
set_option maxHeartbeats 4000000 in
theorem meresmanlaw14_lives.calls (r : Bool) (w : World) (h : meresmanlaw14_lives.f = some r) : Calls Try.prog 8 #[] w fun e w' => e = .returned (.bool r) ∧ Below w.heap.size w w' := by
  cases h
  have hn : ∀ (N : Nat) (W : World), N = W.heap.size → Calls Try.prog 5 #[.slice (some ⟨N, 0, none⟩) 2 2] (W.alloc (.cells #[.int .i64 0, .int .i64 1, .int .i64 10, .int .i64 20, .int .i64 5, .int .i64 0, .int .i64 1, .int .i64 0, .int .i64 9, .int .i64 5] 24)) fun e w' => ∃ v0_ : Value, e = .returned (.tuple #[v0_, .int .i64 0]) ∧ Kd.R k24 24 w' (W.alloc (.cells #[.int .i64 0, .int .i64 1, .int .i64 10, .int .i64 20, .int .i64 5, .int .i64 0, .int .i64 1, .int .i64 0, .int .i64 9, .int .i64 5] 24)).heap.size (fun _ => True) v0_ [⟨0, 1, 0, 20, 5⟩] ∧ Below (W.alloc (.cells #[.int .i64 0, .int .i64 1, .int .i64 10, .int .i64 20, .int .i64 5, .int .i64 0, .int .i64 1, .int .i64 0, .int .i64 9, .int .i64 5] 24)).heap.size (W.alloc (.cells #[.int .i64 0, .int .i64 1, .int .i64 10, .int .i64 20, .int .i64 5, .int .i64 0, .int .i64 1, .int .i64 0, .int .i64 9, .int .i64 5] 24)) w' := by
    rintro N W rfl
    exact claim_Normal.calls (some ⟨W.heap.size, 0, none⟩) 2 [exB, exA] _ _ _ (C_new W [exB, exA] (by decide)) (by decide) normf
  go_enter Try.func8, Try.ntmps8
  go_wp2_with fail
  refine (hn _ _ (by simp)).mono ?_
  rintro e w1 ⟨v, rfl, hR, hB⟩
  obtain ⟨A1, c1, rfl⟩ := Kd.R_slice hR
  have bA : BoxC w.heap.size exA w1 := (hB.block _ (by simp; omega)).trans (blk_up _ (blk_up _ (blk_up _ (MapKept.heap_alloc w _).1)))
  have bB : BoxC (w.heap.size + 1) exB w1 := (hB.block _ (by simp)).trans (blk_up _ (blk_up _ (by have h := (MapKept.heap_alloc (w.alloc (.cells (encCl exA).toArray 24)) (.cells (encCl exB).toArray 24)).1; rw [World.size_alloc] at h; exact h)))
  have bC : BoxC (w.heap.size + 1 + 1) exC w1 := (hB.block _ (by simp)).trans (blk_up _ (by have h := (MapKept.heap_alloc ((w.alloc (.cells (encCl exA).toArray 24)).alloc (.cells (encCl exB).toArray 24)) (.cells (encCl exC).toArray 24)).1; rw [World.size_alloc, World.size_alloc] at h; exact h))
  obtain ⟨a0, a1, a2, a3, a4⟩ := bA.cells
  obtain ⟨b0, b1, b2, b3, b4⟩ := bB.cells
  obtain ⟨d0, d1, d2, d3, d4⟩ := bC.cells
  simp only [exA, exB, exC] at a0 a1 a2 a3 a4 b0 b1 b2 b3 b4 d0 d1 d2 d3 d4
  have hd : ∀ (N M : Nat) (V : World), N = V.heap.size → M = V.heap.size + 1 → Calls Try.prog 19 #[.agg #[.int .i64 0, .slice (some ⟨N, 0, none⟩) 1 1], .slice (some ⟨M, 0, none⟩) 3 3] ((V.alloc (.cells #[.int .i64 1] 3)).alloc (.cells #[.int .i64 0, .int .i64 1, .int .i64 10, .int .i64 20, .int .i64 5, .int .i64 1, .int .i64 1, .int .i64 5, .int .i64 6, .int .i64 7, .int .i64 0, .int .i64 1, .int .i64 0, .int .i64 9, .int .i64 5] 24)) fun e w' => ∃ v : Value, e = .returned (.tuple #[v, .int .i64 0]) ∧ w'.ownsRow V.heap.size 63 2 v 2 [.int .i64 0, .int .i64 4, .int .i64 7, .int .i64 20] ∧ Below V.heap.size V w' := by
    rintro N M V rfl rfl
    have hBV : Below V.heap.size V ((V.alloc (.cells #[.int .i64 1] 3)).alloc (.cells ([exB, exC, exA].flatMap encCl).toArray 24)) := ((Below.refl _ V).alloc (Nat.le_refl _) _).alloc (by simp) _
    have hC := C_new (V.alloc (.cells #[.int .i64 1] 3)) [exB, exC, exA] (by decide)
    rw [World.size_alloc] at hC
    have h := Days_any 1 (by omega) (some ⟨V.heap.size, 0, none⟩) 1 (some ⟨V.heap.size + 1, 0, none⟩) 3 [exB, exC, exA] ((V.alloc (.cells #[.int .i64 1] 3)).alloc (.cells ([exB, exC, exA].flatMap encCl).toArray 24)) (Kd.C_below (C_one V 1 3) ((Below.refl _ _).alloc (Nat.le_refl _) _)) hC (by decide) (by decide) (by decide) [0, 5, 7, 10, 21, 73049] (by rw [show daysI [exB, exC, exA] = [0, 73049, 10, 21, 5, 7, 0, 10] from rfl, sortq, compq]) (by decide) (by decide) (by decide)
    rw [outq] at h
    refine h.mono ?_
    rintro e w' ⟨v, rfl, hown, hB'⟩
    exact ⟨v, rfl, own_weaken hown hBV.size, hBV.trans (hB'.mono hBV.size)⟩
  have ax0 := Lib.cell?_alloc_some (.cells #[.int .i64 1] 3) a0
  have ax1 := Lib.cell?_alloc_some (.cells #[.int .i64 1] 3) a1
  have ax2 := Lib.cell?_alloc_some (.cells #[.int .i64 1] 3) a2
  have ax3 := Lib.cell?_alloc_some (.cells #[.int .i64 1] 3) a3
  have ax4 := Lib.cell?_alloc_some (.cells #[.int .i64 1] 3) a4
  have bx0 := Lib.cell?_alloc_some (.cells #[.int .i64 1] 3) b0
  have bx1 := Lib.cell?_alloc_some (.cells #[.int .i64 1] 3) b1
  have bx2 := Lib.cell?_alloc_some (.cells #[.int .i64 1] 3) b2
  have bx3 := Lib.cell?_alloc_some (.cells #[.int .i64 1] 3) b3
  have bx4 := Lib.cell?_alloc_some (.cells #[.int .i64 1] 3) b4
  have dx0 := Lib.cell?_alloc_some (.cells #[.int .i64 1] 3) d0
  have dx1 := Lib.cell?_alloc_some (.cells #[.int .i64 1] 3) d1
  have dx2 := Lib.cell?_alloc_some (.cells #[.int .i64 1] 3) d2
  have dx3 := Lib.cell?_alloc_some (.cells #[.int .i64 1] 3) d3
  have dx4 := Lib.cell?_alloc_some (.cells #[.int .i64 1] 3) d4
  have nA := World.new_ne w1 ⟨w.heap.size, 0, none⟩ a0
  have nB := World.new_ne w1 ⟨w.heap.size + 1, 0, none⟩ b0
  have nC := World.new_ne w1 ⟨w.heap.size + 1 + 1, 0, none⟩ d0
  go_wp2_with fail
  refine (hd w1.heap.size (w1.heap.size + 1) w1 rfl rfl).mono ?_
  rintro e w2 ⟨v2, rfl, hown2, hB2⟩
  have hC1 := Kd.C_below (Kd.R_reads' hR).2.2 hB2
  obtain ⟨g2, c2, rfl⟩ := ownsRow_succ hown2
  have hcc := cells_of_own hown2
  have e0 : w2.cell? ⟨g2, 0, none⟩ = some (.int .i64 0) := by simpa [Addr.add] using hcc 0 _ rfl
  have e1 : w2.cell? ⟨g2, 1, none⟩ = some (.int .i64 4) := by simpa [Addr.add] using hcc 1 _ rfl
  have e2 : w2.cell? ⟨g2, 2, none⟩ = some (.int .i64 7) := by simpa [Addr.add] using hcc 2 _ rfl
  have e3 : w2.cell? ⟨g2, 3, none⟩ = some (.int .i64 20) := by simpa [Addr.add] using hcc 3 _ rfl
  have hs : ∀ (N : Nat) (W : World), N = W.heap.size → Kd.C k24 W A1 1 [⟨0, 1, 0, 20, 5⟩] → Calls Try.prog 20 #[.slice A1 1 c1, .slice (some ⟨N, 0, none⟩) 1 1] (W.alloc (.cells #[.int .i64 0, .int .i64 1, .int .i64 0, .int .i64 20, .int .i64 5] 24)) fun e w' => e = .returned (.bool true) ∧ Drawn0 (W.alloc (.cells #[.int .i64 0, .int .i64 1, .int .i64 0, .int .i64 20, .int .i64 5] 24)) w' := by
    rintro N W rfl hC
    exact meresmanref14_Same.calls 5 A1 c1 [⟨0, 1, 0, 20, 5⟩] (some ⟨W.heap.size, 0, none⟩) 1 [⟨0, 1, 0, 20, 5⟩] true _ (Kd.C_below hC ((Below.refl _ _).alloc (Nat.le_refl _) _)) (Kd.R_reads' hR).2.1 (C_new W [⟨0, 1, 0, 20, 5⟩] (by decide)) (Nat.le_refl _) (by simp [meresmanref14_Same.f, meresmanref14_Same.l0, rd_T24, wrap64])
  go_wp2_with fail
  refine (hs _ _ rfl hC1).mono ?_
  rintro e w3 ⟨rfl, ⟨⟨q, rfl⟩⟩⟩
  clear hn hd hs hcc
  have f0 := Lib.cell?_alloc_some (.cells #[.int .i64 0, .int .i64 1, .int .i64 0, .int .i64 20, .int .i64 5] 24) e0
  have f1 := Lib.cell?_alloc_some (.cells #[.int .i64 0, .int .i64 1, .int .i64 0, .int .i64 20, .int .i64 5] 24) e1
  have f2 := Lib.cell?_alloc_some (.cells #[.int .i64 0, .int .i64 1, .int .i64 0, .int .i64 20, .int .i64 5] 24) e2
  have f3 := Lib.cell?_alloc_some (.cells #[.int .i64 0, .int .i64 1, .int .i64 0, .int .i64 20, .int .i64 5] 24) e3
  clear ax0 ax1 ax2 ax3 ax4 bx0 bx1 bx2 bx3 bx4 dx0 dx1 dx2 dx3 dx4 a0 a1 a2 a3 a4 b0 b1 b2 b3 b4 d0 d1 d2 d3 d4 nA nB nC bA bB bC
  have q0 : ∀ W, (Op.equalIn 10000 63 (.agg #[.int .i64 0, .int .i64 4]) (.agg #[.int .i64 0, .int .i64 4])).run Try.prog W = .ok true W := fun W => by kernel_rfl
  have q1 : ∀ W, (Op.equalIn 10000 63 (.agg #[.int .i64 7, .int .i64 20]) (.agg #[.int .i64 7, .int .i64 20])).run Try.prog W = .ok true W := fun W => by kernel_rfl
  go_wp2
  go_ret
  have hs1 := hB.size
  have hs2 := hB2.size
  simp only [World.size_alloc] at hs1
  exact ⟨rfl, pw_below_drewN (((((((Below.refl _ w).alloc (Nat.le_refl _) _).alloc (by simp) _).alloc (by simp; omega) _).alloc (by simp; omega) _).trans (hB.mono (by simp; omega))).trans (hB2.mono (by omega)) |>.alloc (by omega) _) _⟩
end Go.Proofs.Ytpggedoopjcflaa.PClaimHash
