/- ClaimHash: the walk of the law. -/
import Derived.Test.YtpggedoopjcflaaPClaimHashx0
import Derived.Test.YtpggedoopjcflaaPClaimHashx1
import Derived.Test.YtpggedoopjcflaaPClaimHashx2
import Derived.Test.YtpggedoopjcflaaPClaimHashEClaimEnc
import Derived.Test.YtpggedoopjcflaaPClaimHashEClaimNorm
import Derived.Test.YtpggedoopjcflaaPClaimHashEHash
import Derived.Test.YtpggedoopjcflaaPClaimHashELives14
import Derived.OpenShut
import Derived.Test.YtpggedoopjcflaaPClaimHashELawCHP
import Derived.Test.YtpggedoopjcflaaPClaimHashEClaimNorm
import Derived.Test.YtpggedoopjcflaaPClaimHashELives14
namespace Go.Proofs.Ytpggedoopjcflaa.PClaimHash
open Go.RowKit Go.Proofs.YtpggedoopjcflaaW.PrintWords Go.Proofs.YtpggedoopjcflaaW.PrintMore
theorem alloc_drewN (w : World) (n : Nat) (o : Obj) : (w.drewN n).alloc o = (w.alloc o).drewN n := rfl
theorem setCell_drewN (w : World) (n : Nat) (p : Addr) (v : Value) : (w.drewN n).setCell p v = (w.setCell p v).drewN n := by
  unfold World.setCell World.drewN
  split <;> rfl
attribute [local go_sem] min2_int min_two alloc_drewN setCell_drewN
set_option maxRecDepth 100000
theorem norm_one (x : Cl) : normC [x] = [x] := rfl
theorem norm_two (x : Cl) (h : x.f2 ≤ x.f3) : normC [x, x] = [x] := by
  have e1 : sortC [x, x] = [x, x] := by
    show insC x (insC x []) = [x, x]
    simp only [insC]
    split <;> rfl
  have e2 : groups [x, x] = [(keyC x, [x])] := by
    simp [groups, putG, joinLast, show x.f2 ≤ x.f3 + 1 by omega]
  unfold normC
  rw [e1, e2]
  rfl
theorem norm1_f (o f : Int) (ho : 0 ≤ o ∧ o < 64) (hf : 0 ≤ f ∧ f < 64) : claim_Normal.f [⟨0, o, f, 70000, 9⟩] = some ([⟨0, o, f, 70000, 9⟩], 0) := by
  unfold claim_Normal.f
  rw [if_pos (by simp), if_pos (enc_vld o f ho hf), norm_one]
  rfl
theorem norm2_f (o f : Int) (ho : 0 ≤ o ∧ o < 64) (hf : 0 ≤ f ∧ f < 64) : claim_Normal.f [⟨0, o, f, 70000, 9⟩, ⟨0, o, f, 70000, 9⟩] = some ([⟨0, o, f, 70000, 9⟩], 0) := by
  have hv := enc_vld o f ho hf
  simp only [List.all_cons, List.all_nil, Bool.and_true] at hv
  unfold claim_Normal.f
  rw [if_pos (by simp), if_pos (by simp [hv]), norm_two _ (by simp only; omega)]
  rfl
/-- A call of Normal at claims that were just laid. -/
theorem norm_new (l : List Cl) (r : List Cl) (hl : l.length ≤ 100) (hf : claim_Normal.f l = some (r, 0)) (V : World) (q : Nat) (N : Nat) (hN : N = V.heap.size) (cs : Array Value) (hcs : cs = (l.flatMap encCl).toArray) (n c : Nat) (hn : n = l.length) (hc : c = l.length) :
    Calls Try.prog 5 #[.slice (some ⟨N, 0, none⟩) n c] ((V.alloc (.cells cs 24)).drewN q) fun e w' => ∃ (A : Option Addr) (k : Nat), e = .returned (.tuple #[.slice A r.length k, .int .i64 0]) ∧ Kd.C k24 w' A r.length r ∧ r.length ≤ k ∧ Below (V.heap.size + 1) (V.alloc (.cells cs 24)) w' := by
  subst hN hcs hn hc
  refine (claim_Normal.calls (some ⟨V.heap.size, 0, none⟩) l.length l r 0 ((V.alloc (.cells (l.flatMap encCl).toArray 24)).drewN q) (C_new V l hl) (Nat.le_refl _) hf).mono ?_
  rintro e w' ⟨v, rfl, hR, hB⟩
  obtain ⟨A, k, rfl⟩ := Kd.R_slice hR
  simp only [World.heap_drewN, World.size_alloc] at hB
  exact ⟨A, k, rfl, (Kd.R_reads' hR).2.2, (Kd.R_reads' hR).2.1, ⟨hB.os, hB.tape, hB.output, hB.size, hB.block⟩⟩
theorem enc_at (o f : Int) (ho : 0 ≤ o ∧ o < 64) (hf : 0 ≤ f ∧ f < 64) (A : Option Addr) (k : Nat) (W : World) (hC : Kd.C k24 W A 1 [⟨0, o, f, 70000, 9⟩]) (hk : 1 ≤ k) :
    Calls Try.prog 6 #[.slice A 1 k] W fun e w' => ∃ (A : Option Addr) (k : Nat), e = .returned (.tuple #[.slice A 8 k, .int .i64 0]) ∧ Kd.C (Kd.int .u8) w' A 8 (encOf o f) ∧ 8 ≤ k ∧ Below W.heap.size W w' := by
  refine (claim_Encode.calls A k [⟨0, o, f, 70000, 9⟩] _ 0 W hC hk (enc_f o f ho hf)).mono ?_
  rintro e w' ⟨v, rfl, hR, hB⟩
  obtain ⟨A, k, rfl⟩ := Kd.R_slice hR
  exact ⟨A, k, rfl, (Kd.R_reads' hR).2.2, (Kd.R_reads' hR).2.1, hB⟩
theorem hash_at (o f : Int) (ho : 0 ≤ o ∧ o < 64) (hf : 0 ≤ f ∧ f < 64) (A : Option Addr) (k : Nat) (W : World) (hC : Kd.C (Kd.int .u8) W A 8 (encOf o f)) (hk : 8 ≤ k) :
    Calls Try.prog 7 #[.string ⟨#[99]⟩, .slice A 8 k] W fun e w' => e = .returned (.int .u64 (cHash o f)) ∧ Below W.heap.size W w' :=
  hash_Bytes.calls ⟨#[99]⟩ A k (encOf o f) _ W hC hk (hash_f o f ho hf)
theorem below_drew1 {B : Nat} {w W : World} (h : Below B w W) : Below B w W.drew := ⟨h.os, h.tape, h.output, h.size, h.block⟩
set_option maxHeartbeats 4000000 in
theorem ClaimHash_walk (a0 a1 a2 a3 : Int) (w : World) (h0 : -9223372036854775808 ≤ a0 ∧ a0 ≤ 9223372036854775807) (h1 : -9223372036854775808 ≤ a1 ∧ a1 ≤ 9223372036854775807) (h2 : -9223372036854775808 ≤ a2 ∧ a2 ≤ 9223372036854775807) (h3 : -9223372036854775808 ≤ a3 ∧ a3 ≤ 9223372036854775807) :
    Calls Try.prog 3 #[.int .i64 a0, .int .i64 a1, .int .i64 a2, .int .i64 a3] w fun e w' => e = .returned (.bool true) ∧ Below w.heap.size w w' := by
  have hmm : ∃ m, (m = a3 ∧ a3 < a2) ∨ (m = a2 ∧ ¬ a3 < a2) := by
    by_cases h : a3 < a2
    · exact ⟨a3, .inl ⟨rfl, h⟩⟩
    · exact ⟨a2, .inr ⟨rfl, h⟩⟩
  obtain ⟨m, hm⟩ := hmm
  have c0 := fun W => meresmanref01_Around.calls a0 64 _ W (around_eq a0 64 h0.1 h0.2 (by decide))
  have c1 := fun W => meresmanref01_Around.calls a1 64 _ W (around_eq a1 64 h1.1 h1.2 (by decide))
  have cm := fun W => meresmanref01_Around.calls m 64 _ W (around_eq m 64 (by omega) (by omega) (by decide))
  have b0 := aroundI_bd a0 64 (by decide)
  have b1 := aroundI_bd a1 64 (by decide)
  have bm := aroundI_bd m 64 (by decide)
  obtain ⟨o, ho⟩ : ∃ o, aroundI a0 64 = o := ⟨_, rfl⟩
  obtain ⟨o', ho'⟩ : ∃ o, aroundI a1 64 = o := ⟨_, rfl⟩
  obtain ⟨f, hf⟩ : ∃ f, aroundI m 64 = f := ⟨_, rfl⟩
  rw [ho] at c0 b0
  rw [ho'] at c1 b1
  rw [hf] at cm bm
  clear ho ho' hf
  have n2 := Lib.hid (norm_new [⟨0, o, f, 70000, 9⟩, ⟨0, o, f, 70000, 9⟩] _ (by simp) (norm2_f o f b0 bm))
  have n1 := Lib.hid (norm_new [⟨0, o', f, 70000, 9⟩] _ (by simp) (norm1_f o' f b1 bm))
  have c0 := Lib.hid c0
  have c1 := Lib.hid c1
  have cm := Lib.hid cm
  rcases hm with ⟨rfl, hlt⟩ | ⟨rfl, hlt⟩
  all_goals
    go_enter Try.func3, Try.ntmps3
    go_wp2_with fail
    refine (c0.out _).mono ?_
    rintro e w1 ⟨rfl, ⟨⟨q1, rfl⟩⟩⟩
    go_wp2_with fail
    refine (cm.out _).mono ?_
    rintro e w1 ⟨rfl, ⟨⟨q2, rfl⟩⟩⟩
    go_wp2_with fail
    refine (c1.out _).mono ?_
    rintro e w1 ⟨rfl, ⟨⟨q3, rfl⟩⟩⟩
    go_wp2_with fail
    refine (n2.out _ _ _ (by simp) _ rfl _ _ rfl rfl).mono ?_
    rintro e w1 ⟨A1, k1, rfl, hC1, hk1, hB1⟩
    have bX : BoxC w.heap.size ⟨0, o, f, 70000, 9⟩ w1 := (hB1.block _ (by simp; omega)).trans (blk_up _ (blk_up _ (MapKept.heap_alloc w _).1))
    have bY : BoxC (w.heap.size + 1) ⟨0, o', f, 70000, 9⟩ w1 := (hB1.block _ (by simp)).trans (blk_up _ (by have h := (MapKept.heap_alloc (w.alloc (.cells (encCl ⟨0, o, f, 70000, 9⟩).toArray 24)) (.cells (encCl ⟨0, o', f, 70000, 9⟩).toArray 24)).1; rw [World.size_alloc] at h; exact h))
    obtain ⟨y0, y1, y2, y3, y4⟩ := bY.cells
    simp only at y0 y1 y2 y3 y4
    go_wp2_with fail
    refine (n1.out _ 0 _ rfl _ rfl _ _ rfl rfl).mono ?_
    rintro e w2 ⟨A2, k2, rfl, hC2, hk2, hB2⟩
    clear y0 y1 y2 y3 y4
    have B12 : Below w1.heap.size w1 w2 := ((Below.refl _ w1).alloc (Nat.le_refl _) _).trans (hB2.mono (by omega))
    go_wp2_with fail
    refine (enc_at o f b0 bm A1 k1 _ (Kd.C_below hC1 B12) hk1).mono ?_
    rintro e w3 ⟨A3, k3, rfl, hC3, hk3, hB3⟩
    go_wp2_with fail
    refine (enc_at o' f b1 bm A2 k2 _ (Kd.C_below hC2 hB3) hk2).mono ?_
    rintro e w4 ⟨A4, k4, rfl, hC4, hk4, hB4⟩
    have bs1 := hB1.size
    simp only [World.size_alloc] at bs1
    have B14 : Below w1.heap.size w1 w4 := (B12.trans (hB3.mono B12.size)).trans (hB4.mono (Nat.le_trans B12.size hB3.size))
    have hz4 : w1.heap.size ≤ w4.heap.size := B14.size
    have bX4 := (B14.block _ (by omega)).trans bX
    have bY4 := (B14.block _ (by omega)).trans bY
    have hc3 : Hid (∀ W, Below w4.heap.size w4 W → Calls Try.prog 7 #[.string ⟨#[99]⟩, .slice A3 8 k3] W fun e w' => e = .returned (.int .u64 (cHash o f)) ∧ Below w4.heap.size w4 w') := Lib.hid fun W hB => (hash_at o f b0 bm A3 k3 W (Kd.C_below (Kd.C_below hC3 hB4) hB) hk3).mono fun e w' h => ⟨h.1, hB.trans (h.2.mono hB.size)⟩
    have hc4 : Hid (∀ W, Below w4.heap.size w4 W → Calls Try.prog 7 #[.string ⟨#[99]⟩, .slice A4 8 k4] W fun e w' => e = .returned (.int .u64 (cHash o' f)) ∧ Below w4.heap.size w4 w') := Lib.hid fun W hB => (hash_at o' f b1 bm A4 k4 W (Kd.C_below hC4 hB) hk4).mono fun e w' h => ⟨h.1, hB.trans (h.2.mono hB.size)⟩
    have hcx : Hid (∀ W, Below w4.heap.size w4 W → (W.cell? ⟨w.heap.size, 0, none⟩ = some (.int .i64 0) ∧ W.cell? ⟨w.heap.size, 1, none⟩ = some (.int .i64 o) ∧ W.cell? ⟨w.heap.size, 2, none⟩ = some (.int .i64 f) ∧ W.cell? ⟨w.heap.size, 3, none⟩ = some (.int .i64 70000) ∧ W.cell? ⟨w.heap.size, 4, none⟩ = some (.int .i64 9)) ∧ W.cell? ⟨w.heap.size + 1, 0, none⟩ = some (.int .i64 0) ∧ W.cell? ⟨w.heap.size + 1, 1, none⟩ = some (.int .i64 o') ∧ W.cell? ⟨w.heap.size + 1, 2, none⟩ = some (.int .i64 f) ∧ W.cell? ⟨w.heap.size + 1, 3, none⟩ = some (.int .i64 70000) ∧ W.cell? ⟨w.heap.size + 1, 4, none⟩ = some (.int .i64 9)) :=
      Lib.hid fun W hB => ⟨BoxC.cells (x := ⟨0, o, f, 70000, 9⟩) ((hB.block _ (by omega)).trans bX4), BoxC.cells (x := ⟨0, o', f, 70000, 9⟩) ((hB.block _ (by omega)).trans bY4)⟩
    have hfin : Hid (∀ W, Below w4.heap.size w4 W → Below w.heap.size w W) := Lib.hid fun W hB => ((((((Below.refl _ w).alloc (Nat.le_refl _) _).alloc (by simp) _).alloc (by simp; omega) _).trans (hB1.mono (by simp; omega))).trans (B14.mono (by omega))).trans (hB.mono (by omega))
    have hse := cHash_iff o o' f b0 b1 bm
    obtain ⟨H, hH⟩ : ∃ H, cHash o f = H := ⟨_, rfl⟩
    obtain ⟨H', hH'⟩ : ∃ H, cHash o' f = H := ⟨_, rfl⟩
    rw [hH, hH'] at hse
    rw [hH] at hc3
    rw [hH'] at hc4
    have heq := fun W => eqA24 9998 W 0 0 o o' f f 70000 70000 9 9
    simp only [beq_self_eq_true, Bool.true_and, Bool.and_true] at heq
    obtain ⟨⟨x0, x1, x2, x3, x4⟩, y0, y1, y2, y3, y4⟩ := hcx.out w4 (Below.refl _ _)
    clear hH hH' hC1 hC2 hC3 hC4 hB1 hB2 hB3 hB4 B12 B14 bX bY bX4 bY4
    by_cases hoo : o = o'
    · have e1 : (o == o') = true := by simpa using hoo
      have e2 : (H == H') = true := by rw [hse]; simpa using hoo
      clear hse hoo
      simp only [e1] at heq
      go_wp2
      go_region_held3 (fun w' => w'.cell? ⟨w.heap.size, 0, none⟩ = some (.int .i64 0) ∧ w'.cell? ⟨w.heap.size, 1, none⟩ = some (.int .i64 o) ∧ w'.cell? ⟨w.heap.size, 2, none⟩ = some (.int .i64 f) ∧ w'.cell? ⟨w.heap.size, 3, none⟩ = some (.int .i64 70000) ∧ w'.cell? ⟨w.heap.size, 4, none⟩ = some (.int .i64 9) ∧ w'.cell? ⟨w.heap.size + 1, 0, none⟩ = some (.int .i64 0) ∧ w'.cell? ⟨w.heap.size + 1, 1, none⟩ = some (.int .i64 o') ∧ w'.cell? ⟨w.heap.size + 1, 2, none⟩ = some (.int .i64 f) ∧ w'.cell? ⟨w.heap.size + 1, 3, none⟩ = some (.int .i64 70000) ∧ w'.cell? ⟨w.heap.size + 1, 4, none⟩ = some (.int .i64 9)) (go_keep)
        (first
          | (go_at_call 7; ((with_reducible refine Calls.mono (hc3.out _ ?_) ?_); (first | exact Below.refl _ _ | assumption | exact below_drew1 (Below.refl _ _) | exact below_drew1 (by assumption) | exact pw_below_drewN (Below.refl _ _) _ | exact pw_below_drewN (by assumption) _); rintro e wq ⟨rfl, hBq⟩; obtain ⟨⟨_, _, _, _, _⟩, _, _, _, _, _⟩ := hcx.out wq hBq))
          | (go_at_call 7; ((with_reducible refine Calls.mono (hc4.out _ ?_) ?_); (first | exact Below.refl _ _ | assumption | exact below_drew1 (Below.refl _ _) | exact below_drew1 (by assumption) | exact pw_below_drewN (Below.refl _ _) _ | exact pw_below_drewN (by assumption) _); rintro e wq ⟨rfl, hBq⟩; obtain ⟨⟨_, _, _, _, _⟩, _, _, _, _, _⟩ := hcx.out wq hBq)))
      go_wp2_with fail
      refine (meresmanlaw14_lives.calls true _ rfl).mono ?_
      rintro e w9 ⟨rfl, hB9⟩
      go_wp2
      go_ret
      first
        | exact ⟨rfl, (hfin.out _ hBq).trans (hB9.mono (hfin.out _ hBq).size)⟩
        | exact ⟨rfl, (pw_below_drewN (hfin.out _ hBq) _).trans (hB9.mono (hfin.out _ hBq).size)⟩
    · have e1 : (o == o') = false := by simpa using hoo
      have e2 : (H == H') = false := by rw [hse]; simpa using hoo
      clear hse hoo
      simp only [e1] at heq
      go_wp2
      go_region_held3 (fun w' => w'.cell? ⟨w.heap.size, 0, none⟩ = some (.int .i64 0) ∧ w'.cell? ⟨w.heap.size, 1, none⟩ = some (.int .i64 o) ∧ w'.cell? ⟨w.heap.size, 2, none⟩ = some (.int .i64 f) ∧ w'.cell? ⟨w.heap.size, 3, none⟩ = some (.int .i64 70000) ∧ w'.cell? ⟨w.heap.size, 4, none⟩ = some (.int .i64 9) ∧ w'.cell? ⟨w.heap.size + 1, 0, none⟩ = some (.int .i64 0) ∧ w'.cell? ⟨w.heap.size + 1, 1, none⟩ = some (.int .i64 o') ∧ w'.cell? ⟨w.heap.size + 1, 2, none⟩ = some (.int .i64 f) ∧ w'.cell? ⟨w.heap.size + 1, 3, none⟩ = some (.int .i64 70000) ∧ w'.cell? ⟨w.heap.size + 1, 4, none⟩ = some (.int .i64 9)) (go_keep)
        (first
          | (go_at_call 7; ((with_reducible refine Calls.mono (hc3.out _ ?_) ?_); (first | exact Below.refl _ _ | assumption | exact below_drew1 (Below.refl _ _) | exact below_drew1 (by assumption) | exact pw_below_drewN (Below.refl _ _) _ | exact pw_below_drewN (by assumption) _); rintro e wq ⟨rfl, hBq⟩; obtain ⟨⟨_, _, _, _, _⟩, _, _, _, _, _⟩ := hcx.out wq hBq))
          | (go_at_call 7; ((with_reducible refine Calls.mono (hc4.out _ ?_) ?_); (first | exact Below.refl _ _ | assumption | exact below_drew1 (Below.refl _ _) | exact below_drew1 (by assumption) | exact pw_below_drewN (Below.refl _ _) _ | exact pw_below_drewN (by assumption) _); rintro e wq ⟨rfl, hBq⟩; obtain ⟨⟨_, _, _, _, _⟩, _, _, _, _, _⟩ := hcx.out wq hBq)))
      go_wp2_with fail
      refine (meresmanlaw14_lives.calls true _ rfl).mono ?_
      rintro e w9 ⟨rfl, hB9⟩
      go_wp2
      go_ret
      first
        | exact ⟨rfl, (hfin.out _ hBq).trans (hB9.mono (hfin.out _ hBq).size)⟩
        | exact ⟨rfl, (pw_below_drewN (hfin.out _ hBq) _).trans (hB9.mono (hfin.out _ hBq).size)⟩
/-- The law is walked whole by hand: nothing is left to a plain statement. -/
def meresmanlaw14_ClaimHash.Pure : Prop := True
theorem meresmanlaw14_ClaimHash.walk (_P : meresmanlaw14_ClaimHash.Pure) (a0 a1 a2 a3 : Int) (w : World) (w0 : (Lit.int .i64 a0).wf = true) (w1 : (Lit.int .i64 a1).wf = true) (w2 : (Lit.int .i64 a2).wf = true) (w3 : (Lit.int .i64 a3).wf = true) :
    Calls Try.prog 3 #[.int .i64 a0, .int .i64 a1, .int .i64 a2, .int .i64 a3] w fun e w' => e = .returned (.bool true) ∧ Below w.heap.size w w' :=
  ClaimHash_walk a0 a1 a2 a3 w (bounds_i64 w0) (bounds_i64 w1) (bounds_i64 w2) (bounds_i64 w3)
end Go.Proofs.Ytpggedoopjcflaa.PClaimHash
