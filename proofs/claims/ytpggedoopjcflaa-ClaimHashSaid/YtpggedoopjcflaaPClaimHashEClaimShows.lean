/- claim.active, claim.says, claim.shows. -/
import Derived.Test.YtpggedoopjcflaaPClaimHashx0
import Derived.Test.YtpggedoopjcflaaPClaimHashx2
import Derived.Lib.Hide
import Derived.Test.YtpggedoopjcflaaPClaimHashEClaimDel
namespace Go.Proofs.Ytpggedoopjcflaa.PClaimHash
open Go.RowKit Go.Proofs.YtpggedoopjcflaaW.PrintWords
set_option maxRecDepth 100000
theorem active1_any (x : Cl) (B : Nat) (day : Int) (W : World) (hB : W.cell? ⟨B, 0, none⟩ = some (.int .i64 day)) :
    Calls Try.prog 63 #[.agg #[.int .i64 x.f0, .int .i64 x.f1, .int .i64 x.f2, .int .i64 x.f3, .int .i64 x.f4], .pointer (some ⟨B, 0, none⟩)] W fun e W' => e = .returned (.bool (!inB day x.f2 x.f3)) ∧ Below W.heap.size W W' := by
  have hin := fun W' => claim_in.calls day x.f2 x.f3 _ W' (in_eq day x.f2 x.f3)
  obtain ⟨r, hr⟩ : ∃ r, inB day x.f2 x.f3 = r := ⟨_, rfl⟩
  rw [hr] at hin ⊢
  have hne := World.new_ne W ⟨B, 0, none⟩ hB
  have hB2 := Lib.cell?_alloc_some (.cells #[.int .i64 x.f0, .int .i64 x.f1, .int .i64 x.f2, .int .i64 x.f3, .int .i64 x.f4] 24) hB
  go_enter Try.func63, Try.ntmps63
  go_wp2_with fail
  refine (hin _).mono ?_
  rintro e w' ⟨rfl, ⟨⟨q, rfl⟩⟩⟩
  go_wp2
  go_ret
  exact ⟨rfl, (below_step (Below.refl _ W) ((Below.refl _ W).alloc (Nat.le_refl _) _)).trans ⟨rfl, rfl, rfl, Nat.le_refl _, fun _ _ => rfl⟩⟩
def actC (day : Int) (l : List Cl) : List Cl := l.filter fun x => inB day x.f2 x.f3
theorem active_any (A0 : Option Addr) (c0 : Nat) (l0 : List Cl) (day : Int) (w : World) (hr0 : Kd.C k24 w A0 l0.length l0) (hlen : l0.length ≤ 3518437208882) :
    Calls Try.prog 38 #[.slice A0 l0.length c0, .int .i64 day] w fun e w' => ∃ v, e = .returned v ∧ w'.ownsRow w.heap.size 24 5 v (actC day l0).length ((actC day l0).flatMap encCl) ∧ Below w.heap.size w w' := by
  have hB1 := (Below.refl w.heap.size w).alloc (Nat.le_refl _) (.cells #[.int .i64 day] 3)
  have hcl := CloneC A0 c0 l0 _ (Kd.C_below hr0 hB1) (by omega)
  have hbox : (w.alloc (.cells #[.int .i64 day] 3)).cell? ⟨w.heap.size, 0, none⟩ = some (.int .i64 day) := World.cell?_alloc_at _ _ _ 0 rfl
  go_enter Try.func38, Try.ntmps38
  go_wp2_with fail
  refine hcl.mono ?_
  rintro e w1 ⟨v, rfl, hown, hB2⟩
  have hb1 : w1.cell? ⟨w.heap.size, 0, none⟩ = some (.int .i64 day) := hB2.cell (p := ⟨w.heap.size, 0, none⟩) (by simp) |>.trans hbox
  have hdel := DeleteFuncC (w.alloc (.cells #[.int .i64 day] 3)).heap.size v l0 w1 hown hB2.size hlen 63 #[.pointer (some ⟨w.heap.size, 0, none⟩)] (enters_of Try.func63 (by kernel_rfl) rfl) (fun x => !inB day x.f2 x.f3) (fun W => W.cell? ⟨w.heap.size, 0, none⟩ = some (.int .i64 day)) hb1
    (fun W o h => Lib.cell?_alloc_some o h) (fun W W' hg h => by
      have hlt := World.block_lt_of_cell? W _ h
      rw [hg.cell_far _ hlt (fun e => by have := (hown.lt _ e.symm).1; rw [World.size_alloc] at this; exact Nat.not_succ_le_self _ this)]
      exact h)
    (fun x _ W h => (active1_any x w.heap.size day W h).mono fun e W' h' => ⟨h'.1, (h'.2.cell (p := ⟨w.heap.size, 0, none⟩) (World.block_lt_of_cell? W _ h)).trans h, h'.2⟩)
  go_wp2_with fail
  refine hdel.mono ?_
  rintro e w2 ⟨v', rfl, hown2, _, hg⟩
  go_wp2
  go_ret
  have hf : (l0.filter fun x => !(!inB day x.f2 x.f3)) = actC day l0 := by simp [actC]
  rw [hf] at hown2
  exact ⟨_, rfl, own_weaken hown2 (by simp), (hB1.trans (hB2.mono (by simp))).grown hg (by have := hB2.size; simp at this; omega) (fun k hk => by have := (hown.lt k hk).1; simp at this; omega)⟩
theorem says11_any (x : Cl) (Bo Bk : Nat) (office kind : Int) (W : World) (ho : W.cell? ⟨Bo, 0, none⟩ = some (.int .i64 office)) (hk : W.cell? ⟨Bk, 0, none⟩ = some (.int .i64 kind)) :
    Calls Try.prog 84 #[.agg #[.int .i64 x.f0, .int .i64 x.f1, .int .i64 x.f2, .int .i64 x.f3, .int .i64 x.f4], .pointer (some ⟨Bo, 0, none⟩), .pointer (some ⟨Bk, 0, none⟩)] W fun e W' => e = .returned (.bool (x.f1 == office && x.f0 == kind)) ∧ Below W.heap.size W W' := by
  have ho2 := Lib.cell?_alloc_some (.cells #[.int .i64 x.f0, .int .i64 x.f1, .int .i64 x.f2, .int .i64 x.f3, .int .i64 x.f4] 24) ho
  have hk2 := Lib.cell?_alloc_some (.cells #[.int .i64 x.f0, .int .i64 x.f1, .int .i64 x.f2, .int .i64 x.f3, .int .i64 x.f4] 24) hk
  by_cases h : x.f1 = office
  · have hd : (x.f1 == office) = true := by simpa using h
    rw [hd, Bool.true_and]
    subst h
    clear hd
    go_enter Try.func84, Try.ntmps84
    go_wp2
    go_ret
    exact ⟨rfl, (Below.refl _ W).alloc (Nat.le_refl _) _⟩
  · have hd : (x.f1 == office) = false := by simpa using h
    rw [hd, Bool.false_and]
    go_enter Try.func84, Try.ntmps84
    go_wp2
    go_ret
    exact ⟨rfl, (Below.refl _ W).alloc (Nat.le_refl _) _⟩
theorem says1_any (Bl Bo : Nat) (A0 : Option Addr) (c0 : Nat) (l0 : List Cl) (office kind : Int) (w : World) (hr0 : Kd.C k24 w A0 l0.length l0) (hl : w.cell? ⟨Bl, 0, none⟩ = some (.slice A0 l0.length c0)) (ho : w.cell? ⟨Bo, 0, none⟩ = some (.int .i64 office)) :
    Calls Try.prog 83 #[.int .i64 kind, .pointer (some ⟨Bl, 0, none⟩), .pointer (some ⟨Bo, 0, none⟩)] w fun e w' => e = .returned (.bool (l0.any fun x => x.f1 == office && x.f0 == kind)) ∧ Below w.heap.size w w' := by
  have hB1 := (Below.refl w.heap.size w).alloc (Nat.le_refl _) (.cells #[.int .i64 kind] 3)
  have hl2 := Lib.cell?_alloc_some (.cells #[.int .i64 kind] 3) hl
  have ho2 := Lib.cell?_alloc_some (.cells #[.int .i64 kind] 3) ho
  have hk2 : (w.alloc (.cells #[.int .i64 kind] 3)).cell? ⟨w.heap.size, 0, none⟩ = some (.int .i64 kind) := World.cell?_alloc_at _ _ _ 0 rfl
  have hcon := ContainsFuncC A0 c0 l0 _ (Kd.C_below hr0 hB1) 84 #[.pointer (some ⟨Bo, 0, none⟩), .pointer (some ⟨w.heap.size, 0, none⟩)] (enters_of Try.func84 (by kernel_rfl) rfl) (fun x => x.f1 == office && x.f0 == kind) (fun W => W.cell? ⟨Bo, 0, none⟩ = some (.int .i64 office) ∧ W.cell? ⟨w.heap.size, 0, none⟩ = some (.int .i64 kind)) ⟨ho2, hk2⟩
    (fun x _ W hI hB => (says11_any x Bo w.heap.size office kind W hI.1 hI.2).mono fun e W' h => ⟨h.1, ⟨(h.2.cell (p := ⟨Bo, 0, none⟩) (World.block_lt_of_cell? W _ hI.1)).trans hI.1, (h.2.cell (p := ⟨w.heap.size, 0, none⟩) (World.block_lt_of_cell? W _ hI.2)).trans hI.2⟩, h.2.mono hB.size⟩)
  obtain ⟨r, hr⟩ : ∃ r, (l0.any fun x => x.f1 == office && x.f0 == kind) = r := ⟨_, rfl⟩
  rw [hr] at hcon ⊢
  go_enter Try.func83, Try.ntmps83
  go_wp2_with fail
  refine hcon.mono ?_
  rintro e w1 ⟨rfl, _, hB2⟩
  go_wp2
  go_ret
  exact ⟨rfl, hB1.trans (hB2.mono (by simp))⟩
def saysI (office : Int) (l : List Cl) : Int := if (l.any fun x => x.f1 == office && x.f0 == 1) = true then -1 else if (l.any fun x => x.f1 == office && x.f0 == 0) = true then 1 else 0
theorem says_any (A0 : Option Addr) (c0 : Nat) (l0 : List Cl) (office : Int) (w : World) (hr0 : Kd.C k24 w A0 l0.length l0) :
    Calls Try.prog 60 #[.int .i64 office, .slice A0 l0.length c0] w fun e w' => e = .returned (.int .i64 (saysI office l0)) ∧ Below w.heap.size w w' := by
  have hB1 := (Below.refl w.heap.size w).alloc (Nat.le_refl _) (.cells #[.int .i64 office] 3)
  have hB2 := hB1.alloc (by simp) (.cells #[.slice A0 l0.length c0] 25)
  have ho : ((w.alloc (.cells #[.int .i64 office] 3)).alloc (.cells #[.slice A0 l0.length c0] 25)).cell? ⟨w.heap.size, 0, none⟩ = some (.int .i64 office) := Lib.cell?_alloc_some _ (World.cell?_alloc_at _ _ _ 0 rfl)
  have hl : ((w.alloc (.cells #[.int .i64 office] 3)).alloc (.cells #[.slice A0 l0.length c0] 25)).cell? ⟨w.heap.size + 1, 0, none⟩ = some (.slice A0 l0.length c0) := World.cell?_alloc_at _ _ _ 0 (by simp)
  have hs := fun kind W (hB : Below ((w.alloc (.cells #[.int .i64 office] 3)).alloc (.cells #[.slice A0 l0.length c0] 25)).heap.size ((w.alloc (.cells #[.int .i64 office] 3)).alloc (.cells #[.slice A0 l0.length c0] 25)) W) =>
    says1_any (w.heap.size + 1) w.heap.size A0 c0 l0 office kind W (Kd.C_below (Kd.C_below hr0 hB2) hB) ((hB.cell (p := ⟨w.heap.size + 1, 0, none⟩) (by simp)).trans hl) ((hB.cell (p := ⟨w.heap.size, 0, none⟩) (by simp; omega)).trans ho)
  unfold saysI
  obtain ⟨r1, hr1⟩ : ∃ r, (l0.any fun x => x.f1 == office && x.f0 == 1) = r := ⟨_, rfl⟩
  obtain ⟨r0, hr0'⟩ : ∃ r, (l0.any fun x => x.f1 == office && x.f0 == 0) = r := ⟨_, rfl⟩
  have hs1 := hs 1
  have hs0 := hs 0
  rw [hr1] at hs1
  rw [hr0'] at hs0
  rw [hr1, hr0']
  clear hs hr1 hr0'
  go_enter Try.func60, Try.ntmps60
  go_wp2_with fail
  refine (hs1 _ (Below.refl _ _)).mono ?_
  rintro e w1 ⟨rfl, hB3⟩
  cases r1
  · go_wp2_with fail
    refine (hs0 _ hB3).mono ?_
    rintro e w2 ⟨rfl, hB4⟩
    cases r0
    · go_wp2
      go_ret
      exact ⟨rfl, (hB2.trans (hB3.mono (by simp; omega))).trans (hB4.mono (by have := hB3.size; simp at this; omega))⟩
    · go_wp2
      go_ret
      exact ⟨rfl, (hB2.trans (hB3.mono (by simp; omega))).trans (hB4.mono (by have := hB3.size; simp at this; omega))⟩
  · go_wp2
    go_ret
    exact ⟨rfl, hB2.trans (hB3.mono (by simp; omega))⟩
def showsB : List Int → List Cl → Bool
  | [], _ => false
  | o :: r, l => if saysI o l = 0 then showsB r l else decide (saysI o l > 0)
theorem showsB_drop (os : List Int) (l : List Cl) (k : Nat) (hk : k < os.length) : showsB (os.drop k) l = if saysI os[k] l = 0 then showsB (os.drop (k + 1)) l else decide (saysI os[k] l > 0) := by
  rw [List.drop_eq_getElem_cons hk]
  rfl
set_option maxHeartbeats 2000000 in
theorem shows_any (kind : Int) (hk : kind ≠ 2) (Ao : Option Addr) (co : Nat) (os : List Int) (A0 : Option Addr) (c0 : Nat) (l0 : List Cl) (w : World) (hr0 : Kd.C k24 w A0 l0.length l0) (hro : Kd.C (Kd.int .i64) w Ao os.length os) :
    Calls Try.prog 37 #[.agg #[.int .i64 kind, .slice Ao os.length co], .slice A0 l0.length c0] w fun e w' => e = .returned (.bool (showsB os l0)) ∧ Below w.heap.size w w' := by
  have hB1 := (Below.refl w.heap.size w).alloc (Nat.le_refl _) (.cells #[.int .i64 kind, .slice Ao os.length co] 61)
  have hol := C_le hro
  have hd : (kind == 2) = false := by simpa using hk
  go_enter Try.func37, Try.ntmps37
  go_wp2
  go_loopw [16] (fun i wr => ∃ k : Nat, k ≤ os.length ∧ i = .int .i64 k ∧ showsB (os.drop k) l0 = showsB os l0 ∧ Below w.heap.size w wr) (fun i _ => os.length - (intOf i).toNat)
  case atStart => exact ⟨0, Nat.zero_le _, rfl, rfl, hB1⟩
  case round =>
    obtain ⟨k, hk, rfl, hsh, hB⟩ := hrel
    by_cases hlt : k < os.length
    · obtain ⟨ad, rfl, hc⟩ := (Kd.reads_of_C (d := 0) (Kd.C_below hro hB)).2.2 (by omega)
      have hck := hc k hlt
      rw [List.getD_eq_getElem?_getD, List.getElem?_eq_getElem hlt, Option.getD_some] at hck
      have hstep := Lib.hid (showsB_drop os l0 k hlt)
      have hs := says_any A0 c0 l0 os[k] wr (Kd.C_below hr0 hB)
      obtain ⟨o, ho⟩ : ∃ o, os[k] = o := ⟨_, rfl⟩
      rw [ho] at hck hstep hs
      obtain ⟨s, hs'⟩ : ∃ s, saysI o l0 = s := ⟨_, rfl⟩
      rw [hs'] at hstep hs
      by_cases hz : s = 0
      · subst hz
        go_wp2_with (go_at_call 60; refine hs.mono ?_; rintro e w' ⟨rfl, hB'⟩)
        go_roundw
        case rel => exact ⟨k + 1, by omega, by go_num, by rw [← hsh, hstep.out]; rfl, hB.trans (hB'.mono hB.size)⟩
        case measure => simp [intOf]; omega
      · have hz2 : (s == 0) = false := by simpa using hz
        have hres := Lib.hid (show showsB os l0 = decide (s > 0) by rw [← hsh, hstep.out, if_neg hz])
        clear hstep hsh
        go_wp2_with (go_at_call 60; refine hs.mono ?_; rintro e w' ⟨rfl, hB'⟩)
        go_ret
        exact ⟨by rw [hres.out]; rfl, hB.trans (hB'.mono hB.size)⟩
    · obtain rfl : k = os.length := by omega
      rw [List.drop_length] at hsh
      have hres := Lib.hid hsh
      clear hsh
      go_wp2
      go_ret
      exact ⟨by rw [← hres.out]; rfl, hB⟩
end Go.Proofs.Ytpggedoopjcflaa.PClaimHash
