/- claim.compare: what it answers, with the world behind it told whole. -/
import Derived.Test.YtpggedoopjcflaaPClaimHashx0
import Derived.Test.YtpggedoopjcflaaPClaimHashx2
import Derived.Deep.RegionHeld3
import Derived.Shelf.SlSortCmp.WholeK
import Derived.Test.YtpggedoopjcflaaPClaimHashEClaimV
namespace Go.Proofs.Ytpggedoopjcflaa.PClaimHash
open Go.RowKit Go.Proofs.YtpggedoopjcflaaW.PrintWords Go.Sort
set_option maxRecDepth 100000
def cmpI (x y : Int) : Int := if x < y then -1 else if x > y then 1 else 0
theorem Compare_eq (x y : Int) : cmp_Compare_int.f x y = some (cmpI x y) := by
  unfold cmp_Compare_int.f cmp_isNaN_int.f cmpI
  simp
  by_cases h : x < y
  · simp [h]
  · by_cases h2 : y < x <;> simp [h, h2]
def or4 (a b c d : Int) : Int := if a = 0 then (if b = 0 then (if c = 0 then d else c) else b) else a
theorem Or4_eq (a b c d : Int) : cmp_Or_int.f 5 [a, b, c, d] = some (or4 a b c d) := by
  unfold cmp_Or_int.f or4
  simp only [cmp_Or_int.l0, List.length_cons, List.length_nil]
  by_cases ha : a = 0 <;> by_cases hb : b = 0 <;> by_cases hc : c = 0 <;> by_cases hd : d = 0 <;> simp [Go.Proofs.YtpggedoopjcflaaW.PrintWords.rd, ha, hb, hc, hd, wrap64]
/-- What claim.compare answers. -/
def cmpC (x y : Cl) : Int := or4 (cmpI x.f0 y.f0) (cmpI x.f1 y.f1) (cmpI x.f4 y.f4) (cmpI x.f2 y.f2)
def encCl (x : Cl) : List Value := [.int .i64 x.f0, .int .i64 x.f1, .int .i64 x.f2, .int .i64 x.f3, .int .i64 x.f4]
theorem cells_C {V : World} {a b c d : Int} {T : TypeId} : Kd.C (Kd.int .i64) (V.alloc (.cells #[.int .i64 a, .int .i64 b, .int .i64 c, .int .i64 d] T)) (some ⟨V.heap.size, 0, none⟩) 4 [a, b, c, d] := by
  refine Kd.C_of_reads (d := 0) ⟨rfl, by omega, fun hn => ⟨_, rfl, fun i hi => ?_⟩⟩
  rcases i with _ | _ | _ | _ | i
  · exact World.cell?_alloc_at _ _ _ 0 rfl
  · exact World.cell?_alloc_at _ _ _ 1 rfl
  · exact World.cell?_alloc_at _ _ _ 2 rfl
  · exact World.cell?_alloc_at _ _ _ 3 rfl
  · omega
theorem size2 (W : World) (a b : Obj) (n : Nat) : W.heap.size + 1 + 1 = (((W.alloc a).alloc b).drewN n).heap.size := by
  show _ = ((W.heap.push a).push b).size
  rw [Array.size_push, Array.size_push]
theorem world3 (W : World) (a b c : Obj) (n m : Nat) : ((((W.alloc a).alloc b).drewN n).alloc c).drewN m = grow (W.drewN (n + m)) #[a, b, c] := by
  show ({ W with heap := ((W.heap.push a).push b).push c, drawn := W.drawn + n + m } : World) = { W with heap := W.heap ++ #[a, b, c], drawn := W.drawn + (n + m) }
  have e : ((W.heap.push a).push b).push c = W.heap ++ #[a, b, c] := by
    apply Array.ext'
    rw [Array.toList_push, Array.toList_push, Array.toList_push, Array.toList_append, List.append_assoc, List.append_assoc]
    rfl
  rw [e, Nat.add_assoc]
set_option maxHeartbeats 4000000 in
theorem compare_any (x y : Cl) (W : World) : Calls Try.prog 12 #[.agg (encCl x).toArray, .agg (encCl y).toArray] W fun e w' => e = .returned (.int .i64 (cmpC x y)) ∧ ∃ q os', w' = grow (W.drewN q) os' := by
  have hcon := fun (a b : Int) W' => cmp_Compare_int.calls a b _ W' (Compare_eq a b)
  have hor : ∀ (g : Nat) (V : World) (T : TypeId) (a b c d : Int), g = V.heap.size → Calls Try.prog 24 #[.slice (some ⟨g, 0, none⟩) 4 4] (V.alloc (.cells #[.int .i64 a, .int .i64 b, .int .i64 c, .int .i64 d] T)) fun e w' => e = .returned (.int .i64 (or4 a b c d)) ∧ Drawn0 (V.alloc (.cells #[.int .i64 a, .int .i64 b, .int .i64 c, .int .i64 d] T)) w' := by
    rintro g V T a b c d rfl
    exact cmp_Or_int.calls 5 (some ⟨V.heap.size, 0, none⟩) 4 [a, b, c, d] _ _ cells_C (Nat.le_refl _) (Or4_eq a b c d)
  unfold encCl cmpC
  go_enter Try.func12, Try.ntmps12
  go_wp2
  go_region_held3 (fun w' => w'.cell? ⟨W.heap.size, 0, none⟩ = some (.int .i64 x.f0) ∧ w'.cell? ⟨W.heap.size, 1, none⟩ = some (.int .i64 x.f1) ∧ w'.cell? ⟨W.heap.size, 4, none⟩ = some (.int .i64 x.f4) ∧ w'.cell? ⟨W.heap.size, 2, none⟩ = some (.int .i64 x.f2) ∧ w'.cell? ⟨W.heap.size + 1, 0, none⟩ = some (.int .i64 y.f0) ∧ w'.cell? ⟨W.heap.size + 1, 1, none⟩ = some (.int .i64 y.f1) ∧ w'.cell? ⟨W.heap.size + 1, 4, none⟩ = some (.int .i64 y.f4) ∧ w'.cell? ⟨W.heap.size + 1, 2, none⟩ = some (.int .i64 y.f2)) (go_keep)
    (first | (go_at_call 25; refine (hcon _ _ _).mono ?_; rintro e w' ⟨rfl, ⟨⟨n, rfl⟩⟩⟩) | (go_at_call 24; refine (hor _ _ _ _ _ _ _ ?_).mono ?_; (exact size2 _ _ _ _); rintro e w' ⟨rfl, ⟨⟨n, rfl⟩⟩⟩))
  go_wp2
  go_ret
  exact ⟨rfl, _, _, world3 _ _ _ _ _ _⟩
/-- The order of claims. -/
def ltC (x y : Cl) : Prop := x.f0 < y.f0 ∨ x.f0 = y.f0 ∧ (x.f1 < y.f1 ∨ x.f1 = y.f1 ∧ (x.f4 < y.f4 ∨ x.f4 = y.f4 ∧ x.f2 < y.f2))
instance (x y : Cl) : Decidable (ltC x y) := by unfold ltC; infer_instance
theorem cmpI_cases (x y : Int) : (x < y ∧ cmpI x y = -1) ∨ (x = y ∧ cmpI x y = 0) ∨ (y < x ∧ cmpI x y = 1) := by
  unfold cmpI
  by_cases h : x < y
  · exact .inl ⟨h, if_pos h⟩
  · by_cases h2 : y < x
    · exact .inr (.inr ⟨h2, by rw [if_neg h, if_pos h2]⟩)
    · exact .inr (.inl ⟨by omega, by rw [if_neg h, if_neg h2]⟩)
theorem ltOf_cmpC (x y : Cl) : ltOf cmpC x y = decide (ltC x y) := by
  rw [ltOf, Bool.eq_iff_iff, decide_eq_true_eq, decide_eq_true_eq]
  unfold cmpC or4 ltC
  rcases cmpI_cases x.f0 y.f0 with ⟨h0, e0⟩ | ⟨h0, e0⟩ | ⟨h0, e0⟩ <;> rw [e0]
  · rw [if_neg (by decide)]; omega
  · rw [if_pos rfl]
    rcases cmpI_cases x.f1 y.f1 with ⟨h1, e1⟩ | ⟨h1, e1⟩ | ⟨h1, e1⟩ <;> rw [e1]
    · rw [if_neg (by decide)]; omega
    · rw [if_pos rfl]
      rcases cmpI_cases x.f4 y.f4 with ⟨h2, e2⟩ | ⟨h2, e2⟩ | ⟨h2, e2⟩ <;> rw [e2]
      · rw [if_neg (by decide)]; omega
      · rw [if_pos rfl]
        rcases cmpI_cases x.f2 y.f2 with ⟨h3, e3⟩ | ⟨h3, e3⟩ | ⟨h3, e3⟩ <;> rw [e3] <;> omega
      · rw [if_neg (by decide)]; omega
    · rw [if_neg (by decide)]; omega
  · rw [if_neg (by decide)]; omega
theorem swoC : SWO (ltOf cmpC) where
  irrefl x := by rw [ltOf_cmpC, decide_eq_false_iff_not]; unfold ltC; omega
  trans x y z h1 h2 := by rw [ltOf_cmpC, decide_eq_true_eq] at *; unfold ltC at *; omega
  ntrans x y z h1 h2 := by rw [ltOf_cmpC, decide_eq_false_iff_not] at *; unfold ltC at *; omega
end Go.Proofs.Ytpggedoopjcflaa.PClaimHash
