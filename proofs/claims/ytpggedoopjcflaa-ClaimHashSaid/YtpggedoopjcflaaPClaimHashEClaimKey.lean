/- The key of a claim: the map's key law, and keyOf. -/
import Derived.Test.YtpggedoopjcflaaPClaimHashx0
import Derived.Test.YtpggedoopjcflaaMap
import Derived.Test.YtpggedoopjcflaaPClaimHashEClaimNormP
namespace Go.Proofs.Ytpggedoopjcflaa.PClaimHash
open Go.RowKit Go.Proofs.YtpggedoopjcflaaW.PrintWords
set_option maxRecDepth 100000
def encK (k : K3) : Value := .agg #[.int .i64 k.1, .int .i64 k.2.1, .int .i64 k.2.2]
theorem keyK : Map.KeyIs Try.prog 44 encK := by
  refine Map.struct_key Try.underlying44 (fun w em x => ?_) (fun w x y => ?_) (fun x => ?_)
  · unfold encK
    kernel_rfl
  · have h : (Op.equalIn 10000 44 (encK x) (encK y)).run Try.prog w = .ok (x.1 == y.1 && (x.2.1 == y.2.1 && (x.2.2 == y.2.2))) w := by
      refine eqA_of Try.underlying44 (by kernel_rfl) ?_
      refine eqf_cons (by rfl) (by go_simp; rfl) (by go_simp; rfl) (by go_simp) ?_
      refine eqf_cons (by rfl) (by go_simp; rfl) (by go_simp; rfl) (by go_simp) ?_
      exact eqf_last (by rfl) (by go_simp; rfl) (by go_simp; rfl) (by go_simp)
    rw [Op.equal, show Op.maxDepth = 10000 from rfl, h]
    congr 1
    rcases x with ⟨x0, x1, x2⟩
    rcases y with ⟨y0, y1, y2⟩
    rw [Bool.eq_iff_iff, decide_eq_true_eq, Bool.and_eq_true, Bool.and_eq_true, beq_iff_eq, beq_iff_eq, beq_iff_eq, Prod.mk.injEq, Prod.mk.injEq]
  · simp [encK, Instr.sameBits]
theorem keyOf_any (c : Cl) (W : World) : Calls Try.prog 13 #[.agg #[.int .i64 c.f0, .int .i64 c.f1, .int .i64 c.f2, .int .i64 c.f3, .int .i64 c.f4]] W fun e w' => e = .returned (encK (keyC c)) ∧ ∃ o1 o2, w' = (W.alloc o1).alloc o2 := by
  go_enter Try.func13, Try.ntmps13
  go_wp2
  refine bodyPost_ret (results_cell_row rfl _ _ (W.heap.size + 1) 44 #[.int .i64 c.f0, .int .i64 c.f1, .int .i64 c.f4] (0, 0) _ rfl ?_ Try.underlying44 rfl (by kernel_rfl)) rfl ?_
  · have h := (MapKept.heap_alloc (W.alloc (.cells #[.int .i64 c.f0, .int .i64 c.f1, .int .i64 c.f2, .int .i64 c.f3, .int .i64 c.f4] 24)) (.cells #[.int .i64 c.f0, .int .i64 c.f1, .int .i64 c.f4] 44)).1
    rw [World.size_alloc] at h
    exact h
  exact ⟨rfl, _, _, rfl⟩
end Go.Proofs.Ytpggedoopjcflaa.PClaimHash
