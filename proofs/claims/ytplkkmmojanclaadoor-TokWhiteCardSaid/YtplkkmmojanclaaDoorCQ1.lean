/- Part of the proof; printed or typed in this session; unused declarations and remarks struck by a program (wip/prune.py). -/
import Derived.Test.YtplkkmmojanclaaDoorCQ0
set_option linter.all false
namespace Go.Proofs.YtplkkmmojanclaaDoor.Q
open Go.RowKit Go.Proofs.YtplkkmmojanclaaDoor.My Go.Proofs.YtplkkmmojanclaaDoorW.PrintWords Go.Proofs.YtplkkmmojanclaaDoorW.PrintLast Go.Proofs.YtplkkmmojanclaaDoorW.PrintMore
attribute [local go_sem] max2_int min2_int max_two min_two max_three min_three max_four min_four
set_option linter.unusedVariables false
set_option linter.unusedSimpArgs false
theorem eqA31 (d : Nat) (w : World) (x0 y0 : Int) (x1 y1 : ByteArray) (x2 y2 : Int) (x3 y3 : Bool) (x4 y4 : Int) :
    (Op.equalIn (d + 2) 31 (.agg #[.int .i64 x0, .string x1, .int .i64 x2, .bool x3, .int .i64 x4]) (.agg #[.int .i64 y0, .string y1, .int .i64 y2, .bool y3, .int .i64 y4])).run Tryd.prog w = .ok (x0 == y0 && (x1.toList == y1.toList && (x2 == y2 && (x3 == y3 && (x4 == y4))))) w := by
  refine eqA_of Tryd.underlying31 (by kernel_rfl) ?_
  refine eqf_cons (by rfl) (by go_simp; rfl) (by go_simp; rfl) (by go_simp) ?_
  refine eqf_cons (by rfl) (by go_simp; rfl) (by go_simp; rfl) (by go_simp) ?_
  refine eqf_cons (by rfl) (by go_simp; rfl) (by go_simp; rfl) (by go_simp) ?_
  refine eqf_cons (by rfl) (by go_simp; rfl) (by go_simp; rfl) (by go_simp) ?_
  exact eqf_last (by rfl) (by go_simp; rfl) (by go_simp; rfl) (by go_simp)
end Go.Proofs.YtplkkmmojanclaaDoor.Q
