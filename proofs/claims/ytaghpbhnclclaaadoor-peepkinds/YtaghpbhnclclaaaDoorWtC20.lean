/- Part of the proof of the law's row: YtaghpbhnclclaaaDoorWtC20. -/
import Derived.Test.YtaghpbhnclclaaaDoorProg
import Derived.Test.YtaghpbhnclclaaaDoorAbsY
import Derived.Test.YtaghpbhnclclaaaDoorWpBase
set_option linter.all false
set_option linter.unusedVariables false
set_option linter.unusedSimpArgs false
/-! The types of the seat. -/
namespace Go.Proofs
open Go.Abs
@[reducible] def tUses : Ty := .st [.int .i64, .int .i64, .int .i64, .int .i64, .int .i64, .int .i64, .int .i64, .int .i64, .int .i64, .int .i64, .int .i64, .int .i64, .int .i64, .int .i64, .int .i64, .int .i64, .int .i64, .int .i64, .int .i64, .int .i64, .int .i64]
@[reducible] def usesV : tUses.Den := ((0 : Int), (64 : Int), (66 : Int), (80 : Int), (97 : Int), (99 : Int), (113 : Int), (80 : Int), (97 : Int), (33 : Int), (33 : Int), (33 : Int), (0 : Int), (0 : Int), (33 : Int), (97 : Int), (0 : Int), (0 : Int), (78 : Int), (64 : Int), (79 : Int), ())
@[reducible] noncomputable def GT : Env := { P := Tryd.prog, tys := [(2, (.int .i64, 8)), (3, (.int .i64, 8)), (4, (.bool, 1)), (5, (.int .u8, 1)), (9, (.str, 16)), (12, (.int .u64, 8)), (21, (.int .i32, 4)), (22, (.sl 37 tInstr, 24)), (24, (.int .i64, 8)), (30, (.sl 4 .bool, 24)), (33, (.int .u64, 8)), (34, (tSet, 32)), (35, (tSet, 32)), (36, (tInstr, 80)), (37, (tInstr, 80)), (45, (.sl 3 (.int .i64), 24)), (57, (.st [.int .i64, .int .i64, .int .i64, .int .i64, .int .i64, .int .i64, .int .i64, .int .i64, .int .i64, .int .i64, .int .i64, .int .i64, .int .i64, .int .i64, .int .i64, .int .i64, .int .i64, .int .i64, .int .i64, .int .i64, .int .i64], 168)), (60, (.int .u64, 8)), (62, (tNode, 64)), (63, (tNode, 64)), (64, (.sl 63 tNode, 24)), (65, (.sl 63 tNode, 24)), (69, (.int .i64, 8)), (76, (.int .u32, 4)), (78, (.sl 65 (.sl 63 tNode), 24)), (83, (.int .u64, 8)), (90, (tshape, 16)), (91, (tshape, 16)), (97, (.sl 91 tshape, 24))], ones := [], arrs := [34, 35, 57], gl := [(0, .rptr tUses usesV)], recs := [], bars := [] }
theorem GT_ok : EnvOk GT := env_ok (by kernel_rfl) (by kernel_rfl) (by kernel_rfl)
abbrev bodyOf (f : Func) : Code := f.body.getD .skip
end Go.Proofs
