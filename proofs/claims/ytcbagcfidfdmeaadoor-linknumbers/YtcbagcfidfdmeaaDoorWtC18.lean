/- Part of the proof of the law's row: YtcbagcfidfdmeaaDoorWtC18. -/
import Derived.Test.YtcbagcfidfdmeaaDoorProg
import Derived.Test.YtcbagcfidfdmeaaDoorAbsY
import Derived.Test.YtcbagcfidfdmeaaDoorWpBase
set_option linter.all false
set_option linter.unusedVariables false
set_option linter.unusedSimpArgs false
/-! The types of the seat. -/
namespace Go.Proofs
open Go.Abs
@[reducible] def tlaid : Ty := .st [.sl 3 (.int .i64), .int .i64]
@[reducible] def tTurned : Ty := .st [.sl 33 tInstr, .int .i64, .int .i64]
@[reducible] def tUses : Ty := .st [.int .i64, .int .i64, .int .i64, .int .i64, .int .i64, .int .i64, .int .i64, .int .i64, .int .i64, .int .i64, .int .i64, .int .i64, .int .i64, .int .i64, .int .i64, .int .i64, .int .i64, .int .i64, .int .i64, .int .i64, .int .i64]
@[reducible] def usesV : tUses.Den := ((0 : Int), (64 : Int), (66 : Int), (80 : Int), (97 : Int), (99 : Int), (113 : Int), (80 : Int), (97 : Int), (33 : Int), (33 : Int), (33 : Int), (0 : Int), (0 : Int), (33 : Int), (97 : Int), (0 : Int), (0 : Int), (78 : Int), (64 : Int), (79 : Int), ())
@[reducible] noncomputable def GT : Env := { P := Tryd.prog, tys := [(2, (.int .i64, 8)), (3, (.int .i64, 8)), (4, (.bool, 1)), (5, (.int .u8, 1)), (9, (.str, 16)), (12, (.int .u64, 8)), (21, (.int .i32, 4)), (22, (.sl 33 tInstr, 24)), (23, (tTurned, 40)), (24, (tTurned, 40)), (25, (.int .i64, 8)), (29, (.int .u64, 8)), (30, (tSet, 32)), (31, (tSet, 32)), (32, (tInstr, 80)), (33, (tInstr, 80)), (44, (.sl 3 (.int .i64), 24)), (45, (tlaid, 32)), (46, (tlaid, 32)), (52, (.sl 4 .bool, 24)), (60, (.st [.int .i64, .int .i64, .int .i64, .int .i64, .int .i64, .int .i64, .int .i64, .int .i64, .int .i64, .int .i64, .int .i64, .int .i64, .int .i64, .int .i64, .int .i64, .int .i64, .int .i64, .int .i64, .int .i64, .int .i64, .int .i64], 168)), (62, (tNode, 64)), (63, (tNode, 64)), (64, (.sl 63 tNode, 24)), (65, (.sl 63 tNode, 24)), (68, (.sl 65 (.sl 63 tNode), 24)), (74, (tshape, 16)), (75, (tshape, 16)), (78, (.sl 75 tshape, 24)), (86, (.int .u32, 4))], ones := [], arrs := [30, 31, 60], gl := [(0, .rptr tUses usesV)], recs := [46] }
@[reducible] noncomputable def GTi (l : List Nat) : Env := { GT with inpl := l }
theorem GT_ok : EnvOk GT := env_ok (by kernel_rfl) (by kernel_rfl) (by kernel_rfl)
theorem GTi_ok (l : List Nat) : EnvOk (GTi l) := GT_ok.inpl l
abbrev bodyOf (f : Func) : Code := f.body.getD .skip
end Go.Proofs
