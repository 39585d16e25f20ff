/- Part of the proof of the law's row: YtnoeomlanbdjeaaWtC10. -/
import Derived.Test.YtnoeomlanbdjeaaProg
import Derived.Test.YtnoeomlanbdjeaaAbsY
import Derived.Test.YtnoeomlanbdjeaaWpBase
set_option linter.all false
set_option linter.unusedVariables false
set_option linter.unusedSimpArgs false
/-! The types of the seat. -/
namespace Go.Proofs
open Go.Abs
@[reducible] def tVerdict : Ty := .st [.sl 3 (.int .i64), tSpot]
@[reducible] def tlooked : Ty := .st [.sl 103 tEmptiness, .sl 82 (.arr 200 .bool), .sl 28 tSpot]
@[reducible] def tRule : Ty := .st [.str, .sl 42 tNode]
@[reducible] def tGrammar : Ty := .st [.sl 46 tRule]
@[reducible] noncomputable def GT : Env := { P := Try.prog, tys := [(2, (.int .i64, 8)), (3, (.int .i64, 8)), (4, (.bool, 1)), (5, (.int .u8, 1)), (9, (.str, 16)), (12, (.int .u64, 8)), (21, (.int .i32, 4)), (22, (.sl 46 tRule, 24)), (23, (tGrammar, 24)), (24, (tGrammar, 24)), (26, (.sl 3 (.int .i64), 24)), (27, (tSpot, 16)), (28, (tSpot, 16)), (29, (tVerdict, 40)), (30, (tVerdict, 40)), (31, (.int .i64, 8)), (38, (.int .u64, 8)), (39, (tSet, 32)), (40, (tSet, 32)), (41, (tNode, 64)), (42, (tNode, 64)), (43, (.sl 42 tNode, 24)), (44, (.sl 42 tNode, 24)), (45, (tRule, 40)), (46, (tRule, 40)), (55, (.sl 28 tSpot, 24)), (64, (.sl 103 tEmptiness, 24)), (65, (.sl 82 (.arr 200 .bool), 24)), (66, (tlooked, 72)), (67, (tlooked, 72)), (72, (.sl 85 (.sl 4 .bool), 24)), (81, (.arr 200 .bool, 200)), (82, (.arr 200 .bool, 200)), (85, (.sl 4 .bool, 24)), (88, (.map 9 3 .str (.int .i64), 8)), (102, (tEmptiness, 24)), (103, (tEmptiness, 24)), (105, (.sl 108 tpiece, 24)), (107, (tpiece, 201)), (108, (tpiece, 201)), (116, (tshape, 16)), (117, (tshape, 16)), (122, (.sl 117 tshape, 24)), (123, (.sl 26 (.sl 3 (.int .i64)), 24)), (136, (.int .u32, 4))], ones := [], arrs := [39, 40, 81, 82], gl := [], recs := [24, 67, 30], rown := [30], bars := [23, 24, 29, 30, 45, 46, 66, 67] }
@[reducible] noncomputable def GTd (l m n : List Nat) : Env := { GT with inpl := l, deep := m, nam := n }
theorem GT_ok : EnvOk GT := env_ok (by kernel_rfl) (by kernel_rfl) (by kernel_rfl)
theorem GTd_ok (l m n : List Nat) : EnvOk (GTd l m n) := ((GT_ok.inpl l).deep m).nam n
abbrev bodyOf (f : Func) : Code := f.body.getD .skip
end Go.Proofs
