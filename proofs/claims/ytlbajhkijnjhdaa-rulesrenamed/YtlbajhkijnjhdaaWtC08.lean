/- Part of the proof of the law's row: YtlbajhkijnjhdaaWtC08. -/
import Derived.Test.YtlbajhkijnjhdaaProg
import Derived.Test.YtlbajhkijnjhdaaAbsY
import Derived.Test.YtlbajhkijnjhdaaWpBase
set_option linter.all false
set_option linter.unusedVariables false
set_option linter.unusedSimpArgs false
/-! The types of the seat. -/
namespace Go.Proofs
open Go.Abs
@[reducible] def tRule : Ty := .st [.str, .sl 68 tNode]
@[reducible] def tGrammar : Ty := .st [.sl 46 tRule]
@[reducible] noncomputable def GT : Env := { P := Try.prog, tys := [(2, (.int .i64, 8)), (3, (.int .i64, 8)), (4, (.bool, 1)), (5, (.int .u8, 1)), (9, (.str, 16)), (12, (.int .u64, 8)), (21, (.int .i32, 4)), (22, (.sl 46 tRule, 24)), (23, (tGrammar, 24)), (24, (tGrammar, 24)), (26, (tSpot, 16)), (27, (tSpot, 16)), (28, (.int .i64, 8)), (39, (.sl 3 (.int .i64), 24)), (43, (.sl 68 tNode, 24)), (44, (.sl 68 tNode, 24)), (45, (tRule, 40)), (46, (tRule, 40)), (48, (.sl 39 (.sl 3 (.int .i64)), 24)), (51, (.sl 4 .bool, 24)), (61, (.map 9 3 .str (.int .i64), 8)), (64, (.int .u64, 8)), (65, (tSet, 32)), (66, (tSet, 32)), (67, (tNode, 64)), (68, (tNode, 64)), (79, (.sl 51 (.sl 4 .bool), 24)), (83, (.map 3 3 (.int .i64) (.int .i64), 8)), (89, (tshape, 16)), (90, (tshape, 16)), (94, (.sl 83 (.map 3 3 (.int .i64) (.int .i64)), 24)), (98, (.sl 90 tshape, 24)), (103, (.int .u64, 8)), (106, (.int .i64, 8)), (114, (.int .u32, 4)), (116, (.int .u64, 8))], ones := [], arrs := [65, 66], gl := [], recs := [24], bars := [23, 24, 45, 46] }
theorem GT_ok : EnvOk GT := env_ok (by kernel_rfl) (by kernel_rfl) (by kernel_rfl)
abbrev bodyOf (f : Func) : Code := f.body.getD .skip
end Go.Proofs
