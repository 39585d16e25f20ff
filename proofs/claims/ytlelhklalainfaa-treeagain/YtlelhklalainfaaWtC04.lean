/- Part of the proof of the law's row: YtlelhklalainfaaWtC04. -/
import Derived.Test.YtlelhklalainfaaProg
import Derived.Test.YtlelhklalainfaaAbsY
import Derived.Test.YtlelhklalainfaaWpBase
set_option linter.all false
set_option linter.unusedVariables false
set_option linter.unusedSimpArgs false
/-! The types of the seat. -/
namespace Go.Proofs
open Go.Abs
@[reducible] def tChange : Ty := .st [.sl 48 tNode, .int .i64, .sl 48 tNode]
@[reducible] noncomputable def GT : Env := { P := Try.prog, tys := [(2, (.int .i64, 8)), (3, (.int .i64, 8)), (4, (.bool, 1)), (5, (.int .u8, 1)), (9, (.str, 16)), (12, (.int .u64, 8)), (21, (.int .i32, 4)), (22, (.sl 48 tNode, 24)), (23, (.sl 48 tNode, 24)), (25, (.int .i64, 8)), (32, (.sl 9 .str, 24)), (40, (.sl 3 (.int .i64), 24)), (44, (.int .u64, 8)), (45, (tSet, 32)), (46, (tSet, 32)), (47, (tNode, 64)), (48, (tNode, 64)), (49, (tChange, 56)), (50, (tChange, 56)), (56, (.sl 23 (.sl 48 tNode), 24)), (58, (tshape, 16)), (59, (tshape, 16)), (65, (.sl 59 tshape, 24)), (85, (.int .u32, 4))], ones := [], arrs := [45, 46] }
theorem GT_ok : EnvOk GT := env_ok (by kernel_rfl) (by kernel_rfl) (by kernel_rfl)
abbrev bodyOf (f : Func) : Code := f.body.getD .skip
end Go.Proofs
