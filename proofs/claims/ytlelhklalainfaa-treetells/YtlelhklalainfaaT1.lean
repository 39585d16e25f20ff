/- Part of the proof of the law's row: YtlelhklalainfaaT1. -/
import Derived.Test.YtlelhklalainfaaProg
import Derived.Test.YtlelhklalainfaaAbsU
set_option linter.all false
set_option linter.unusedVariables false
set_option linter.unusedSimpArgs false
namespace Go.Proofs
open Go.Abs
@[reducible] def tSet : Ty := .st [.int .u64, .int .u64, .int .u64, .int .u64]
@[reducible] def tNode : Ty := .st [.int .i64, .int .i64, .str, tSet]
@[reducible] def tShape : Ty := .st [.int .i64, .int .i64]
@[reducible] noncomputable def GT : Env := { P := Try.prog, tys := [(3, (.int .i64, 8)), (4, (.bool, 1)), (5, (.int .u8, 1)), (9, (.str, 16)), (22, (.sl 48 tNode, 24)), (23, (.sl 48 tNode, 24)), (25, (.int .i64, 8)), (32, (.sl 9 .str, 24)), (40, (.sl 3 (.int .i64), 24)), (46, (tSet, 32)), (48, (tNode, 64)), (59, (tShape, 16)), (65, (.sl 59 tShape, 24)), (56, (.sl 23 (.sl 48 tNode), 24))], ones := [], arrs := [46] }
theorem GT_ok : EnvOk GT := env_ok (by kernel_rfl) (by kernel_rfl) (by kernel_rfl)
end Go.Proofs
