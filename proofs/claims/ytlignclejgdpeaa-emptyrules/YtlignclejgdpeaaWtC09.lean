/- Part of the proof of the law's row: YtlignclejgdpeaaWtC09. -/
import Derived.Test.YtlignclejgdpeaaProg
import Derived.Test.YtlignclejgdpeaaAbsY
import Derived.Test.YtlignclejgdpeaaWpBase
set_option linter.all false
set_option linter.unusedVariables false
set_option linter.unusedSimpArgs false
/-! The types of the seat. -/
namespace Go.Proofs
open Go.Abs
@[reducible] def tRule : Ty := .st [.str, .sl 60 tNode]
@[reducible] def tGrammar : Ty := .st [.sl 45 tRule]
@[reducible] def tRuleL : Ty := .st [.str, .len 60 tNode]
@[reducible] def tGrammarL : Ty := .st [.len 45 tRuleL]
@[reducible] noncomputable def GT : Env := { P := Try.prog, tys := [(2, (.int .i64, 8)), (3, (.int .i64, 8)), (4, (.bool, 1)), (5, (.int .u8, 1)), (9, (.str, 16)), (12, (.int .u64, 8)), (21, (.int .i32, 4)), (22, (.sl 45 tRule, 24)), (23, (tGrammar, 24)), (24, (tGrammar, 24)), (26, (.sl 33 tEmptiness, 24)), (27, (.int .i64, 8)), (32, (tEmptiness, 24)), (33, (tEmptiness, 24)), (37, (.sl 60 tNode, 24)), (38, (.sl 60 tNode, 24)), (44, (tRule, 40)), (45, (tRule, 40)), (47, (tSpot, 16)), (48, (tSpot, 16)), (56, (.int .u64, 8)), (57, (tSet, 32)), (58, (tSet, 32)), (59, (tNode, 64)), (60, (tNode, 64)), (65, (.map 9 3 .str (.int .i64), 8)), (69, (.sl 4 .bool, 24)), (75, (.sl 9 .str, 24)), (78, (.sl 3 (.int .i64), 24)), (83, (tshape, 16)), (84, (tshape, 16)), (86, (.sl 78 (.sl 3 (.int .i64)), 24)), (95, (.sl 84 tshape, 24)), (106, (.int .u32, 4))], ones := [], arrs := [57, 58], gl := [], recs := [24], bars := [23, 24, 44, 45] }
@[reducible] noncomputable def GTL : Env := { GT with tys := [(45, (tRuleL, 40)), (24, (tGrammarL, 24)), (22, (.sl 45 tRuleL, 24))] ++ GT.tys, recs := [], kln := true }
theorem GTL_ok : EnvOk GTL := env_ok (by kernel_rfl) (by kernel_rfl) (by kernel_rfl)
@[reducible] noncomputable def GTd (l m n : List Nat) : Env := { GT with inpl := l, deep := m, nam := n }
theorem GT_ok : EnvOk GT := env_ok (by kernel_rfl) (by kernel_rfl) (by kernel_rfl)
theorem GTd_ok (l m n : List Nat) : EnvOk (GTd l m n) := ((GT_ok.inpl l).deep m).nam n
abbrev bodyOf (f : Func) : Code := f.body.getD .skip
end Go.Proofs
