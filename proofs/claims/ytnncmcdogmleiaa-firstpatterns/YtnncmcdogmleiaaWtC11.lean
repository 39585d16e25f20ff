/- Part of the proof of the law's row: YtnncmcdogmleiaaWtC11. -/
import Derived.Test.YtnncmcdogmleiaaProg
import Derived.Test.YtnncmcdogmleiaaAbsY
import Derived.Test.YtnncmcdogmleiaaWpBase
set_option linter.all false
set_option linter.unusedVariables false
set_option linter.unusedSimpArgs false
/-! The types of the seat. -/
namespace Go.Proofs
open Go.Abs
@[reducible] def tRule : Ty := .st [.str, .sl 61 tNode]
@[reducible] def tGrammar : Ty := .st [.sl 50 tRule]
@[reducible] def tRuleL : Ty := .st [.str, .len 61 tNode]
@[reducible] def tGrammarL : Ty := .st [.len 50 tRuleL]
@[reducible] noncomputable def GT : Env := { P := Try.prog, tys := [(2, (.int .i64, 8)), (3, (.int .i64, 8)), (4, (.bool, 1)), (5, (.int .u8, 1)), (9, (.str, 16)), (12, (.int .u64, 8)), (21, (.int .i32, 4)), (22, (.sl 50 tRule, 24)), (23, (tGrammar, 24)), (24, (tGrammar, 24)), (26, (.sl 36 tFirsts, 24)), (27, (.int .i64, 8)), (32, (.int .u64, 8)), (33, (tSet, 32)), (34, (tSet, 32)), (35, (tFirsts, 40)), (36, (tFirsts, 40)), (40, (.sl 61 tNode, 24)), (41, (.sl 61 tNode, 24)), (49, (tRule, 40)), (50, (tRule, 40)), (52, (tSpot, 16)), (53, (tSpot, 16)), (60, (tNode, 64)), (61, (tNode, 64)), (64, (tEmptiness, 24)), (65, (tEmptiness, 24)), (70, (.map 9 3 .str (.int .i64), 8)), (76, (.map 9 36 .str tFirsts, 8)), (79, (.sl 80 (.sl 65 tEmptiness), 24)), (80, (.sl 65 tEmptiness, 24)), (89, (.sl 9 .str, 24)), (95, (tshape, 16)), (96, (tshape, 16)), (98, (.sl 4 .bool, 24)), (103, (.sl 105 (.sl 3 (.int .i64)), 24)), (105, (.sl 3 (.int .i64), 24)), (115, (.sl 96 tshape, 24)), (125, (.sl 5 (.int .u8), 24)), (136, (.int .u32, 4))], ones := [], arrs := [33, 34], gl := [], recs := [24], bars := [23, 24, 49, 50] }
@[reducible] noncomputable def GTL : Env := { GT with tys := [(50, (tRuleL, 40)), (24, (tGrammarL, 24)), (22, (.sl 50 tRuleL, 24))] ++ GT.tys, recs := [], kln := true }
theorem GTL_ok : EnvOk GTL := env_ok (by kernel_rfl) (by kernel_rfl) (by kernel_rfl)
@[reducible] noncomputable def GTA : Env := { GT with tys := [(33, (.arr 4 (.int .u64), 32)), (34, (.arr 4 (.int .u64), 32))] ++ GT.tys, recs := [] }
theorem GTA_ok : EnvOk GTA := env_ok (by kernel_rfl) (by kernel_rfl) (by kernel_rfl)
@[reducible] noncomputable def GTd (l m n : List Nat) : Env := { GT with inpl := l, deep := m, nam := n }
theorem GT_ok : EnvOk GT := env_ok (by kernel_rfl) (by kernel_rfl) (by kernel_rfl)
theorem GTd_ok (l m n : List Nat) : EnvOk (GTd l m n) := ((GT_ok.inpl l).deep m).nam n
abbrev bodyOf (f : Func) : Code := f.body.getD .skip
end Go.Proofs
