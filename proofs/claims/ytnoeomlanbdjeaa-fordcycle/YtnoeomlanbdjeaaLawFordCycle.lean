/- Part of the proof of the law's row: YtnoeomlanbdjeaaLawFordCycle. -/
import Derived.Test.YtnoeomlanbdjeaaRows
import Derived.Test.YtnoeomlanbdjeaaWwC10
import Derived.Test.YtnoeomlanbdjeaaWq08b
import Derived.Test.YtnoeomlanbdjeaaRow
import Derived.Test.YtnoeomlanbdjeaaWq10r
import Derived.WalkKit
import Derived.ProofKit
import Derived.OpenShut
import Derived.ShutString
import Derived.ChangeOld
import Derived.Below
import Derived.SizedLaws
set_option linter.all false
set_option linter.unusedVariables false
set_option linter.unusedSimpArgs false
/- The law FordCycle returns true, whatever the input; the input reads as it did. -/
namespace Go.Proofs.Ytnoeomlanbdjeaa
open Go.ChangeShapes Go.WideShapes Go.ChangeAt Go.RowKit Go.Abs
theorem fordCycle_own : ownKnob Try.prog.godebug = none := by kernel_rfl
theorem fordCycle_laidOut : laidOutB Try.prog = true := by kernel_rfl
set_option maxRecDepth 100000 in
theorem fordCycle_lifted (os : Os) (started : os.Started) (H : Type) (enc : TypeId × Value → H) :
    ReturnsInHanded {} Try.checked os 7 .any (Rows.fordCycleSpec.pre6 enc Try.prog Try.f7 Rows.fordCycleRow.domain false) (Rows.fordCycleSpec.post enc Try.prog Try.f7 false true false false) := by
  refine returnsInHanded_of_change_sized (C := Try.checked) fordCycle_own started (by kernel_rfl) Try.func7
    (ChangeSpec.witness6 (enc := enc) (C := Try.checked) false ⟨#[], #[.agg #[.slice none 0 0]], []⟩ 8 (by kernel_rfl) (by kernel_rfl) (by kernel_rfl) (by kernel_rfl)) ?_
  intro W base args ds gs before hval0 hW hcnd hsz0 _
  have hsz : (DataW.weightsEach Try.prog (Try.f7.params.toList ++ Rows.fordCycleSpec.plain.varTypes Try.prog) (ds ++ gs)).all (· ≤ reachBytes) = true := hsz0
  have hval : ∀ (j : Nat) t v, Try.f7.params[j]? = some t → args[j]? = some v → Value.okWide Try.prog W .any base t v := hval0
  have hW' := hW
  obtain ⟨p, q, hA0, hV, rfl, hfz, hnd⟩ := hW
  have hA : DataW.TrodAll enc Try.prog W 0 (fun _ => true) true Try.f7.params.toList args.toList ds p := hA0
  rw [Try.params7] at hA hval hsz
  obtain ⟨v0, vs0, d0, ds0, p0, q0, hargs, rfl, rfl, h0, r0⟩ := trodAll_cons hA
  obtain ⟨rfl, rfl, rfl⟩ := trodAll_nil r0
  obtain rfl : args = #[v0] := by cases args; simp_all
  obtain ⟨rfl, rfl⟩ := trodVars_none hV
  have k0 := h0
  have lt0 : ∀ x ∈ p0, x.block < W.heap.size := by obtain ⟨m, hm⟩ := k0; exact DataW.trod_lt m _ _ _ hm
  obtain ⟨x0, m0, z0⟩ := open_arg (t := tGrammar) (by kernel_rfl) (tyB_is (by kernel_rfl)) (hval 0 24 v0 rfl rfl) h0
  have z0 := z0 (arg_sized hsz (j := 0) (t := 24) (d := d0) rfl rfl)
  skip
  have hm : Matches (fun b => b < W.heap.size) W (fun _ => undef) [.data (tGrammar) x0] [v0] := by
    simp only [Matches]
    exact ⟨_, _, rfl, m0 _, rfl⟩
  clear hA0 hval0
  have hlaw := law_FordCycle x0.1
  refine (f7_h (x := (x0, ())) (y := (true, ())) hlaw (fun b => b < W.heap.size) W (fun _ => undef) [v0] (fun _ h => h) gok_nil hm hok_nil loose_nil).mono fun e W' he => ?_
  obtain ⟨v, S', γ', rfl, hd⟩ := he
  have bel : Below W.heap.size W W' := done_below (H' := _) (γ := fun _ => undef) hd
  obtain rfl := match_bool.1 hd.res
  exact ⟨_, rfl, _, _, _, [], _, [], hW', trodAll_mk1 (shut_bool Try.underlying4 _), (trodAll_cons_mk (Below.trod fordCycle_laidOut (by kernel_rfl) (of_decide_eq_true (by kernel_rfl)) k0 bel lt0) trodAll_mk0), rfl, bel.frame _, fun h => by cases h⟩
/-- The row. -/
theorem fordCycle_holds : Rows.FordCycleSaid :=
  OpenClaim.holds_of_wide 7 Try.f7 rfl rfl rfl rfl rfl rfl rfl ⟨rfl, rfl, rfl, rfl, rfl⟩ rfl rfl rfl rfl rfl (by kernel_rfl) Try.func7 (by kernel_rfl)
    (of_decide_eq_true (by kernel_rfl)) (by unfold Func.isWrapper; first | (rw [if_pos (by decide +kernel)]; kernel_rfl) | (rw [if_neg (by decide +kernel)]; exact ⟨rfl, rfl⟩))
    (fun os started H enc _ => fordCycle_lifted os started H enc)
end Go.Proofs.Ytnoeomlanbdjeaa
