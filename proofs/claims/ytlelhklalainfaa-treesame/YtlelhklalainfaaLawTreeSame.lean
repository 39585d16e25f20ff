/- The law TreeSame returns true, whatever the input; the input reads as it did. -/
import Derived.Test.YtlelhklalainfaaRows
import Derived.Test.YtlelhklalainfaaWF
import Derived.Test.YtlelhklalainfaaAbsX
import Derived.WalkKit
import Derived.ProofKit
import Derived.OpenShut
import Derived.ShutString
import Derived.ChangeOld
import Derived.Below
import Derived.SizedLaws
set_option linter.all false
set_option linter.unusedVariables false
set_option linter.unusedSimpArgs false
namespace Go.Proofs.Ytlelhklalainfaa
open Go.ChangeShapes Go.WideShapes Go.ChangeAt Go.RowKit Go.Abs
theorem treeSame_own : ownKnob Try.prog.godebug = none := by kernel_rfl
theorem treeSame_laidOut : laidOutB Try.prog = true := by kernel_rfl
set_option maxRecDepth 100000 in
theorem treeSame_lifted (os : Os) (started : os.Started) (H : Type) (enc : TypeId × Value → H) :
    ReturnsInHanded {} Try.checked os 4 .any (Rows.treeSameSpec.pre6 enc Try.prog Try.f4 Rows.treeSameRow.domain false) (Rows.treeSameSpec.post enc Try.prog Try.f4 false true false false) := by
  refine returnsInHanded_of_change (C := Try.checked) treeSame_own started (by kernel_rfl) Try.func4
    (ChangeSpec.witness6 (enc := enc) (C := Try.checked) false ⟨#[], #[.slice none 0 0, .slice none 0 0], []⟩ 8 (by kernel_rfl) (by kernel_rfl) (by kernel_rfl) (by kernel_rfl)) ?_
  intro W base args ds gs before hval0 hW hcnd _
  have hval : ∀ (j : Nat) t v, Try.f4.params[j]? = some t → args[j]? = some v → Value.okWide Try.prog W .any base t v := hval0
  have hW' := hW
  obtain ⟨p, q, hA0, hV, rfl, hfz, hnd⟩ := hW
  have hA : DataW.TrodAll enc Try.prog W 0 (fun _ => true) true Try.f4.params.toList args.toList ds p := hA0
  rw [Try.params4] at hA hval
  obtain ⟨v0, vs0, d0, ds0, p0, q0, hargs, rfl, rfl, h0, r0⟩ := trodAll_cons hA
  obtain ⟨v1, vs1, d1, ds1, p1, q1, rfl, rfl, rfl, h1, r1⟩ := trodAll_cons r0
  obtain ⟨rfl, rfl, rfl⟩ := trodAll_nil r1
  obtain rfl : args = #[v0, v1] := by cases args; simp_all
  obtain ⟨rfl, rfl⟩ := trodVars_none hV
  have k0 := h0
  have lt0 : ∀ x ∈ p0, x.block < W.heap.size := by obtain ⟨m, hm⟩ := k0; exact DataW.trod_lt m _ _ _ hm
  obtain ⟨x0, m0⟩ := open_arg (t := .sl 48 tNode) (by kernel_rfl) (tyB_is (by kernel_rfl)) (hval 0 23 v0 rfl rfl) h0
  have k1 := h1
  have lt1 : ∀ x ∈ p1, x.block < W.heap.size := by obtain ⟨m, hm⟩ := k1; exact DataW.trod_lt m _ _ _ hm
  obtain ⟨x1, m1⟩ := open_arg (t := .sl 48 tNode) (by kernel_rfl) (tyB_is (by kernel_rfl)) (hval 1 23 v1 rfl rfl) h1
  have hm : Matches (fun b => b < W.heap.size) W (fun _ => undef) [.data (.sl 48 tNode) x0, .data (.sl 48 tNode) x1] [v0, v1] := by
    simp only [Matches]
    exact ⟨_, _, rfl, m0 _, ⟨_, _, rfl, m1 _, rfl⟩⟩
  have hsp := dspec_data (tys := [.sl 48 tNode, .sl 48 tNode]) (F := fun x => some ([], .data .bool true, none)) (x := (x0, x1, ()))
  clear hA0 hval0
  refine (f4_ok (fun b => b < W.heap.size) W [.data (.sl 48 tNode) x0, .data (.sl 48 tNode) x1] [v0, v1] _ _ none (fun _ h => h) rfl hm hsp nop).mono fun e W' he => ?_
  obtain ⟨v, S', hv, rfl, bel, _, _, _, hr, _⟩ := he
  obtain rfl := match_bool.1 hr
  exact ⟨_, rfl, _, _, _, [], _, [], hW', trodAll_mk1 (shut_bool Try.underlying4 _), (trodAll_cons_mk (Below.trod treeSame_laidOut (by kernel_rfl) (of_decide_eq_true (by kernel_rfl)) k0 bel lt0) (trodAll_cons_mk (Below.trod treeSame_laidOut (by kernel_rfl) (of_decide_eq_true (by kernel_rfl)) k1 bel lt1) trodAll_mk0)), rfl, bel.frame _, fun h => by cases h⟩
/-- The row. -/
theorem treeSame_holds : Rows.TreeSameSaid :=
  OpenClaim.holds_of_wide 4 Try.f4 rfl rfl rfl rfl rfl rfl rfl ⟨rfl, rfl, rfl, rfl, rfl⟩ rfl rfl rfl rfl rfl (by kernel_rfl) Try.func4 (by kernel_rfl)
    (of_decide_eq_true (by kernel_rfl)) (by unfold Func.isWrapper; first | (rw [if_pos (by decide +kernel)]; kernel_rfl) | (rw [if_neg (by decide +kernel)]; exact ⟨rfl, rfl⟩))
    (fun os started H enc _ => treeSame_lifted os started H enc)
end Go.Proofs.Ytlelhklalainfaa
