/- The law TreeTells returns true, whatever the input; the input reads as it did. -/
import Derived.Test.YtlelhklalainfaaRows
import Derived.Test.YtlelhklalainfaaWL
import Derived.Test.YtlelhklalainfaaAbsX
import Derived.WalkKit
import Derived.ProofKit
import Derived.OpenShut
import Derived.ShutString
import Derived.ChangeOld
import Derived.Below
import Derived.SizedLaws
set_option linter.all false
set_option linter.unusedVariables false
set_option linter.unusedSimpArgs false
namespace Go.Proofs.Ytlelhklalainfaa
open Go.ChangeShapes Go.WideShapes Go.ChangeAt Go.RowKit Go.Abs
theorem treeTells_own : ownKnob Try.prog.godebug = none := by kernel_rfl
theorem treeTells_laidOut : laidOutB Try.prog = true := by kernel_rfl
set_option maxRecDepth 100000 in
theorem treeTells_lifted (os : Os) (started : os.Started) (H : Type) (enc : TypeId × Value → H) :
    ReturnsInHanded {} Try.checked os 5 .any (Rows.treeTellsSpec.pre6 enc Try.prog Try.f5 Rows.treeTellsRow.domain false) (Rows.treeTellsSpec.post enc Try.prog Try.f5 false true false false) := by
  refine returnsInHanded_of_change_sized (C := Try.checked) treeTells_own started (by kernel_rfl) Try.func5
    (ChangeSpec.witness6 (enc := enc) (C := Try.checked) false ⟨#[], #[.slice none 0 0], []⟩ 8 (by kernel_rfl) (by kernel_rfl) (by kernel_rfl) (by kernel_rfl)) ?_
  intro W base args ds gs before hval0 hW hcnd hsz0 _
  have hsz : (DataW.weightsEach Try.prog (Try.f5.params.toList ++ Rows.treeTellsSpec.plain.varTypes Try.prog) (ds ++ gs)).all (· ≤ reachBytes) = true := hsz0
  have hval : ∀ (j : Nat) t v, Try.f5.params[j]? = some t → args[j]? = some v → Value.okWide Try.prog W .any base t v := hval0
  have hW' := hW
  obtain ⟨p, q, hA0, hV, rfl, hfz, hnd⟩ := hW
  have hA : DataW.TrodAll enc Try.prog W 0 (fun _ => true) true Try.f5.params.toList args.toList ds p := hA0
  rw [Try.params5] at hA hval hsz
  obtain ⟨v0, vs0, d0, ds0, p0, q0, hargs, rfl, rfl, h0, r0⟩ := trodAll_cons hA
  obtain ⟨rfl, rfl, rfl⟩ := trodAll_nil r0
  obtain rfl : args = #[v0] := by cases args; simp_all
  obtain ⟨rfl, rfl⟩ := trodVars_none hV
  have k0 := h0
  have lt0 : ∀ x ∈ p0, x.block < W.heap.size := by obtain ⟨m, hm⟩ := k0; exact DataW.trod_lt m _ _ _ hm
  obtain ⟨x0, m0, z0⟩ := open_arg (t := .sl 48 tNode) (by kernel_rfl) (tyB_is (by kernel_rfl)) (hval 0 23 v0 rfl rfl) h0
  have z0 := z0 (arg_sized hsz (j := 0) (t := 23) (d := d0) rfl rfl)
  simp only [Sz] at z0
  have hb : Try.prog.bytesOf 48 = 64 := by kernel_rfl
  rw [hb] at z0
  have hpre : ∀ p ∈ [(List.length x0 + 1) * 64 ≤ 140737488355328], p := by
    intro p hp
    simp only [List.mem_cons, List.not_mem_nil, or_false] at hp
    subst hp
    have := z0.1
    omega
  have hm : Matches (fun b => b < W.heap.size) W (fun _ => undef) [.data (.sl 48 tNode) x0] [v0] := by
    simp only [Matches]
    exact ⟨_, _, rfl, m0 _, rfl⟩
  have hsp := dspec_data (tys := [.sl 48 tNode]) (F := fun x => some ([(List.length x.1 + 1) * 64 ≤ 140737488355328], .data .bool true, none)) (x := (x0, ()))
  clear hA0 hval0
  refine (f5_ok (fun b => b < W.heap.size) W [.data (.sl 48 tNode) x0] [v0] _ _ none (fun _ h => h) rfl hm hsp hpre).mono fun e W' he => ?_
  obtain ⟨v, S', hv, rfl, bel, _, _, _, hr, _⟩ := he
  obtain rfl := match_bool.1 hr
  exact ⟨_, rfl, _, _, _, [], _, [], hW', trodAll_mk1 (shut_bool Try.underlying4 _), (trodAll_cons_mk (Below.trod treeTells_laidOut (by kernel_rfl) (of_decide_eq_true (by kernel_rfl)) k0 bel lt0) trodAll_mk0), rfl, bel.frame _, fun h => by cases h⟩
/-- The row. -/
theorem treeTells_holds : Rows.TreeTellsSaid :=
  OpenClaim.holds_of_wide 5 Try.f5 rfl rfl rfl rfl rfl rfl rfl ⟨rfl, rfl, rfl, rfl, rfl⟩ rfl rfl rfl rfl rfl (by kernel_rfl) Try.func5 (by kernel_rfl)
    (of_decide_eq_true (by kernel_rfl)) (by unfold Func.isWrapper; first | (rw [if_pos (by decide +kernel)]; kernel_rfl) | (rw [if_neg (by decide +kernel)]; exact ⟨rfl, rfl⟩))
    (fun os started H enc _ => treeTells_lifted os started H enc)
end Go.Proofs.Ytlelhklalainfaa
