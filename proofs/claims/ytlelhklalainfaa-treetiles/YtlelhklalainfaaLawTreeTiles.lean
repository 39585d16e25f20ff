/- The law TreeTiles returns true, whatever the input; the input reads as it did. -/
import Derived.Test.YtlelhklalainfaaRows
import Derived.Test.YtlelhklalainfaaWwC04
import Derived.Test.YtlelhklalainfaaWq04g
import Derived.Test.YtlelhklalainfaaRow
import Derived.WalkKit
import Derived.ProofKit
import Derived.OpenShut
import Derived.ShutString
import Derived.ChangeOld
import Derived.Below
import Derived.SizedLaws
set_option linter.all false
set_option linter.unusedVariables false
set_option linter.unusedSimpArgs false
namespace Go.Proofs.Ytlelhklalainfaa
open Go.ChangeShapes Go.WideShapes Go.ChangeAt Go.RowKit Go.Abs
theorem treeTiles_own : ownKnob Try.prog.godebug = none := by kernel_rfl
theorem treeTiles_laidOut : laidOutB Try.prog = true := by kernel_rfl
set_option maxRecDepth 100000 in
theorem treeTiles_lifted (os : Os) (started : os.Started) (H : Type) (enc : TypeId × Value → H) :
    ReturnsInHanded {} Try.checked os 7 .any (Rows.treeTilesSpec.pre6 enc Try.prog Try.f7 Rows.treeTilesRow.domain false) (Rows.treeTilesSpec.post enc Try.prog Try.f7 false true false false) := by
  refine returnsInHanded_of_change (C := Try.checked) treeTiles_own started (by kernel_rfl) Try.func7
    (ChangeSpec.witness6 (enc := enc) (C := Try.checked) false ⟨#[], #[.slice none 0 0, .int .i64 0], []⟩ 8 (by kernel_rfl) (by kernel_rfl) (by kernel_rfl) (by kernel_rfl)) ?_
  intro W base args ds gs before hval0 hW hcnd _
  have hval : ∀ (j : Nat) t v, Try.f7.params[j]? = some t → args[j]? = some v → Value.okWide Try.prog W .any base t v := hval0
  have hW' := hW
  obtain ⟨p, q, hA0, hV, rfl, hfz, hnd⟩ := hW
  have hA : DataW.TrodAll enc Try.prog W 0 (fun _ => true) true Try.f7.params.toList args.toList ds p := hA0
  rw [Try.params7] at hA hval
  obtain ⟨v0, vs0, d0, ds0, p0, q0, hargs, rfl, rfl, h0, r0⟩ := trodAll_cons hA
  obtain ⟨v1, vs1, d1, ds1, p1, q1, rfl, rfl, rfl, h1, r1⟩ := trodAll_cons r0
  obtain ⟨rfl, rfl, rfl⟩ := trodAll_nil r1
  obtain rfl : args = #[v0, v1] := by cases args; simp_all
  obtain ⟨rfl, rfl⟩ := trodVars_none hV
  have k0 := h0
  have lt0 : ∀ x ∈ p0, x.block < W.heap.size := by obtain ⟨m, hm⟩ := k0; exact DataW.trod_lt m _ _ _ hm
  obtain ⟨x0, m0, z0⟩ := open_arg (t := .sl 48 tNode) (by kernel_rfl) (tyB_is (by kernel_rfl)) (hval 0 23 v0 rfl rfl) h0
  have k1 := h1
  have lt1 : ∀ x ∈ p1, x.block < W.heap.size := by obtain ⟨m, hm⟩ := k1; exact DataW.trod_lt m _ _ _ hm
  obtain ⟨x1, m1, z1⟩ := open_arg (t := .int .i64) (by kernel_rfl) (tyB_is (by kernel_rfl)) (hval 1 3 v1 rfl rfl) h1
  have hm : Matches (fun b => b < W.heap.size) W (fun _ => undef) [.data (.sl 48 tNode) x0, .data (.int .i64) x1] [v0, v1] := by
    simp only [Matches]
    exact ⟨_, _, rfl, m0 _, ⟨_, _, rfl, m1 _, rfl⟩⟩
  clear hA0 hval0
  have hlaw := law_TreeTiles x0 x1
  refine (f7_h (x := (x0, x1, ())) (y := (true, ())) hlaw (fun b => b < W.heap.size) W (fun _ => undef) [v0, v1] (fun _ h => h) hm hok_nil loose_nil).mono fun e W' he => ?_
  obtain ⟨v, S', γ', rfl, hd⟩ := he
  have bel : Below W.heap.size W W' := done_below (H' := _) (γ := fun _ => undef) hd
  obtain rfl := match_bool.1 hd.res
  exact ⟨_, rfl, _, _, _, [], _, [], hW', trodAll_mk1 (shut_bool Try.underlying4 _), (trodAll_cons_mk (Below.trod treeTiles_laidOut (by kernel_rfl) (of_decide_eq_true (by kernel_rfl)) k0 bel lt0) (trodAll_cons_mk (Below.trod treeTiles_laidOut (by kernel_rfl) (of_decide_eq_true (by kernel_rfl)) k1 bel lt1) trodAll_mk0)), rfl, bel.frame _, fun h => by cases h⟩
/-- The row. -/
theorem treeTiles_holds : Rows.TreeTilesSaid :=
  OpenClaim.holds_of_wide 7 Try.f7 rfl rfl rfl rfl rfl rfl rfl ⟨rfl, rfl, rfl, rfl, rfl⟩ rfl rfl rfl rfl rfl (by kernel_rfl) Try.func7 (by kernel_rfl)
    (of_decide_eq_true (by kernel_rfl)) (by unfold Func.isWrapper; first | (rw [if_pos (by decide +kernel)]; kernel_rfl) | (rw [if_neg (by decide +kernel)]; exact ⟨rfl, rfl⟩))
    (fun os started H enc _ => treeTiles_lifted os started H enc)
end Go.Proofs.Ytlelhklalainfaa
