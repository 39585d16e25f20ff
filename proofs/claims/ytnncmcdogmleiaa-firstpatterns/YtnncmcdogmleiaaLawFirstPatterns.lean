/- Part of the proof of the law's row: YtnncmcdogmleiaaLawFirstPatterns. -/
import Derived.Test.YtnncmcdogmleiaaRows
import Derived.Test.YtnncmcdogmleiaaWwC11
import Derived.Test.YtnncmcdogmleiaaWq11row
import Derived.WalkKit
import Derived.ProofKit
import Derived.OpenShut
import Derived.ShutString
import Derived.ChangeOld
import Derived.Below
import Derived.SizedLaws
set_option linter.all false
set_option linter.unusedVariables false
set_option linter.unusedSimpArgs false
/- The law FirstPatterns returns true, whatever the input; the input reads as it did. -/
namespace Go.Proofs.Ytnncmcdogmleiaa
open Go.ChangeShapes Go.WideShapes Go.ChangeAt Go.RowKit Go.Abs
theorem firstPatterns_own : ownKnob Try.prog.godebug = none := by kernel_rfl
theorem firstPatterns_laidOut : laidOutB Try.prog = true := by kernel_rfl
set_option maxRecDepth 100000 in
theorem firstPatterns_lifted (os : Os) (started : os.Started) (H : Type) (enc : TypeId × Value → H) :
  ReturnsInHanded {} Try.checked os 4 .any (Rows.firstPatternsSpec.pre6 enc Try.prog Try.f4 Rows.firstPatternsRow.domain false) (Rows.firstPatternsSpec.post enc Try.prog Try.f4 false true false false) := by
 refine returnsInHanded_of_change_sized (C := Try.checked) firstPatterns_own started (by kernel_rfl) Try.func4
  (ChangeSpec.witness6 (enc := enc) (C := Try.checked) false ⟨#[], #[.agg #[.slice none 0 0], .slice none 0 0, .slice none 0 0], []⟩ 8 (by kernel_rfl) (by kernel_rfl) (by kernel_rfl) (by kernel_rfl)) ?_
 intro W base args ds gs before hval0 hW hcnd hsz0 _
 have hsz : (DataW.weightsEach Try.prog (Try.f4.params.toList ++ Rows.firstPatternsSpec.plain.varTypes Try.prog) (ds ++ gs)).all (· ≤ reachBytes) = true := hsz0
 have hval : ∀ (j : Nat) t v, Try.f4.params[j]? = some t → args[j]? = some v → Value.okWide Try.prog W .any base t v := hval0
 have hW' := hW
 obtain ⟨p, q, hA0, hV, rfl, hfz, hnd⟩ := hW
 have hA : DataW.TrodAll enc Try.prog W 0 (fun _ => true) true Try.f4.params.toList args.toList ds p := hA0
 rw [Try.params4] at hA hval hsz
 obtain ⟨v0, vs0, d0, ds0, p0, q0, hargs, rfl, rfl, h0, r0⟩ := trodAll_cons hA
 obtain ⟨v1, vs1, d1, ds1, p1, q1, rfl, rfl, rfl, h1, r1⟩ := trodAll_cons r0
 obtain ⟨v2, vs2, d2, ds2, p2, q2, rfl, rfl, rfl, h2, r2⟩ := trodAll_cons r1
 obtain ⟨rfl, rfl, rfl⟩ := trodAll_nil r2
 obtain rfl : args = #[v0, v1, v2] := by cases args; simp_all
 obtain ⟨rfl, rfl⟩ := trodVars_none hV
 have k0 := h0
 have lt0 : ∀ x ∈ p0, x.block < W.heap.size := by obtain ⟨m, hm⟩ := k0; exact DataW.trod_lt m _ _ _ hm
 obtain ⟨x0, m0, z0⟩ := open_arg (t := tGrammar) (by kernel_rfl) (tyB_is (by kernel_rfl)) (hval 0 24 v0 rfl rfl) h0
 have z0 := z0 (arg_sized hsz (j := 0) (t := 24) (d := d0) rfl rfl)
 have k1 := h1
 have lt1 : ∀ x ∈ p1, x.block < W.heap.size := by obtain ⟨m, hm⟩ := k1; exact DataW.trod_lt m _ _ _ hm
 obtain ⟨x1, m1, z1⟩ := open_arg (t := .sl 61 tNode) (by kernel_rfl) (tyB_is (by kernel_rfl)) (hval 1 41 v1 rfl rfl) h1
 have z1 := z1 (arg_sized hsz (j := 1) (t := 41) (d := d1) rfl rfl)
 have k2 := h2
 have lt2 : ∀ x ∈ p2, x.block < W.heap.size := by obtain ⟨m, hm⟩ := k2; exact DataW.trod_lt m _ _ _ hm
 obtain ⟨x2, m2, z2⟩ := open_arg (t := .sl 61 tNode) (by kernel_rfl) (tyB_is (by kernel_rfl)) (hval 2 41 v2 rfl rfl) h2
 have z2 := z2 (arg_sized hsz (j := 2) (t := 41) (d := d2) rfl rfl)
 skip
 simp only [Sz, Szs] at z1
 have hb1_61 : Try.prog.bytesOf 61 = 64 := by kernel_rfl
 rw [hb1_61] at z1
 simp only [Sz, Szs] at z2
 have hb2_61 : Try.prog.bytesOf 61 = 64 := by kernel_rfl
 rw [hb2_61] at z2
 have hm : Matches (fun b => b < W.heap.size) W (fun _ => undef) [.data (tGrammar) x0, .data (.sl 61 tNode) x1, .data (.sl 61 tNode) x2] [v0, v1, v2] := by
  simp only [Matches]
  exact ⟨_, _, rfl, m0 _, ⟨_, _, rfl, m1 _, ⟨_, _, rfl, m2 _, rfl⟩⟩⟩
 clear hA0 hval0
 have hlaw := law_FirstPatterns x0.1 x1 x2 (szG_of z0).1 (szG_of z0).2 (szP_of z1).1 (szP_of z2).1 (szP_of z1).2 (szP_of z2).2
 refine (f4_h (x := (x0, x1, x2, ())) (y := (true, ())) hlaw (fun b => b < W.heap.size) W (fun _ => undef) [v0, v1, v2] (fun _ h => h) gok_nil hm hok_nil loose_nil).mono fun e W' he => ?_
 obtain ⟨v, S', γ', rfl, hd⟩ := he
 have bel : Below W.heap.size W W' := done_below (H' := _) (γ := fun _ => undef) hd
 obtain rfl := match_bool.1 hd.res
 exact ⟨_, rfl, _, _, _, [], _, [], hW', trodAll_mk1 (shut_bool Try.underlying4 _), (trodAll_cons_mk (Below.trod firstPatterns_laidOut (by kernel_rfl) (of_decide_eq_true (by kernel_rfl)) k0 bel lt0) (trodAll_cons_mk (Below.trod firstPatterns_laidOut (by kernel_rfl) (of_decide_eq_true (by kernel_rfl)) k1 bel lt1) (trodAll_cons_mk (Below.trod firstPatterns_laidOut (by kernel_rfl) (of_decide_eq_true (by kernel_rfl)) k2 bel lt2) trodAll_mk0))), rfl, bel.frame _, fun h => by cases h⟩
theorem firstPatterns_holds : Rows.FirstPatternsSaid :=
 OpenClaim.holds_of_wide 4 Try.f4 rfl rfl rfl rfl rfl rfl rfl ⟨rfl, rfl, rfl, rfl, rfl⟩ rfl rfl rfl rfl rfl (by kernel_rfl) Try.func4 (by kernel_rfl)
  (of_decide_eq_true (by kernel_rfl)) (by unfold Func.isWrapper; first | (rw [if_pos (by decide +kernel)]; kernel_rfl) | (rw [if_neg (by decide +kernel)]; exact ⟨rfl, rfl⟩))
  (fun os started H enc _ => firstPatterns_lifted os started H enc)
end Go.Proofs.Ytnncmcdogmleiaa
