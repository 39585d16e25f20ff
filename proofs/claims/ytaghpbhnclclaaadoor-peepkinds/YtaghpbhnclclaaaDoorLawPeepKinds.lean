/- Part of the proof of the law's row: YtaghpbhnclclaaaDoorLawPeepKinds. -/
import Derived.Test.YtaghpbhnclclaaaDoorRows
import Derived.Test.YtaghpbhnclclaaaDoorCards
import Derived.Test.YtaghpbhnclclaaaDoorTie
import Derived.Test.YtaghpbhnclclaaaDoorWwC20
import Derived.Test.YtaghpbhnclclaaaDoorWq20m
import Derived.Test.YtaghpbhnclclaaaDoorWcLaidC20
import Derived.WalkKit
import Derived.ProofKit
import Derived.OpenShut
import Derived.ShutString
import Derived.ChangeOld
import Derived.Below
import Derived.SizedLaws
import Derived.Handed
import Derived.JoinedOf
import Derived.SevenTiedAt
set_option linter.all false
set_option linter.unusedVariables false
set_option linter.unusedSimpArgs false
/- The law PeepKinds returns true, whatever the input; the input reads as it did. -/
namespace Go.Proofs.YtaghpbhnclclaaaDoor
open Go.ChangeShapes Go.WideShapes Go.ChangeAt Go.RowKit Go.Abs
theorem peepKinds_own : ownKnob Tryd.prog.godebug = none := by kernel_rfl
theorem peepKinds_laidOut : laidOutB Tryd.prog = true := by kernel_rfl
set_option maxRecDepth 100000 in
theorem peepKinds_lifted (os : Os) (started : os.Started) (H : Type) (enc : TypeId × Value → H) :
    ReturnsInHanded {} Tryd.checked os 5 .any (fun w args => (Rows.peepKindsSpec.pre enc Tryd.prog Tryd.f5 Rows.peepKindsRow.domain false w args ∧ laidMet Tryd.prog [("harrow/instr.uses", Rows.laid_harrow_instr_uses)] w) ∧ sizedMet enc Tryd.prog Tryd.f5 (OpenSpec.ofChange Rows.peepKindsSpec) false w args) (Rows.peepKindsSpec.post enc Tryd.prog Tryd.f5 false true false false) := by
  refine returnsInHanded_of_change_and (C := Tryd.checked) (X := fun w _ => laidMet Tryd.prog [("harrow/instr.uses", Rows.laid_harrow_instr_uses)] w) (fun _ _ _ hh h => h.of_heap hh) peepKinds_own started (by kernel_rfl) Tryd.func5
    (ChangeSpec.witness_at (enc := enc) (C := Tryd.checked) (os := os) (X := fun w _ => laidMet Tryd.prog [("harrow/instr.uses", Rows.laid_harrow_instr_uses)] w) false (laidWorld os) #[.slice none 0 0] 8 rfl (by kernel_rfl) (by kernel_rfl) (by kernel_rfl) (by kernel_rfl) (by kernel_rfl) (laidWorld_met os _)) ?_
  intro W base args ds gs before hval0 hW hcnd hsz0 hL _
  have hsz : (DataW.weightsEach Tryd.prog (Tryd.f5.params.toList ++ Rows.peepKindsSpec.plain.varTypes Tryd.prog) (ds ++ gs)).all (· ≤ reachBytes) = true := hsz0
  have hval : ∀ (j : Nat) t v, Tryd.f5.params[j]? = some t → args[j]? = some v → Value.okWide Tryd.prog W .any base t v := hval0
  have hW' := hW
  obtain ⟨p, q, hA0, hV, rfl, hfz, hnd⟩ := hW
  have hA : DataW.TrodAll enc Tryd.prog W 0 (fun _ => true) true Tryd.f5.params.toList args.toList ds p := hA0
  rw [Tryd.params5] at hA hval hsz
  obtain ⟨v0, vs0, d0, ds0, p0, q0, hargs, rfl, rfl, h0, r0⟩ := trodAll_cons hA
  obtain ⟨rfl, rfl, rfl⟩ := trodAll_nil r0
  obtain rfl : args = #[v0] := by cases args; simp_all
  obtain ⟨rfl, rfl⟩ := trodVars_none hV
  have k0 := h0
  have lt0 : ∀ x ∈ p0, x.block < W.heap.size := by obtain ⟨m, hm⟩ := k0; exact DataW.trod_lt m _ _ _ hm
  obtain ⟨x0, m0, z0⟩ := open_arg (t := .sl 37 tInstr) (by kernel_rfl) (tyB_is (by kernel_rfl)) (hval 0 22 v0 rfl rfl) h0
  have z0 := z0 (arg_sized hsz (j := 0) (t := 22) (d := d0) rfl rfl)
  simp only [Sz, Szs] at z0
  have hb0_37 : Tryd.prog.bytesOf 37 = 80 := by kernel_rfl
  rw [hb0_37] at z0
  have hm : Matches (fun b => b < W.heap.size) W (fun _ => undef) [.data (.sl 37 tInstr) x0] [v0] := by
    simp only [Matches]
    exact ⟨_, _, rfl, m0 _, rfl⟩
  clear hA0 hval0
  have hlaw := law_PeepKinds x0
  refine (f5_h (x := (x0, ())) (y := (true, ())) hlaw (fun b => b < W.heap.size) W (fun _ => undef) [v0] (fun _ h => h) (uses_gok hL) hm hok_nil loose_nil).mono fun e W' he => ?_
  obtain ⟨v, S', γ', rfl, hd⟩ := he
  have bel : Below W.heap.size W W' := done_below (H' := _) (γ := fun _ => undef) hd
  obtain rfl := match_bool.1 hd.res
  exact ⟨_, rfl, _, _, _, [], _, [], hW', trodAll_mk1 (shut_bool Tryd.underlying4 _), (trodAll_cons_mk (Below.trod peepKinds_laidOut (by kernel_rfl) (of_decide_eq_true (by kernel_rfl)) k0 bel lt0) trodAll_mk0), rfl, bel.frame _, fun h => by cases h⟩
/-- The row. -/
theorem peepKinds_holds : Rows.PeepKindsSaid :=
  OpenClaim.holds_of_wide 5 Tryd.f5 rfl rfl rfl rfl rfl rfl rfl ⟨rfl, rfl, rfl, rfl, rfl⟩ rfl rfl rfl rfl rfl (by kernel_rfl) Tryd.func5 (by kernel_rfl)
    (of_decide_eq_true (by kernel_rfl)) (by unfold Func.isWrapper; first | (rw [if_pos (by decide +kernel)]; kernel_rfl) | (rw [if_neg (by decide +kernel)]; exact ⟨rfl, rfl⟩))
    (fun os started H enc _ => peepKinds_lifted os started H enc)
/-- The card. -/
theorem peepKinds_card_holds : Rows.PeepKindsCardSaid :=
  Claim7.holds_tied_plain_at .later [] [.data] true (true, "f441c601634f40774e9384be45fd2d9d9c47651ee9673f2a6b2b7fbd5b1efda8") false peepKinds_holds (fun _ h => by cases h) (by kernel_rfl) (fun _ h => by cases h) peepKinds_row_tie rfl ⟨rfl, rfl⟩ (by kernel_rfl) rfl
    (fun f fn hf hfn => by
      obtain rfl : f = 5 := Option.some.inj ((show Tryd.prog.funcNamed Rows.peepKindsRow.func = some 5 by kernel_rfl).symm.trans hf) |>.symm
      obtain rfl : fn = Tryd.f5 := (Option.some.inj (Tryd.func5.symm.trans hfn)).symm
      exact ⟨by kernel_rfl, fun j t ht => by
        rw [Tryd.params5] at ht
        have hm := Array.mem_of_getElem? ht
        simp at hm
        rcases hm with rfl
        · exact (show Tryd.prog.wantsStandIn 22 = false by kernel_rfl)⟩)
    (by kernel_rfl)
end Go.Proofs.YtaghpbhnclclaaaDoor
