/- The law LinkNumbers returns true, whatever the input; the input reads as it did. -/
import Derived.Test.YtcbagcfidfdmeaaDoorRows
import Derived.Test.YtcbagcfidfdmeaaDoorCards
import Derived.Test.YtcbagcfidfdmeaaDoorTie
import Derived.Test.YtcbagcfidfdmeaaDoorWwC18
import Derived.Test.YtcbagcfidfdmeaaDoorWq18x
import Derived.Test.YtcbagcfidfdmeaaDoorWcLaid18
import Derived.WalkKit
import Derived.ProofKit
import Derived.OpenShut
import Derived.ShutString
import Derived.ChangeOld
import Derived.Below
import Derived.SizedLaws
import Derived.Handed
import Derived.JoinedOf
import Derived.SevenTiedAt
set_option linter.all false
set_option linter.unusedVariables false
set_option linter.unusedSimpArgs false

namespace Go.Proofs.YtcbagcfidfdmeaaDoor
open Go.ChangeShapes Go.WideShapes Go.ChangeAt Go.RowKit Go.Abs
theorem linkNumbers_own : ownKnob Tryd.prog.godebug = none := by kernel_rfl
theorem linkNumbers_laidOut : laidOutB Tryd.prog = true := by kernel_rfl
set_option maxRecDepth 100000 in
theorem linkNumbers_lifted (os : Os) (started : os.Started) (H : Type) (enc : TypeId × Value → H) :
    ReturnsInHanded {} Tryd.checked os 3 .any (fun w args => (Rows.linkNumbersSpec.pre enc Tryd.prog Tryd.f3 Rows.linkNumbersRow.domain false w args ∧ laidMet Tryd.prog [("harrow/instr.uses", Rows.laid_harrow_instr_uses)] w) ∧ sizedMet enc Tryd.prog Tryd.f3 (OpenSpec.ofChange Rows.linkNumbersSpec) false w args) (Rows.linkNumbersSpec.post enc Tryd.prog Tryd.f3 false true false false) := by
  refine returnsInHanded_of_change_and (C := Tryd.checked) (X := fun w _ => laidMet Tryd.prog [("harrow/instr.uses", Rows.laid_harrow_instr_uses)] w) (fun _ _ _ hh h => h.of_heap hh) linkNumbers_own started (by kernel_rfl) Tryd.func3
    (ChangeSpec.witness_at (enc := enc) (C := Tryd.checked) (os := os) (X := fun w _ => laidMet Tryd.prog [("harrow/instr.uses", Rows.laid_harrow_instr_uses)] w) false (laidWorld os) #[.agg #[.slice none 0 0, .int .i64 0, .int .i64 0]] 8 rfl (by kernel_rfl) (by kernel_rfl) (by kernel_rfl) (by kernel_rfl) (by kernel_rfl) (laidWorld_met os _)) ?_
  intro W base args ds gs before hval0 hW hcnd hsz0 hL _
  have hsz : (DataW.weightsEach Tryd.prog (Tryd.f3.params.toList ++ Rows.linkNumbersSpec.plain.varTypes Tryd.prog) (ds ++ gs)).all (· ≤ reachBytes) = true := hsz0
  have hval : ∀ (j : Nat) t v, Tryd.f3.params[j]? = some t → args[j]? = some v → Value.okWide Tryd.prog W .any base t v := hval0
  have hW' := hW
  obtain ⟨p, q, hA0, hV, rfl, hfz, hnd⟩ := hW
  have hA : DataW.TrodAll enc Tryd.prog W 0 (fun _ => true) true Tryd.f3.params.toList args.toList ds p := hA0
  rw [Tryd.params3] at hA hval hsz
  obtain ⟨v0, vs0, d0, ds0, p0, q0, hargs, rfl, rfl, h0, r0⟩ := trodAll_cons hA
  obtain ⟨rfl, rfl, rfl⟩ := trodAll_nil r0
  obtain rfl : args = #[v0] := by cases args; simp_all
  obtain ⟨rfl, rfl⟩ := trodVars_none hV
  have k0 := h0
  have lt0 : ∀ x ∈ p0, x.block < W.heap.size := by obtain ⟨m, hm⟩ := k0; exact DataW.trod_lt m _ _ _ hm
  obtain ⟨x0, m0, z0⟩ := open_arg (t := tTurned) (by kernel_rfl) (tyB_is (by kernel_rfl)) (hval 0 24 v0 rfl rfl) h0
  have z0 := z0 (arg_sized hsz (j := 0) (t := 24) (d := d0) rfl rfl)
  simp only [Sz, Szs] at z0
  have hb : Tryd.prog.bytesOf 33 = 80 := by kernel_rfl
  rw [hb] at z0
  have hm : Matches (fun b => b < W.heap.size) W (fun _ => undef) [.data (tTurned) x0] [v0] := by
    simp only [Matches]
    exact ⟨_, _, rfl, m0 _, rfl⟩
  clear hA0 hval0
  have hlaw : F_law18_LinkNumbers (x0, ()) = some (true, ()) := law_LinkNumbers x0.1 x0.2.1 x0.2.2.1 z0.1.1
  refine (f3_h (x := (x0, ())) (y := (true, ())) hlaw (fun b => b < W.heap.size) W (fun _ => undef) [v0] (fun _ h => h) (uses_gok hL) hm hok_nil loose_nil).mono fun e W' he => ?_
  obtain ⟨v, S', γ', rfl, hd⟩ := he
  have bel : Below W.heap.size W W' := done_below (H' := _) (γ := fun _ => undef) hd
  obtain rfl := match_bool.1 hd.res
  exact ⟨_, rfl, _, _, _, [], _, [], hW', trodAll_mk1 (shut_bool Tryd.underlying4 _), (trodAll_cons_mk (Below.trod linkNumbers_laidOut (by kernel_rfl) (of_decide_eq_true (by kernel_rfl)) k0 bel lt0) trodAll_mk0), rfl, bel.frame _, fun h => by cases h⟩
/-- The row. -/
theorem linkNumbers_holds : Rows.LinkNumbersSaid :=
  OpenClaim.holds_of_wide 3 Tryd.f3 rfl rfl rfl rfl rfl rfl rfl ⟨rfl, rfl, rfl, rfl, rfl⟩ rfl rfl rfl rfl rfl (by kernel_rfl) Tryd.func3 (by kernel_rfl)
    (of_decide_eq_true (by kernel_rfl)) (by unfold Func.isWrapper; first | (rw [if_pos (by decide +kernel)]; kernel_rfl) | (rw [if_neg (by decide +kernel)]; exact ⟨rfl, rfl⟩))
    (fun os started H enc _ => linkNumbers_lifted os started H enc)
/-- The card. -/
theorem linkNumbers_card_holds : Rows.LinkNumbersCardSaid :=
  Claim7.holds_tied_plain_at .later [] [.data] true (true, "ae8de550c5d253ec292eaa5519e951f43189123f1918906150cc069c0cf63c10") false linkNumbers_holds (fun _ h => by cases h) (by kernel_rfl) (fun _ h => by cases h) linkNumbers_row_tie rfl ⟨rfl, rfl⟩ (by kernel_rfl) rfl
    (fun f fn hf hfn => by
      obtain rfl : f = 3 := Option.some.inj ((show Tryd.prog.funcNamed Rows.linkNumbersRow.func = some 3 by kernel_rfl).symm.trans hf) |>.symm
      obtain rfl : fn = Tryd.f3 := (Option.some.inj (Tryd.func3.symm.trans hfn)).symm
      exact ⟨by kernel_rfl, fun j t ht => by
        rw [Tryd.params3] at ht
        have hm := Array.mem_of_getElem? ht
        simp at hm
        rcases hm with rfl
        · exact (show Tryd.prog.wantsStandIn 24 = false by kernel_rfl)⟩)
    (by kernel_rfl)
end Go.Proofs.YtcbagcfidfdmeaaDoor
