/- Part of the proof of the law's row: YtaghpbhnclclaaaDoorWcLaidC20. -/
import Derived.Test.YtaghpbhnclclaaaDoorRows
import Derived.Test.YtaghpbhnclclaaaDoorWtC20
import Derived.Test.YtaghpbhnclclaaaDoorLaid
set_option linter.all false
set_option linter.unusedVariables false
set_option linter.unusedSimpArgs false
/- What is laid when a call begins, of this seat. -/
namespace Go.Proofs.YtaghpbhnclclaaaDoor
open Go.ChangeShapes Go.WideShapes Go.ChangeAt Go.RowKit Go.Abs
def usesL : List Int := [0, 64, 66, 80, 97, 99, 113, 80, 97, 33, 33, 33, 0, 0, 33, 97, 0, 0, 78, 64, 79]
def usesC : Array Value := (usesL.map fun v => Value.int .i64 v).toArray
theorem uses_named : Tryd.prog.globalNamed "harrow/instr.uses" = some 0 := by kernel_rfl
theorem uses_type : (Tryd.prog.globals[0]?).map (·.type) = some 57 := by kernel_rfl
theorem uses_at {W : World} (h : laidMet Tryd.prog [("harrow/instr.uses", Rows.laid_harrow_instr_uses)] W) : W.var? Tryd.prog "harrow/instr.uses" = some usesC :=
  trod_ints (vals := usesL) (n := 21) (e := 3) uses_named uses_type (by kernel_rfl) (by kernel_rfl) (by kernel_rfl) (by kernel_rfl) rfl rfl h
theorem uses_gok {W : World} (h : laidMet Tryd.prog [("harrow/instr.uses", Rows.laid_harrow_instr_uses)] W) : GOk GT.gl (fun b => b < W.heap.size) W :=
  gok_one (t := tUses) (x := usesV) uses_named (by kernel_rfl) (by decide) (by kernel_rfl) (uses_at h)
/-- A world in which it is laid. -/
noncomputable def laidWorld (os : Os) : World :=
  { World.holding Tryd.prog os ⟨#[], #[], []⟩ with heap := (World.holding Tryd.prog os ⟨#[], #[], []⟩).heap.modify 0 fun
      | .cells _ t frozen => .cells usesC t frozen
      | o => o }
theorem laidWorld_row (os : Os) (args : Array Value) : ((laidWorld os).forCall (fun _ _ => 0) ⟨#[], args, []⟩).memory.heap[0]? = some (.cells usesC 57 (0, 0)) := by kernel_rfl
theorem laidWorld_met (os : Os) (args : Array Value) : laidMet Tryd.prog [("harrow/instr.uses", Rows.laid_harrow_instr_uses)] ((laidWorld os).forCall (fun _ _ => 0) ⟨#[], args, []⟩).memory := by
  refine ⟨_, ⟨0, 57, usesC, 8, [], [], by kernel_rfl, by kernel_rfl, by kernel_rfl, by kernel_rfl, rfl, rfl⟩, by decide, fun b off h => ?_⟩
  have hb : b = 0 := by
    have h' : MemPlace.cell b off ∈ (List.range 21).map fun i => MemPlace.cell 0 i := h
    obtain ⟨i, _, e⟩ := List.mem_map.1 h'
    injection e with e1 e2
    exact e1.symm
  subst hb
  refine ⟨⟨_, _, laidWorld_row os args⟩, fun u v hc => ?_⟩
  simp only [World.cell?, laidWorld_row os args] at hc
  have hmem : Value.iface u v ∈ usesC.toList := by
    rw [Array.mem_toList_iff]
    exact Array.mem_of_getElem? hc
  simp [usesC, usesL] at hmem
end Go.Proofs.YtaghpbhnclclaaaDoor
