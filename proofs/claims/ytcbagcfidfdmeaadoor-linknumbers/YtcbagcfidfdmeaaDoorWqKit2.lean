/- Part of the proof of the law's row: YtcbagcfidfdmeaaDoorWqKit2. -/
import Derived.Test.YtcbagcfidfdmeaaDoorWqKit
set_option linter.all false
set_option linter.unusedVariables false
set_option linter.unusedSimpArgs false
/-! Truth values of propositions, whichever way they are decided. -/
namespace Go.Abs
noncomputable def pb (p : Prop) : Bool := @decide p (Classical.propDecidable p)
theorem toPb {p : Prop} {i : Decidable p} : @decide p i = pb p := by
  unfold pb
  by_cases h : p <;> simp [h]
theorem pb_t {p : Prop} (h : p) : pb p = true := by unfold pb; simp [h]
theorem pb_f {p : Prop} (h : ¬p) : pb p = false := by unfold pb; simp [h]
theorem pb_iff {p : Prop} : pb p = true ↔ p := by unfold pb; simp
theorem pb_iff_f {p : Prop} : pb p = false ↔ ¬p := by unfold pb; simp
section
variable {R : Type} {p : Prop} {x y : Option R}
theorem pos (h : p) : sel (pb p) x y = x := by rw [pb_t h]; rfl
theorem neg (h : ¬p) : sel (pb p) x y = y := by rw [pb_f h]; rfl
theorem npos (h : p) : sel (!pb p) x y = y := by rw [pb_t h]; rfl
theorem nneg (h : ¬p) : sel (!pb p) x y = x := by rw [pb_f h]; rfl
theorem sel_pb [Decidable p] : sel (pb p) x y = if p then x else y := by
  by_cases h : p
  · rw [pos h, if_pos h]
  · rw [neg h, if_neg h]
end
end Go.Abs
