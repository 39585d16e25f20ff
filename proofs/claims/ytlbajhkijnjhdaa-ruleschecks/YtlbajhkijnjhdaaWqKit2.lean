/- Part of the proof of the law's row: YtlbajhkijnjhdaaWqKit2. -/
import Derived.Test.YtlbajhkijnjhdaaWqKit
set_option linter.all false
set_option linter.unusedVariables false
set_option linter.unusedSimpArgs false
/-! Truth values of propositions, whichever way they are decided. -/
namespace Go.Abs
noncomputable def pb (p : Prop) : Bool := @decide p (Classical.propDecidable p)
theorem toPb {p : Prop} {i : Decidable p} : @decide p i = pb p := by
  unfold pb
  by_cases h : p <;> simp [h]
theorem pb_t {p : Prop} (h : p) : pb p = true := by unfold pb; simp [h]
theorem pb_f {p : Prop} (h : ¬p) : pb p = false := by unfold pb; simp [h]
section
variable {R : Type} {p : Prop} {x y : Option R}
theorem pos (h : p) : sel (pb p) x y = x := by rw [pb_t h]; rfl
theorem neg (h : ¬p) : sel (pb p) x y = y := by rw [pb_f h]; rfl
theorem npos (h : p) : sel (!pb p) x y = y := by rw [pb_t h]; rfl
theorem nneg (h : ¬p) : sel (!pb p) x y = x := by rw [pb_f h]; rfl
end
/-- A loop that counts up. -/
theorem loop_up {σ ρ : Type} {B : σ → Option (σ ⊕ ρ)} (n : Nat) (st : Nat → σ) {s0 : σ} {r : ρ} (h0 : st 0 = s0) (step : ∀ i, i < n → B (st i) = some (.inl (st (i + 1)))) (fin : B (st n) = some (.inr r)) : loopC B s0 = some r := by
  subst h0
  have : ∀ d i, i + d = n → loopC B (st i) = some r := by
    intro d
    induction d with
    | zero =>
      intro i hi
      have : i = n := by omega
      subst this
      rw [loopC_eq, fin]
    | succ d ih =>
      intro i hi
      rw [loopC_eq, step i (by omega)]
      exact ih (i + 1) (by omega)
  exact this n 0 (by omega)
end Go.Abs
