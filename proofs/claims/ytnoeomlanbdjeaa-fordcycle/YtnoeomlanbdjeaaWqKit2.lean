/- Part of the proof of the law's row: YtnoeomlanbdjeaaWqKit2. -/
import Derived.Test.YtnoeomlanbdjeaaWqKit
set_option linter.all false
set_option linter.unusedVariables false
set_option linter.unusedSimpArgs false
/-! Truth values of propositions, whichever way they are decided. -/
namespace Go.Abs
noncomputable def pb (p : Prop) : Bool := @decide p (Classical.propDecidable p)
theorem toPb {p : Prop} {i : Decidable p} : @decide p i = pb p := by
  unfold pb
  by_cases h : p <;> simp [h]
theorem pb_t {p : Prop} (h : p) : pb p = true := by unfold pb; simp [h]
theorem pb_f {p : Prop} (h : ¬p) : pb p = false := by unfold pb; simp [h]
theorem pb_iff {p : Prop} : pb p = true ↔ p := by unfold pb; simp
theorem pb_iff_f {p : Prop} : pb p = false ↔ ¬p := by unfold pb; simp
section
variable {R : Type} {p : Prop} {x y : Option R}
theorem pos (h : p) : sel (pb p) x y = x := by rw [pb_t h]; rfl
theorem neg (h : ¬p) : sel (pb p) x y = y := by rw [pb_f h]; rfl
theorem npos (h : p) : sel (!pb p) x y = y := by rw [pb_t h]; rfl
theorem nneg (h : ¬p) : sel (!pb p) x y = x := by rw [pb_f h]; rfl
end
/-- A loop that counts up. -/
theorem loop_up {σ ρ : Type} {B : σ → Option (σ ⊕ ρ)} (n : Nat) (st : Nat → σ) {s0 : σ} {r : ρ} (h0 : st 0 = s0) (step : ∀ i, i < n → B (st i) = some (.inl (st (i + 1)))) (fin : B (st n) = some (.inr r)) : loopC B s0 = some r := by
  subst h0
  have : ∀ d i, i + d = n → loopC B (st i) = some r := by
    intro d
    induction d with
    | zero =>
      intro i hi
      have : i = n := by omega
      subst this
      rw [loopC_eq, fin]
    | succ d ih =>
      intro i hi
      rw [loopC_eq, step i (by omega)]
      exact ih (i + 1) (by omega)
  exact this n 0 (by omega)
/-- What stands where. -/
def genR {α : Type} (n : Nat) (f : Nat → α) : List α := (List.range n).map f
theorem genR_len {α : Type} {n : Nat} {f : Nat → α} : (genR n f).length = n := by simp [genR]
theorem genR_succ {α : Type} {n : Nat} {f : Nat → α} : genR (n + 1) f = genR n f ++ [f n] := by simp [genR, List.range_succ]
theorem genR_get {α : Type} {n i : Nat} {f : Nat → α} {d : α} (h : i < n) : List.getD (genR n f) i d = f i := by
  rw [List.getD_eq_getElem?_getD, genR, List.getElem?_map, List.getElem?_range h]
  rfl
theorem genR_ext {α : Type} {n : Nat} {f g : Nat → α} (h : ∀ i, i < n → f i = g i) : genR n f = genR n g := List.map_congr_left fun i hi => h i (List.mem_range.1 hi)
/-- A list that has been gone over up to a place. -/
def gone {α : Type} (p : List α) (f : Nat → α) (i : Nat) : List α := genR i f ++ List.drop i p
theorem gone_zero {α : Type} {p : List α} {f : Nat → α} : gone p f 0 = p := rfl
theorem gone_len {α : Type} {p : List α} {f : Nat → α} {i : Nat} (h : i ≤ p.length) : (gone p f i).length = p.length := by
  unfold gone
  rw [List.length_append, genR_len, List.length_drop]
  omega
theorem gone_at {α : Type} {p : List α} {f : Nat → α} {i : Nat} {d : α} : List.getD (gone p f i) i d = List.getD p i d := by
  unfold gone
  rw [List.getD_eq_getElem?_getD, List.getD_eq_getElem?_getD, List.getElem?_append_right (by rw [genR_len]; omega), genR_len, Nat.sub_self, List.getElem?_drop]
  rfl
theorem gone_set {α : Type} {p : List α} {f : Nat → α} {i : Nat} (h : i < p.length) : List.set (gone p f i) i (f i) = gone p f (i + 1) := by
  unfold gone
  rw [List.set_append, if_neg (by rw [genR_len]; omega), genR_len, Nat.sub_self, List.drop_eq_getElem_cons h, List.set_cons_zero, genR_succ, List.append_assoc]
  rfl
theorem gone_keep {α : Type} {p : List α} {f : Nat → α} {i : Nat} {d : α} (h : i < p.length) (e : f i = List.getD p i d) : gone p f i = gone p f (i + 1) := by
  rw [← gone_set h, e]
  unfold gone
  rw [List.set_append, if_neg (by rw [genR_len]; omega), genR_len, Nat.sub_self, List.drop_eq_getElem_cons h, List.set_cons_zero, List.getD_eq_getElem?_getD, List.getElem?_eq_getElem h]
  rfl
theorem gone_all {α : Type} {p : List α} {f : Nat → α} : gone p f p.length = genR p.length f := by
  unfold gone
  rw [List.drop_length, List.append_nil]
end Go.Abs
