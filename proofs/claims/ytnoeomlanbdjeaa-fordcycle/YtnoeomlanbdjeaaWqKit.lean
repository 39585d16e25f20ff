/- Part of the proof of the law's row: YtnoeomlanbdjeaaWqKit. -/
import Derived.Test.YtnoeomlanbdjeaaAbsY
set_option linter.all false
set_option linter.unusedVariables false
set_option linter.unusedSimpArgs false
/-! Words for reckoning with what functions compute. -/
namespace Go.Abs
section
variable {R : Type}
theorem sel_t {x y : Option R} : sel true x y = x := rfl
theorem sel_f {x y : Option R} : sel false x y = y := rfl
theorem sel_pos {p : Prop} [Decidable p] {x y : Option R} (h : p) : sel (decide p) x y = x := by simp [sel, h]
theorem sel_neg {p : Prop} [Decidable p] {x y : Option R} (h : ¬p) : sel (decide p) x y = y := by simp [sel, h]
theorem sel_or {c q : Bool} : sel c (some true) (some q) = some (c || q) := by cases c <;> rfl
theorem sel_and {c q : Bool} : sel c (some q) (some false) = some (c && q) := by cases c <;> rfl
theorem bind_t {A B : Type} {a : A} {f : A → Option B} : Option.bind (some a) f = f a := rfl
theorem bind_id {A : Type} {m : Option A} : Option.bind m (fun v => some v) = m := by cases m <;> rfl
theorem fits64 {n : Int} (h1 : -9223372036854775808 ≤ n) (h2 : n ≤ 9223372036854775807) : Fits .i64 n := by
  unfold Fits IntKind.wrap
  simp only [IntKind.bits, IntKind.signed]
  simp
  omega
theorem need64 {n : Int} {k : Option R} (h1 : -9223372036854775808 ≤ n) (h2 : n ≤ 9223372036854775807) : need (Fits .i64 n) k = k := need_pos (fits64 h1 h2)
theorem ifsel {c : Bool} {x y : Option R} : sel c x y = if c = true then x else y := rfl
/-- A loop whose every round comes nearer to its end, and that gives what is told of each state. -/
theorem loopC_run {σ ρ : Type} {B : σ → Option (σ ⊕ ρ)} (I : σ → Prop) (μ : σ → Nat) (F : σ → ρ) (h : ∀ s, I s → (∃ s', B s = some (.inl s') ∧ I s' ∧ μ s' < μ s ∧ F s = F s') ∨ B s = some (.inr (F s))) : ∀ s, I s → loopC B s = some (F s) := by
  intro s
  generalize hn : μ s = n
  induction n using Nat.strongRecOn generalizing s with
  | _ n ih =>
    intro hI
    rw [loopC_eq]
    rcases h s hI with ⟨s', h1, h2, h3, h4⟩ | h1
    · rw [h1, h4]
      exact ih (μ s') (by omega) s' rfl h2
    · rw [h1]
/-- Likewise, told of what a state stands for. -/
theorem loopC_gh {σ ρ γ : Type} {B : σ → Option (σ ⊕ ρ)} (I : γ → σ → Prop) (μ : γ → Nat) (F : γ → ρ) (h : ∀ g s, I g s → (∃ g' s', B s = some (.inl s') ∧ I g' s' ∧ μ g' < μ g ∧ F g = F g') ∨ B s = some (.inr (F g))) : ∀ g s, I g s → loopC B s = some (F g) := by
  intro g
  generalize hn : μ g = n
  induction n using Nat.strongRecOn generalizing g with
  | _ n ih =>
    intro s hI
    rw [loopC_eq]
    rcases h g s hI with ⟨g', s', h1, h2, h3, h4⟩ | h1
    · rw [h1, h4]
      exact ih (μ g') (by omega) g' rfl s' h2
    · rw [h1]
end
mutual
theorem eqb_refl : ∀ {t : Ty} (x : t.Den), t.flat = true → Ty.eqb t x x = true
  | .int _, x, _ => by simp [Ty.eqb]
  | .bool, x, _ => by simp [Ty.eqb]
  | .str, x, _ => by simp [Ty.eqb]
  | .st fs, x, h => by
    simp only [Ty.eqb]
    exact eqbs_refl x (by simpa [Ty.flat] using h)
  | .sl _ _, _, h => by simp [Ty.flat] at h
theorem eqbs_refl : ∀ {fs : List Ty} (x : Ty.Dens fs), Ty.flats fs = true → Ty.eqbs fs x x = true
  | [], _, _ => rfl
  | t :: ts, x, h => by
    simp only [Ty.flats, Bool.and_eq_true] at h
    simp only [Ty.eqbs, Bool.and_eq_true]
    exact ⟨eqb_refl x.1 h.1, eqbs_refl x.2 h.2⟩
end
mutual
theorem eqb_eq : ∀ {t : Ty} {x y : t.Den}, Ty.eqb t x y = true → x = y
  | .int _, x, y, h => by simpa [Ty.eqb] using h
  | .bool, x, y, h => by simpa [Ty.eqb] using h
  | .str, x, y, h => by simpa [Ty.eqb] using h
  | .st fs, x, y, h => eqbs_eq (by simpa only [Ty.eqb] using h)
  | .sl _ _, _, _, h => by simp [Ty.eqb] at h
theorem eqbs_eq : ∀ {fs : List Ty} {x y : Ty.Dens fs}, Ty.eqbs fs x y = true → x = y
  | [], _, _, _ => rfl
  | t :: ts, x, y, h => by
    simp only [Ty.eqbs, Bool.and_eq_true] at h
    exact Prod.ext (eqb_eq h.1) (eqbs_eq h.2)
end
end Go.Abs
