/- Part of the proof of the law's row: YtaghpbhnclclaaaDoorWq18o. -/
import Derived.Test.YtaghpbhnclclaaaDoorWq18l
set_option linter.all false
set_option linter.unusedVariables false
set_option linter.unusedSimpArgs false
/-! Chapter 18: Unlink. -/
namespace Go.Proofs
open Go Go.Abs
/-- Where the instruction at i goes. -/
def aimP (p : List InstrD) (i : Nat) : Nat := ((i : Int) + (ith p i).2.1).toNat
theorem ckG_bad {N : Int} : ∀ {p : List InstrD} {k : Int} {r : Int × Int}, ckG N p k = some r → r.2 ≠ 0
  | [], _, _, h => by cases h
  | x :: p, k, r, h => by
    rw [ckG] at h
    split at h
    · cases h; simp
    · split at h
      · cases h; simp
      · split at h
        · cases h; simp
        · exact ckG_bad h
theorem check_right {p : List InstrD} (h : (checkI p).2 = 0) : p.length ≤ 8192 ∧ 0 < p.length ∧ ∀ i, i < p.length → isB (ith p i).1 = true ∧ fitsB (ith p i) = true ∧ (goesB (ith p i).1 = true → 0 ≤ (i : Int) + (ith p i).2.1 ∧ (i : Int) + (ith p i).2.1 < (p.length : Int)) := by
  unfold checkI at h
  split at h
  · cases h
  · split at h
    · cases h
    · rename_i h1 h2
      refine ⟨by omega, by omega, ?_⟩
      cases hc : ckG (p.length : Int) p 0 with
      | some r =>
        rw [hc] at h
        exact absurd h (ckG_bad hc)
      | none =>
        intro i hi
        obtain ⟨a, b, c⟩ := ckG_right hc i hi
        exact ⟨a, b, fun hg => by have := c hg; omega⟩
end Go.Proofs
