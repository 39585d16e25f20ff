/- Part of the proof of the law's row: YtaghpbhnclclaaaDoorWq18o. -/
import Derived.Test.YtaghpbhnclclaaaDoorWq18f
set_option linter.all false
set_option linter.unusedVariables false
set_option linter.unusedSimpArgs false
/-! Chapter 18: what is lent, and equal code. -/
namespace Go.Proofs
open Go Go.Abs
def markI : InstrD := ((-77 : Int), (0 : Int), (0 : Int), (0 : Int), zStr, ((0 : Int), (0 : Int), (0 : Int), (0 : Int), ()), ())
theorem q_lendC (p : List InstrD) (h : (p.length + 1) * 80 ≤ 140737488355328) : F_book_LendCode (p, ()) = some ((0, p.length), p ++ [markI], ()) := by
  unfold F_book_LendCode
  simp only [List.nil_append, List.length_append, List.length_cons, List.length_nil]
  simp (disch := omega) only [need_pos]
  rfl
theorem q_sameC (p : List InstrD) (h : p.length * 80 ≤ 140737488355328) : F_book_SameCode (p, p, ()) = some (true, ()) := by
  unfold F_book_SameCode
  simp only [decide_true, Bool.not_true, sel_f]
  refine (loopC_gh (γ := Nat) (σ := (Int × Bool × Unit) × Unit) (ρ := Bool × Unit) (I := fun g s => s.1.1 = (g : Int) ∧ g ≤ p.length) (μ := fun g => p.length - g) (F := fun g => (true, ())) ?_ 0 _ ⟨rfl, by omega⟩)
  rintro i ⟨⟨i', b, ⟨⟩⟩, ⟨⟩⟩ ⟨e, hi⟩
  simp only at e hi ⊢
  subst e
  by_cases hlt : i < p.length
  · simp (disch := omega) only [sel_pos, need_pos, need64]
    rw [eqb_refl _ (by rfl)]
    exact .inl ⟨i + 1, _, rfl, ⟨by first | omega | (simp only; omega), by first | omega | (simp only; omega)⟩, by first | omega | (simp only; omega), by trivial⟩
  · simp (disch := omega) only [sel_neg]
    exact .inr trivial
theorem lentI_take (p : List InstrD) : List.take p.length (List.drop 0 (p ++ [markI])) = p := by simp
theorem q_keptC (p : List InstrD) (h : (p.length + 1) * 80 ≤ 140737488355328) : F_book_KeptCode (List.drop 0 (p ++ [markI]), p.length, p, ()) = some (true, ()) := by
  unfold F_book_KeptCode
  simp only [lentI_take]
  rw [q_sameC p (by omega), bind_t]
  have e1 : List.take (Int.toNat ((p.length : Int) + 1)) (p ++ [markI]) = p ++ [markI] := by
    rw [show Int.toNat ((p.length : Int) + 1) = (p ++ [markI]).length by simp, List.take_length]
  simp only [sel_t, List.drop_zero, e1, List.length_append, List.length_cons, List.length_nil]
  simp (disch := omega) only [need_pos, need64]
  have e2 : List.getD (p ++ [markI]) (Int.toNat (p.length : Int)) zInstr = markI := by
    rw [List.getD_eq_getElem?_getD, Int.toNat_natCast, List.getElem?_append_right (Nat.le_refl _), Nat.sub_self]
    rfl
  rw [e2, show ((-77 : Int), (0 : Int), (0 : Int), (0 : Int), zStr, ((0 : Int), (0 : Int), (0 : Int), (0 : Int), ()), ()) = markI from rfl, eqb_refl _ (by rfl)]
  rfl
end Go.Proofs

/-! Chapter 18: Check by the book. -/
namespace Go.Proofs
open Go Go.Abs
theorem getD_set {α : Type} {l : List α} {i j : Nat} {v d : α} (hi : i < l.length) : List.getD (List.set l i v) j d = if i = j then v else List.getD l j d := by
  rw [List.getD_eq_getElem?_getD, List.getD_eq_getElem?_getD, List.getElem?_set]
  split
  · rfl
  · rfl
end Go.Proofs

/-! Chapter 18: Unlink. -/
namespace Go.Proofs
open Go Go.Abs
/-- Where the instruction at i goes. -/
def aimP (p : List InstrD) (i : Nat) : Nat := ((i : Int) + (ith p i).2.1).toNat
theorem ckG_bad {N : Int} : ∀ {p : List InstrD} {k : Int} {r : Int × Int}, ckG N p k = some r → r.2 ≠ 0
  | [], _, _, h => by cases h
  | x :: p, k, r, h => by
    rw [ckG] at h
    split at h
    · cases h; simp
    · split at h
      · cases h; simp
      · split at h
        · cases h; simp
        · exact ckG_bad h
theorem check_right {p : List InstrD} (h : (checkI p).2 = 0) : p.length ≤ 8192 ∧ 0 < p.length ∧ ∀ i, i < p.length → isB (ith p i).1 = true ∧ fitsB (ith p i) = true ∧ (goesB (ith p i).1 = true → 0 ≤ (i : Int) + (ith p i).2.1 ∧ (i : Int) + (ith p i).2.1 < (p.length : Int)) := by
  unfold checkI at h
  split at h
  · cases h
  · split at h
    · cases h
    · rename_i h1 h2
      refine ⟨by omega, by omega, ?_⟩
      cases hc : ckG (p.length : Int) p 0 with
      | some r =>
        rw [hc] at h
        exact absurd h (ckG_bad hc)
      | none =>
        intro i hi
        obtain ⟨a, b, c⟩ := ckG_right hc i hi
        exact ⟨a, b, fun hg => by have := c hg; omega⟩
end Go.Proofs
