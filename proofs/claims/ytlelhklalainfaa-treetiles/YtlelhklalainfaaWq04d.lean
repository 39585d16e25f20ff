/- Part of the proof of the law's row: YtlelhklalainfaaWq04d. -/
import Derived.Test.YtlelhklalainfaaWq04c
set_option linter.all false
set_option linter.unusedVariables false
set_option linter.unusedSimpArgs false
/-! Chapter 4: laws. -/
namespace Go.Proofs
open Go Go.Abs
def markN : NodeD := ((-77 : Int), (0 : Int), zStr, ((0 : Int), (0 : Int), (0 : Int), (0 : Int), ()), ())
theorem q_lend (p : List NodeD) (h : (p.length + 1) * 64 ≤ 140737488355328) : F_book_LendPattern (p, ()) = some ((0, p.length), p ++ [markN], ()) := by
  unfold F_book_LendPattern
  simp only [List.nil_append, List.length_append, List.length_cons, List.length_nil]
  simp (disch := omega) only [need_pos]
  rfl
theorem q_same (p : List NodeD) (h : p.length * 64 ≤ 140737488355328) : F_book_SamePattern (p, p, ()) = some (true, ()) := by
  unfold F_book_SamePattern
  simp only [decide_true, Bool.not_true, sel_f]
  refine (loopC_gh (γ := Nat) (σ := (Int × Bool × Unit) × Unit) (ρ := Bool × Unit) (I := fun g s => s.1.1 = (g : Int) ∧ g ≤ p.length) (μ := fun g => p.length - g) (F := fun g => (true, ())) ?_ 0 _ ⟨rfl, by omega⟩)
  rintro i ⟨⟨i', b, ⟨⟩⟩, ⟨⟩⟩ ⟨e, hi⟩
  simp only at e hi ⊢
  subst e
  by_cases hlt : i < p.length
  · simp (disch := omega) only [sel_pos, need_pos, need64]
    rw [eqb_refl _ (by rfl)]
    exact .inl ⟨i + 1, _, rfl, ⟨by first | omega | (simp only; omega), by first | omega | (simp only; omega)⟩, by first | omega | (simp only; omega), by trivial⟩
  · simp (disch := omega) only [sel_neg]
    exact .inr trivial
theorem q_ints (p : List Int) (h : p.length * 8 ≤ 140737488355328) : F_book_SameInts (p, p, ()) = some (true, ()) := by
  unfold F_book_SameInts
  simp only [decide_true, Bool.not_true, sel_f]
  refine (loopC_gh (γ := Nat) (σ := (Int × Bool × Unit) × Unit) (ρ := Bool × Unit) (I := fun g s => s.1.1 = (g : Int) ∧ g ≤ p.length) (μ := fun g => p.length - g) (F := fun g => (true, ())) ?_ 0 _ ⟨rfl, by omega⟩)
  rintro i ⟨⟨i', b, ⟨⟩⟩, ⟨⟩⟩ ⟨e, hi⟩
  simp only at e hi ⊢
  subst e
  by_cases hlt : i < p.length
  · simp (disch := omega) only [sel_pos, need_pos, need64]
    exact .inl ⟨i + 1, _, rfl, ⟨by first | omega | (simp only; omega), by first | omega | (simp only; omega)⟩, by first | omega | (simp only; omega), by trivial⟩
  · simp (disch := omega) only [sel_neg]
    exact .inr trivial
theorem lent_take (p : List NodeD) : List.take p.length (List.drop 0 (p ++ [markN])) = p := by simp
theorem q_kept (p : List NodeD) (h : (p.length + 1) * 64 ≤ 140737488355328) : F_book_KeptPattern (List.drop 0 (p ++ [markN]), p.length, p, ()) = some (true, ()) := by
  unfold F_book_KeptPattern
  simp only [lent_take]
  rw [q_same p (by omega), bind_t]
  have e1 : List.take (Int.toNat ((p.length : Int) + 1)) (p ++ [markN]) = p ++ [markN] := by
    rw [show Int.toNat ((p.length : Int) + 1) = (p ++ [markN]).length by simp, List.take_length]
  simp only [sel_t, List.drop_zero, e1, List.length_append, List.length_cons, List.length_nil]
  simp (disch := omega) only [need_pos, need64]
  have e2 : List.getD (p ++ [markN]) (Int.toNat (p.length : Int)) zNode = markN := by
    rw [List.getD_eq_getElem?_getD, Int.toNat_natCast, List.getElem?_append_right (Nat.le_refl _), Nat.sub_self]
    rfl
  rw [e2, show ((-77 : Int), (0 : Int), zStr, ((0 : Int), (0 : Int), (0 : Int), (0 : Int), ()), ()) = markN from rfl, eqb_refl _ (by rfl)]
  rfl
theorem q_lives : F_law04_lives () = some (true, ()) := by
  unfold F_law04_lives
  simp only [q_check, bind_t, sel_and]
  have e1 : chkP [((3 : Int), (0 : Int), zStr, ((0 : Int), (0 : Int), (0 : Int), (0 : Int), ()), ())] = (0, 0) := by kernel_rfl
  have e2 : chkP [((9 : Int), (0 : Int), zStr, ((0 : Int), (0 : Int), (0 : Int), (0 : Int), ()), ())] = (0, 42) := by kernel_rfl
  rw [e1, e2]
  rfl
theorem law_TreeParts (p : List NodeD) (i : Int) (h : p.length * 64 ≤ 140737488351232) : F_law04_TreeParts (p, i, ()) = some (true, ()) := by
  unfold F_law04_TreeParts
  simp only
  rw [q_lend p (by omega), bind_t]
  simp only [lent_take, List.length_append, List.length_cons, List.length_nil]
  simp (disch := omega) only [need_pos]
  simp only [q_begin, q_beginR, q_part, q_partR, q_parts, q_partsR, q_height, q_heightR, q_lives, bind_t, decide_true, sel_and, Bool.and_self, sel_t]
  rw [q_same _ (by split
                   · rename_i h0
                     have := partP_length h0
                     have := begin_le h0
                     have := lookP_zero h0
                     simp only
                     omega
                   · simp)]
  rw [q_ints _ (by split
                   · unfold partsP
                     simp only
                     split
                     · simp
                     · split <;> simp
                   · simp)]
  rw [q_kept p (by omega)]
  rfl
end Go.Proofs
