/- Part of the proof of the law's row: YtlelhklalainfaaWq04g. -/
import Derived.Test.YtlelhklalainfaaWq04f
set_option linter.all false
set_option linter.unusedVariables false
set_option linter.unusedSimpArgs false
/-! Chapter 4: the laws of parts. -/
namespace Go.Proofs
open Go Go.Abs
theorem stepE_high {n : NodeD} {S T : List En} (h : stepE n S = .inr T) : ∀ e ∈ S, ∃ e' ∈ T, e.h ≤ e'.h := by
  intro e he
  unfold stepE at h
  split at h
  · cases h
  split at h
  · cases h
  split at h
  · simp only [Sum.inr.injEq] at h
    subst h
    exact ⟨e, List.mem_cons_of_mem _ he, Int.le_refl _⟩
  split at h
  · split at h
    · rename_i e1 S'
      split at h
      · cases h
      · simp only [Sum.inr.injEq] at h
        subst h
        rcases List.mem_cons.1 he with rfl | he
        · exact ⟨_, List.mem_cons_self .., by simp only; omega⟩
        · exact ⟨e, List.mem_cons_of_mem _ he, Int.le_refl _⟩
    · cases h
  · split at h
    · rename_i e1 e0 S'
      have hh : e0.h ≤ (if e0.op = n.1 then e0.h - 1 else e0.h) + 1 := by split <;> omega
      generalize (if e0.op = n.1 then e0.h - 1 else e0.h) = x at h hh
      by_cases h60 : max e1.h x + 1 > 60
      · rw [if_pos h60] at h; cases h
      · rw [if_neg h60] at h
        simp only [Sum.inr.injEq] at h
        subst h
        rcases List.mem_cons.1 he with rfl | he
        · exact ⟨_, List.mem_cons_self .., by simp only; omega⟩
        · rcases List.mem_cons.1 he with rfl | he
          · refine ⟨_, List.mem_cons_self .., ?_⟩
            simp only
            omega
          · exact ⟨e, List.mem_cons_of_mem _ he, Int.le_refl _⟩
    · cases h
theorem run_high : ∀ {xs : List NodeD} {S T : List En}, run xs S = .inr T → ∀ e ∈ S, ∃ e' ∈ T, e.h ≤ e'.h
  | [], S, T, h, e, he => by
    simp only [run, Sum.inr.injEq] at h
    subst h
    exact ⟨e, he, Int.le_refl _⟩
  | n :: ns, S, T, h, e, he => by
    simp only [run] at h
    split at h
    · cases h
    · rename_i S' hs
      obtain ⟨e1, h1, h2⟩ := stepE_high hs e he
      obtain ⟨e2, h3, h4⟩ := run_high h e1 h1
      exact ⟨e2, h3, Int.le_trans h2 h4⟩
theorem chk_high {q : List NodeD} {e : En} (hl : (q.length : Int) ≤ 2048) (h : run q [] = .inr [e]) : (chkP q).2 = 0 ∧ highP q ((q.length : Int) - 1) = e.h := by
  have hc := chk_run.2 ⟨hl, e, h⟩
  refine ⟨hc, ?_⟩
  obtain ⟨S, h1, h2⟩ := run_take hc q.length (Nat.le_refl _)
  rw [List.take_length, h] at h1
  simp only [Sum.inr.injEq] at h1
  subst h1
  rcases h2.inv with ⟨_, h3⟩ | ⟨_, S', h3, _⟩
  · cases h3
  · injection h3 with h3 _
    rw [h3]
    rfl
/-- A part of a right pattern is one, no higher than the whole. -/
theorem part_ok {p : List NodeD} {j : Int} (h : lookP p j = 0) : (chkP (partP p j)).2 = 0 ∧ highP (partP p j) (((partP p j).length : Int) - 1) = highP p j ∧ highP p j ≤ highP p ((p.length : Int) - 1) := by
  obtain ⟨g1, g2, g3⟩ := lookP_zero h
  have hp := chk_len g1
  have hb := begin_le h
  have hl := partP_length h
  have h1 := chk_high (q := partP p j) (by omega) (part_one (Nat.le_refl _) h [])
  refine ⟨h1.1, h1.2, ?_⟩
  obtain ⟨S, h2, h3⟩ := run_take g1 (j.toNat + 1) (by omega)
  obtain ⟨S2, h4, h5⟩ := run_take g1 p.length (Nat.le_refl _)
  rw [List.take_length] at h4
  have h6 : run p [] = run (List.drop (j.toNat + 1) p) S := by
    conv => lhs; rw [← List.take_append_drop (j.toNat + 1) p]
    rw [run_append, h2]
  rw [h4] at h6
  rcases h3.inv with ⟨h7, _⟩ | ⟨_, S', h7, _⟩
  · omega
  · have e1 : ((j.toNat + 1 : Nat) : Int) - 1 = j := by omega
    rw [e1] at h7
    obtain ⟨e', h8, h9⟩ := run_high h6.symm _ (by rw [h7]; exact List.mem_cons_self ..)
    obtain ⟨_, e2, h10⟩ := chk_run.1 g1
    rw [h4] at h10
    simp only [Sum.inr.injEq] at h10
    subst h10
    rw [List.mem_singleton] at h8
    subst h8
    rcases h5.inv with ⟨h7, _⟩ | ⟨_, S', h7, _⟩
    · omega
    · injection h7 with h7 _
      rw [h7] at h9
      exact h9
def nx (p : List NodeD) (i : Int) (k : Nat) : Int := if k < (partsP p i).length then beginP p (List.getD (partsP p i) k 0) else i
theorem tiles_ok {p : List NodeD} {i : Int} (h : lookP p i = 0) : ((partsP p i).length : Int) = arity (nth p i).1 ∧ beginP p i = nx p i 0 ∧
    ∀ k, k < (partsP p i).length → lookP p (List.getD (partsP p i) k 0) = 0 ∧ List.getD (partsP p i) k 0 < i ∧ nx p i (k + 1) = List.getD (partsP p i) k 0 + 1 := by
  obtain ⟨g1, g2, g3⟩ := lookP_zero h
  obtain ⟨n0, n1, n2, n3, n4⟩ := node_ok h
  have := arity_le (nth p i).1
  have h3 : arity (nth p i).1 = 0 ∨ arity (nth p i).1 = 1 ∨ arity (nth p i).1 = 2 := by omega
  rcases h3 with ha | ha | ha
  · have e : partsP p i = [] := by unfold partsP; rw [if_neg (by omega), if_neg (by omega)]
    unfold nx
    rw [e, ha]
    exact ⟨rfl, by simp [(n2 ha).1], fun k hk => by cases hk⟩
  · have e : partsP p i = [i - 1] := by unfold partsP; rw [if_pos ha]
    unfold nx
    rw [e, ha]
    obtain ⟨m0, m1, m2⟩ := n3 ha
    refine ⟨rfl, by simpa using m1, fun k hk => ?_⟩
    have : k = 0 := by simp at hk; exact hk
    subst this
    exact ⟨lookP_of g1 (by simp; omega) (by simp; omega), by simp; omega, by simp⟩
  · have e : partsP p i = [beginP p (i - 1) - 1, i - 1] := by unfold partsP; rw [if_neg (by omega), if_pos ha]
    unfold nx
    rw [e, ha]
    obtain ⟨m0, m1, m2, m3⟩ := n4 ha
    have hl := lookP_of (p := p) (i := i - 1) g1 (by omega) (by omega)
    have hb := begin_le hl
    refine ⟨rfl, by simpa using m2, fun k hk => ?_⟩
    have : k = 0 ∨ k = 1 := by simp at hk; omega
    rcases this with rfl | rfl
    · exact ⟨lookP_of g1 (by simp; omega) (by simp; omega), by simp; omega, by simp⟩
    · exact ⟨hl, by simp; omega, by simp⟩
theorem law_TreeTiles (p : List NodeD) (i : Int) : F_law04_TreeTiles (p, i, ()) = some (true, ()) := by
  unfold F_law04_TreeTiles
  simp only
  rw [q_parts, bind_t]
  by_cases h : lookP p i = 0
  · obtain ⟨g1, g2, g3⟩ := lookP_zero h
    have hp := chk_len g1
    have hb := begin_le h
    obtain ⟨t1, t2, t3⟩ := tiles_ok h
    have ha2 := arity_le (nth p i).1
    simp only [h, if_true, decide_true, Bool.not_true, sel_f, q_begin, q_height, g1, bind_t]
    have e : List.getD p i.toNat zNode = nth p i := rfl
    simp only [q_arity, e, bind_t]
    rw [t1]
    simp (disch := omega) only [need_pos, decide_true, Bool.not_true, sel_f, bind_t, sel_or]
    have d1 : decide (beginP p i < 0) = false := by simp; omega
    have d2 : decide (beginP p i > i) = false := by simp; omega
    simp only [d1, d2, Bool.or_self, Bool.false_or, sel_f]
    refine (loopC_gh (γ := Nat) (σ := (Int × Int × Bool × Unit) × List Int × Unit) (ρ := Bool × Unit) (I := fun k s => s.1.1 = (k : Int) ∧ k ≤ (partsP p i).length ∧ s.2.1 = partsP p i ∧ s.1.2.1 = nx p i k) (μ := fun k => (partsP p i).length - k)
      (F := fun _ => (true, ())) ?_ 0 _ ⟨rfl, by omega, rfl, t2⟩)
    rintro k ⟨⟨k', n, b, ⟨⟩⟩, l, ⟨⟩⟩ ⟨e1, hk, e2, e3⟩
    simp only at e1 hk e2 e3 ⊢
    subst e1 e2 e3
    by_cases hlt : k < (partsP p i).length
    · obtain ⟨j1, j2, j3⟩ := t3 k hlt
      obtain ⟨_, j4, j5⟩ := lookP_zero j1
      have hj := begin_le j1
      have hpl := partP_length j1
      obtain ⟨p1, p2, p3⟩ := part_ok j1
      have hnx : nx p i k = beginP p (List.getD (partsP p i) k 0) := by unfold nx; rw [if_pos hlt]
      simp only [Int.toNat_natCast, Nat.zero_add]
      generalize List.getD (partsP p i) k 0 = j at *
      simp only [q_part, q_begin, j1, if_true, bind_t, q_height, q_check, p1, p2]
      simp (disch := omega) only [sel_pos, need_pos, need64, decide_true, Bool.not_true, sel_f, bind_t, hnx]
      have d3 : decide (j < beginP p j) = false := by simp; omega
      have d4 : decide (j ≥ i) = false := by simp; omega
      have d5 : decide (((partP p j).length : Int) = j - beginP p j + 1) = true := by simp; omega
      have d6 : decide (highP p j > highP p ((p.length : Int) - 1)) = false := by simp; omega
      simp only [sel_or, bind_t, d3, d4, d5, d6, Bool.not_true, Bool.or_self, sel_f]
      refine .inl ⟨k + 1, (((k : Int) + 1, j + 1, b, ()), partsP p i, ()), rfl, ⟨by simp, by omega, rfl, j3.symm⟩, by omega, by trivial⟩
    · have hk : k = (partsP p i).length := by omega
      have hnx : nx p i k = i := by unfold nx; rw [if_neg hlt]
      rw [sel_neg (by omega), hnx]
      simp only [decide_true, sel_t, q_lives, bind_t]
      exact .inr trivial
  · simp [h, sel, q_begin, q_lives]
end Go.Proofs
