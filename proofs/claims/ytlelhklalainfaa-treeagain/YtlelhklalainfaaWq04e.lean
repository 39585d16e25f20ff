/- Part of the proof of the law's row: YtlelhklalainfaaWq04e. -/
import Derived.Test.YtlelhklalainfaaWq04d
set_option linter.all false
set_option linter.unusedVariables false
set_option linter.unusedSimpArgs false
/-! Chapter 4: parts put and joined. -/
namespace Go.Proofs
open Go Go.Abs
theorem q_grow (n : Int) (h0 : 0 ≤ n) (h1 : n * 64 ≤ 140737488355328) : F_slices_Grow_Pattern_Node (n, ()) = some ([], ()) := by
  unfold F_slices_Grow_Pattern_Node
  simp only
  rw [sel_neg (by omega), bind_t]
  simp only
  by_cases h : n = 0
  · subst h
    simp (disch := omega) only [need64, sel_neg]
  · simp only [List.length_replicate]
    simp (disch := omega) only [need64, sel_pos, need_pos]
    rw [need_pos ⟨trivial, trivial⟩, need_pos ⟨trivial, by omega⟩]
theorem getD_len (xs : List (List NodeD)) (i : Nat) (hi : i < xs.length) : List.getD xs i [] = xs[i] := by
  rw [List.getD_eq_getElem?_getD, List.getElem?_eq_getElem hi]
  rfl
theorem flat_take (xs : List (List NodeD)) (i : Nat) (hi : i < xs.length) : (List.take (i + 1) xs).flatten = (List.take i xs).flatten ++ List.getD xs i [] := by
  rw [List.take_succ_eq_append_getElem hi, List.flatten_append, getD_len xs i hi]
  simp
theorem flat_le (xs : List (List NodeD)) (i : Nat) : (List.take i xs).flatten.length ≤ xs.flatten.length := by
  have := congrArg (fun l => (List.flatten l).length) (List.take_append_drop i xs)
  simp only [List.flatten_append, List.length_append] at this
  omega
theorem q_concat (xs : List (List NodeD)) (hx : xs.length ≤ 1000000) (h : xs.flatten.length * 64 ≤ 140737488355328) : F_slices_Concat_Pattern_Node (xs, ()) = some (xs.flatten, ()) := by
  unfold F_slices_Concat_Pattern_Node
  simp only
  refine (loopC_gh (γ := Nat) (σ := shapeD × List NodeD × Unit) (ρ := List NodeD × Unit) (I := fun i s => s.1.1 = (i : Int) ∧ i ≤ xs.length ∧ s.1.2.1 = ((List.take i xs).flatten.length : Int)) (μ := fun i => xs.length - i)
    (F := fun i => (xs.flatten, ())) ?_ 0 _ ⟨rfl, by omega, by simp⟩)
  rintro i ⟨⟨i', n, ⟨⟩⟩, r, ⟨⟩⟩ ⟨e1, hi, e2⟩
  simp only at e1 hi e2 ⊢
  subst e1 e2
  by_cases hlt : i < xs.length
  · have g1 := flat_le xs (i + 1)
    have g2 := flat_take xs i hlt
    have g3 := congrArg List.length g2
    rw [List.length_append] at g3
    simp only [Int.toNat_natCast]
    simp (disch := omega) only [sel_pos, sel_neg, need_pos, need64]
    exact .inl ⟨i + 1, _, rfl, ⟨by first | omega | (simp only; omega), by omega, by rw [g3]; simp only; omega⟩, by omega, by trivial⟩
  · have hie : i = xs.length := by omega
    have g1 := flat_le xs i
    rw [sel_neg (by omega), q_grow _ (by omega) (by omega), bind_t]
    refine .inr ?_
    rw [loopC_gh (γ := Nat) (σ := (Int × Unit) × List NodeD × List NodeD × Unit) (ρ := List NodeD × Unit) (I := fun i s => s.1.1 = (i : Int) ∧ i ≤ xs.length ∧ s.2.1 = (List.take i xs).flatten) (μ := fun i => xs.length - i)
      (F := fun i => (xs.flatten, ())) ?_ 0 _ ⟨rfl, by omega, by simp⟩]
    · rfl
    rintro i ⟨⟨i', ⟨⟩⟩, r, r', ⟨⟩⟩ ⟨e1, hi, e2⟩
    simp only at e1 hi e2 ⊢
    subst e1 e2
    by_cases hlt : i < xs.length
    · have g1 := flat_le xs (i + 1)
      have g2 := flat_take xs i hlt
      have g3 := congrArg List.length g2
      rw [List.length_append] at g3
      simp only [Int.toNat_natCast]
      simp (disch := omega) only [sel_pos, need_pos, need64]
      exact .inl ⟨i + 1, _, rfl, ⟨by first | omega | (simp only; omega), by omega, by rw [g2]⟩, by omega, by trivial⟩
    · have hie : i = xs.length := by omega
      rw [sel_neg (by omega), hie, List.take_length]
      exact .inr rfl
theorem q_checked (p : List NodeD) : F_tree_checked (p, ()) = some ((chkP p).2, (if (chkP p).2 = 0 then p else []), ()) := by
  unfold F_tree_checked
  rw [q_check, bind_t]
  by_cases h : (chkP p).2 = 0 <;> simp [h, sel]
/-- A pattern in the place of a part. -/
def putL (p : List NodeD) (i : Int) (q : List NodeD) : List NodeD := List.take (beginP p i).toNat p ++ q ++ List.drop (i + 1).toNat p
def putP (p : List NodeD) (i : Int) (q : List NodeD) : Int × List NodeD :=
  if lookP p i ≠ 0 then (lookP p i, []) else if (chkP q).2 ≠ 0 then ((chkP q).2, []) else if (chkP (putL p i q)).2 ≠ 0 then ((chkP (putL p i q)).2, []) else (0, putL p i q)
theorem putL_length {p q : List NodeD} {i : Int} (h : lookP p i = 0) (hq : (chkP q).2 = 0) : (putL p i q).length ≤ 4096 := by
  obtain ⟨h1, h2, h3⟩ := lookP_zero h
  have := chk_len h1
  have := chk_len hq
  have := begin_le h
  unfold putL
  rw [List.length_append, List.length_append, List.length_take, List.length_drop]
  omega
theorem q_put (p : List NodeD) (i : Int) (q : List NodeD) : F_tree_Put (p, i, q, ()) = some ((putP p i q).1, (putP p i q).2, ()) := by
  unfold F_tree_Put putP
  simp only
  rw [q_begin, bind_t]
  by_cases h : lookP p i = 0
  · obtain ⟨h1, h2, h3⟩ := lookP_zero h
    have hp := chk_len h1
    have hb := begin_le h
    simp only [h, if_true, decide_true, sel_t, q_check, bind_t, ne_eq, not_true, if_false]
    by_cases hq : (chkP q).2 = 0
    · have hql := chk_len hq
      have hl := putL_length h hq
      simp only [hq, decide_true, Bool.not_true, sel_f, not_true, if_false]
      simp (disch := omega) only [need_pos, need64]
      have e : List.flatten [List.drop 0 (List.take (beginP p i).toNat p), q, List.drop (i + 1).toNat (List.take (p.length : Int).toNat p)] = putL p i q := by
        simp [putL]
      rw [q_concat _ (by simp) (by rw [e]; omega), e, bind_t]
      simp only [q_checked, bind_t]
      by_cases hr : (chkP (putL p i q)).2 = 0 <;> simp [hr]
    · simp [hq, sel]
  · simp [h, sel]
theorem q_putR (p : List NodeD) (i : Int) (q : List NodeD) : F_ref04_Put (p, i, q, ()) = some ((putP p i q).1, (putP p i q).2, ()) := by
  unfold F_ref04_Put putP
  simp only
  rw [q_beginR, bind_t]
  by_cases h : lookP p i = 0
  · obtain ⟨h1, h2, h3⟩ := lookP_zero h
    have hp := chk_len h1
    have hb := begin_le h
    simp only [h, if_true, decide_true, Bool.not_true, sel_f, q_checkR, bind_t, ne_eq, not_true, if_false]
    by_cases hq : (chkP q).2 = 0
    · have hql := chk_len hq
      have hl := putL_length h hq
      simp only [hq, decide_true, Bool.not_true, sel_f, not_true, if_false]
      simp (disch := omega) only [need_pos, need64]
      rw [q_copyR _ (by rw [List.length_drop, List.length_take]; omega), bind_t]
      have e : (List.drop 0 (List.take (beginP p i).toNat p) ++ q) ++ List.drop (i + 1).toNat (List.take (p.length : Int).toNat p) = putL p i q := by
        simp [putL]
      simp only [e]
      have e2 := congrArg List.length e
      rw [List.length_append, List.length_append] at e2
      simp only [List.length_append]
      simp (disch := omega) only [need_pos, need64, bind_t]
      by_cases hr : (chkP (putL p i q)).2 = 0 <;> simp [hr, sel]
    · simp [hq, sel]
  · simp [h, sel]
theorem putP_length (p : List NodeD) (i : Int) (q : List NodeD) : (putP p i q).2.length ≤ 4096 := by
  unfold putP
  split
  · simp
  · rename_i h
    split
    · simp
    · rename_i hq
      split
      · simp
      · exact putL_length (by simpa using h) (by simpa using hq)
theorem law_TreePuts (p : List NodeD) (i : Int) (q : List NodeD) (hp : p.length * 64 ≤ 140737488351232) (hq : q.length * 64 ≤ 140737488351232) : F_law04_TreePuts ((p, i, q, ()), ()) = some (true, ()) := by
  unfold F_law04_TreePuts
  simp only
  rw [q_lend p (by omega), bind_t, q_lend q (by omega), bind_t]
  simp only [lent_take, List.length_append, List.length_cons, List.length_nil]
  simp (disch := omega) only [need_pos]
  simp only [q_put, q_putR, q_lives, bind_t, decide_true, sel_and, Bool.and_self, sel_t]
  have := putP_length p i q
  rw [q_same _ (by omega), q_kept p (by omega), q_kept q (by omega)]
  rfl
def joinL : List (List NodeD) → List NodeD → Int ⊕ List NodeD
  | [], acc => .inr acc
  | p :: ps, acc => if (chkP p).2 ≠ 0 then .inl (chkP p).2 else joinL ps (acc ++ p)
def joinE (n : NodeD) : Int ⊕ List NodeD → Int × List NodeD
  | .inl e => (e, [])
  | .inr acc => if (chkP (acc ++ [n])).2 ≠ 0 then ((chkP (acc ++ [n])).2, []) else (0, acc ++ [n])
/-- Parts and a node, put together. -/
def joinP (n : NodeD) (ps : List (List NodeD)) : Int × List NodeD :=
  if arity n.1 < 0 then (40, []) else if fieldB n = false then (41, []) else if arity n.1 ≠ (ps.length : Int) then (42, []) else joinE n (joinL ps [])
theorem joinL_at {ps : List (List NodeD)} {i : Nat} (hi : i < ps.length) (acc : List NodeD) : joinL (List.drop i ps) acc = if (chkP (List.getD ps i [])).2 ≠ 0 then .inl (chkP (List.getD ps i [])).2 else joinL (List.drop (i + 1) ps) (acc ++ List.getD ps i []) := by
  rw [List.drop_eq_getElem_cons hi, joinL, getD_len ps i hi]
theorem q_join (n : NodeD) (ps : List (List NodeD)) : F_tree_Join (n, ps, ()) = some ((joinP n ps).1, (joinP n ps).2, ()) := by
  unfold F_tree_Join joinP
  simp only
  rw [q_arity, bind_t]
  have ha := arity_le n.1
  by_cases h0 : arity n.1 < 0
  · simp [h0, sel]
  rw [sel_neg h0, if_neg h0, q_fields, bind_t]
  cases hf : fieldB n with
  | false => simp [sel]
  | true =>
    simp only [Bool.not_true, sel_f, Bool.true_eq_false, if_false]
    by_cases hl : arity n.1 = (ps.length : Int)
    · rw [sel_npos hl, if_neg (by simp [hl])]
      refine (loopC_gh (γ := Nat × List NodeD) (σ := shapeD × List NodeD × List NodeD × NodeD × Unit) (ρ := Int × List NodeD × Unit) (I := fun g s => s.1.1 = (g.1 : Int) ∧ g.1 ≤ ps.length ∧ s.2.1 = g.2 ∧ g.2.length ≤ 2048 * g.1 ∧ s.2.2.2.1 = n) (μ := fun g => ps.length - g.1)
        (F := fun g => ((joinE n (joinL (List.drop g.1 ps) g.2)).1, (joinE n (joinL (List.drop g.1 ps) g.2)).2, ())) ?_ (0, []) _ ⟨rfl, by simp, rfl, by simp, rfl⟩).trans (by simp)
      rintro ⟨i, acc⟩ ⟨⟨i', j, ⟨⟩⟩, acc', r, n', ⟨⟩⟩ ⟨e1, hi, e2, hacc, e3⟩
      simp only at e1 hi e2 hacc e3 ⊢
      subst e1 e2 e3
      by_cases hlt : i < ps.length
      · rw [sel_pos (by omega), need_pos (by omega), joinL_at hlt]
        simp only [q_check, bind_t, Int.toNat_natCast]
        by_cases hc : (chkP (List.getD ps i [])).2 = 0
        · have := chk_len hc
          simp only [hc, decide_true, Bool.not_true, sel_f, ne_eq, not_true, if_false]
          simp (disch := omega) only [need_pos, need64]
          refine .inl ⟨(i + 1, acc' ++ List.getD ps i []), _, rfl, ⟨by first | omega | (simp only; omega), by simp only; omega, rfl, by simp only [List.length_append]; omega, rfl⟩, by simp only; omega, by trivial⟩
        · simp only [hc, decide_false, Bool.not_false, sel_t, ne_eq, not_false_eq_true, if_true]
          exact .inr (by simp [joinE])
      · rw [sel_neg (by omega), List.drop_eq_nil_of_le (by omega)]
        simp (disch := omega) only [need_pos]
        simp only [q_checked, bind_t, joinL, joinE]
        refine .inr ?_
        by_cases hr : (chkP (acc' ++ [n'])).2 = 0 <;> simp [hr]
    · rw [sel_nneg hl, if_pos hl]
theorem q_joinR (n : NodeD) (ps : List (List NodeD)) : F_ref04_Join (n, ps, ()) = some ((joinP n ps).1, (joinP n ps).2, ()) := by
  unfold F_ref04_Join joinP
  simp only
  rw [q_arityR, bind_t]
  have ha := arity_le n.1
  by_cases h0 : arity n.1 < 0
  · simp [h0, sel]
  rw [sel_neg h0, if_neg h0, q_fieldR, bind_t]
  cases hf : fieldB n with
  | false => simp [sel]
  | true =>
    simp only [Bool.not_true, sel_f, Bool.true_eq_false, if_false]
    by_cases hl : arity n.1 = (ps.length : Int)
    · rw [sel_npos hl, if_neg (by simp [hl])]
      refine (loopC_gh (γ := Nat × List NodeD) (σ := shapeD × List NodeD × List NodeD × NodeD × Unit) (ρ := Int × List NodeD × Unit) (I := fun g s => s.1.1 = (g.1 : Int) ∧ g.1 ≤ ps.length ∧ s.2.1 = g.2 ∧ g.2.length ≤ 2048 * g.1 ∧ s.2.2.2.1 = n) (μ := fun g => ps.length - g.1)
        (F := fun g => ((joinE n (joinL (List.drop g.1 ps) g.2)).1, (joinE n (joinL (List.drop g.1 ps) g.2)).2, ())) ?_ (0, []) _ ⟨rfl, by simp, rfl, by simp, rfl⟩).trans (by simp)
      rintro ⟨i, acc⟩ ⟨⟨i', j, ⟨⟩⟩, acc', r, n', ⟨⟩⟩ ⟨e1, hi, e2, hacc, e3⟩
      simp only at e1 hi e2 hacc e3 ⊢
      subst e1 e2 e3
      by_cases hlt : i < ps.length
      · rw [sel_pos (by omega), need_pos (by omega), joinL_at hlt]
        simp only [q_checkR, bind_t, Int.toNat_natCast]
        by_cases hc : (chkP (List.getD ps i [])).2 = 0
        · have := chk_len hc
          simp only [hc, decide_true, Bool.not_true, sel_f, ne_eq, not_true, if_false]
          simp (disch := omega) only [need_pos, need64]
          refine .inl ⟨(i + 1, acc' ++ List.getD ps i []), _, rfl, ⟨by first | omega | (simp only; omega), by simp only; omega, rfl, by simp only [List.length_append]; omega, rfl⟩, by simp only; omega, by trivial⟩
        · simp only [hc, decide_false, Bool.not_false, sel_t, ne_eq, not_false_eq_true, if_true]
          exact .inr (by simp [joinE])
      · rw [sel_neg (by omega), List.drop_eq_nil_of_le (by omega)]
        simp (disch := omega) only [need_pos]
        simp only [q_checkR, bind_t, joinL, joinE]
        refine .inr ?_
        by_cases hr : (chkP (acc' ++ [n'])).2 = 0 <;> simp [hr, sel]
    · rw [sel_nneg hl, if_pos hl]
theorem q_spoil (p : List NodeD) (m : Int) (h : (p.length + 1) * 64 ≤ 140737488355328) : F_book_SpoilPattern (m, p, ()) = some () := by
  unfold F_book_SpoilPattern
  simp only
  refine (loopC_gh (γ := Nat) (σ := (Int × Unit) × List NodeD × Unit) (ρ := Unit) (I := fun i s => s.1.1 = (i : Int) ∧ i ≤ p.length ∧ s.2.1.length = p.length) (μ := fun i => p.length - i) (F := fun _ => ()) ?_ 0 _ ⟨rfl, by omega, rfl⟩)
  rintro i ⟨⟨i', ⟨⟩⟩, r, ⟨⟩⟩ ⟨e1, hi, e2⟩
  simp only at e1 hi e2 ⊢
  subst e1
  by_cases hlt : i < p.length
  · simp (disch := omega) only [sel_pos, need_pos, need64]
    exact .inl ⟨i + 1, _, rfl, ⟨by first | omega | (simp only; omega), by omega, by simp only [List.length_set]; omega⟩, by omega, by trivial⟩
  · simp (disch := omega) only [sel_neg, need_pos]
    exact .inr rfl
theorem joinP_one (n : NodeD) (q : List NodeD) : (joinP n [q]).2.length ≤ 2049 := by
  unfold joinP
  split
  · simp
  split
  · simp
  split
  · simp
  · simp only [joinL]
    split
    · simp [joinE]
    · rename_i hc
      have := chk_len (p := q) (by simpa using hc)
      simp only [joinE]
      split
      · simp
      · simp; omega
theorem law_TreeOwn (p : List NodeD) (i : Int) (q : List NodeD) (hp : p.length * 64 ≤ 140737488351232) (hq : q.length * 64 ≤ 140737488351232) : F_law04_TreeOwn ((p, i, q, ()), ()) = some (true, ()) := by
  unfold F_law04_TreeOwn
  simp only
  rw [q_lend p (by omega), bind_t, q_lend q (by omega), bind_t]
  simp only [lent_take, List.length_append, List.length_cons, List.length_nil]
  simp (disch := omega) only [need_pos]
  have h1 := putP_length p i q
  have h2 := joinP_one ((9 : Int), (0 : Int), zStr, ((0 : Int), (0 : Int), (0 : Int), (0 : Int), ()), ()) q
  have h3 : (if lookP p i = 0 then ((0 : Int), partP p i, ()) else (lookP p i, [], ())).2.1.length ≤ 4096 := by
    split
    · rename_i h0
      have := partP_length h0
      have := begin_le h0
      obtain ⟨g1, g2, g3⟩ := lookP_zero h0
      have := chk_len g1
      simp only
      omega
    · simp
  simp only [q_partR, q_part, q_put, q_putR, q_lives, bind_t, q_join, q_joinR, decide_true, Bool.not_true, sel_or, Bool.or_self, sel_f]
  rw [q_spoil _ _ (by omega), bind_t, q_spoil _ _ (by omega), bind_t, q_kept p (by omega)]
  simp only [bind_t, Bool.not_true, sel_f]
  rw [q_kept q (by omega)]
  simp only [bind_t, Bool.not_true, sel_f]
  rw [q_same _ (by omega)]
  simp only [bind_t, Bool.not_true, sel_f]
  rw [q_same _ (by omega)]
  simp only [bind_t, Bool.not_true, sel_f]
  rw [q_same _ (by omega)]
  simp only [bind_t, Bool.not_true, sel_f]
  rw [q_spoil _ _ (by omega)]
  rfl
end Go.Proofs
