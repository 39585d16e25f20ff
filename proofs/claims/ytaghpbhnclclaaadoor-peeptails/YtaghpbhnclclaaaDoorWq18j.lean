/- Part of the proof of the law's row: YtaghpbhnclclaaaDoorWq18j. -/
import Derived.Test.YtaghpbhnclclaaaDoorWq18e
set_option linter.all false
set_option linter.unusedVariables false
set_option linter.unusedSimpArgs false
/-! Chapter 18: where labels stand. -/
namespace Go.Proofs
open Go Go.Abs
theorem bind_id_some {A B : Type} {m : Option A} : Option.bind m (fun v => some (Sum.inr v : B ⊕ A)) = Option.map Sum.inr m := by cases m <;> rfl
theorem map_inr {A B : Type} {m : Option A} {r : A} (h : m = some r) : Option.map (Sum.inr : A → B ⊕ A) m = some (Sum.inr r) := by rw [h]; rfl
theorem sel_dor {R : Type} {P Q : Prop} [Decidable P] [Decidable Q] {x y : Option R} (h : P ∨ Q) : sel (decide P || decide Q) x y = x := by
  have : (decide P || decide Q) = true := by simpa using h
  rw [this]
  rfl
theorem sel_dno {R : Type} {P Q : Prop} [Decidable P] [Decidable Q] {x y : Option R} (h : ¬ (P ∨ Q)) : sel (decide P || decide Q) x y = y := by
  have : (decide P || decide Q) = false := by
    rw [Bool.eq_false_iff]
    intro e
    exact h (by simpa using e)
  rw [this]
  rfl
/-- At which instruction's number each label stands; how many instructions there are. -/
abbrev StL : Type := List Int × Int
def stI : List Int := List.replicate 16384 (-1)
def stF (st : StL) (x : InstrD) : StL := if x.1 = 21 then (if 0 ≤ x.2.1 ∧ x.2.1 < 16384 then st.1.set x.2.1.toNat st.2 else st.1, st.2) else (st.1, st.2 + 1)
def lay1 : List InstrD → Int → StL → (Int × Int × StL) ⊕ StL
  | [], _, st => .inr st
  | x :: r, i, st => if memE x ≠ 0 then .inl (i, memE x, st) else if x.1 = 21 ∧ List.getD st.1 x.2.1.toNat 0 ≥ 0 then .inl (i, 180, st) else lay1 r (i + 1) (stF st x)
def badT (st : StL) (x : InstrD) : Prop := goesB x.1 = true ∧ (List.getD st.1 x.2.1.toNat 0 < 0 ∨ List.getD st.1 x.2.1.toNat 0 = st.2)
instance (st : StL) (x : InstrD) : Decidable (badT st x) := by unfold badT; infer_instance
def lay2 (st : StL) : List InstrD → Int → Option (Int × Int)
  | [], _ => none
  | x :: r, i => if badT st x then some (i, 181) else lay2 st r (i + 1)
def pack (st : StL) (r : Int × Int) : laidD × Int × Int × Unit := ((st.1, st.2, ()), r.1, r.2, ())
def end2 (p : List InstrD) (st : StL) : laidD × Int × Int × Unit := pack st ((lay2 st p 0).getD (0, 0))
def end1 (p : List InstrD) : (Int × Int × StL) ⊕ StL → laidD × Int × Int × Unit
  | .inl r => pack r.2.2 (r.1, r.2.1)
  | .inr st => end2 p st
/-- What 'lay' tells. -/
def layR (p : List InstrD) : laidD × Int × Int × Unit := if (p.length : Int) > 16384 then pack (stI, 0) (0, 2) else end1 p (lay1 p 0 (stI, 0))
theorem ith_eq {p : List InstrD} {i : Nat} (hi : i < p.length) : p[i] = ith p i := by
  unfold ith
  rw [List.getD_eq_getElem?_getD, List.getElem?_eq_getElem hi]
  rfl
theorem lay1_at {p : List InstrD} {i : Nat} (hi : i < p.length) (st : StL) : lay1 (List.drop i p) (i : Int) st = if memE (ith p i) ≠ 0 then .inl ((i : Int), memE (ith p i), st) else if (ith p i).1 = 21 ∧ List.getD st.1 (ith p i).2.1.toNat 0 ≥ 0 then .inl ((i : Int), 180, st) else lay1 (List.drop (i + 1) p) ((i + 1 : Nat) : Int) (stF st (ith p i)) := by
  rw [List.drop_eq_getElem_cons hi, lay1, ith_eq hi]
  rfl
theorem lay2_at {p : List InstrD} {i : Nat} (hi : i < p.length) (st : StL) : lay2 st (List.drop i p) (i : Int) = if badT st (ith p i) then some ((i : Int), 181) else lay2 st (List.drop (i + 1) p) ((i + 1 : Nat) : Int) := by
  rw [List.drop_eq_getElem_cons hi, lay2, ith_eq hi]
  rfl
theorem stF_len {st : StL} {x : InstrD} : (stF st x).1.length = st.1.length := by
  unfold stF
  split
  · split <;> simp
  · rfl
theorem mem_label {x : InstrD} (h : memE x = 0) (h21 : x.1 = 21) : 0 ≤ x.2.1 ∧ x.2.1 < 16384 := by
  unfold memE at h
  rw [if_pos h21] at h
  split at h
  · rename_i hc; exact hc.2
  · cases h
theorem mem_goes {x : InstrD} (h : memE x = 0) (hg : goesB x.1 = true) : 0 ≤ x.2.1 ∧ x.2.1 < 16384 := by
  unfold memE at h
  have hb := isB_of (goes_is hg)
  rw [if_neg (by omega), if_neg (by rw [goes_is hg]; simp)] at h
  split at h
  · rename_i hc; exact hc.2 hg
  · cases h
def standsP (p : List InstrD) : StL := p.foldl stF (stI, 0)
theorem take_ith {p : List InstrD} {i : Nat} (hi : i < p.length) : List.take (i + 1) p = List.take i p ++ [ith p i] := by
  rw [List.take_succ_eq_append_getElem hi, ith_eq hi]
theorem stands_succ {p : List InstrD} {i : Nat} (hi : i < p.length) : standsP (List.take (i + 1) p) = stF (standsP (List.take i p)) (ith p i) := by
  unfold standsP
  rw [take_ith hi, List.foldl_append]
  rfl
theorem stands_len : ∀ (p : List InstrD), (standsP p).1.length = 16384 := by
  intro p
  unfold standsP
  have : ∀ (p : List InstrD) (st : StL), (p.foldl stF st).1.length = st.1.length := by
    intro p
    induction p with
    | nil => intro st; rfl
    | cons x p ih => intro st; rw [List.foldl_cons, ih, stF_len]
  rw [this]
  exact List.length_replicate ..
theorem stands_many {p : List InstrD} : ∀ i, i ≤ p.length → 0 ≤ (standsP (List.take i p)).2 ∧ (standsP (List.take i p)).2 ≤ (i : Int)
  | 0, _ => by simp [standsP]
  | i + 1, h => by
    rw [stands_succ (by omega)]
    have := stands_many (p := p) i (by omega)
    unfold stF
    split
    · simp only; push_cast; omega
    · simp only; push_cast; omega
theorem rep_set (i : Nat) (hi : i < 16384) : List.set (List.replicate i (-1 : Int) ++ List.replicate (16384 - i) 0) i (-1) = List.replicate (i + 1) (-1 : Int) ++ List.replicate (16384 - (i + 1)) 0 := by
  rw [List.set_append, if_neg (by simp)]
  rw [List.length_replicate, Nat.sub_self, show 16384 - i = (16384 - (i + 1)) + 1 by omega, List.replicate_succ, List.set_cons_zero, List.replicate_succ']
  rw [List.append_assoc]
  rfl
theorem q_lay (p : List InstrD) (hp : p.length * 80 ≤ 140737488351232) : F_link_lay (p, ()) = some (layR p) := by
  unfold F_link_lay
  rw [need_pos (by decide)]
  refine (loopC_gh (γ := Nat) (σ := (Int × Unit) × (Int × Unit) × List Int × (Int × Unit) × List Int × Unit) (ρ := laidD × Int × Int × Unit) (I := fun i s => s.1.1 = (i : Int) ∧ i ≤ 16384 ∧ s.2.1.1 = 0 ∧ s.2.2.1 = List.replicate i (-1) ++ List.replicate (16384 - i) 0) (μ := fun g => 16384 - g) (F := fun _ => layR p) ?_ 0 _ ⟨rfl, by omega, rfl, rfl⟩)
  rintro i ⟨⟨i', ⟨⟩⟩, ⟨m, ⟨⟩⟩, l, ⟨m2, ⟨⟩⟩, l2, ⟨⟩⟩ ⟨e, hi, em, el⟩
  simp only at e hi em el ⊢
  subst e em
  by_cases hlt : i < 16384
  · have hl : l.length = 16384 := by rw [el, List.length_append, List.length_replicate, List.length_replicate]; omega
    rw [sel_pos (by omega), need_pos ⟨by omega, by omega⟩, need_pos (by omega), need64 (by omega) (by omega)]
    refine .inl ⟨i + 1, (((i : Int) + 1, ()), (0, ()), List.set l i (-1), (m2, ()), l2, ()), by rw [Int.toNat_natCast, Nat.zero_add], ⟨by simp only [Int.natCast_add]; rfl, by omega, rfl, ?_⟩, by omega, by trivial⟩
    show List.set l i (-1) = _
    rw [el]
    exact rep_set i hlt
  · have he : i = 16384 := by omega
    subst he
    have el : l = stI := by rw [el, Nat.sub_self, List.replicate_zero, List.append_nil]; rfl
    subst el
    rw [sel_neg (by omega)]
    right
    unfold layR
    by_cases h1 : (p.length : Int) > 16384
    · rw [sel_pos h1, if_pos h1]
      rfl
    rw [sel_neg h1, if_neg h1]
    rw [bind_id_some]
    refine map_inr ?_
    refine (loopC_gh (γ := Nat) (σ := (Int × shapeD) × (Int × Unit) × List Int × (Int × Unit) × List Int × Unit) (ρ := laidD × Int × Int × Unit) (I := fun i s => s.1.1 = (i : Int) ∧ i ≤ p.length ∧ (∀ j, j < i → memE (ith p j) = 0) ∧ s.2.1.1 = (standsP (List.take i p)).2 ∧ s.2.2.1 = (standsP (List.take i p)).1) (μ := fun g => p.length - g) (F := fun i => end1 p (lay1 (List.drop i p) (i : Int) (standsP (List.take i p)))) ?_ 0 _ ⟨rfl, by omega, fun j hj => by omega, rfl, rfl⟩)
    rintro i ⟨⟨i', b, c, ⟨⟩⟩, ⟨m, ⟨⟩⟩, l, ⟨m2, ⟨⟩⟩, l2, ⟨⟩⟩ ⟨e, hi, hmem, em, el⟩
    simp only at e hi em el ⊢
    subst e
    have hlen : l.length = 16384 := by rw [el, stands_len]
    have hmany := stands_many (p := p) i hi
    by_cases hlt : i < p.length
    · rw [sel_pos (by omega), need_pos ⟨by omega, by omega⟩]
      simp only [Int.toNat_natCast, getD_ith]
      rw [q_wrong, bind_t, lay1_at hlt]
      simp only
      by_cases hm : memE (ith p i) = 0
      · rw [sel_npos hm, if_neg (by simpa using hm)]
        by_cases h21 : (ith p i).1 = 21
        · erw [sel_npos h21]
          obtain ⟨ha0, ha1⟩ := mem_label hm h21
          rw [need_pos ⟨ha0, by omega⟩, need_pos (by omega)]
          have es : (standsP (List.take i p)).1 = l := el.symm
          by_cases hs : List.getD l (ith p i).2.1.toNat 0 ≥ 0
          · erw [sel_pos (p := List.getD l (0 + (ith p i).2.1.toNat) 0 ≥ 0) (by rw [Nat.zero_add]; exact hs)]
            rw [if_pos ⟨h21, by rw [es]; exact hs⟩]
            right
            rw [em, el]
            rfl
          · erw [sel_neg (p := List.getD l (0 + (ith p i).2.1.toNat) 0 ≥ 0) (by rw [Nat.zero_add]; exact hs)]
            rw [need_pos ⟨ha0, by omega⟩, need_pos (by omega), need64 (by omega) (by omega), if_neg (fun h => hs (by rw [es] at h; exact h.2)), Nat.zero_add]
            have hst : stF (standsP (List.take i p)) (ith p i) = (List.set l (ith p i).2.1.toNat m, m) := by
              unfold stF
              rw [if_pos h21, if_pos ⟨ha0, ha1⟩, ← el, ← em]
            refine .inl ⟨i + 1, (((i : Int) + 1, b, c, ()), (m, ()), List.set l (ith p i).2.1.toNat m, (m2, ()), l2, ()), rfl, ⟨by simp, by omega, fun j hj => ?_, ?_, ?_⟩, by omega, ?_⟩
            · rcases Nat.lt_or_eq_of_le (Nat.le_of_lt_succ hj) with h | h
              · exact hmem j h
              · rw [h]; exact hm
            · rw [stands_succ hlt, hst]
            · rw [stands_succ hlt, hst]
            · rw [stands_succ hlt]
        · erw [sel_nneg h21]
          rw [need64 (by omega) (by omega), need64 (by omega) (by omega), if_neg (fun h => h21 h.1)]
          have hst : stF (standsP (List.take i p)) (ith p i) = (l, m + 1) := by
            unfold stF
            rw [if_neg h21, ← el, ← em]
          refine .inl ⟨i + 1, (((i : Int) + 1, b, c, ()), (m + 1, ()), l, (m2, ()), l2, ()), rfl, ⟨by simp, by omega, fun j hj => ?_, ?_, ?_⟩, by omega, ?_⟩
          · rcases Nat.lt_or_eq_of_le (Nat.le_of_lt_succ hj) with h | h
            · exact hmem j h
            · rw [h]; exact hm
          · rw [stands_succ hlt, hst]
          · rw [stands_succ hlt, hst]
          · rw [stands_succ hlt]
      · rw [sel_nneg hm, if_pos hm]
        right
        rw [em, el]
        rfl
    · have he : i = p.length := by omega
      subst he
      rw [sel_neg (by omega), List.drop_length, List.take_length] at *
      right
      rw [bind_id_some]
      refine map_inr ?_
      have hst : standsP p = (l, m) := by rw [el, em]
      rw [show end1 p (lay1 [] (p.length : Int) (standsP p)) = end2 p (l, m) by rw [hst]; rfl]
      have hgoal : ∀ i, pack (l, m) ((lay2 (l, m) (List.drop i p) (i : Int)).getD (0, 0)) = pack (l, m) ((lay2 (l, m) (List.drop i p) (i : Int)).getD (0, 0)) := fun _ => rfl
      refine (loopC_gh (γ := Nat) (σ := (Int × shapeD) × (Int × Unit) × List Int × (Int × Unit) × List Int × Unit) (ρ := laidD × Int × Int × Unit) (I := fun i s => s.1.1 = (i : Int) ∧ i ≤ p.length ∧ s.2.1.1 = m ∧ s.2.2.1 = l) (μ := fun g => p.length - g) (F := fun i => pack (l, m) ((lay2 (l, m) (List.drop i p) (i : Int)).getD (0, 0))) ?_ 0 _ ⟨rfl, by omega, rfl, rfl⟩)
      rintro i ⟨⟨i', b', c', ⟨⟩⟩, ⟨m', ⟨⟩⟩, l', ⟨m2', ⟨⟩⟩, l2', ⟨⟩⟩ ⟨e, hi, em', el'⟩
      simp only at e hi em' el' ⊢
      subst e em' el'
      by_cases hlt : i < p.length
      · rw [sel_pos (by omega), need_pos ⟨by omega, by omega⟩]
        simp only [Int.toNat_natCast, getD_ith]
        rw [q_goes, bind_t, lay2_at hlt]
        simp only
        cases hg : goesB (ith p i).1 with
        | false =>
          simp only [sel_f, bind_t]
          rw [need64 (by omega) (by omega), if_neg (fun h => by have := h.1; rw [hg] at this; cases this)]
          exact .inl ⟨i + 1, (((i : Int) + 1, b', c', ()), (m', ()), l', (m2', ()), l2', ()), rfl, ⟨by simp, by omega, rfl, rfl⟩, by omega, rfl⟩
        | true =>
          obtain ⟨ha0, ha1⟩ := mem_goes (hmem i hlt) hg
          simp only [sel_t]
          rw [need_pos ⟨ha0, by omega⟩, need_pos (by omega), need_pos ⟨ha0, by omega⟩, need_pos (by omega)]
          simp only [sel_or, bind_t, bind_id]
          by_cases hb : badT (l', m') (ith p i)
          · rw [if_pos hb]
            right
            have hb' : List.getD l' (0 + (ith p i).2.1.toNat) 0 < 0 ∨ List.getD l' (0 + (ith p i).2.1.toNat) 0 = m' := by rw [Nat.zero_add]; exact hb.2
            exact sel_dor hb'
          · rw [if_neg hb]
            have hb' : ¬ (List.getD l' (0 + (ith p i).2.1.toNat) 0 < 0 ∨ List.getD l' (0 + (ith p i).2.1.toNat) 0 = m') := fun h => hb ⟨hg, by rw [Nat.zero_add] at h; exact h⟩
            exact .inl ⟨i + 1, (((i : Int) + 1, b', c', ()), (m', ()), l', (m2', ()), l2', ()), (sel_dno hb').trans (need64 (by omega) (by omega)), ⟨by simp, by omega, rfl, rfl⟩, by omega, rfl⟩
      · rw [sel_neg (by omega)]
        right
        rw [show i = p.length by omega, List.drop_length]
        rfl
end Go.Proofs

/-! Chapter 18: what is lent, and equal code. -/
namespace Go.Proofs
open Go Go.Abs
def markI : InstrD := ((-77 : Int), (0 : Int), (0 : Int), (0 : Int), zStr, ((0 : Int), (0 : Int), (0 : Int), (0 : Int), ()), ())
theorem q_lendC (p : List InstrD) (h : (p.length + 1) * 80 ≤ 140737488355328) : F_book_LendCode (p, ()) = some ((0, p.length), p ++ [markI], ()) := by
  unfold F_book_LendCode
  simp only [List.nil_append, List.length_append, List.length_cons, List.length_nil]
  simp (disch := omega) only [need_pos]
  rfl
theorem q_sameC (p : List InstrD) (h : p.length * 80 ≤ 140737488355328) : F_book_SameCode (p, p, ()) = some (true, ()) := by
  unfold F_book_SameCode
  simp only [decide_true, Bool.not_true, sel_f]
  refine (loopC_gh (γ := Nat) (σ := (Int × Bool × Unit) × Unit) (ρ := Bool × Unit) (I := fun g s => s.1.1 = (g : Int) ∧ g ≤ p.length) (μ := fun g => p.length - g) (F := fun g => (true, ())) ?_ 0 _ ⟨rfl, by omega⟩)
  rintro i ⟨⟨i', b, ⟨⟩⟩, ⟨⟩⟩ ⟨e, hi⟩
  simp only at e hi ⊢
  subst e
  by_cases hlt : i < p.length
  · simp (disch := omega) only [sel_pos, need_pos, need64]
    rw [eqb_refl _ (by rfl)]
    exact .inl ⟨i + 1, _, rfl, ⟨by first | omega | (simp only; omega), by first | omega | (simp only; omega)⟩, by first | omega | (simp only; omega), by trivial⟩
  · simp (disch := omega) only [sel_neg]
    exact .inr trivial
theorem lentI_take (p : List InstrD) : List.take p.length (List.drop 0 (p ++ [markI])) = p := by simp
theorem q_keptC (p : List InstrD) (h : (p.length + 1) * 80 ≤ 140737488355328) : F_book_KeptCode (List.drop 0 (p ++ [markI]), p.length, p, ()) = some (true, ()) := by
  unfold F_book_KeptCode
  simp only [lentI_take]
  rw [q_sameC p (by omega), bind_t]
  have e1 : List.take (Int.toNat ((p.length : Int) + 1)) (p ++ [markI]) = p ++ [markI] := by
    rw [show Int.toNat ((p.length : Int) + 1) = (p ++ [markI]).length by simp, List.take_length]
  simp only [sel_t, List.drop_zero, e1, List.length_append, List.length_cons, List.length_nil]
  simp (disch := omega) only [need_pos, need64]
  have e2 : List.getD (p ++ [markI]) (Int.toNat (p.length : Int)) zInstr = markI := by
    rw [List.getD_eq_getElem?_getD, Int.toNat_natCast, List.getElem?_append_right (Nat.le_refl _), Nat.sub_self]
    rfl
  rw [e2, show ((-77 : Int), (0 : Int), (0 : Int), (0 : Int), zStr, ((0 : Int), (0 : Int), (0 : Int), (0 : Int), ()), ()) = markI from rfl, eqb_refl _ (by rfl)]
  rfl
end Go.Proofs

/-! Chapter 18: the instructions linked. -/
namespace Go.Proofs
open Go Go.Abs
def linkX (l : List Int) (k : Nat) (x : InstrD) : InstrD := if goesB x.1 = true then (x.1, List.getD l x.2.1.toNat 0 - (k : Int), x.2.2) else x
def linkF (l : List Int) (out : List InstrD) (x : InstrD) : List InstrD := if x.1 = 21 then out else out ++ [linkX l out.length x]
def linkL (l : List Int) (p : List InstrD) : List InstrD := p.foldl (linkF l) []
theorem link_succ {l : List Int} {p : List InstrD} {i : Nat} (hi : i < p.length) : linkL l (List.take (i + 1) p) = linkF l (linkL l (List.take i p)) (ith p i) := by
  unfold linkL
  rw [take_ith hi, List.foldl_append]
  rfl
theorem link_len {l : List Int} {p : List InstrD} : ∀ i, i ≤ p.length → (linkL l (List.take i p)).length ≤ i
  | 0, _ => by simp [linkL]
  | i + 1, h => by
    rw [link_succ (by omega)]
    have := link_len (l := l) (p := p) i (by omega)
    unfold linkF
    split
    · omega
    · rw [List.length_append]; simp; omega
theorem stands_mem {p : List InstrD} : ∀ i, i ≤ p.length → ∀ e ∈ (standsP (List.take i p)).1, -1 ≤ e ∧ e ≤ (i : Int)
  | 0, _ => by
    intro e he
    have : e = -1 := List.eq_of_mem_replicate he
    omega
  | i + 1, h => by
    intro e he
    rw [stands_succ (by omega)] at he
    have ih := stands_mem (p := p) i (by omega)
    have hm := stands_many (p := p) i (by omega)
    unfold stF at he
    split at he
    · simp only at he
      split at he
      · rcases List.mem_or_eq_of_mem_set he with h1 | h1
        · have := ih e h1; push_cast; omega
        · push_cast; omega
      · have := ih e he; push_cast; omega
    · have := ih e he; push_cast; omega
theorem stands_get (p : List InstrD) (j : Nat) : -1 ≤ List.getD (standsP p).1 j 0 ∧ List.getD (standsP p).1 j 0 ≤ (p.length : Int) := by
  have := stands_mem (p := p) p.length (Nat.le_refl _)
  rw [List.take_length] at this
  rw [List.getD_eq_getElem?_getD]
  by_cases hj : j < (standsP p).1.length
  · rw [List.getElem?_eq_getElem hj]
    exact this _ (List.getElem_mem hj)
  · rw [List.getElem?_eq_none (by omega)]
    simp
theorem q_linked (p : List InstrD) (l : List Int) (hl : l.length = 16384) (hb : ∀ j, -1 ≤ List.getD l j 0 ∧ List.getD l j 0 ≤ 16384) (hp : p.length ≤ 16384) (hmem : ∀ j, j < p.length → memE (ith p j) = 0) : F_ref18_linked (p, l, ()) = some (linkL l p, ()) := by
  unfold F_ref18_linked
  refine (loopC_gh (γ := Nat) (σ := (Int × Unit) × List InstrD × List InstrD × Unit) (ρ := List InstrD × Unit) (I := fun i s => s.1.1 = (i : Int) ∧ i ≤ p.length ∧ s.2.1 = linkL l (List.take i p)) (μ := fun g => p.length - g) (F := fun _ => (linkL l p, ())) ?_ 0 _ ⟨rfl, by omega, rfl⟩)
  rintro i ⟨⟨i', ⟨⟩⟩, out, m2, ⟨⟩⟩ ⟨e, hi, eo⟩
  simp only at e hi eo ⊢
  subst e
  have hlen : out.length ≤ i := by rw [eo]; exact link_len i hi
  by_cases hlt : i < p.length
  · rw [sel_pos (by omega), need_pos ⟨by omega, by omega⟩]
    simp only [Int.toNat_natCast, getD_ith]
    by_cases h21 : (ith p i).1 = 21
    · erw [sel_pos h21]
      rw [need64 (by omega) (by omega)]
      refine .inl ⟨i + 1, (((i : Int) + 1, ()), out, m2, ()), rfl, ⟨by simp, by omega, ?_⟩, by omega, by trivial⟩
      rw [link_succ hlt, ← eo]
      unfold linkF
      rw [if_pos h21]
    · erw [sel_neg h21]
      rw [q_targets, bind_t]
      have hnext : ∀ v, v = linkX l out.length (ith p i) → out ++ [v] = linkL l (List.take (i + 1) p) := by
        intro v hv
        rw [link_succ hlt, ← eo, hv]
        unfold linkF
        rw [if_neg h21]
      cases hg : goesB (ith p i).1 with
      | true =>
        obtain ⟨ha0, ha1⟩ := mem_goes (hmem i hlt) hg
        have := hb (ith p i).2.1.toNat
        simp only [sel_t]
        rw [need_pos ⟨ha0, by omega⟩, need64 (by omega) (by omega), bind_t]
        simp only
        rw [need_pos ⟨Nat.le_refl _, by omega⟩, need64 (by omega) (by omega)]
        refine .inl ⟨i + 1, (((i : Int) + 1, ()), _, m2, ()), rfl, ⟨by simp, by omega, ?_⟩, by omega, by trivial⟩
        refine hnext _ ?_
        unfold linkX
        rw [if_pos hg]
      | false =>
        simp only [sel_f, bind_t]
        rw [need_pos ⟨Nat.le_refl _, by omega⟩, need64 (by omega) (by omega)]
        refine .inl ⟨i + 1, (((i : Int) + 1, ()), _, m2, ()), rfl, ⟨by simp, by omega, ?_⟩, by omega, by trivial⟩
        refine hnext _ ?_
        unfold linkX
        rw [hg]
        rfl
  · rw [sel_neg (by omega)]
    right
    rw [eo, show i = p.length by omega, List.take_length]
end Go.Proofs

/-! Chapter 18: Link. -/
namespace Go.Proofs
open Go Go.Abs
/-- The number of the last member before i that is no label. -/
def lastOf (p : List InstrD) : Nat → Int
  | 0 => 0
  | i + 1 => if (ith p i).1 = 21 then lastOf p i else (i : Int)
def outP (p : List InstrD) : List InstrD := linkL (standsP p).1 p
def linkR (p : List InstrD) : Int × Int × List InstrD × Unit :=
  if (layR p).2.2.1 ≠ 0 then ((layR p).2.1, (layR p).2.2.1, [], ())
  else if (checkI (outP p)).2 = 0 then (0, 0, outP p, ())
  else if (checkI (outP p)).2 = 163 then (lastOf p p.length, 163, [], ())
  else (0, (checkI (outP p)).2, [], ())
theorem lay1_right {p : List InstrD} : ∀ n i, n = p.length - i → i ≤ p.length → ∀ st, lay1 (List.drop i p) (i : Int) (standsP (List.take i p)) = .inr st → (∀ j, i ≤ j → j < p.length → memE (ith p j) = 0 ∧ ((ith p j).1 = 21 → List.getD (standsP (List.take j p)).1 (ith p j).2.1.toNat 0 < 0)) ∧ st = standsP p
  | 0, i, hn, hi, st, h => by
    have he : i = p.length := by omega
    subst he
    rw [List.drop_length, List.take_length] at h
    exact ⟨fun j h1 h2 => absurd h2 (by omega), (Sum.inr.inj h).symm⟩
  | n + 1, i, hn, hi, st, h => by
    rw [lay1_at (by omega)] at h
    split at h
    · cases h
    · rename_i hm
      split at h
      · cases h
      · rename_i hl
        rw [← stands_succ (by omega)] at h
        obtain ⟨h1, h2⟩ := lay1_right n (i + 1) (by omega) (by omega) st h
        refine ⟨fun j hj hjl => ?_, h2⟩
        rcases Nat.lt_or_eq_of_le hj with hj | hj
        · exact h1 j hj hjl
        · subst hj
          refine ⟨by simpa using hm, fun h21 => ?_⟩
          have := fun h => hl ⟨h21, h⟩
          omega
theorem lay1_left {p : List InstrD} : ∀ n i, n = p.length - i → i ≤ p.length → ∀ r, lay1 (List.drop i p) (i : Int) (standsP (List.take i p)) = .inl r → r.2.1 ≠ 0
  | 0, i, hn, hi, r, h => by
    have he : i = p.length := by omega
    subst he
    rw [List.drop_length] at h
    cases h
  | n + 1, i, hn, hi, r, h => by
    rw [lay1_at (by omega)] at h
    split at h
    · rename_i hm
      cases h
      exact hm
    · split at h
      · cases h
        simp
      · rw [← stands_succ (by omega)] at h
        exact lay1_left n (i + 1) (by omega) (by omega) r h
theorem lay_right {p : List InstrD} (h : (layR p).2.2.1 = 0) : p.length ≤ 16384 ∧ (∀ j, j < p.length → memE (ith p j) = 0 ∧ ((ith p j).1 = 21 → List.getD (standsP (List.take j p)).1 (ith p j).2.1.toNat 0 < 0)) ∧ (layR p).1.1 = (standsP p).1 := by
  unfold layR at h ⊢
  split at h
  · cases h
  · rename_i hl
    rw [if_neg hl]
    have e0 : lay1 p 0 (stI, 0) = lay1 (List.drop 0 p) ((0 : Nat) : Int) (standsP (List.take 0 p)) := rfl
    rw [e0] at h ⊢
    cases hc : lay1 (List.drop 0 p) ((0 : Nat) : Int) (standsP (List.take 0 p)) with
    | inl r =>
      rw [hc] at h
      exact absurd h (lay1_left _ 0 rfl (by omega) r hc)
    | inr st =>
      obtain ⟨h1, h2⟩ := lay1_right _ 0 rfl (by omega) st hc
      refine ⟨by omega, fun j hj => h1 j (by omega) hj, ?_⟩
      rw [h2]
      rfl
theorem drop_get {L p : List InstrD} {i : Nat} (h : List.drop i L = List.drop i p) : ith L i = ith p i := by
  unfold ith
  rw [List.getD_eq_getElem?_getD, List.getD_eq_getElem?_getD]
  have : L[i]? = p[i]? := by
    have a : (List.drop i L)[0]? = L[i]? := by rw [List.getElem?_drop]; rfl
    have b : (List.drop i p)[0]? = p[i]? := by rw [List.getElem?_drop]; rfl
    rw [← a, ← b, h]
  rw [this]
theorem put_take {L out : List InstrD} {v : InstrD} (h : List.take out.length L = out) (hl : out.length < L.length) : List.take (out ++ [v]).length (List.take out.length L ++ v :: List.drop (out.length + 1) L) = out ++ [v] := by
  rw [h, show out ++ v :: List.drop (out.length + 1) L = (out ++ [v]) ++ List.drop (out.length + 1) L by simp, List.take_left]
theorem put_drop {L out p : List InstrD} {v : InstrD} {i : Nat} (h : List.take out.length L = out) (hi : out.length ≤ i) (hd : List.drop i L = List.drop i p) : List.drop (i + 1) (List.take out.length L ++ v :: List.drop (out.length + 1) L) = List.drop (i + 1) p := by
  rw [h, show out ++ v :: List.drop (out.length + 1) L = (out ++ [v]) ++ List.drop (out.length + 1) L by simp, List.drop_append, List.drop_of_length_le (by simp; omega), List.nil_append, List.drop_drop]
  rw [show out.length + 1 + (i + 1 - (out ++ [v]).length) = i + 1 by simp; omega]
  have := congrArg (List.drop 1) hd
  rw [List.drop_drop, List.drop_drop] at this
  exact this
theorem copy_all (n : Nat) (z : InstrD) (p : List InstrD) (hn : n = p.length) : copyL 0 n (List.replicate n z) p = p := by
  unfold copyL
  rw [hn, List.take_zero, List.take_length, List.nil_append, Nat.zero_add, Nat.min_self, List.drop_of_length_le (by simp), List.append_nil]
theorem no_out {l : List Int} {p : List InstrD} (h : ∀ j, j < p.length → (ith p j).1 = 21) : ∀ i, i ≤ p.length → linkL l (List.take i p) = []
  | 0, _ => rfl
  | i + 1, hi => by
    rw [link_succ (by omega), no_out h i (by omega)]
    unfold linkF
    rw [if_pos (h i (by omega))]
theorem some_out {p : List InstrD} (h : (checkI (outP p)).2 = 163) : ∃ j, j < p.length ∧ (ith p j).1 ≠ 21 := by
  refine Classical.byContradiction fun hn => ?_
  have : outP p = [] := by
    have := no_out (l := (standsP p).1) (p := p) (fun j hj => Classical.byContradiction fun h21 => hn ⟨j, hj, h21⟩) p.length (Nat.le_refl _)
    rwa [List.take_length] at this
  rw [this] at h
  exact absurd h (by decide)
theorem clip_all (L out : List InstrD) (h : List.take out.length L = out) (hl : out.length ≤ L.length) : F_slices_Clip_Instr_Instr ((0, out.length), L, ()) = some (out, ()) := by
  unfold F_slices_Clip_Instr_Instr
  simp only
  rw [need_pos ⟨by omega, by omega, by omega, by omega⟩, Int.toNat_natCast]
  show some (List.take out.length L, ()) = _
  rw [h]
end Go.Proofs

/-! Chapter 18: Link. -/
namespace Go.Proofs
open Go Go.Abs
theorem q_link (p : List InstrD) (hp : p.length * 80 ≤ 140737488351232) : F_link_Link (p, ()) = some (linkR p) := by
  unfold F_link_Link linkR
  simp only
  rw [q_lay p hp, bind_t]
  by_cases hr : (layR p).2.2.1 = 0
  · rw [sel_npos hr, if_neg (fun h => h hr)]
    obtain ⟨hlen, hmem, hst⟩ := lay_right hr
    have hcp : copyL 0 (List.length (List.replicate (Int.toNat (p.length : Int)) zInstr)) (List.replicate (Int.toNat (p.length : Int)) zInstr) p = p := by
      rw [List.length_replicate]
      exact copy_all _ _ _ (Int.toNat_natCast _)
    rw [hcp, need_pos ⟨by omega, by omega, by omega, by omega⟩, need_pos (by omega), need_pos ⟨by omega, by omega, by omega⟩]
    have hsl : (layR p).1.1.length = 16384 := by rw [hst]; exact stands_len p
    have hsg : ∀ j, -1 ≤ List.getD (layR p).1.1 j 0 ∧ List.getD (layR p).1.1 j 0 ≤ (p.length : Int) := by rw [hst]; exact stands_get p
    have hout : outP p = linkL (layR p).1.1 p := by rw [hst]; rfl
    rw [hout]
    generalize (layR p).1.1 = l at *
    refine (loopC_gh (γ := Nat) (σ := (Int × (Nat × Nat) × Unit) × List InstrD × laidD × List InstrD × Unit) (ρ := Int × Int × List InstrD × Unit) (I := fun i s => s.1.1 = (i : Int) ∧ i ≤ p.length ∧ s.1.2.1 = (0, (linkL l (List.take i p)).length) ∧ s.2.1.length = p.length ∧ List.take (linkL l (List.take i p)).length s.2.1 = linkL l (List.take i p) ∧ List.drop i s.2.1 = List.drop i p ∧ s.2.2.1.1 = l) (μ := fun g => p.length - g) (F := fun _ => if (checkI (linkL l p)).2 = 0 then (0, 0, linkL l p, ()) else if (checkI (linkL l p)).2 = 163 then (lastOf p p.length, 163, [], ()) else (0, (checkI (linkL l p)).2, [], ())) ?_ 0 _ ⟨rfl, by omega, rfl, rfl, rfl, rfl, rfl⟩)
    rintro i ⟨⟨i', ⟨o, k⟩, ⟨⟩⟩, L, ⟨l', m, ⟨⟩⟩, c, ⟨⟩⟩ ⟨e, hi, eok, hL, ht, hd, el⟩
    simp only at e hi eok hL ht hd el ⊢
    subst e el
    have ho : o = 0 := congrArg Prod.fst eok
    have hk : k = (linkL l' (List.take i p)).length := congrArg Prod.snd eok
    subst ho
    have hle := link_len (l := l') (p := p) i hi
    by_cases hlt : i < p.length
    · rw [sel_pos (by omega), need_pos ⟨by omega, by omega⟩, need_pos (by omega)]
      have hg0 : List.getD L (0 + Int.toNat (i : Int)) zInstr = ith p i := by
        rw [Int.toNat_natCast, Nat.zero_add]
        exact drop_get hd
      by_cases h21 : (ith p i).1 = 21
      · erw [sel_pos (p := (List.getD L (0 + Int.toNat (i : Int)) zInstr).1 = 21) (by rw [hg0]; exact h21)]
        rw [need64 (by omega) (by omega)]
        have hsame : linkL l' (List.take (i + 1) p) = linkL l' (List.take i p) := by
          rw [link_succ hlt]
          unfold linkF
          rw [if_pos h21]
        refine .inl ⟨i + 1, (((i : Int) + 1, (0, k), ()), L, (l', m, ()), c, ()), rfl, ⟨by simp, by omega, ?_, hL, ?_, ?_, rfl⟩, by omega, by trivial⟩
        · rw [hsame, hk]
        · rw [hsame]; exact ht
        · have := congrArg (List.drop 1) hd
          rw [List.drop_drop, List.drop_drop] at this
          exact this
      · erw [sel_neg (p := (List.getD L (0 + Int.toNat (i : Int)) zInstr).1 = 21) (by rw [hg0]; exact h21)]
        simp only [hg0]
        rw [q_goes, bind_t]
        have hnext : linkL l' (List.take (i + 1) p) = linkL l' (List.take i p) ++ [linkX l' k (ith p i)] := by
          rw [link_succ hlt, hk]
          unfold linkF
          rw [if_neg h21]
        have hend : ∀ v, v = linkX l' k (ith p i) → (∃ g' s', (need (1 ≤ 1 ∧ addZ 0 k + 1 ≤ L.length ∧ 0 < 1) (need (Fits IntKind.i64 ((i : Int) + 1)) (some (Sum.inl (((i : Int) + 1, (0, k + 1), ()), List.take (addZ 0 k) L ++ v :: List.drop (addZ 0 k + 1) L, (l', m, ()), c, ()))))) = (some (Sum.inl s') : Option (_ ⊕ (Int × Int × List InstrD × Unit))) ∧ (s'.1.1 = ((g' : Nat) : Int) ∧ g' ≤ p.length ∧ s'.1.2.1 = (0, (linkL l' (List.take g' p)).length) ∧ s'.2.1.length = p.length ∧ List.take (linkL l' (List.take g' p)).length s'.2.1 = linkL l' (List.take g' p) ∧ List.drop g' s'.2.1 = List.drop g' p ∧ s'.2.2.1.1 = l') ∧ p.length - g' < p.length - i) := by
          intro v hv
          rw [addZ_eq, Nat.zero_add, need_pos ⟨Nat.le_refl _, by omega, by omega⟩, need64 (by omega) (by omega)]
          refine ⟨i + 1, (((i : Int) + 1, (0, k + 1), ()), List.take k L ++ v :: List.drop (k + 1) L, (l', m, ()), c, ()), rfl, ⟨by simp, by omega, ?_, ?_, ?_, ?_, rfl⟩, by omega⟩
          · rw [hnext, List.length_append, ← hk]
            rfl
          · simp only [List.length_append, List.length_cons, List.length_take, List.length_drop]
            omega
          · rw [hnext, ← hv, hk]
            exact put_take ht (by omega)
          · rw [hk]
            exact put_drop ht hle hd
        cases hg : goesB (ith p i).1 with
        | true =>
          obtain ⟨ha0, ha1⟩ := mem_goes (hmem i hlt).1 hg
          have := hsg (ith p i).2.1.toNat
          simp only [sel_t]
          rw [need_pos ⟨ha0, by omega⟩, need64 (by omega) (by omega), bind_t]
          simp only
          obtain ⟨g', s', h1, h2, h3⟩ := hend ((ith p i).1, List.getD l' (ith p i).2.1.toNat 0 - (k : Int), (ith p i).2.2) (by unfold linkX; rw [if_pos hg])
          exact .inl ⟨g', s', h1, h2, h3, by trivial⟩
        | false =>
          simp only [sel_f, bind_t]
          obtain ⟨g', s', h1, h2, h3⟩ := hend (ith p i) (by unfold linkX; rw [hg]; rfl)
          exact .inl ⟨g', s', h1, h2, h3, by trivial⟩
    · have he : i = p.length := by omega
      subst he
      rw [List.take_length] at hk ht hle
      rw [sel_neg (by omega), need_pos (by omega)]
      right
      rw [bind_id_some]
      refine map_inr ?_
      rw [List.drop_zero, hk, ht, q_icheck, bind_t]
      simp only
      by_cases h0 : (checkI (linkL l' p)).2 = 0
      · rw [sel_pos h0, if_pos h0, clip_all _ _ ht (by omega)]
        rfl
      rw [sel_neg h0, if_neg h0]
      by_cases h163 : (checkI (linkL l' p)).2 = 163
      · rw [sel_pos h163, if_pos h163, need64 (by omega) (by omega)]
        obtain ⟨j0, hj0, hj21⟩ := some_out (p := p) (by rw [hout]; exact h163)
        refine (loopC_gh (γ := Nat) (σ := (Int × Unit) × List InstrD × Unit) (ρ := Int × Int × List InstrD × Unit) (I := fun j s => s.1.1 = (j : Int) ∧ j < p.length ∧ j0 ≤ j ∧ lastOf p (j + 1) = lastOf p p.length) (μ := fun g => g) (F := fun _ => (lastOf p p.length, 163, [], ())) ?_ (p.length - 1) _ ⟨by simp only; omega, by omega, by omega, by rw [Nat.sub_add_cancel (by omega)]⟩)
        rintro j ⟨⟨j', ⟨⟩⟩, c', ⟨⟩⟩ ⟨ej, hj, hj0, hlast⟩
        simp only at ej hj hj0 hlast ⊢
        subst ej
        rw [need_pos ⟨by omega, by omega⟩]
        simp only [Int.toNat_natCast, getD_ith]
        by_cases h21 : (ith p j).1 = 21
        · erw [sel_pos h21]
          have hne : j ≠ j0 := fun h => hj21 (by rw [← h]; exact h21)
          rw [need64 (by omega) (by omega)]
          refine .inl ⟨j - 1, (((j : Int) - 1, ()), c', ()), rfl, ⟨by simp only; omega, by omega, by omega, ?_⟩, by omega, by trivial⟩
          rw [← hlast, Nat.sub_add_cancel (by omega)]
          show lastOf p j = if (ith p j).1 = 21 then lastOf p j else (j : Int)
          rw [if_pos h21]
        · erw [sel_neg h21]
          right
          rw [← hlast, h163]
          show some (Sum.inr ((j : Int), _)) = some (Sum.inr ((if (ith p j).1 = 21 then lastOf p j else (j : Int)), _))
          rw [if_neg h21]
      · rw [sel_neg h163, if_neg h163]
  · rw [sel_nneg hr, if_pos hr]
end Go.Proofs
