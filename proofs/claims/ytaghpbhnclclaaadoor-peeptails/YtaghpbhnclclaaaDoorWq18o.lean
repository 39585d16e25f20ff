/- Part of the proof of the law's row: YtaghpbhnclclaaaDoorWq18o. -/
import Derived.Test.YtaghpbhnclclaaaDoorWq18j
set_option linter.all false
set_option linter.unusedVariables false
set_option linter.unusedSimpArgs false
/-! Chapter 18: Check by the book. -/
namespace Go.Proofs
open Go Go.Abs
theorem q_stands (p : List InstrD) (hp : p.length * 80 ≤ 140737488351232) : F_ref18_stands (p, ()) = some ((standsP p).2, (standsP p).1, ()) := by
  unfold F_ref18_stands
  rw [need_pos (by decide)]
  refine (loopC_gh (γ := Nat) (σ := (Int × Unit) × List Int × List Int × Unit) (ρ := Int × List Int × Unit) (I := fun i s => s.1.1 = (i : Int) ∧ i ≤ 16384 ∧ s.2.1 = List.replicate i (-1) ++ List.replicate (16384 - i) 0) (μ := fun g => 16384 - g) (F := fun _ => ((standsP p).2, (standsP p).1, ())) ?_ 0 _ ⟨rfl, by omega, rfl⟩)
  rintro i ⟨⟨i', ⟨⟩⟩, l, l2, ⟨⟩⟩ ⟨e, hi, el⟩
  simp only at e hi el ⊢
  subst e
  by_cases hlt : i < 16384
  · have hl : l.length = 16384 := by rw [el, List.length_append, List.length_replicate, List.length_replicate]; omega
    rw [sel_pos (by omega), need_pos ⟨by omega, by omega⟩, need_pos (by omega), need64 (by omega) (by omega)]
    refine .inl ⟨i + 1, (((i : Int) + 1, ()), List.set l i (-1), l2, ()), by rw [Int.toNat_natCast, Nat.zero_add], ⟨by simp only [Int.natCast_add]; rfl, by omega, ?_⟩, by omega, by trivial⟩
    show List.set l i (-1) = _
    rw [el]
    exact rep_set i hlt
  · have he : i = 16384 := by omega
    subst he
    have el : l = stI := by rw [el, Nat.sub_self, List.replicate_zero, List.append_nil]; rfl
    subst el
    rw [sel_neg (by omega)]
    right
    rw [bind_id_some]
    refine map_inr ?_
    refine (loopC_gh (γ := Nat) (σ := shapeD × List Int × List Int × Unit) (ρ := Int × List Int × Unit) (I := fun i s => s.1.1 = (i : Int) ∧ i ≤ p.length ∧ s.1.2.1 = (standsP (List.take i p)).2 ∧ s.2.1 = (standsP (List.take i p)).1) (μ := fun g => p.length - g) (F := fun _ => ((standsP p).2, (standsP p).1, ())) ?_ 0 _ ⟨rfl, by omega, rfl, rfl⟩)
    rintro i ⟨⟨i', m, ⟨⟩⟩, l, l2, ⟨⟩⟩ ⟨e, hi, em, el⟩
    simp only at e hi em el ⊢
    subst e
    have hlen : l.length = 16384 := by rw [el, stands_len]
    have hmany := stands_many (p := p) i hi
    by_cases hlt : i < p.length
    · rw [sel_pos (by omega), need_pos ⟨by omega, by omega⟩]
      have hnext : ∀ l' m', stF (l, m) (ith p i) = (l', m') → m' = (standsP (List.take (i + 1) p)).2 ∧ l' = (standsP (List.take (i + 1) p)).1 := by
        intro l' m' h
        have hs : standsP (List.take i p) = (l, m) := by rw [el, em]
        rw [stands_succ hlt, hs, h]
        exact ⟨rfl, rfl⟩
      simp only [Int.toNat_natCast, getD_ith]
      by_cases h21 : (ith p i).1 = 21
      · erw [sel_npos h21]
        rw [need_pos ⟨by omega, by omega⟩]
        by_cases h0 : 0 ≤ (ith p i).2.1 ∧ (ith p i).2.1 < 16384
        · have hst : stF (l, m) (ith p i) = (List.set l (ith p i).2.1.toNat m, m) := by
            unfold stF
            rw [if_pos h21, if_pos h0]
          erw [sel_pos (p := (ith p i).2.1 ≥ 0) h0.1]
          rw [need_pos ⟨by omega, by omega⟩, bind_t]
          erw [sel_pos (p := (ith p i).2.1 < 16384) h0.2]
          rw [need_pos ⟨by omega, by omega⟩, need_pos ⟨h0.1, by omega⟩, need_pos (by omega), need64 (by omega) (by omega), Nat.zero_add]
          obtain ⟨e1, e2⟩ := hnext _ _ hst
          exact .inl ⟨i + 1, (((i : Int) + 1, m, ()), List.set l (ith p i).2.1.toNat m, l2, ()), rfl, ⟨by simp, by omega, e1, e2⟩, by omega, by trivial⟩
        · have hst : stF (l, m) (ith p i) = (l, m) := by
            unfold stF
            rw [if_pos h21, if_neg h0]
          obtain ⟨e1, e2⟩ := hnext _ _ hst
          have hfin : need (Fits IntKind.i64 ((i : Int) + 1)) (some (Sum.inl (((i : Int) + 1, m, ()), l, l2, ()))) = (some (Sum.inl (((i : Int) + 1, m, ()), l, l2, ())) : Option ((shapeD × List Int × List Int × Unit) ⊕ (Int × List Int × Unit))) := need64 (by omega) (by omega)
          refine .inl ⟨i + 1, (((i : Int) + 1, m, ()), l, l2, ()), ?_, ⟨by simp, by omega, e1, e2⟩, by omega, by trivial⟩
          by_cases hz : (ith p i).2.1 ≥ 0
          · erw [sel_pos (p := (ith p i).2.1 ≥ 0) hz]
            rw [need_pos ⟨by omega, by omega⟩, bind_t]
            erw [sel_neg (p := (ith p i).2.1 < 16384) (by omega)]
            exact hfin
          · erw [sel_neg (p := (ith p i).2.1 ≥ 0) hz]
            exact hfin
      · erw [sel_nneg h21]
        have hst : stF (l, m) (ith p i) = (l, m + 1) := by
          unfold stF
          rw [if_neg h21]
        obtain ⟨e1, e2⟩ := hnext _ _ hst
        rw [need64 (by omega) (by omega), need64 (by omega) (by omega)]
        exact .inl ⟨i + 1, (((i : Int) + 1, m + 1, ()), l, l2, ()), rfl, ⟨by simp, by omega, e1, e2⟩, by omega, by trivial⟩
    · rw [sel_neg (by omega)]
      right
      rw [em, el, show i = p.length by omega, List.take_length]
def chkR (p : List InstrD) : Int × Int × Unit := if (checkI (outP p)).2 = 163 then (lastOf p p.length, 163, ()) else (0, (checkI (outP p)).2, ())
def endT (p : List InstrD) (o : Option (Int × Int)) : Int × Int × Unit := match o with | some r => (r.1, r.2, ()) | none => chkR p
def endR (p : List InstrD) : (Int × Int × StL) ⊕ StL → Int × Int × Unit
  | .inl r => (r.1, r.2.1, ())
  | .inr st => endT p (lay2 st p 0)
theorem lay2_some {st : StL} : ∀ {p : List InstrD} {i : Int} {r : Int × Int}, lay2 st p i = some r → r.2 = 181
  | [], _, _, h => by cases h
  | x :: p, i, r, h => by
    rw [lay2] at h
    split at h
    · cases h; rfl
    · exact lay2_some h
theorem link_two (p : List InstrD) : ((linkR p).1, (linkR p).2.1, ()) = if (p.length : Int) > 16384 then (0, 2, ()) else endR p (lay1 p 0 (stI, 0)) := by
  by_cases hl : (p.length : Int) > 16384
  · rw [if_pos hl]
    unfold linkR layR
    rw [if_pos hl]
    rfl
  rw [if_neg hl]
  unfold linkR layR
  rw [if_neg hl]
  have e0 : lay1 p 0 (stI, 0) = lay1 (List.drop 0 p) ((0 : Nat) : Int) (standsP (List.take 0 p)) := rfl
  cases hc : lay1 p 0 (stI, 0) with
  | inl r =>
    rw [e0] at hc
    have := lay1_left _ 0 rfl (by omega) r hc
    rw [if_pos (show (end1 p (Sum.inl r)).2.2.1 ≠ 0 from this)]
    rfl
  | inr st =>
    show _ = endT p (lay2 st p 0)
    cases h2 : lay2 st p 0 with
    | some r =>
      have h3 := lay2_some h2
      have e : end1 p (Sum.inr st) = pack st r := by
        show pack st ((lay2 st p 0).getD (0, 0)) = _
        rw [h2]
        rfl
      rw [e, if_pos (show (pack st r).2.2.1 ≠ 0 by show r.2 ≠ 0; rw [h3]; decide)]
      rfl
    | none =>
      have e : end1 p (Sum.inr st) = pack st (0, 0) := by
        show pack st ((lay2 st p 0).getD (0, 0)) = _
        rw [h2]
        rfl
      rw [e, if_neg (show ¬ (pack st (0, 0)).2.2.1 ≠ 0 by show ¬ (0 : Int) ≠ 0; decide)]
      show _ = chkR p
      unfold chkR
      by_cases h0 : (checkI (outP p)).2 = 0
      · rw [if_pos h0, if_neg (by rw [h0]; decide), h0]
      · rw [if_neg h0]
        split <;> rfl
end Go.Proofs

/-! Chapter 18: Check by the book. -/
namespace Go.Proofs
open Go Go.Abs
theorem mem_stands {p : List InstrD} (h : ∀ j, j < p.length → memE (ith p j) = 0) (hl : p.length ≤ 16384) : F_ref18_linked (p, (standsP p).1, ()) = some (outP p, ()) :=
  q_linked p (standsP p).1 (stands_len p) (fun j => by have := stands_get p j; omega) hl h
theorem getD_set {α : Type} {l : List α} {i j : Nat} {v d : α} (hi : i < l.length) : List.getD (List.set l i v) j d = if i = j then v else List.getD l j d := by
  rw [List.getD_eq_getElem?_getD, List.getD_eq_getElem?_getD, List.getElem?_set]
  split
  · rfl
  · rfl
theorem q_check18 (p : List InstrD) (hp : p.length * 80 ≤ 140737488351232) : F_ref18_Check (p, ()) = some ((linkR p).1, (linkR p).2.1, ()) := by
  rw [link_two]
  unfold F_ref18_Check
  simp only
  by_cases hl : (p.length : Int) > 16384
  · rw [sel_pos hl, if_pos hl]
  rw [sel_neg hl, if_neg hl, need_pos (by decide)]
  refine (loopC_gh (γ := Nat) (σ := SetD × List Bool × Unit) (ρ := Int × Int × Unit) (I := fun i s => s.1.1 = (i : Int) ∧ i ≤ p.length ∧ s.1.2.1 = lastOf p i ∧ s.2.1.length = 16384 ∧ (∀ k, k < 16384 → List.getD s.2.1 k false = decide (List.getD (standsP (List.take i p)).1 k 0 ≥ 0)) ∧ (∀ j, j < i → memE (ith p j) = 0)) (μ := fun g => p.length - g) (F := fun i => endR p (lay1 (List.drop i p) (i : Int) (standsP (List.take i p)))) ?_ 0 _ ⟨rfl, by omega, rfl, List.length_replicate .., ?_, fun j hj => by omega⟩)
  · rintro i ⟨⟨i', la, b, c, ⟨⟩⟩, seen, ⟨⟩⟩ ⟨e, hi, ela, hseen, hs, hmem⟩
    simp only at e hi ela hseen hs ⊢
    subst e
    have hmany := stands_many (p := p) i hi
    have hslen := stands_len (List.take i p)
    by_cases hlt : i < p.length
    · rw [sel_pos (by omega), need_pos ⟨by omega, by omega⟩]
      simp only [Int.toNat_natCast, getD_ith]
      rw [q_member, bind_t, lay1_at hlt]
      simp only
      by_cases hm : memE (ith p i) = 0
      · rw [sel_npos hm, if_neg (by simpa using hm), need_pos ⟨by omega, by omega⟩]
        have hmem' : ∀ j, j < i + 1 → memE (ith p j) = 0 := fun j hj => by
          rcases Nat.lt_or_eq_of_le (Nat.le_of_lt_succ hj) with h | h
          · exact hmem j h
          · rw [h]; exact hm
        by_cases h21 : (ith p i).1 = 21
        · erw [sel_npos h21]
          obtain ⟨ha0, ha1⟩ := mem_label hm h21
          have hse := hs (ith p i).2.1.toNat (by omega)
          rw [need_pos ⟨by omega, by omega⟩, need_pos ⟨ha0, by omega⟩, need_pos (by omega), Nat.zero_add, hse]
          by_cases hg : List.getD (standsP (List.take i p)).1 (ith p i).2.1.toNat 0 ≥ 0
          · rw [sel_pos hg, if_pos ⟨h21, hg⟩]
            right
            rfl
          · rw [sel_neg hg, if_neg (fun h => hg h.2), need_pos ⟨by omega, by omega⟩, need_pos ⟨ha0, by omega⟩, need_pos (by omega), need64 (by omega) (by omega)]
            have hst : stF (standsP (List.take i p)) (ith p i) = (List.set (standsP (List.take i p)).1 (ith p i).2.1.toNat (standsP (List.take i p)).2, (standsP (List.take i p)).2) := by
              unfold stF
              rw [if_pos h21, if_pos ⟨ha0, ha1⟩]
            refine .inl ⟨i + 1, (((i : Int) + 1, la, b, c, ()), List.set seen (ith p i).2.1.toNat true, ()), rfl, ⟨by simp, by omega, ?_, ?_, ?_, hmem'⟩, by omega, ?_⟩
            · show la = if (ith p i).1 = 21 then lastOf p i else (i : Int)
              rw [if_pos h21]
              exact ela
            · rw [List.length_set]; exact hseen
            · intro k hk
              rw [stands_succ hlt, hst]
              show List.getD (List.set seen _ true) k false = decide (List.getD (List.set (standsP (List.take i p)).1 _ _) k 0 ≥ 0)
              rw [getD_set (by omega), getD_set (by omega)]
              by_cases hk2 : (ith p i).2.1.toNat = k
              · rw [if_pos hk2, if_pos hk2, decide_eq_true (by omega)]
              · rw [if_neg hk2, if_neg hk2, hs k hk]
            · rw [stands_succ hlt]
        · erw [sel_nneg h21]
          rw [need64 (by omega) (by omega), if_neg (fun h => h21 h.1)]
          have hst : stF (standsP (List.take i p)) (ith p i) = ((standsP (List.take i p)).1, (standsP (List.take i p)).2 + 1) := by
            unfold stF
            rw [if_neg h21]
          refine .inl ⟨i + 1, (((i : Int) + 1, (i : Int), b, c, ()), seen, ()), rfl, ⟨by simp, by omega, ?_, hseen, ?_, hmem'⟩, by omega, ?_⟩
          · show (i : Int) = if (ith p i).1 = 21 then lastOf p i else (i : Int)
            rw [if_neg h21]
          · intro k hk
            rw [stands_succ hlt, hst]
            exact hs k hk
          · rw [stands_succ hlt]
      · rw [sel_nneg hm, if_pos hm]
        right
        rfl
    · have he : i = p.length := by omega
      subst he
      rw [sel_neg (by omega), q_stands p hp, bind_t]
      right
      rw [List.drop_length, List.take_length]
      rw [bind_id_some]
      refine map_inr ?_
      show _ = some (endT p (lay2 (standsP p) (List.drop 0 p) ((0 : Nat) : Int)))
      rw [List.take_length] at hslen
      have hsl : ∀ k, -1 ≤ List.getD (standsP p).1 k 0 := fun k => (stands_get p k).1
      have hlk := mem_stands hmem (by omega)
      generalize hS : standsP p = S at *
      obtain ⟨l, m⟩ := S
      simp only at hslen hsl hlk ⊢
      refine (loopC_gh (γ := Nat) (σ := (Int × shapeD) × List Int × Unit) (ρ := Int × Int × Unit) (I := fun i s => s.1.1 = (i : Int) ∧ i ≤ p.length ∧ s.2.1 = l) (μ := fun g => p.length - g) (F := fun i => endT p (lay2 (l, m) (List.drop i p) (i : Int))) ?_ 0 _ ⟨rfl, by omega, rfl⟩)
      rintro i ⟨⟨i', b', c', ⟨⟩⟩, l', ⟨⟩⟩ ⟨e, hi, el⟩
      simp only at e hi el ⊢
      subst e el
      by_cases hlt : i < p.length
      · rw [sel_pos (by omega), need_pos ⟨by omega, by omega⟩]
        simp only [Int.toNat_natCast, getD_ith]
        rw [q_targets, bind_t, lay2_at hlt]
        simp only
        cases hg : goesB (ith p i).1 with
        | false =>
          simp only [sel_f, bind_t]
          rw [need64 (by omega) (by omega), if_neg (fun h => by have := h.1; rw [hg] at this; cases this)]
          exact .inl ⟨i + 1, (((i : Int) + 1, b', c', ()), l', ()), rfl, ⟨by simp, by omega, rfl⟩, by omega, rfl⟩
        | true =>
          obtain ⟨ha0, ha1⟩ := mem_goes (hmem i hlt) hg
          simp only [sel_t]
          rw [need_pos ⟨by omega, by omega⟩, need_pos ⟨ha0, by omega⟩, need_pos (by omega)]
          rw [need_pos ⟨by omega, by omega⟩, need_pos ⟨ha0, by omega⟩, need_pos (by omega)]
          simp only [sel_or, bind_t, bind_id]
          by_cases hb : badT (l', m) (ith p i)
          · rw [if_pos hb]
            right
            have hb' : List.getD l' (0 + (ith p i).2.1.toNat) 0 < 0 ∨ List.getD l' (0 + (ith p i).2.1.toNat) 0 = m := by rw [Nat.zero_add]; exact hb.2
            exact sel_dor hb'
          · rw [if_neg hb]
            have hb' : ¬ (List.getD l' (0 + (ith p i).2.1.toNat) 0 < 0 ∨ List.getD l' (0 + (ith p i).2.1.toNat) 0 = m) := fun h => hb ⟨hg, by rw [Nat.zero_add] at h; exact h⟩
            exact .inl ⟨i + 1, (((i : Int) + 1, b', c', ()), l', ()), (sel_dno hb').trans (need64 (by omega) (by omega)), ⟨by simp, by omega, rfl⟩, by omega, rfl⟩
      · rw [sel_neg (by omega)]
        right
        rw [bind_id_some]
        refine map_inr ?_
        rw [hlk, bind_t]
        simp only
        rw [q_icheckR, bind_t, show i = p.length by omega, List.drop_length]
        show _ = some (chkR p)
        unfold chkR
        simp only
        by_cases h163 : (checkI (outP p)).2 = 163
        · rw [sel_pos h163, if_pos h163, h163, ela]
        · rw [sel_neg h163, if_neg h163]
          by_cases h0 : (checkI (outP p)).2 = 0
          · rw [sel_npos h0, h0]
          · rw [sel_nneg h0]
  · intro k hk
    show List.getD (List.replicate 16384 false) k false = decide (List.getD (List.replicate 16384 (-1 : Int)) k 0 ≥ 0)
    rw [List.getD_eq_getElem?_getD, List.getD_eq_getElem?_getD, List.getElem?_replicate, List.getElem?_replicate, if_pos hk, if_pos hk]
    rfl
end Go.Proofs

/-! Chapter 18: the law of Check. -/
namespace Go.Proofs
open Go Go.Abs
def liveP : List InstrD := [((14 : Int), (5 : Int), (0 : Int), (0 : Int), zStr, ((0 : Int), (0 : Int), (0 : Int), (0 : Int), ()), ()), ((21 : Int), (5 : Int), (0 : Int), (0 : Int), zStr, ((0 : Int), (0 : Int), (0 : Int), (0 : Int), ()), ()), ((17 : Int), (0 : Int), (0 : Int), (0 : Int), zStr, ((0 : Int), (0 : Int), (0 : Int), (0 : Int), ()), ())]
theorem q_lives18 : F_law18_lives () = some (true, ()) := by
  unfold F_law18_lives
  rw [show [((14 : Int), (5 : Int), (0 : Int), (0 : Int), zStr, ((0 : Int), (0 : Int), (0 : Int), (0 : Int), ()), ()), ((21 : Int), (5 : Int), (0 : Int), (0 : Int), zStr, ((0 : Int), (0 : Int), (0 : Int), (0 : Int), ()), ()), ((17 : Int), (0 : Int), (0 : Int), (0 : Int), zStr, ((0 : Int), (0 : Int), (0 : Int), (0 : Int), ()), ())] = liveP from rfl, q_link liveP (by decide), bind_t]
  have e1 : (linkR liveP).2.1 = 0 := by kernel_rfl
  have e2 : ((linkR liveP).2.2.1).length = 2 := by kernel_rfl
  have e3 : (List.getD (linkR liveP).2.2.1 0 zInstr).2.1 = 1 := by kernel_rfl
  rw [sel_pos e1, bind_t, sel_pos (by rw [e2]; rfl), need_pos ⟨by omega, by rw [e2]; decide⟩, need_pos (by rw [e2]; decide), bind_t, decide_eq_true e3]
theorem q_lcheck (p : List InstrD) (hp : p.length * 80 ≤ 140737488351232) : F_link_Check (p, ()) = some ((linkR p).1, (linkR p).2.1, ()) := by
  unfold F_link_Check
  rw [q_link p hp, bind_t]
theorem law_LinkChecks (p : List InstrD) (h : p.length * 80 ≤ 140737488351232) : F_law18_LinkChecks (p, ()) = some (true, ()) := by
  unfold F_law18_LinkChecks
  simp only
  rw [q_lendC p (by omega), bind_t]
  simp only [lentI_take, List.length_append, List.length_cons, List.length_nil]
  simp (disch := omega) only [need_pos]
  rw [q_lcheck p h, q_check18 p h, q_lives18]
  simp only [bind_t, decide_true, sel_t]
  rw [q_keptC p (by omega)]
  rfl
end Go.Proofs

/-! Chapter 18: the law of Link and Place. -/
namespace Go.Proofs
open Go Go.Abs
theorem link_zero {p : List InstrD} (h : (linkR p).2.1 = 0) : (layR p).2.2.1 = 0 ∧ (checkI (outP p)).2 = 0 ∧ linkR p = (0, 0, outP p, ()) := by
  unfold linkR at h ⊢
  by_cases h1 : (layR p).2.2.1 = 0
  · rw [if_neg (fun hn => hn h1)] at h ⊢
    by_cases h2 : (checkI (outP p)).2 = 0
    · rw [if_pos h2]
      exact ⟨h1, h2, rfl⟩
    · rw [if_neg h2] at h
      split at h
      · cases h
      · exact absurd h h2
  · rw [if_pos h1] at h
    exact absurd h h1
theorem link_non {p : List InstrD} (h : ¬ (linkR p).2.1 = 0) : (linkR p).2.2.1 = [] := by
  unfold linkR at h ⊢
  by_cases h1 : (layR p).2.2.1 = 0
  · rw [if_neg (fun hn => hn h1)] at h ⊢
    by_cases h2 : (checkI (outP p)).2 = 0
    · rw [if_pos h2] at h
      exact absurd rfl h
    · rw [if_neg h2]
      split <;> rfl
  · rw [if_pos h1]
theorem q_link18 (p : List InstrD) (hp : p.length * 80 ≤ 140737488351232) : F_ref18_Link (p, ()) = some (linkR p) := by
  unfold F_ref18_Link
  rw [q_check18 p hp, bind_t]
  simp only
  by_cases h : (linkR p).2.1 = 0
  · obtain ⟨h1, h2, h3⟩ := link_zero h
    obtain ⟨hlen, hmem, hst⟩ := lay_right h1
    rw [sel_npos h, q_stands p hp, bind_t, mem_stands (fun j hj => (hmem j hj).1) hlen, bind_t, h3]
  · rw [sel_nneg h]
    have := link_non h
    rw [← this]
def placeR (p : List InstrD) (a : Int) : Int × Int × Unit := if (linkR p).2.1 = 0 then (if a < 0 ∨ a ≥ 16384 ∨ List.getD (standsP p).1 a.toNat 0 < 0 then (0, 5, ()) else (List.getD (standsP p).1 a.toNat 0, 0, ())) else (0, (linkR p).2.1, ())
theorem q_place (p : List InstrD) (a : Int) (hp : p.length * 80 ≤ 140737488351232) : F_link_Place (p, a, ()) = some (placeR p a) := by
  unfold F_link_Place placeR
  simp only
  rw [q_lcheck p hp, bind_t]
  by_cases h : (linkR p).2.1 = 0
  · obtain ⟨h1, h2, h3⟩ := link_zero h
    obtain ⟨hlen, hmem, hst⟩ := lay_right h1
    have hsl := stands_len p
    rw [sel_npos h, if_pos h, q_lay p hp, bind_t, hst]
    simp only [sel_or, bind_t]
    by_cases hr : a < 0 ∨ a ≥ 16384
    · have : (decide (a < 0) || decide (a ≥ 16384)) = true := by simpa using hr
      rw [this, sel_t, bind_t, sel_t, if_pos (by rcases hr with h | h <;> simp [h])]
    · have : (decide (a < 0) || decide (a ≥ 16384)) = false := by
        rw [Bool.eq_false_iff]
        intro e
        exact hr (by simpa using e)
      rw [this, sel_f, need_pos ⟨by omega, by omega⟩, bind_t]
      by_cases hz : List.getD (standsP p).1 a.toNat 0 < 0
      · rw [sel_pos hz, if_pos (.inr (.inr hz))]
      · rw [sel_neg hz, need_pos ⟨by omega, by omega⟩, if_neg (by rintro (h | h | h) <;> first | omega | exact hz h)]
  · rw [sel_nneg h, if_neg h]
theorem q_place18 (p : List InstrD) (a : Int) (hp : p.length * 80 ≤ 140737488351232) : F_ref18_Place (p, a, ()) = some (placeR p a) := by
  unfold F_ref18_Place placeR
  simp only
  rw [q_check18 p hp, bind_t]
  by_cases h : (linkR p).2.1 = 0
  · have hsl := stands_len p
    rw [sel_npos h, if_pos h, q_stands p hp, bind_t]
    simp only [sel_or, bind_t, Nat.zero_add]
    by_cases hr : a < 0 ∨ a ≥ 16384
    · have : (decide (a < 0) || decide (a ≥ 16384)) = true := by simpa using hr
      rw [this, sel_t, bind_t, sel_t, if_pos (by rcases hr with h | h <;> simp [h])]
    · have : (decide (a < 0) || decide (a ≥ 16384)) = false := by
        rw [Bool.eq_false_iff]
        intro e
        exact hr (by simpa using e)
      rw [this, sel_f, need_pos ⟨by omega, by omega⟩, need_pos (by omega), bind_t]
      by_cases hz : List.getD (standsP p).1 a.toNat 0 < 0
      · erw [sel_pos hz]
        rw [if_pos (.inr (.inr hz))]
      · erw [sel_neg hz]
        rw [need_pos ⟨by omega, by omega⟩, need_pos (by omega), if_neg (by rintro (h | h | h) <;> first | omega | exact hz h)]
  · rw [sel_nneg h, if_neg h]
theorem linkL_len (l : List Int) (p : List InstrD) : (linkL l p).length ≤ p.length := by
  have := link_len (l := l) (p := p) p.length (Nat.le_refl _)
  rwa [List.take_length] at this
theorem linkR_len (p : List InstrD) : (linkR p).2.2.1.length ≤ p.length := by
  by_cases h : (linkR p).2.1 = 0
  · rw [(link_zero h).2.2]
    exact linkL_len _ _
  · rw [link_non h]
    simp
theorem law_LinkLinks (p : List InstrD) (a : Int) (h : p.length * 80 ≤ 140737488351232) : F_law18_LinkLinks (p, a, ()) = some (true, ()) := by
  unfold F_law18_LinkLinks
  simp only
  rw [q_lendC p (by omega), bind_t]
  simp only [lentI_take, List.length_append, List.length_cons, List.length_nil]
  simp (disch := omega) only [need_pos]
  have := linkR_len p
  rw [q_link p h, q_link18 p h, q_place p a h, q_place18 p a h, q_lives18]
  simp only [bind_t, decide_true, sel_t]
  rw [q_sameC _ (by omega)]
  simp only [bind_t, sel_t]
  rw [q_keptC p (by omega)]
  rfl
end Go.Proofs

/-! Chapter 18: Unlink. -/
namespace Go.Proofs
open Go Go.Abs
/-- Where the instruction at i goes. -/
def aimP (p : List InstrD) (i : Nat) : Nat := ((i : Int) + (ith p i).2.1).toNat
/-- Whether one of the first members goes to k. -/
def hitB (p : List InstrD) : Nat → Nat → Bool
  | 0, _ => false
  | i + 1, k => hitB p i k || (goesB (ith p i).1 && decide (aimP p i = k))
def hitP (p : List InstrD) (k : Nat) : Bool := hitB p p.length k
/-- How many places before i are gone to. -/
def numP (p : List InstrD) : Nat → Nat
  | 0 => 0
  | i + 1 => numP p i + (if hitP p i = true then 1 else 0)
def labI (v : Int) : InstrD := ((21 : Int), v, (0 : Int), (0 : Int), zStr, ((0 : Int), (0 : Int), (0 : Int), (0 : Int), ()), ())
def unX (p : List InstrD) (i : Nat) : InstrD := if goesB (ith p i).1 = true then ((ith p i).1, (numP p (aimP p i) : Int), (ith p i).2.2) else ith p i
def preU (p : List InstrD) (i : Nat) : List InstrD := if hitP p i = true then [labI (numP p i : Int)] else []
def outU (p : List InstrD) : Nat → List InstrD
  | 0 => []
  | i + 1 => outU p i ++ preU p i ++ [unX p i]
def unlinkR (p : List InstrD) : Int × Int × List InstrD × Unit := if (checkI p).2 = 0 then (0, 0, outU p p.length, ()) else ((checkI p).1, (checkI p).2, [], ())
theorem hitB_mono {p : List InstrD} {k : Nat} : ∀ n i, i ≤ n → hitB p i k = true → hitB p n k = true
  | 0, i, h, hh => by rwa [show i = 0 by omega] at hh
  | n + 1, i, h, hh => by
    rcases Nat.lt_or_eq_of_le h with h | h
    · show (hitB p n k || _) = true
      rw [hitB_mono n i (by omega) hh]
      rfl
    · rwa [← h]
theorem hit_aim {p : List InstrD} {i : Nat} (hi : i < p.length) (hg : goesB (ith p i).1 = true) : hitP p (aimP p i) = true := by
  refine hitB_mono p.length (i + 1) (by omega) ?_
  show (hitB p i _ || (goesB (ith p i).1 && decide (aimP p i = aimP p i))) = true
  rw [hg]
  simp
theorem numP_le {p : List InstrD} : ∀ i, numP p i ≤ i
  | 0 => Nat.le_refl _
  | i + 1 => by
    have := numP_le (p := p) i
    show numP p i + (if hitP p i = true then 1 else 0) ≤ i + 1
    split <;> omega
theorem outU_len {p : List InstrD} : ∀ i, (outU p i).length = i + numP p i
  | 0 => rfl
  | i + 1 => by
    show (outU p i ++ preU p i ++ [unX p i]).length = i + 1 + (numP p i + (if hitP p i = true then 1 else 0))
    rw [List.length_append, List.length_append, outU_len i]
    unfold preU
    split <;> simp <;> omega
theorem ckG_bad {N : Int} : ∀ {p : List InstrD} {k : Int} {r : Int × Int}, ckG N p k = some r → r.2 ≠ 0
  | [], _, _, h => by cases h
  | x :: p, k, r, h => by
    rw [ckG] at h
    split at h
    · cases h; simp
    · split at h
      · cases h; simp
      · split at h
        · cases h; simp
        · exact ckG_bad h
theorem check_right {p : List InstrD} (h : (checkI p).2 = 0) : p.length ≤ 8192 ∧ 0 < p.length ∧ ∀ i, i < p.length → isB (ith p i).1 = true ∧ fitsB (ith p i) = true ∧ (goesB (ith p i).1 = true → 0 ≤ (i : Int) + (ith p i).2.1 ∧ (i : Int) + (ith p i).2.1 < (p.length : Int)) := by
  unfold checkI at h
  split at h
  · cases h
  · split at h
    · cases h
    · rename_i h1 h2
      refine ⟨by omega, by omega, ?_⟩
      cases hc : ckG (p.length : Int) p 0 with
      | some r =>
        rw [hc] at h
        exact absurd h (ckG_bad hc)
      | none =>
        intro i hi
        obtain ⟨a, b, c⟩ := ckG_right hc i hi
        exact ⟨a, b, fun hg => by have := c hg; omega⟩
end Go.Proofs
