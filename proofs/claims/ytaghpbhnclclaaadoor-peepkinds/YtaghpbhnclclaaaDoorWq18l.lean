/- Part of the proof of the law's row: YtaghpbhnclclaaaDoorWq18l. -/
import Derived.Test.YtaghpbhnclclaaaDoorWq18a
set_option linter.all false
set_option linter.unusedVariables false
set_option linter.unusedSimpArgs false
/-! Chapter 16: what an instruction's fields may be. -/
namespace Go.Proofs
open Go Go.Abs
theorem has32 {op : Int} (h : isB op = true) : hasB op 32 = goesB op := by
  rcases op_cases h with rfl | rfl | rfl | rfl | rfl | rfl | rfl | rfl | rfl | rfl | rfl | rfl | rfl | rfl | rfl | rfl | rfl | rfl | rfl | rfl <;> decide +kernel
def onB (op : Int) : Bool := !(decide (op = 9) || (decide (op = 10) || (decide (op = 11) || (decide (op = 12) || (decide (op = 13) || (decide (op = 14) || (decide (op = 16) || decide (op = 17))))))))
theorem has64 {op : Int} (h : isB op = true) : hasB op 64 = onB op := by
  rcases op_cases h with rfl | rfl | rfl | rfl | rfl | rfl | rfl | rfl | rfl | rfl | rfl | rfl | rfl | rfl | rfl | rfl | rfl | rfl | rfl | rfl <;> decide +kernel
/-- Are an instruction's fields as its kind asks for, but for its target? -/
def fitsB (x : InstrD) : Bool :=
  eqInstr x (plainI x) && (if x.1 = 2 ∨ x.1 = 5 then decide (x.2.2.1 ≥ 0) && decide (x.2.2.1 ≤ 255)
    else if x.1 = 18 then (decide (x.2.2.1 ≥ 2) && decide (x.2.2.1 ≤ 7)) && capB x.2.2.1 x.2.2.2.1 x.2.2.2.2.1
    else if x.1 = 20 then !((((decide (x.2.2.1 < 1) || decide (x.2.2.1 > 7)) || decide (x.2.1 < 0)) || decide (x.2.1 > 255)) || (decide (x.2.2.1 = 1) && decide (x.2.1 > 0))) && capB x.2.2.1 x.2.2.2.1 x.2.2.2.2.1
    else true)
theorem q_fits (x : InstrD) (h : isB x.1 = true) : F_instr_fits (x, ()) = some (fitsB x, ()) := by
  have hb := isB_of h
  unfold F_instr_fits fitsB
  rw [q_plain x (by omega) (by omega), bind_t]
  change sel (!eqInstr x (plainI x)) _ _ = _
  cases eqInstr x (plainI x)
  · rfl
  obtain ⟨op, a, b, n, t, s, ⟨⟩⟩ := x
  simp only [Bool.not_true, sel_f, Bool.true_and] at hb ⊢
  by_cases h2 : op = 2
  · subst h2
    simp only [sel_pos, bind_t, sel_and, decide_true, sel_t, true_or, if_true]
  rw [sel_neg h2, bind_t]
  simp only
  by_cases h5 : op = 5
  · subst h5
    simp only [sel_pos, bind_t, sel_and, decide_true, sel_t, or_true, if_true]
  rw [if_neg (by omega), sel_neg h5]
  by_cases h18 : op = 18
  · subst h18
    rw [sel_pos rfl, if_pos rfl]
    by_cases hr : 2 ≤ b ∧ b ≤ 7
    · have e1 : decide (b ≥ 2) = true := by simpa using hr.1
      have e2 : decide (b ≤ 7) = true := by simpa using hr.2
      simp only [e1, e2, sel_t, bind_t, q_capture b n t (by omega) (by omega), Bool.true_and, Bool.and_self]
    · have e : (decide (b ≥ 2) && decide (b ≤ 7)) = false := by
        simp only [Bool.and_eq_false_iff, decide_eq_false_iff_not]; omega
      simp only [sel_and, bind_t, e, sel_f, Bool.false_and]
  rw [sel_neg h18, if_neg h18]
  by_cases h20 : op = 20
  · subst h20
    rw [sel_pos rfl, if_pos rfl]
    simp only [sel_or, sel_and, bind_t, bind_id]
    cases hc : ((((decide (b < 1) || decide (b > 7)) || decide (a < 0)) || decide (a > 255)) || (decide (b = 1) && decide (a > 0))) with
    | true => simp only [sel_t, Bool.not_true, Bool.false_and]
    | false =>
      simp only [Bool.or_eq_false_iff, decide_eq_false_iff_not] at hc
      simp only [sel_f, Bool.not_false, Bool.true_and]
      rw [q_capture b n t (by omega) (by omega), bind_t]
  rw [sel_neg h20, if_neg h20]
/-! ### The document's -/
end Go.Proofs

/-! Chapter 16: code is right. -/
namespace Go.Proofs
open Go Go.Abs
theorem eqI_iff {x y : InstrD} : eqInstr x y = true ↔ x = y := ⟨fun h => eqb_eq (t := tInstr) h, fun h => by rw [h]; exact eqb_refl (t := tInstr) y rfl⟩
end Go.Proofs

/-! Chapter 16: code is right. -/
namespace Go.Proofs
open Go Go.Abs
def ith (p : List InstrD) (i : Nat) : InstrD := List.getD p i zInstr
theorem sel_gor {R : Type} {g : Bool} {P Q : Prop} [Decidable P] [Decidable Q] {x y : Option R} (hg : g = true) (h : P ∨ Q) : sel (g && (decide P || decide Q)) x y = x := by
  subst hg
  have : (decide P || decide Q) = true := by simpa using h
  rw [this]
  rfl
theorem sel_gno {R : Type} {g : Bool} {P Q : Prop} [Decidable P] [Decidable Q] {x y : Option R} (h : ¬ (g = true ∧ (P ∨ Q))) : sel (g && (decide P || decide Q)) x y = y := by
  have : (g && (decide P || decide Q)) = false := by
    rw [Bool.eq_false_iff]
    intro e
    exact h (by simpa using e)
  rw [this]
  rfl
theorem getD_ith (p : List InstrD) (i : Nat) : List.getD p i zInstr = ith p i := rfl
/-- The first member that is wrong, by itself or by its target. -/
def ckG (N : Int) : List InstrD → Int → Option (Int × Int)
  | [], _ => none
  | x :: r, i => if isB x.1 = false then some (i, 160) else if fitsB x = false then some (i, 161)
    else if (goesB x.1 && (decide (x.2.1 < 0 - i) || decide (x.2.1 ≥ N - i))) = true then some (i, 162) else ckG N r (i + 1)
/-- What code's check tells. -/
def checkI (p : List InstrD) : Int × Int :=
  if (p.length : Int) > 8192 then (0, 2) else if (p.length : Int) = 0 then (0, 3)
  else match ckG (p.length : Int) p 0 with
    | some r => r
    | none => if onB (ith p (p.length - 1)).1 = true then ((p.length : Int) - 1, 163) else (0, 0)
theorem ckG_at {N : Int} {p : List InstrD} {i : Nat} (hi : i < p.length) : ckG N (List.drop i p) (i : Int) = if isB (ith p i).1 = false then some ((i : Int), 160) else if fitsB (ith p i) = false then some ((i : Int), 161)
    else if (goesB (ith p i).1 && (decide ((ith p i).2.1 < 0 - (i : Int)) || decide ((ith p i).2.1 ≥ N - (i : Int)))) = true then some ((i : Int), 162) else ckG N (List.drop (i + 1) p) ((i + 1 : Nat) : Int) := by
  have e : p[i] = ith p i := by
    unfold ith
    rw [List.getD_eq_getElem?_getD, List.getElem?_eq_getElem hi]
    rfl
  rw [List.drop_eq_getElem_cons hi, ckG, e]
  rfl
theorem ckG_right {N : Int} : ∀ {p : List InstrD} {k : Int}, ckG N p k = none → ∀ i, i < p.length → isB (ith p i).1 = true ∧ fitsB (ith p i) = true ∧ (goesB (ith p i).1 = true → 0 - (k + (i : Int)) ≤ (ith p i).2.1 ∧ (ith p i).2.1 < N - (k + (i : Int)))
  | [], k, _, i, hi => by simp at hi
  | x :: r, k, h, i, hi => by
    unfold ckG at h
    split at h
    · cases h
    · rename_i h1
      split at h
      · cases h
      · rename_i h2
        split at h
        · cases h
        · rename_i h3
          cases i with
          | zero =>
            have e : ith (x :: r) 0 = x := rfl
            rw [e]
            refine ⟨by simpa using h1, by simpa using h2, fun hg => ?_⟩
            rw [hg] at h3
            simp only [Bool.true_and, Bool.or_eq_true, decide_eq_true_eq, not_or] at h3
            simp only [Int.natCast_zero, Int.add_zero]
            omega
          | succ i =>
            have e : ith (x :: r) (i + 1) = ith r i := by simp [ith]
            rw [e]
            obtain ⟨g1, g2, g3⟩ := ckG_right h i (by simpa using hi)
            refine ⟨g1, g2, fun hg => ?_⟩
            have := g3 hg
            push_cast
            omega
def resI (p : List InstrD) (i : Nat) : Int × Int × Unit := match ckG (p.length : Int) (List.drop i p) (i : Int) with
  | some r => (r.1, r.2, ())
  | none => if onB (ith p (p.length - 1)).1 = true then ((p.length : Int) - 1, 163, ()) else (0, 0, ())
theorem ith_last (p : List InstrD) : List.getD p (Int.toNat ((p.length : Int) - 1)) zInstr = ith p (p.length - 1) := by
  unfold ith
  congr 1
  omega
theorem resI_zero (p : List InstrD) (h1 : ¬ (p.length : Int) > 8192) (h2 : ¬ (p.length : Int) = 0) : resI p 0 = ((checkI p).1, (checkI p).2, ()) := by
  unfold resI checkI
  rw [if_neg h1, if_neg h2, List.drop_zero]
  rw [show ((0 : Nat) : Int) = 0 by rfl]
  cases ckG (p.length : Int) p 0 with
  | some r => rfl
  | none =>
    simp only
    split <;> rfl
theorem q_icheck (p : List InstrD) : F_instr_Check (p, ()) = some ((checkI p).1, (checkI p).2, ()) := by
  unfold F_instr_Check
  simp only
  by_cases h1 : (p.length : Int) > 8192
  · rw [sel_pos h1]
    unfold checkI
    rw [if_pos h1]
  rw [sel_neg h1]
  by_cases h2 : (p.length : Int) = 0
  · rw [sel_pos h2]
    unfold checkI
    rw [if_neg h1, if_pos h2]
  rw [sel_neg h2, ← resI_zero p h1 h2]
  refine (loopC_gh (γ := Nat) (σ := (Int × shapeD) × Unit) (ρ := Int × Int × Unit) (I := fun i s => s.1.1 = (i : Int) ∧ i ≤ p.length ∧ (i = p.length → 0 < p.length ∧ isB (ith p (p.length - 1)).1 = true)) (μ := fun g => p.length - g) (F := fun g => resI p g) ?_ 0 _ ⟨rfl, by omega, fun h => by omega⟩)
  rintro i ⟨⟨i', b, c, ⟨⟩⟩, ⟨⟩⟩ ⟨e, hi, hlast⟩
  simp only at e hi ⊢
  subst e
  by_cases hlt : i < p.length
  · simp (disch := omega) only [sel_pos, need_pos, need64, Int.toNat_natCast, getD_ith]
    rw [q_is, bind_t]
    simp only
    have hat := ckG_at (N := (p.length : Int)) hlt
    unfold resI
    rw [hat]
    cases hb : isB (ith p i).1 with
    | false => exact .inr rfl
    | true =>
      simp only [Bool.not_true, sel_f]
      have hbb := isB_of hb
      rw [q_fits _ hb, bind_t]
      simp only
      cases hf : fitsB (ith p i) with
      | false => exact .inr rfl
      | true =>
        simp only [Bool.not_true, sel_f]
        rw [q_has _ 32 (by omega) (by omega), bind_t, has32 hb]
        simp (disch := omega) only [need64, sel_or, sel_and, bind_t, bind_id]
        by_cases hc : goesB (ith p i).1 = true ∧ ((ith p i).2.1 < 0 - (i : Int) ∨ (ith p i).2.1 ≥ (p.length : Int) - (i : Int))
        · obtain ⟨hg, hor⟩ := hc
          right
          have e : (goesB (ith p i).1 && (decide ((ith p i).2.1 < 0 - (i : Int)) || decide ((ith p i).2.1 ≥ (p.length : Int) - (i : Int)))) = true := by
            rw [hg, Bool.true_and]
            simpa using hor
          rw [if_neg (by simp), if_neg (by simp), if_pos e]
          exact sel_gor hg hor
        · have e : (goesB (ith p i).1 && (decide ((ith p i).2.1 < 0 - (i : Int)) || decide ((ith p i).2.1 ≥ (p.length : Int) - (i : Int)))) = false := by
            rw [Bool.eq_false_iff]
            intro h
            apply hc
            simpa using h
          rw [if_neg (by simp), if_neg (by simp), if_neg (by rw [e]; simp)]
          refine .inl ⟨i + 1, ((((i : Int) + 1), b, c, ()), ()), sel_gno hc, ⟨by simp, by omega, fun he => ⟨by omega, ?_⟩⟩, by omega, ?_⟩
          · rw [show p.length - 1 = i by omega]; exact hb
          · rfl
  · have he : i = p.length := by omega
    obtain ⟨hp, hb⟩ := hlast he
    have hbb := isB_of hb
    simp (disch := omega) only [sel_neg, need64, need_pos]
    rw [ith_last, q_has _ 64 (by omega) (by omega), bind_t, has64 hb]
    right
    unfold resI
    rw [he, List.drop_length]
    simp only [ckG]
    cases onB (ith p (p.length - 1)).1 <;> rfl
end Go.Proofs

/-! Chapter 18: where labels stand. -/
namespace Go.Proofs
open Go Go.Abs
theorem bind_id_some {A B : Type} {m : Option A} : Option.bind m (fun v => some (Sum.inr v : B ⊕ A)) = Option.map Sum.inr m := by cases m <;> rfl
theorem map_inr {A B : Type} {m : Option A} {r : A} (h : m = some r) : Option.map (Sum.inr : A → B ⊕ A) m = some (Sum.inr r) := by rw [h]; rfl
/-- At which instruction's number each label stands; how many instructions there are. -/
abbrev StL : Type := List Int × Int
def badT (st : StL) (x : InstrD) : Prop := goesB x.1 = true ∧ (List.getD st.1 x.2.1.toNat 0 < 0 ∨ List.getD st.1 x.2.1.toNat 0 = st.2)
instance (st : StL) (x : InstrD) : Decidable (badT st x) := by unfold badT; infer_instance
end Go.Proofs

/-! Chapter 18: Check by the book. -/
namespace Go.Proofs
open Go Go.Abs
theorem getD_set {α : Type} {l : List α} {i j : Nat} {v d : α} (hi : i < l.length) : List.getD (List.set l i v) j d = if i = j then v else List.getD l j d := by
  rw [List.getD_eq_getElem?_getD, List.getD_eq_getElem?_getD, List.getElem?_set]
  split
  · rfl
  · rfl
end Go.Proofs
