/- Part of the proof of the law's row: YtaghpbhnclclaaaDoorWq18f. -/
import Derived.Test.YtaghpbhnclclaaaDoorWq18a
set_option linter.all false
set_option linter.unusedVariables false
set_option linter.unusedSimpArgs false
/-! Chapter 16: what an instruction's fields may be. -/
namespace Go.Proofs
open Go Go.Abs
theorem has1 {op : Int} (h : isB op = true) : hasB op 1 = (goesB op || decide (op = 20)) := by
  rcases op_cases h with rfl | rfl | rfl | rfl | rfl | rfl | rfl | rfl | rfl | rfl | rfl | rfl | rfl | rfl | rfl | rfl | rfl | rfl | rfl | rfl <;> decide +kernel
theorem has2 {op : Int} (h : isB op = true) : hasB op 2 = (decide (op = 2) || (decide (op = 5) || (decide (op = 18) || decide (op = 20)))) := by
  rcases op_cases h with rfl | rfl | rfl | rfl | rfl | rfl | rfl | rfl | rfl | rfl | rfl | rfl | rfl | rfl | rfl | rfl | rfl | rfl | rfl | rfl <;> decide +kernel
theorem has4 {op : Int} (h : isB op = true) : hasB op 4 = (decide (op = 18) || decide (op = 20)) := by
  rcases op_cases h with rfl | rfl | rfl | rfl | rfl | rfl | rfl | rfl | rfl | rfl | rfl | rfl | rfl | rfl | rfl | rfl | rfl | rfl | rfl | rfl <;> decide +kernel
theorem has8 {op : Int} (h : isB op = true) : hasB op 8 = (decide (op = 18) || decide (op = 20)) := by
  rcases op_cases h with rfl | rfl | rfl | rfl | rfl | rfl | rfl | rfl | rfl | rfl | rfl | rfl | rfl | rfl | rfl | rfl | rfl | rfl | rfl | rfl <;> decide +kernel
theorem has16 {op : Int} (h : isB op = true) : hasB op 16 = (decide (op = 3) || (decide (op = 6) || decide (op = 7))) := by
  rcases op_cases h with rfl | rfl | rfl | rfl | rfl | rfl | rfl | rfl | rfl | rfl | rfl | rfl | rfl | rfl | rfl | rfl | rfl | rfl | rfl | rfl <;> decide +kernel
theorem has32 {op : Int} (h : isB op = true) : hasB op 32 = goesB op := by
  rcases op_cases h with rfl | rfl | rfl | rfl | rfl | rfl | rfl | rfl | rfl | rfl | rfl | rfl | rfl | rfl | rfl | rfl | rfl | rfl | rfl | rfl <;> decide +kernel
def onB (op : Int) : Bool := !(decide (op = 9) || (decide (op = 10) || (decide (op = 11) || (decide (op = 12) || (decide (op = 13) || (decide (op = 14) || (decide (op = 16) || decide (op = 17))))))))
theorem has64 {op : Int} (h : isB op = true) : hasB op 64 = onB op := by
  rcases op_cases h with rfl | rfl | rfl | rfl | rfl | rfl | rfl | rfl | rfl | rfl | rfl | rfl | rfl | rfl | rfl | rfl | rfl | rfl | rfl | rfl <;> decide +kernel
/-- Are an instruction's fields as its kind asks for, but for its target? -/
def fitsB (x : InstrD) : Bool :=
  eqInstr x (plainI x) && (if x.1 = 2 ∨ x.1 = 5 then decide (x.2.2.1 ≥ 0) && decide (x.2.2.1 ≤ 255)
    else if x.1 = 18 then (decide (x.2.2.1 ≥ 2) && decide (x.2.2.1 ≤ 7)) && capB x.2.2.1 x.2.2.2.1 x.2.2.2.2.1
    else if x.1 = 20 then !((((decide (x.2.2.1 < 1) || decide (x.2.2.1 > 7)) || decide (x.2.1 < 0)) || decide (x.2.1 > 255)) || (decide (x.2.2.1 = 1) && decide (x.2.1 > 0))) && capB x.2.2.1 x.2.2.2.1 x.2.2.2.2.1
    else true)
theorem q_fits (x : InstrD) (h : isB x.1 = true) : F_instr_fits (x, ()) = some (fitsB x, ()) := by
  have hb := isB_of h
  unfold F_instr_fits fitsB
  rw [q_plain x (by omega) (by omega), bind_t]
  change sel (!eqInstr x (plainI x)) _ _ = _
  cases eqInstr x (plainI x)
  · rfl
  obtain ⟨op, a, b, n, t, s, ⟨⟩⟩ := x
  simp only [Bool.not_true, sel_f, Bool.true_and] at hb ⊢
  by_cases h2 : op = 2
  · subst h2
    simp only [sel_pos, bind_t, sel_and, decide_true, sel_t, true_or, if_true]
  rw [sel_neg h2, bind_t]
  simp only
  by_cases h5 : op = 5
  · subst h5
    simp only [sel_pos, bind_t, sel_and, decide_true, sel_t, or_true, if_true]
  rw [if_neg (by omega), sel_neg h5]
  by_cases h18 : op = 18
  · subst h18
    rw [sel_pos rfl, if_pos rfl]
    by_cases hr : 2 ≤ b ∧ b ≤ 7
    · have e1 : decide (b ≥ 2) = true := by simpa using hr.1
      have e2 : decide (b ≤ 7) = true := by simpa using hr.2
      simp only [e1, e2, sel_t, bind_t, q_capture b n t (by omega) (by omega), Bool.true_and, Bool.and_self]
    · have e : (decide (b ≥ 2) && decide (b ≤ 7)) = false := by
        simp only [Bool.and_eq_false_iff, decide_eq_false_iff_not]; omega
      simp only [sel_and, bind_t, e, sel_f, Bool.false_and]
  rw [sel_neg h18, if_neg h18]
  by_cases h20 : op = 20
  · subst h20
    rw [sel_pos rfl, if_pos rfl]
    simp only [sel_or, sel_and, bind_t, bind_id]
    cases hc : ((((decide (b < 1) || decide (b > 7)) || decide (a < 0)) || decide (a > 255)) || (decide (b = 1) && decide (a > 0))) with
    | true => simp only [sel_t, Bool.not_true, Bool.false_and]
    | false =>
      simp only [Bool.or_eq_false_iff, decide_eq_false_iff_not] at hc
      simp only [sel_f, Bool.not_false, Bool.true_and]
      rw [q_capture b n t (by omega) (by omega), bind_t]
  rw [sel_neg h20, if_neg h20]
/-! ### The document's -/
def usesF (op : Int) : Int :=
  if op = 2 then 4 else if op = 3 ∨ op = 7 then 16 else if op = 5 then 5 else if op = 6 then 17 else if op = 18 then 8 else if op = 20 then 10 else if goesB op = true then 1 else 0
theorem q_uses (op : Int) : ∃ name, F_ref16_Uses (op, ()) = some (usesF op, name, (isB op && onB op), ()) ∧ decide (name = zStr) = !isB op := by
  cases h : isB op with
  | true =>
    rcases op_cases h with rfl | rfl | rfl | rfl | rfl | rfl | rfl | rfl | rfl | rfl | rfl | rfl | rfl | rfl | rfl | rfl | rfl | rfl | rfl | rfl <;> exact ⟨_, rfl, by decide +kernel⟩
  | false =>
    simp only [isB, Bool.and_eq_false_iff, decide_eq_false_iff_not] at h
    have hn : ∀ k : Int, 1 ≤ k → k ≤ 20 → op ≠ k := by omega
    have hg : goesB op = false := by
      unfold goesB
      simp (disch := omega) only [decide_eq_false_iff_not, Bool.or_eq_false_iff]
      omega
    have hu : usesF op = 0 := by
      unfold usesF
      rw [if_neg (by omega), if_neg (by omega), if_neg (by omega), if_neg (by omega), if_neg (by omega), if_neg (by omega), hg]
      rfl
    refine ⟨zStr, ?_, by simp⟩
    rw [hu]
    unfold F_ref16_Uses
    simp (disch := omega) only [sel_neg]
    rfl
def hR (f bit : Int) : Bool := decide (f / bit % 2 = 1)
theorem usesF_le (op : Int) : 0 ≤ usesF op ∧ usesF op ≤ 17 := by
  unfold usesF
  repeat' split
  all_goals omega
theorem q_hasR (op bit : Int) (hb : bit = 1 ∨ bit = 2 ∨ bit = 4 ∨ bit = 8 ∨ bit = 16) : F_ref16_has (usesF op, bit, ()) = some (hR (usesF op) bit, ()) := by
  have := usesF_le op
  unfold F_ref16_has hR
  generalize usesF op = f at *
  simp only
  have hd : 0 ≤ f / bit ∧ f / bit ≤ 17 := by
    rcases hb with rfl | rfl | rfl | rfl | rfl <;> omega
  rw [need_pos ⟨this.1, by omega, fits64 (by omega) (by omega)⟩, need_pos ⟨hd.1, by omega⟩]
theorem q_targets (op : Int) : F_ref16_Targets (op, ()) = some (goesB op, ()) := by
  obtain ⟨name, h1, _⟩ := q_uses op
  unfold F_ref16_Targets
  rw [h1, bind_t]
  simp only
  rw [q_hasR op 1 (by simp), bind_t]
  simp only [Option.some.injEq, Prod.mk.injEq, and_true]
  unfold hR usesF
  cases hg : goesB op with
  | true =>
    have : op = 4 ∨ op = 5 ∨ op = 6 ∨ op = 8 ∨ op = 9 ∨ op = 10 ∨ op = 11 ∨ op = 14 ∨ op = 15 := by
      simpa [goesB] using hg
    rcases this with rfl | rfl | rfl | rfl | rfl | rfl | rfl | rfl | rfl <;> decide +kernel
  | false =>
    have : op ≠ 5 ∧ op ≠ 6 := by
      constructor <;> (rintro rfl; simp [goesB] at hg)
    rw [if_neg this.1, if_neg this.2]
    simp only [Bool.false_eq_true, if_false]
    repeat' split
    all_goals decide
def catchB (x : InstrD) : Bool :=
  if ((((decide (x.2.2.1 < (if x.1 = 18 then 2 else 1)) || decide (x.2.2.1 > 7)) || decide (x.2.2.2.1 < 0)) || decide (x.2.2.2.1 > 50)) || (!decide (x.2.2.1 = 7) && !decide (x.2.2.2.1 = 0))) = true then false
  else if x.2.2.1 = 3 then decide (x.2.2.2.2.1 = zStr) || nameB x.2.2.2.2.1 else if x.2.2.1 = 6 then tmplB x.2.2.2.2.1 else decide (x.2.2.2.2.1 = zStr)
theorem q_catches (x : InstrD) : F_ref16_catches (x, ()) = some (catchB x, ()) := by
  unfold F_ref16_catches catchB
  obtain ⟨op, a, b, n, t, s, ⟨⟩⟩ := x
  simp only [q_nameR, q_tmplR, sel_or, sel_and, bind_t, bind_id, sel_bind]
  by_cases h : op = 18
  · rw [sel_pos h, if_pos h]
    cases ((((decide (b < 2) || decide (b > 7)) || decide (n < 0)) || decide (n > 50)) || (!decide (b = 7) && !decide (n = 0))) <;> simp only [sel_t, sel_f, if_true, if_false, Bool.false_eq_true, ifsel, decide_eq_true_eq]
    repeat' split
    all_goals rfl
  · rw [sel_neg h, if_neg h]
    cases ((((decide (b < 1) || decide (b > 7)) || decide (n < 0)) || decide (n > 50)) || (!decide (b = 7) && !decide (n = 0))) <;> simp only [sel_t, sel_f, if_true, if_false, Bool.false_eq_true, ifsel, decide_eq_true_eq]
    repeat' split
    all_goals rfl
def argsB (x : InstrD) : Bool :=
  if ((!hR (usesF x.1) 16 && !eqSet x.2.2.2.2.2.1 zSet) || ((!hR (usesF x.1) 1 && !hR (usesF x.1) 2) && !decide (x.2.1 = 0))) = true then false
  else if (hR (usesF x.1) 2 && ((decide (x.2.1 < 0) || decide (x.2.1 > 255)) || (decide (x.2.2.1 = 1) && !decide (x.2.1 = 0)))) = true then false
  else if hR (usesF x.1) 8 = true then catchB x
  else (decide (x.2.2.2.1 = 0) && decide (x.2.2.2.2.1 = zStr)) && (((hR (usesF x.1) 4 && decide (x.2.2.1 ≥ 0)) && decide (x.2.2.1 ≤ 255)) || decide (x.2.2.1 = 0))
theorem q_args (x : InstrD) : F_ref16_Args (x, ()) = some (argsB x, ()) := by
  obtain ⟨name, h1, _⟩ := q_uses x.1
  unfold F_ref16_Args argsB
  simp only
  rw [h1, bind_t]
  simp only [q_hasR x.1 16 (by simp), q_hasR x.1 1 (by simp), q_hasR x.1 2 (by simp), q_hasR x.1 4 (by simp), q_hasR x.1 8 (by simp), q_catches, bind_t, sel_and, sel_or, bind_id]
  change sel ((!hR (usesF x.1) 16 && !eqSet x.2.2.2.2.2.1 zSet) || ((!hR (usesF x.1) 1 && !hR (usesF x.1) 2) && !decide (x.2.1 = 0))) _ _ = _
  cases ((!hR (usesF x.1) 16 && !eqSet x.2.2.2.2.2.1 zSet) || ((!hR (usesF x.1) 1 && !hR (usesF x.1) 2) && !decide (x.2.1 = 0))) <;> simp only [sel_t, sel_f, if_true, if_false, Bool.false_eq_true]
  cases (hR (usesF x.1) 2 && ((decide (x.2.1 < 0) || decide (x.2.1 > 255)) || (decide (x.2.2.1 = 1) && !decide (x.2.1 = 0)))) <;> simp only [sel_t, sel_f, if_true, if_false, Bool.false_eq_true]
  cases hR (usesF x.1) 8 <;> simp only [sel_t, sel_f, if_true, if_false, Bool.false_eq_true]
end Go.Proofs

/-! Chapter 16: code is right. -/
namespace Go.Proofs
open Go Go.Abs
theorem eqI_iff {x y : InstrD} : eqInstr x y = true ↔ x = y := ⟨fun h => eqb_eq (t := tInstr) h, fun h => by rw [h]; exact eqb_refl (t := tInstr) y rfl⟩
theorem eqS_iff {x y : SetD} : eqSet x y = true ↔ x = y := ⟨fun h => eqb_eq (t := tSet) h, fun h => by rw [h]; exact eqb_refl (t := tSet) y rfl⟩
theorem counted16 (b : Int) (h0 : 1 ≤ b) (h1 : b ≤ 7) : countedB (b + 16) = decide (b = 7) := by
  have : b = 1 ∨ b = 2 ∨ b = 3 ∨ b = 4 ∨ b = 5 ∨ b = 6 ∨ b = 7 := by omega
  rcases this with rfl | rfl | rfl | rfl | rfl | rfl | rfl <;> decide
/-- A capture's fields are known alike. -/
theorem catch_cap (b n : Int) (t : ByteArray) (h0 : 1 ≤ b) (h1 : b ≤ 7) : capB b n t = (if (((decide (n < 0) || decide (n > 50))) || (!decide (b = 7) && !decide (n = 0))) = true then false
    else if b = 3 then decide (t = zStr) || nameB t else if b = 6 then tmplB t else decide (t = zStr)) := by
  unfold capB
  by_cases hb : b = 1
  · subst hb
    rw [if_pos rfl, if_neg (show ¬ (1 : Int) = 3 by decide), if_neg (show ¬ (1 : Int) = 6 by decide)]
    by_cases hn : n = 0
    · subst hn; simp
    · have : ((decide (n < 0) || decide (n > 50)) || (!decide ((1 : Int) = 7) && !decide (n = 0))) = true := by simp [hn]
      rw [if_pos this]
      simp [hn]
  · rw [if_neg hb]
    unfold fieldB
    simp only [counted16 b h0 h1]
    have hz : zset zSet = true := eqS_iff.2 rfl
    rw [hz]
    simp only [Bool.not_true, Bool.and_false, Bool.false_eq_true, if_false]
    rw [if_neg (show ¬ b + 16 = 4 by omega), if_neg (show ¬ b + 16 = 6 by omega)]
    have e1 : ((decide (n < 0) || decide (n > 50)) || (decide (n > 0) && !decide (b = 7))) = ((decide (n < 0) || decide (n > 50)) || (!decide (b = 7) && !decide (n = 0))) := by
      rw [Bool.eq_iff_iff]
      simp
      omega
    rw [e1]
    split
    · rfl
    · by_cases h3 : b = 3
      · rw [if_pos (by omega), if_pos h3]
      · rw [if_neg (by omega), if_neg h3]
        by_cases h6 : b = 6
        · rw [if_pos (by omega), if_pos h6]
        · rw [if_neg (by omega), if_neg h6]
theorem eqI_def (o a b n : Int) (t : ByteArray) (s : SetD) (o' a' b' n' : Int) (t' : ByteArray) (s' : SetD) : eqInstr (o, a, b, n, t, s, ()) (o', a', b', n', t', s', ()) = (decide (o = o') && (decide (a = a') && (decide (b = b') && (decide (n = n') && (decide (t = t') && (eqSet s s' && true)))))) := rfl
theorem eqS_self (s : SetD) : eqSet s s = true := eqS_iff.2 rfl
theorem catch18 (a b n : Int) (t : ByteArray) (s : SetD) (op : Int) (ho : op = 18 ∨ op = 20) : catchB (op, a, b, n, t, s, ()) = ((decide (b ≥ (if op = 18 then 2 else 1)) && decide (b ≤ 7)) && capB b n t) := by
  unfold catchB
  simp only
  by_cases hr : (if op = 18 then (2 : Int) else 1) ≤ b ∧ b ≤ 7
  · have h0 : 1 ≤ b := by
      have := hr.1
      split at this <;> omega
    rw [catch_cap b n t h0 hr.2]
    have e1 : decide (b < (if op = 18 then 2 else 1)) = false := by simp only [decide_eq_false_iff_not]; omega
    have e2 : decide (b > 7) = false := by simp only [decide_eq_false_iff_not]; omega
    have e3 : decide (b ≥ (if op = 18 then 2 else 1)) = true := by simp only [decide_eq_true_eq]; exact hr.1
    have e4 : decide (b ≤ 7) = true := by simp only [decide_eq_true_eq]; exact hr.2
    rw [e1, e2, e3, e4]
    simp only [Bool.false_or, Bool.true_and, Bool.and_self]
  · have e : (decide (b ≥ (if op = 18 then 2 else 1)) && decide (b ≤ 7)) = false := by
      simp only [Bool.and_eq_false_iff, decide_eq_false_iff_not]
      omega
    rw [e, Bool.false_and, if_pos]
    have : (decide (b < (if op = 18 then 2 else 1)) || decide (b > 7)) = true := by
      simp only [Bool.or_eq_true, decide_eq_true_eq]
      omega
    rw [this]
    simp
theorem args_fits (x : InstrD) (h : isB x.1 = true) : argsB x = fitsB x := by
  obtain ⟨op, a, b, n, t, s, ⟨⟩⟩ := x
  simp only at h
  have hz : eqSet s ((0 : Int), (0 : Int), (0 : Int), (0 : Int), ()) = eqSet s zSet := rfl
  unfold argsB fitsB plainI
  simp only [has1 h, has2 h, has4 h, has8 h, has16 h]
  by_cases h18 : op = 18
  · subst h18
    simp only [show usesF 18 = 8 by rfl, show hR 8 16 = false by rfl, show hR 8 1 = false by rfl, show hR 8 2 = false by rfl, show hR 8 8 = true by rfl, show goesB 18 = false by rfl]
    rw [catch18 _ _ _ _ _ _ (.inl rfl)]
    by_cases ha : a = 0 <;> cases hs : eqSet s zSet <;> simp [eqI_def, ha, hs, hz]
  by_cases h20 : op = 20
  · subst h20
    simp only [show usesF 20 = 10 by rfl, show hR 10 16 = false by rfl, show hR 10 1 = false by rfl, show hR 10 2 = true by rfl, show hR 10 8 = true by rfl, show goesB 20 = false by rfl]
    rw [catch18 _ _ _ _ _ _ (.inr rfl)]
    cases hs : eqSet s zSet
    · simp [eqI_def, hs, hz]
    · by_cases hc : ((a < 0 ∨ a > 255) ∨ (b = 1 ∧ ¬ a = 0))
      · have e1 : ((decide (a < 0) || decide (a > 255)) || (decide (b = 1) && !decide (a = 0))) = true := by
          simp only [Bool.or_eq_true, Bool.and_eq_true, decide_eq_true_eq, Bool.not_eq_true', decide_eq_false_iff_not]; exact hc
        have e2 : ((((decide (b < 1) || decide (b > 7)) || decide (a < 0)) || decide (a > 255)) || (decide (b = 1) && decide (a > 0))) = true := by
          simp only [Bool.or_eq_true, Bool.and_eq_true, decide_eq_true_eq]; omega
        rw [e1, e2]
        simp
      · have e1 : ((decide (a < 0) || decide (a > 255)) || (decide (b = 1) && !decide (a = 0))) = false := by
          simp only [Bool.or_eq_false_iff, Bool.and_eq_false_iff, decide_eq_false_iff_not, Bool.not_eq_false', decide_eq_true_eq]; omega
        have e2 : ((((decide (b < 1) || decide (b > 7)) || decide (a < 0)) || decide (a > 255)) || (decide (b = 1) && decide (a > 0))) = !(decide (b ≥ 1) && decide (b ≤ 7)) := by
          rw [Bool.eq_iff_iff]
          simp
          omega
        rw [e1, e2]
        simp [eqI_def, hs, hz]
  by_cases h25 : op = 2 ∨ op = 5
  · by_cases hb : 0 ≤ b ∧ b ≤ 255
    · rcases h25 with rfl | rfl <;> by_cases ha : a = 0 <;> by_cases hn : n = 0 <;> by_cases ht : t = zStr <;> cases hs : eqSet s zSet <;> simp [usesF, hR, goesB, eqI_def, ha, hb.1, hb.2, hn, ht, hs, hz]
    · have e : ¬ b = 0 := by rintro rfl; exact hb (by omega)
      have e2 : (decide (0 ≤ b) && decide (b ≤ 255)) = false := by simp only [Bool.and_eq_false_iff, decide_eq_false_iff_not]; omega
      rcases h25 with rfl | rfl <;> by_cases ha : a = 0 <;> by_cases hn : n = 0 <;> by_cases ht : t = zStr <;> cases hs : eqSet s zSet <;> simp [usesF, hR, goesB, eqI_def, ha, hn, ht, hs, hz, e] <;> omega
  rcases op_cases h with rfl | rfl | rfl | rfl | rfl | rfl | rfl | rfl | rfl | rfl | rfl | rfl | rfl | rfl | rfl | rfl | rfl | rfl | rfl | rfl
  all_goals first
    | (exfalso; omega)
    | (by_cases ha : a = 0 <;> by_cases hb : b = 0 <;> by_cases hn : n = 0 <;> by_cases ht : t = zStr <;> cases hs : eqSet s zSet <;> simp [usesF, hR, goesB, eqI_def, ha, hb, hn, ht, hs, hz, eqS_self])
end Go.Proofs

/-! Chapter 16: code is right. -/
namespace Go.Proofs
open Go Go.Abs
def ith (p : List InstrD) (i : Nat) : InstrD := List.getD p i zInstr
theorem sel_gor {R : Type} {g : Bool} {P Q : Prop} [Decidable P] [Decidable Q] {x y : Option R} (hg : g = true) (h : P ∨ Q) : sel (g && (decide P || decide Q)) x y = x := by
  subst hg
  have : (decide P || decide Q) = true := by simpa using h
  rw [this]
  rfl
theorem sel_gno {R : Type} {g : Bool} {P Q : Prop} [Decidable P] [Decidable Q] {x y : Option R} (h : ¬ (g = true ∧ (P ∨ Q))) : sel (g && (decide P || decide Q)) x y = y := by
  have : (g && (decide P || decide Q)) = false := by
    rw [Bool.eq_false_iff]
    intro e
    exact h (by simpa using e)
  rw [this]
  rfl
theorem getD_ith (p : List InstrD) (i : Nat) : List.getD p i zInstr = ith p i := rfl
/-- The first member that is wrong, by itself or by its target. -/
def ckG (N : Int) : List InstrD → Int → Option (Int × Int)
  | [], _ => none
  | x :: r, i => if isB x.1 = false then some (i, 160) else if fitsB x = false then some (i, 161)
    else if (goesB x.1 && (decide (x.2.1 < 0 - i) || decide (x.2.1 ≥ N - i))) = true then some (i, 162) else ckG N r (i + 1)
/-- What code's check tells. -/
def checkI (p : List InstrD) : Int × Int :=
  if (p.length : Int) > 8192 then (0, 2) else if (p.length : Int) = 0 then (0, 3)
  else match ckG (p.length : Int) p 0 with
    | some r => r
    | none => if onB (ith p (p.length - 1)).1 = true then ((p.length : Int) - 1, 163) else (0, 0)
theorem ckG_at {N : Int} {p : List InstrD} {i : Nat} (hi : i < p.length) : ckG N (List.drop i p) (i : Int) = if isB (ith p i).1 = false then some ((i : Int), 160) else if fitsB (ith p i) = false then some ((i : Int), 161)
    else if (goesB (ith p i).1 && (decide ((ith p i).2.1 < 0 - (i : Int)) || decide ((ith p i).2.1 ≥ N - (i : Int)))) = true then some ((i : Int), 162) else ckG N (List.drop (i + 1) p) ((i + 1 : Nat) : Int) := by
  have e : p[i] = ith p i := by
    unfold ith
    rw [List.getD_eq_getElem?_getD, List.getElem?_eq_getElem hi]
    rfl
  rw [List.drop_eq_getElem_cons hi, ckG, e]
  rfl
theorem ckG_right {N : Int} : ∀ {p : List InstrD} {k : Int}, ckG N p k = none → ∀ i, i < p.length → isB (ith p i).1 = true ∧ fitsB (ith p i) = true ∧ (goesB (ith p i).1 = true → 0 - (k + (i : Int)) ≤ (ith p i).2.1 ∧ (ith p i).2.1 < N - (k + (i : Int)))
  | [], k, _, i, hi => by simp at hi
  | x :: r, k, h, i, hi => by
    unfold ckG at h
    split at h
    · cases h
    · rename_i h1
      split at h
      · cases h
      · rename_i h2
        split at h
        · cases h
        · rename_i h3
          cases i with
          | zero =>
            have e : ith (x :: r) 0 = x := rfl
            rw [e]
            refine ⟨by simpa using h1, by simpa using h2, fun hg => ?_⟩
            rw [hg] at h3
            simp only [Bool.true_and, Bool.or_eq_true, decide_eq_true_eq, not_or] at h3
            simp only [Int.natCast_zero, Int.add_zero]
            omega
          | succ i =>
            have e : ith (x :: r) (i + 1) = ith r i := by simp [ith]
            rw [e]
            obtain ⟨g1, g2, g3⟩ := ckG_right h i (by simpa using hi)
            refine ⟨g1, g2, fun hg => ?_⟩
            have := g3 hg
            push_cast
            omega
def resI (p : List InstrD) (i : Nat) : Int × Int × Unit := match ckG (p.length : Int) (List.drop i p) (i : Int) with
  | some r => (r.1, r.2, ())
  | none => if onB (ith p (p.length - 1)).1 = true then ((p.length : Int) - 1, 163, ()) else (0, 0, ())
theorem ith_last (p : List InstrD) : List.getD p (Int.toNat ((p.length : Int) - 1)) zInstr = ith p (p.length - 1) := by
  unfold ith
  congr 1
  omega
theorem resI_zero (p : List InstrD) (h1 : ¬ (p.length : Int) > 8192) (h2 : ¬ (p.length : Int) = 0) : resI p 0 = ((checkI p).1, (checkI p).2, ()) := by
  unfold resI checkI
  rw [if_neg h1, if_neg h2, List.drop_zero]
  rw [show ((0 : Nat) : Int) = 0 by rfl]
  cases ckG (p.length : Int) p 0 with
  | some r => rfl
  | none =>
    simp only
    split <;> rfl
theorem q_icheck (p : List InstrD) : F_instr_Check (p, ()) = some ((checkI p).1, (checkI p).2, ()) := by
  unfold F_instr_Check
  simp only
  by_cases h1 : (p.length : Int) > 8192
  · rw [sel_pos h1]
    unfold checkI
    rw [if_pos h1]
  rw [sel_neg h1]
  by_cases h2 : (p.length : Int) = 0
  · rw [sel_pos h2]
    unfold checkI
    rw [if_neg h1, if_pos h2]
  rw [sel_neg h2, ← resI_zero p h1 h2]
  refine (loopC_gh (γ := Nat) (σ := (Int × shapeD) × Unit) (ρ := Int × Int × Unit) (I := fun i s => s.1.1 = (i : Int) ∧ i ≤ p.length ∧ (i = p.length → 0 < p.length ∧ isB (ith p (p.length - 1)).1 = true)) (μ := fun g => p.length - g) (F := fun g => resI p g) ?_ 0 _ ⟨rfl, by omega, fun h => by omega⟩)
  rintro i ⟨⟨i', b, c, ⟨⟩⟩, ⟨⟩⟩ ⟨e, hi, hlast⟩
  simp only at e hi ⊢
  subst e
  by_cases hlt : i < p.length
  · simp (disch := omega) only [sel_pos, need_pos, need64, Int.toNat_natCast, getD_ith]
    rw [q_is, bind_t]
    simp only
    have hat := ckG_at (N := (p.length : Int)) hlt
    unfold resI
    rw [hat]
    cases hb : isB (ith p i).1 with
    | false => exact .inr rfl
    | true =>
      simp only [Bool.not_true, sel_f]
      have hbb := isB_of hb
      rw [q_fits _ hb, bind_t]
      simp only
      cases hf : fitsB (ith p i) with
      | false => exact .inr rfl
      | true =>
        simp only [Bool.not_true, sel_f]
        rw [q_has _ 32 (by omega) (by omega), bind_t, has32 hb]
        simp (disch := omega) only [need64, sel_or, sel_and, bind_t, bind_id]
        by_cases hc : goesB (ith p i).1 = true ∧ ((ith p i).2.1 < 0 - (i : Int) ∨ (ith p i).2.1 ≥ (p.length : Int) - (i : Int))
        · obtain ⟨hg, hor⟩ := hc
          right
          have e : (goesB (ith p i).1 && (decide ((ith p i).2.1 < 0 - (i : Int)) || decide ((ith p i).2.1 ≥ (p.length : Int) - (i : Int)))) = true := by
            rw [hg, Bool.true_and]
            simpa using hor
          rw [if_neg (by simp), if_neg (by simp), if_pos e]
          exact sel_gor hg hor
        · have e : (goesB (ith p i).1 && (decide ((ith p i).2.1 < 0 - (i : Int)) || decide ((ith p i).2.1 ≥ (p.length : Int) - (i : Int)))) = false := by
            rw [Bool.eq_false_iff]
            intro h
            apply hc
            simpa using h
          rw [if_neg (by simp), if_neg (by simp), if_neg (by rw [e]; simp)]
          refine .inl ⟨i + 1, ((((i : Int) + 1), b, c, ()), ()), sel_gno hc, ⟨by simp, by omega, fun he => ⟨by omega, ?_⟩⟩, by omega, ?_⟩
          · rw [show p.length - 1 = i by omega]; exact hb
          · rfl
  · have he : i = p.length := by omega
    obtain ⟨hp, hb⟩ := hlast he
    have hbb := isB_of hb
    simp (disch := omega) only [sel_neg, need64, need_pos]
    rw [ith_last, q_has _ 64 (by omega) (by omega), bind_t, has64 hb]
    right
    unfold resI
    rw [he, List.drop_length]
    simp only [ckG]
    cases onB (ith p (p.length - 1)).1 <;> rfl
theorem q_icheckR (p : List InstrD) : F_ref16_Check (p, ()) = some ((checkI p).1, (checkI p).2, ()) := by
  unfold F_ref16_Check
  simp only
  by_cases h1 : (p.length : Int) > 8192
  · rw [sel_pos h1]
    unfold checkI
    rw [if_pos h1]
  rw [sel_neg h1]
  by_cases h2 : (p.length : Int) = 0
  · rw [sel_pos h2]
    unfold checkI
    rw [if_neg h1, if_pos h2]
  rw [sel_neg h2, ← resI_zero p h1 h2]
  refine (loopC_gh (γ := Nat) (σ := (Int × shapeD) × Unit) (ρ := Int × Int × Unit) (I := fun i s => s.1.1 = (i : Int) ∧ i ≤ p.length ∧ (i = p.length → 0 < p.length ∧ isB (ith p (p.length - 1)).1 = true)) (μ := fun g => p.length - g) (F := fun g => resI p g) ?_ 0 _ ⟨rfl, by omega, fun h => by omega⟩)
  rintro i ⟨⟨i', b, c, ⟨⟩⟩, ⟨⟩⟩ ⟨e, hi, hlast⟩
  simp only at e hi ⊢
  subst e
  by_cases hlt : i < p.length
  · simp (disch := omega) only [sel_pos, need_pos, need64, Int.toNat_natCast, getD_ith]
    obtain ⟨name, hu1, hu2⟩ := q_uses (ith p i).1
    rw [hu1, bind_t]
    simp only
    rw [hu2]
    have hat := ckG_at (N := (p.length : Int)) hlt
    unfold resI
    rw [hat]
    cases hb : isB (ith p i).1 with
    | false => exact .inr rfl
    | true =>
      simp only [Bool.not_true, sel_f]
      rw [q_args, bind_t, args_fits _ hb]
      simp only
      cases hf : fitsB (ith p i) with
      | false => exact .inr rfl
      | true =>
        simp only [Bool.not_true, sel_f]
        rw [q_targets, bind_t]
        simp (disch := omega) only [need64, sel_or, sel_and, bind_t, bind_id]
        by_cases hc : goesB (ith p i).1 = true ∧ ((ith p i).2.1 < 0 - (i : Int) ∨ (ith p i).2.1 ≥ (p.length : Int) - (i : Int))
        · obtain ⟨hg, hor⟩ := hc
          right
          have e : (goesB (ith p i).1 && (decide ((ith p i).2.1 < 0 - (i : Int)) || decide ((ith p i).2.1 ≥ (p.length : Int) - (i : Int)))) = true := by
            rw [hg, Bool.true_and]
            simpa using hor
          rw [if_neg (by simp), if_neg (by simp), if_pos e]
          exact sel_gor hg hor
        · have e : (goesB (ith p i).1 && (decide ((ith p i).2.1 < 0 - (i : Int)) || decide ((ith p i).2.1 ≥ (p.length : Int) - (i : Int)))) = false := by
            rw [Bool.eq_false_iff]
            intro h
            apply hc
            simpa using h
          rw [if_neg (by simp), if_neg (by simp), if_neg (by rw [e]; simp)]
          refine .inl ⟨i + 1, ((((i : Int) + 1), b, c, ()), ()), sel_gno hc, ⟨by simp, by omega, fun he => ⟨by omega, ?_⟩⟩, by omega, ?_⟩
          · rw [show p.length - 1 = i by omega]; exact hb
          · rfl
  · have he : i = p.length := by omega
    obtain ⟨hp, hb⟩ := hlast he
    simp (disch := omega) only [sel_neg, need64, need_pos]
    rw [ith_last]
    obtain ⟨name, hu1, hu2⟩ := q_uses (ith p (p.length - 1)).1
    rw [hu1, bind_t, hb]
    right
    unfold resI
    rw [he, List.drop_length]
    simp only [ckG, Bool.true_and]
    cases onB (ith p (p.length - 1)).1 <;> rfl
end Go.Proofs

/-! Chapter 18: a member by itself. -/
namespace Go.Proofs
open Go Go.Abs
theorem goes_is {op : Int} (h : goesB op = true) : isB op = true := by
  have : op = 4 ∨ op = 5 ∨ op = 6 ∨ op = 8 ∨ op = 9 ∨ op = 10 ∨ op = 11 ∨ op = 14 ∨ op = 15 := by simpa [goesB] using h
  rcases this with rfl | rfl | rfl | rfl | rfl | rfl | rfl | rfl | rfl <;> rfl
theorem goes_uses {op : Int} (h : goesB op = true) : hR (usesF op) 1 = true ∧ hR (usesF op) 2 = false := by
  have : op = 4 ∨ op = 5 ∨ op = 6 ∨ op = 8 ∨ op = 9 ∨ op = 10 ∨ op = 11 ∨ op = 14 ∨ op = 15 := by simpa [goesB] using h
  rcases this with rfl | rfl | rfl | rfl | rfl | rfl | rfl | rfl | rfl <;> exact ⟨by decide +kernel, by decide +kernel⟩
/-- A target is not looked at. -/
theorem fits_target {x : InstrD} (h : goesB x.1 = true) (a : Int) : fitsB (x.1, a, x.2.2) = fitsB x := by
  rw [← args_fits x (goes_is h), ← args_fits (x.1, a, x.2.2) (goes_is h)]
  obtain ⟨h1, h2⟩ := goes_uses h
  have hc : catchB (x.1, a, x.2.2) = catchB x := rfl
  unfold argsB
  simp only [h1, h2, hc, Bool.not_true, Bool.false_and]
end Go.Proofs

/-! Chapter 18: where labels stand. -/
namespace Go.Proofs
open Go Go.Abs
theorem bind_id_some {A B : Type} {m : Option A} : Option.bind m (fun v => some (Sum.inr v : B ⊕ A)) = Option.map Sum.inr m := by cases m <;> rfl
theorem map_inr {A B : Type} {m : Option A} {r : A} (h : m = some r) : Option.map (Sum.inr : A → B ⊕ A) m = some (Sum.inr r) := by rw [h]; rfl
/-- At which instruction's number each label stands; how many instructions there are. -/
abbrev StL : Type := List Int × Int
def badT (st : StL) (x : InstrD) : Prop := goesB x.1 = true ∧ (List.getD st.1 x.2.1.toNat 0 < 0 ∨ List.getD st.1 x.2.1.toNat 0 = st.2)
instance (st : StL) (x : InstrD) : Decidable (badT st x) := by unfold badT; infer_instance
theorem ith_eq {p : List InstrD} {i : Nat} (hi : i < p.length) : p[i] = ith p i := by
  unfold ith
  rw [List.getD_eq_getElem?_getD, List.getElem?_eq_getElem hi]
  rfl
theorem take_ith {p : List InstrD} {i : Nat} (hi : i < p.length) : List.take (i + 1) p = List.take i p ++ [ith p i] := by
  rw [List.take_succ_eq_append_getElem hi, ith_eq hi]
end Go.Proofs
