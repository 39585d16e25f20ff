/- Part of the proof of the law's row: YtlelhklalainfaaWq04a. -/
import Derived.Test.YtlelhklalainfaaWpC04
import Derived.Test.YtlelhklalainfaaWqKit
set_option linter.all false
set_option linter.unusedVariables false
set_option linter.unusedSimpArgs false
/-! Chapter 4: names, templates, fields, numbers of parts. -/
namespace Go.Proofs
open Go Go.Abs
def headB (c : Int) : Bool := (decide (bitv .or .u8 c 32 ≥ 97) && (decide (bitv .or .u8 c 32 ≤ 122)) && decide (c < 128)) || decide (c = 95)
theorem q_isHead (c : Int) : F_tree_isHead (c, ()) = some (headB c, ()) := by
  simp [F_tree_isHead, headB, sel_and, sel_or]
def countedB (op : Int) : Bool := (decide (op ≥ 14) && decide (op ≤ 16)) || decide (op = 23)
theorem q_counted (c : Int) : F_tree_counted (c, ()) = some (countedB c, ()) := by
  simp [F_tree_counted, countedB, sel_and, sel_or]
def arity (op : Int) : Int := if op = 7 ∨ op = 8 then 2 else if (1 ≤ op ∧ op ≤ 6) ∨ op = 17 then 0 else if 8 < op ∧ op ≤ 23 then 1 else -1
theorem q_arity (c : Int) : F_tree_Arity (c, ()) = some (arity c, ()) := by
  simp only [F_tree_Arity, arity, sel_and, sel_or, bind_t]
  simp only [ifsel, Bool.or_eq_true, Bool.and_eq_true, decide_eq_true_eq, ge_iff_le, gt_iff_lt]
  repeat' split
  all_goals first | rfl | (exfalso; omega)
theorem q_arityR (c : Int) : F_ref04_Arity (c, ()) = some (arity c, ()) := by
  simp only [F_ref04_Arity, arity]
  by_cases h : 1 ≤ c ∧ c ≤ 23
  · have : c = 1 ∨ c = 2 ∨ c = 3 ∨ c = 4 ∨ c = 5 ∨ c = 6 ∨ c = 7 ∨ c = 8 ∨ c = 9 ∨ c = 10 ∨ c = 11 ∨ c = 12 ∨ c = 13 ∨ c = 14 ∨ c = 15 ∨ c = 16 ∨ c = 17 ∨ c = 18 ∨ c = 19 ∨ c = 20 ∨ c = 21 ∨ c = 22 ∨ c = 23 := by omega
    rcases this with rfl | rfl | rfl | rfl | rfl | rfl | rfl | rfl | rfl | rfl | rfl | rfl | rfl | rfl | rfl | rfl | rfl | rfl | rfl | rfl | rfl | rfl | rfl <;> simp [sel]
  · simp (disch := omega) only [sel_neg, bind_t, if_neg]
def allFrom (f : Int → Bool) (s : ByteArray) : Nat → Nat → Bool
  | 0, _ => true
  | r + 1, i => if (!f (chr s i)) = true then false else allFrom f s r (i + 1)
def restB (c : Int) : Bool := !(!headB c && (decide (c < 48) || decide (c > 57)))
def nameB (s : ByteArray) : Bool := if (decide (s = ⟨#[]⟩) || decide ((s.size : Int) > 32) || !headB (chr s 0)) = true then false else allFrom restB s s.size 0
theorem size_pos {s : ByteArray} (h : s ≠ ⟨#[]⟩) : 0 < s.size := by
  rcases Nat.eq_zero_or_pos s.size with h0 | h0
  · exfalso
    apply h
    cases s with | mk d => 
      simp only [ByteArray.size] at h0
      rw [Array.size_eq_zero_iff.1 h0]
  · exact h0
theorem allFrom_step {f : Int → Bool} {s : ByteArray} {i : Nat} (hi : i < s.size) : allFrom f s (s.size - i) i = if (!f (chr s i)) = true then false else allFrom f s (s.size - (i + 1)) (i + 1) := by
  rw [show s.size - i = (s.size - (i + 1)) + 1 by omega, allFrom]
theorem q_isName (s : ByteArray) : F_tree_isName (s, ()) = some (nameB s, ()) := by
  unfold F_tree_isName nameB
  simp only [sel_or, bind_t]
  by_cases h1 : s = ⟨#[]⟩
  · subst h1; rfl
  have hp := size_pos h1
  by_cases h2 : (s.size : Int) > 32
  · simp [h1, h2, sel]
  simp (disch := omega) only [need_pos, q_isHead, bind_t]
  simp only [h1, h2, decide_false, Bool.or_false, Bool.false_or, sel_f, bind_t]
  cases hh : headB (chr s 0) with
  | false => rfl
  | true =>
    simp only [Bool.not_true, sel_f, Bool.false_eq_true, if_false]
    refine (loopC_run (I := fun s' => 0 ≤ s'.1.1 ∧ s'.1.1 ≤ (s.size : Int)) (μ := fun s' => s.size - s'.1.1.toNat) (F := fun s' => (allFrom restB s (s.size - s'.1.1.toNat) s'.1.1.toNat, ())) ?_ _ (by simp)).trans (by simp)
    rintro ⟨⟨i, b, ⟨⟩⟩, ⟨⟩⟩ ⟨hi0, hi1⟩
    simp only at hi0 hi1 ⊢
    by_cases hi : i < (s.size : Int)
    · simp (disch := omega) only [sel_pos, need_pos, q_isHead, bind_t, need64, sel_or, bind_id]
      rw [allFrom_step (i := i.toNat) (by omega)]
      unfold restB
      cases headB (chr s i.toNat) <;> simp only [Bool.not_true, Bool.not_false, sel_t, sel_f, bind_t, Bool.true_and, Bool.false_and, if_true, if_false, Bool.false_eq_true, Bool.not_not]
      · cases (decide (chr s i.toNat < 48) || decide (chr s i.toNat > 57)) <;> simp only [Bool.not_true, Bool.not_false, sel_t, sel_f, if_true, if_false, Bool.false_eq_true]
        · exact .inl ⟨_, rfl, ⟨by simp only; omega, by simp only; omega⟩, by simp only; omega, by rw [show (i + 1).toNat = i.toNat + 1 by omega]⟩
        · exact .inr trivial
      · exact .inl ⟨_, rfl, ⟨by simp only; omega, by simp only; omega⟩, by simp only; omega, by rw [show (i + 1).toNat = i.toNat + 1 by omega]⟩
    · simp (disch := omega) only [sel_neg]
      rw [show s.size - i.toNat = 0 by omega]
      exact .inr rfl
def letB (c : Int) : Bool := (((decide (c ≥ 97) && decide (c ≤ 122)) || (decide (c ≥ 65) && decide (c ≤ 90))) || (decide (c ≥ 48) && decide (c ≤ 57))) || decide (c = 95)
def nameR (s : ByteArray) : Bool := if ((decide ((s.size : Int) < 1) || decide ((s.size : Int) > 32)) || (decide (chr s 0 ≥ 48) && decide (chr s 0 ≤ 57))) = true then false else allFrom letB s s.size 0
theorem byte_all {p : Nat → Bool} (h : (List.range 256).all p = true) {n : Nat} (hn : n < 256) : p n = true := by
  rw [List.all_eq_true] at h
  exact h n (by simpa using hn)
theorem restB_let (u : UInt8) : restB (u.toNat : Int) = letB (u.toNat : Int) := by
  have := byte_all (p := fun n => restB (n : Int) == letB (n : Int)) (by kernel_rfl) u.toNat_lt
  simpa using this
theorem headB_let (u : UInt8) : headB (u.toNat : Int) = (letB (u.toNat : Int) && !(decide ((u.toNat : Int) ≥ 48) && decide ((u.toNat : Int) ≤ 57))) := by
  have := byte_all (p := fun n => headB (n : Int) == (letB (n : Int) && !(decide ((n : Int) ≥ 48) && decide ((n : Int) ≤ 57)))) (by kernel_rfl) u.toNat_lt
  simpa using this
theorem allFrom_congr {s : ByteArray} : ∀ (r i : Nat), allFrom restB s r i = allFrom letB s r i
  | 0, _ => rfl
  | r + 1, i => by rw [allFrom, allFrom, restB_let, allFrom_congr r]
theorem nameR_eq (s : ByteArray) : nameR s = nameB s := by
  unfold nameR nameB
  rw [allFrom_congr, headB_let]
  by_cases h0 : s.size = 0
  · have : s = ⟨#[]⟩ := by
      cases s with | mk d =>
        simp only [ByteArray.size] at h0
        rw [Array.size_eq_zero_iff.1 h0]
    rw [if_pos (by simp [h0]), if_pos (by simp [this])]
  · have hne : s ≠ ⟨#[]⟩ := fun e => h0 (by rw [e]; rfl)
    obtain ⟨k, hk⟩ : ∃ k, s.size = k + 1 := ⟨s.size - 1, by omega⟩
    by_cases h32 : (s.size : Int) > 32
    · rw [if_pos (by simp [h32]), if_pos (by simp [h32])]
    · by_cases hd : (decide (chr s 0 ≥ 48) && decide (chr s 0 ≤ 57)) = true
      · rw [if_pos (by rw [hd]; simp), if_pos (by rw [hd]; simp)]
      · rw [Bool.not_eq_true] at hd
        rw [if_neg (by rw [hd]; simp [h32]; omega)]
        by_cases hl : letB (chr s 0) = true
        · rw [if_neg (by rw [hd, hl]; simp [h32, hne])]
        · rw [Bool.not_eq_true] at hl
          rw [if_pos (by rw [hd, hl]; simp), hk, allFrom, if_pos (by rw [hl]; rfl)]
theorem q_nameR (s : ByteArray) : F_ref04_Name (s, ()) = some (nameB s, ()) := by
  rw [← nameR_eq]
  unfold F_ref04_Name nameR
  simp only [sel_or, bind_t]
  by_cases h1 : (s.size : Int) < 1
  · simp [h1, sel]
  by_cases h2 : (s.size : Int) > 32
  · simp [h1, h2, sel]
  simp (disch := omega) only [need_pos, sel_and, bind_t, bind_id, sel_or]
  simp only [h1, h2, decide_false, Bool.or_false, Bool.false_or, sel_f, bind_t]
  cases hh : (decide (chr s 0 ≥ 48) && decide (chr s 0 ≤ 57)) with
  | true => rfl
  | false =>
    simp only [sel_f, Bool.false_eq_true, if_false]
    refine (loopC_run (I := fun s' => 0 ≤ s'.1.1 ∧ s'.1.1 ≤ (s.size : Int)) (μ := fun s' => s.size - s'.1.1.toNat) (F := fun s' => (allFrom letB s (s.size - s'.1.1.toNat) s'.1.1.toNat, ())) ?_ _ (by simp)).trans (by simp)
    rintro ⟨⟨i, b, ⟨⟩⟩, ⟨⟩⟩ ⟨hi0, hi1⟩
    simp only at hi0 hi1 ⊢
    by_cases hi : i < (s.size : Int)
    · simp (disch := omega) only [sel_pos, need_pos, bind_t, need64, sel_or, sel_and, bind_id]
      rw [allFrom_step (i := i.toNat) (by omega)]
      unfold letB
      cases (((decide (chr s i.toNat ≥ 97) && decide (chr s i.toNat ≤ 122)) || (decide (chr s i.toNat ≥ 65) && decide (chr s i.toNat ≤ 90))) || (decide (chr s i.toNat ≥ 48) && decide (chr s i.toNat ≤ 57))) || decide (chr s i.toNat = 95) <;> simp only [Bool.not_true, Bool.not_false, sel_t, sel_f, if_true, if_false, Bool.false_eq_true]
      · exact .inr trivial
      · exact .inl ⟨_, rfl, ⟨by simp only; omega, by simp only; omega⟩, by simp only; omega, by rw [show (i + 1).toNat = i.toNat + 1 by omega]⟩
    · simp (disch := omega) only [sel_neg]
      rw [show s.size - i.toNat = 0 by omega]
      exact .inr rfl
def tmplF (s : ByteArray) : Nat → Nat → Bool
  | 0, _ => true
  | r + 1, i => if i < s.size then
      (if chr s i ≠ 37 then tmplF s r (i + 1)
      else if (decide ((i : Int) + 1 = s.size) || (!decide (chr s (i + 1) = 37) && (decide (chr s (i + 1) < 48) || decide (chr s (i + 1) > 57)))) = true then false
      else tmplF s r (i + 2)) else true
theorem tmplF_more {s : ByteArray} : ∀ {r i : Nat}, s.size ≤ r + i → tmplF s (r + 1) i = tmplF s r i
  | 0, i, h => by
    rw [tmplF.eq_2, if_neg (by omega), tmplF.eq_1]
  | r + 1, i, h => by
    rw [tmplF.eq_2 s i (r + 1), tmplF.eq_2 s i r, tmplF_more (r := r) (i := i + 1) (by omega), tmplF_more (r := r) (i := i + 2) (by omega)]
def tmplB (s : ByteArray) : Bool := if (s.size : Int) > 255 then false else tmplF s s.size 0
theorem tmplF_step {s : ByteArray} {i : Nat} (hi : i < s.size) : tmplF s (s.size - i) i = (if chr s i ≠ 37 then tmplF s (s.size - (i + 1)) (i + 1)
      else if (decide ((i : Int) + 1 = s.size) || (!decide (chr s (i + 1) = 37) && (decide (chr s (i + 1) < 48) || decide (chr s (i + 1) > 57)))) = true then false
      else tmplF s (s.size - (i + 2)) (i + 2)) := by
  rw [show s.size - i = (s.size - (i + 1)) + 1 by omega, tmplF.eq_2, if_pos hi]
  by_cases h : s.size = i + 1
  · rw [show s.size - (i + 1) = 0 by omega, show s.size - (i + 2) = 0 by omega]
  · rw [show s.size - (i + 1) = (s.size - (i + 2)) + 1 by omega, tmplF_more (r := s.size - (i + 2)) (i := i + 2) (by omega)]
theorem q_tmpl (s : ByteArray) : F_tree_isTemplate (s, ()) = some (tmplB s, ()) := by
  unfold F_tree_isTemplate tmplB
  by_cases h1 : (s.size : Int) > 255
  · simp [h1, sel]
  simp only [h1, decide_false, sel_f, if_false]
  refine (loopC_run (I := fun s' => 0 ≤ s'.1.1 ∧ s'.1.1 ≤ (s.size : Int)) (μ := fun s' => s.size - s'.1.1.toNat) (F := fun s' => (tmplF s (s.size - s'.1.1.toNat) s'.1.1.toNat, ())) ?_ _ (by simp)).trans (by simp)
  rintro ⟨⟨i, b, ⟨⟩⟩, ⟨⟩⟩ ⟨hi0, hi1⟩
  simp only at hi0 hi1 ⊢
  by_cases hi : i < (s.size : Int)
  · rw [tmplF_step (i := i.toNat) (by omega)]
    by_cases h37 : chr s i.toNat = 37
    · simp (disch := omega) only [sel_pos, need_pos, bind_t, need64, h37, decide_true, Bool.not_true, sel_f, ne_eq, not_true, if_false]
      by_cases hend : i + 1 = (s.size : Int)
      · simp (disch := omega) only [sel_pos, bind_t, sel_t, hend, decide_true]
        rw [if_pos (by simp; omega)]
        exact .inr rfl
      · have e1 : (i.toNat : Int) + 1 ≠ (s.size : Int) := by omega
        have e2 : (i + 1).toNat = i.toNat + 1 := by omega
        simp (disch := omega) only [sel_neg, need_pos, bind_t, bind_id, sel_or, sel_and, need64, e1, e2, decide_false, Bool.false_or]
        cases (!decide (chr s (i.toNat + 1) = 37) && (decide (chr s (i.toNat + 1) < 48) || decide (chr s (i.toNat + 1) > 57))) <;> simp only [sel_t, sel_f, if_true, if_false, Bool.false_eq_true]
        · exact .inl ⟨_, rfl, ⟨by simp only; omega, by simp only; omega⟩, by simp only; omega, by rw [show (i + 1 + 1).toNat = i.toNat + 2 by omega]⟩
        · exact .inr trivial
    · simp (disch := omega) only [sel_pos, need_pos, bind_t, need64, h37, decide_false, Bool.not_false, sel_t, ne_eq, not_false_eq_true, if_true]
      exact .inl ⟨_, rfl, ⟨by simp only; omega, by simp only; omega⟩, by simp only; omega, by rw [show (i + 1).toNat = i.toNat + 1 by omega]⟩
  · simp (disch := omega) only [sel_neg]
    rw [show s.size - i.toNat = 0 by omega]
    exact .inr rfl
theorem q_tmplR (s : ByteArray) : F_ref04_Template (s, ()) = some (tmplB s, ()) := q_tmpl s
def zset (x : SetD) : Bool := eqSet x zSet
/-- Are a node's fields as its kind asks for? -/
def fieldB (n : NodeD) : Bool :=
  if (!decide (n.1 = 5) && !zset n.2.2.2.1) = true then false
  else if ((decide (n.2.1 < 0) || decide (n.2.1 > 50)) || (decide (n.2.1 > 0) && !countedB n.1)) = true then false
  else if n.1 = 4 then !decide (n.2.2.1 = ⟨#[]⟩) && decide ((n.2.2.1.size : Int) ≤ 255)
  else if n.1 = 6 then nameB n.2.2.1
  else if n.1 = 19 then decide (n.2.2.1 = ⟨#[]⟩) || nameB n.2.2.1
  else if n.1 = 22 then tmplB n.2.2.1
  else decide (n.2.2.1 = ⟨#[]⟩)
theorem q_fields (n : NodeD) : F_tree_fields (n, ()) = some (fieldB n, ()) := by
  unfold F_tree_fields fieldB zset
  simp only [q_counted, q_isName, q_tmpl, sel_and, sel_or, bind_t, bind_id]
  cases (!decide (n.1 = 5) && !eqSet n.2.2.2.1 zSet) <;> simp only [sel_t, sel_f, if_true, if_false, Bool.false_eq_true]
  cases ((decide (n.2.1 < 0) || decide (n.2.1 > 50)) || (decide (n.2.1 > 0) && !countedB n.1)) <;> simp only [sel_t, sel_f, if_true, if_false, Bool.false_eq_true]
  simp only [ifsel, decide_eq_true_eq]
  repeat' split
  all_goals rfl
theorem text_ge (text : ByteArray) : (decide ((text.size : Int) ≥ 1)) = !decide (text = ⟨#[]⟩) := by
  by_cases h : text = ⟨#[]⟩
  · subst h; rfl
  · have := size_pos h
    simp [h]
    omega
theorem counted_is (c : Int) : ((((decide (c = 14) || decide (c = 15)) || decide (c = 16))) || decide (c = 23)) = countedB c := by
  rw [Bool.eq_iff_iff]
  simp [countedB]
  omega
theorem q_fieldR (n : NodeD) : F_ref04_Field (n, ()) = some (fieldB n, ()) := by
  unfold F_ref04_Field fieldB zset
  simp only [q_nameR, q_tmplR, sel_and, sel_or, bind_t, bind_id, counted_is, text_ge]
  cases (!decide (n.1 = 5) && !eqSet n.2.2.2.1 zSet) <;> simp only [sel_t, sel_f, if_true, if_false, Bool.false_eq_true]
  have e : ((decide (n.2.1 < 0) || decide (n.2.1 > 50)) || (!countedB n.1 && !decide (n.2.1 = 0))) = ((decide (n.2.1 < 0) || decide (n.2.1 > 50)) || (decide (n.2.1 > 0) && !countedB n.1)) := by
    rw [Bool.eq_iff_iff]
    simp
    cases countedB n.1 <;> simp <;> omega
  rw [e]
  cases ((decide (n.2.1 < 0) || decide (n.2.1 > 50)) || (decide (n.2.1 > 0) && !countedB n.1)) <;> simp only [sel_t, sel_f, if_true, if_false, Bool.false_eq_true]
  simp only [ifsel, decide_eq_true_eq]
  repeat' split
  all_goals rfl
end Go.Proofs
