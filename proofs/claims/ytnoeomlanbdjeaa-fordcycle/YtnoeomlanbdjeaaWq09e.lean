/- Part of the proof of the law's row: YtnoeomlanbdjeaaWq09e. -/
import Derived.Test.YtnoeomlanbdjeaaWpC09
import Derived.Test.YtnoeomlanbdjeaaWq08b
set_option linter.all false
set_option linter.unusedVariables false
set_option linter.unusedSimpArgs false
/-! Chapter 9: what is known of a node by what is known of its parts. -/
namespace Go.Proofs
open Go Go.Abs
set_option linter.unusedSimpArgs false
abbrev Em := EmptinessD
theorem pb_true : pb True = true := pb_t trivial
theorem pb_false : pb False = false := pb_f (fun h => h)
def mkE (n f : Bool) (l m : Int) : Em := (n, f, l, m, ())
def sumL (a b : Int) : Int := if a = -1 ∨ b = -1 then -1 else min (a + b) 1048576
def sumM (a b : Int) : Int := if a = -1 ∨ b = -1 then -1 else if a + b > 1048576 then -1 else a + b
def mulL (n a : Int) : Int := if a = -1 then -1 else min (n * a) 1048576
def mulM (n a : Int) : Int := if a = -1 then -1 else if n * a > 1048576 then -1 else n * a
def loopM (m : Int) : Int := if m = 0 then 0 else -1
def minL (a b : Int) : Int := if a = -1 then b else if b = -1 then a else min a b
def maxM (a b : Int) : Int := if a = -1 ∨ b = -1 then -1 else max a b
def rowE (a b : Em) : Em := mkE (a.1 && b.1) (a.2.1 || b.2.1) (sumL a.2.2.1 b.2.2.1) (sumM a.2.2.2.1 b.2.2.2.1)
def eitherE (a b : Em) : Em := mkE (a.1 || b.1) (a.2.1 && b.2.1) (minL a.2.2.1 b.2.2.1) (maxM a.2.2.2.1 b.2.2.2.1)
def countE (n : NodeD) (a : Em) : Em :=
  if n.2.1 = 0 then (if n.1 = 15 then mkE true false 0 (loopM a.2.2.2.1) else mkE true false 0 0)
  else if n.1 = 14 then mkE a.1 a.2.1 (mulL n.2.1 a.2.2.1) (mulM n.2.1 a.2.2.2.1)
  else if n.1 = 15 then mkE a.1 a.2.1 (mulL n.2.1 a.2.2.1) (loopM a.2.2.2.1)
  else mkE true false 0 (mulM n.2.1 a.2.2.2.1)
def oneE (n : NodeD) (a : Em) : Em :=
  if n.1 = 1 ∨ n.1 = 17 then mkE true false 0 0
  else if n.1 = 2 then mkE false true (-1) 0
  else if n.1 = 3 ∨ n.1 = 5 then mkE false true 1 1
  else if n.1 = 4 then mkE false true (n.2.2.1.size : Int) (n.2.2.1.size : Int)
  else if n.1 = 9 then mkE true false 0 (loopM a.2.2.2.1)
  else if n.1 = 10 then mkE a.1 a.2.1 a.2.2.1 (loopM a.2.2.2.1)
  else if n.1 = 11 then mkE true false 0 a.2.2.2.1
  else if n.1 = 12 then mkE true a.2.1 0 0
  else if n.1 = 13 then mkE true true 0 0
  else if n.1 = 14 ∨ n.1 = 15 ∨ n.1 = 16 then countE n a
  else a
/-- A node, by what is known of a called rule and of its parts. -/
def nodeE (n : NodeD) (c a b : Em) : Em := if n.1 = 6 then c else if n.1 = 7 then rowE a b else if n.1 = 8 then eitherE a b else oneE n a
/-- Lengths are as they may be. -/
def RgE (a : Em) : Prop := -1 ≤ a.2.2.1 ∧ a.2.2.1 ≤ 1048576 ∧ -1 ≤ a.2.2.2.1 ∧ a.2.2.2.1 ≤ 1048576
theorem rg_zero : RgE zEmptiness := by simp [RgE, zEmptiness]
def op23 (k : Int) : Prop := k = 1 ∨ k = 2 ∨ k = 3 ∨ k = 4 ∨ k = 5 ∨ k = 6 ∨ k = 7 ∨ k = 8 ∨ k = 9 ∨ k = 10 ∨ k = 11 ∨ k = 12 ∨ k = 13 ∨ k = 14 ∨ k = 15 ∨ k = 16 ∨ k = 17 ∨ k = 18 ∨ k = 19 ∨ k = 20 ∨ k = 21 ∨ k = 22 ∨ k = 23
theorem op23_of {k : Int} (h : 0 ≤ arity k) : op23 k := by
  unfold arity at h
  unfold op23
  split at h
  · omega
  · split at h
    · omega
    · split at h
      · omega
      · omega
/-- A node's number, where it counts. -/
def NOk (n : NodeD) : Prop := n.1 = 14 ∨ n.1 = 15 ∨ n.1 = 16 → 0 ≤ n.2.1 ∧ n.2.1 ≤ 50
theorem q_sumL {a b : Int} (ha : -1 ≤ a ∧ a ≤ 1048576) (hb : -1 ≤ b ∧ b ≤ 1048576) : F_gist_sum_capped (a, b, ()) = some (sumL a b, ()) := by
  unfold F_gist_sum_capped F_gist_capped sumL
  simp only [toPb]
  by_cases h1 : a = -1
  · simp only [pos h1, bind_t, sel_t, if_pos (Or.inl h1)]
  · by_cases h2 : b = -1
    · simp only [neg h1, bind_t, pb_t h2, sel_t, if_pos (Or.inr h2)]
    · simp (disch := omega) only [neg h1, bind_t, pb_f h2, sel_f, need64, if_neg (show ¬(a = -1 ∨ b = -1) by omega)]
theorem q_sumM {a b : Int} (ha : -1 ≤ a ∧ a ≤ 1048576) (hb : -1 ≤ b ∧ b ≤ 1048576) : F_gist_sum_bounded (a, b, ()) = some (sumM a b, ()) := by
  unfold F_gist_sum_bounded F_gist_bounded sumM
  simp only [toPb]
  by_cases h1 : a = -1
  · simp only [pos h1, bind_t, sel_t, if_pos (Or.inl h1)]
  · by_cases h2 : b = -1
    · simp only [neg h1, bind_t, pb_t h2, sel_t, if_pos (Or.inr h2)]
    · by_cases h3 : a + b > 1048576
      · simp (disch := omega) only [neg h1, bind_t, pb_f h2, sel_f, need64, if_neg (show ¬(a = -1 ∨ b = -1) by omega), pos h3, if_pos h3]
      · simp (disch := omega) only [neg h1, bind_t, pb_f h2, sel_f, need64, if_neg (show ¬(a = -1 ∨ b = -1) by omega), neg h3, if_neg h3]
theorem mul_le50 {n a : Int} (hn : 0 ≤ n ∧ n ≤ 50) (ha : 0 ≤ a ∧ a ≤ 1048576) : 0 ≤ n * a ∧ n * a ≤ 52428800 := by
  refine ⟨Int.mul_nonneg hn.1 ha.1, ?_⟩
  have h1 : n * a ≤ 50 * a := Int.mul_le_mul_of_nonneg_right hn.2 ha.1
  omega
theorem q_mulL {n a : Int} (hn : 0 ≤ n ∧ n ≤ 50) (ha : -1 ≤ a ∧ a ≤ 1048576) : F_gist_times_capped (n, a, ()) = some (mulL n a, ()) := by
  unfold F_gist_times_capped F_gist_capped mulL
  simp only [toPb]
  by_cases h1 : a = -1
  · simp only [pos h1, if_pos h1]
  · have hm := mul_le50 hn (show 0 ≤ a ∧ a ≤ 1048576 by omega)
    generalize n * a = m at hm
    simp (disch := omega) only [neg h1, need64, bind_t, if_neg h1]
theorem q_mulM {n a : Int} (hn : 0 ≤ n ∧ n ≤ 50) (ha : -1 ≤ a ∧ a ≤ 1048576) : F_gist_times_bounded (n, a, ()) = some (mulM n a, ()) := by
  unfold F_gist_times_bounded F_gist_bounded mulM
  simp only [toPb]
  by_cases h1 : a = -1
  · simp only [pos h1, if_pos h1]
  · have hm := mul_le50 hn (show 0 ≤ a ∧ a ≤ 1048576 by omega)
    generalize n * a = m at hm
    by_cases h3 : m > 1048576
    · simp (disch := omega) only [neg h1, need64, bind_t, if_neg h1, pos h3, if_pos h3]
    · simp (disch := omega) only [neg h1, need64, bind_t, if_neg h1, neg h3, if_neg h3]
theorem q_loopM (a : Em) : F_gist_loop (a, ()) = some (loopM a.2.2.2.1, ()) := by
  unfold F_gist_loop loopM
  simp only [toPb]
  by_cases h1 : a.2.2.2.1 = 0
  · simp only [pos h1, if_pos h1]
  · simp only [neg h1, if_neg h1]
theorem q_rowE {a b : Em} (ha : RgE a) (hb : RgE b) : F_gist_row (a, b, ()) = some (rowE a b, ()) := by
  unfold F_gist_row rowE mkE
  obtain ⟨a1, a2, a3, a4⟩ := ha
  obtain ⟨b1, b2, b3, b4⟩ := hb
  rw [q_sumL ⟨a1, a2⟩ ⟨b1, b2⟩, q_sumM ⟨a3, a4⟩ ⟨b3, b4⟩]
  simp only [sel_or, sel_and, bind_t]
theorem q_eitherE (a b : Em) : F_gist_either (a, b, ()) = some (eitherE a b, ()) := by
  obtain ⟨an, af, al, am, _⟩ := a
  obtain ⟨bn, bf, bl, bm, _⟩ := b
  unfold F_gist_either eitherE mkE minL maxM
  simp only [toPb]
  by_cases h1 : al = -1
  · by_cases m1 : am = -1
    · cases an <;> cases af <;> simp [h1, m1, pb_true, pb_false, sel_t, sel_f, bind_t]
    · by_cases m2 : bm = -1
      · cases an <;> cases af <;> simp [h1, m1, m2, pb_true, pb_false, sel_t, sel_f, bind_t]
      · cases an <;> cases af <;> simp [h1, m1, m2, pb_true, pb_false, sel_t, sel_f, bind_t]
  · by_cases h2 : bl = -1
    · by_cases m1 : am = -1
      · cases an <;> cases af <;> simp [h1, h2, m1, pb_true, pb_false, sel_t, sel_f, bind_t]
      · by_cases m2 : bm = -1
        · cases an <;> cases af <;> simp [h1, h2, m1, m2, pb_true, pb_false, sel_t, sel_f, bind_t]
        · cases an <;> cases af <;> simp [h1, h2, m1, m2, pb_true, pb_false, sel_t, sel_f, bind_t]
    · by_cases h3 : bl < al
      · have e : min al bl = bl := by omega
        by_cases m1 : am = -1
        · cases an <;> cases af <;> simp [h1, h2, h3, e, m1, pb_true, pb_false, sel_t, sel_f, bind_t]
        · by_cases m2 : bm = -1
          · cases an <;> cases af <;> simp [h1, h2, h3, e, m1, m2, pb_true, pb_false, sel_t, sel_f, bind_t]
          · cases an <;> cases af <;> simp [h1, h2, h3, e, m1, m2, pb_true, pb_false, sel_t, sel_f, bind_t]
      · have e : min al bl = al := by omega
        by_cases m1 : am = -1
        · cases an <;> cases af <;> simp [h1, h2, h3, e, m1, pb_true, pb_false, sel_t, sel_f, bind_t]
        · by_cases m2 : bm = -1
          · cases an <;> cases af <;> simp [h1, h2, h3, e, m1, m2, pb_true, pb_false, sel_t, sel_f, bind_t]
          · cases an <;> cases af <;> simp [h1, h2, h3, e, m1, m2, pb_true, pb_false, sel_t, sel_f, bind_t]
theorem q_countE {n : NodeD} {a : Em} (hk : n.1 = 14 ∨ n.1 = 15 ∨ n.1 = 16) (hn : 0 ≤ n.2.1 ∧ n.2.1 ≤ 50) (ha : RgE a) : F_gist_counted (n, a, ()) = some (countE n a, ()) := by
  unfold F_gist_counted countE mkE
  obtain ⟨a1, a2, a3, a4⟩ := ha
  rw [q_mulL hn ⟨a1, a2⟩, q_mulM hn ⟨a3, a4⟩, q_loopM]
  simp only [toPb, bind_t]
  by_cases h0 : n.2.1 = 0 <;> rcases hk with h | h | h <;> simp [h0, h, pb_true, pb_false, sel_t, sel_f, bind_t]
theorem q_oneE {n : NodeD} {a : Em} (ho : op23 n.1) (h6 : n.1 ≠ 6 ∧ n.1 ≠ 7 ∧ n.1 ≠ 8) (hn : NOk n) (ha : RgE a) : F_gist_one (n, a, ()) = some (oneE n a, ()) := by
  unfold F_gist_one oneE
  by_cases hk : n.1 = 14 ∨ n.1 = 15 ∨ n.1 = 16
  · have hc := q_countE hk (hn hk) ha
    rcases hk with h | h | h <;> simp [toPb, h, pb_true, pb_false, sel_t, sel_f, bind_t, hc]
  · rcases ho with h | h | h | h | h | h | h | h | h | h | h | h | h | h | h | h | h | h | h | h | h | h | h <;> first | (exact absurd (Or.inl h) hk) | (exact absurd (Or.inr (Or.inl h)) hk) | (exact absurd (Or.inr (Or.inr h)) hk) | (exact absurd h h6.1) | (exact absurd h h6.2.1) | (exact absurd h h6.2.2) | (simp [toPb, h, pb_true, pb_false, sel_t, sel_f, bind_t, F_gist_atom, q_loopM, mkE])
end Go.Proofs

/-! Chapter 9: what is known grows, and is as it must be. -/
namespace Go.Proofs
open Go Go.Abs
set_option linter.unusedSimpArgs false
def lenOf (a : Int) : Int := if a = -1 then 1048577 else a
/-- As much is known, or more. -/
def leE (a b : Em) : Prop := (a.1 = true → b.1 = true) ∧ (a.2.1 = true → b.2.1 = true) ∧ lenOf b.2.2.1 ≤ lenOf a.2.2.1 ∧ lenOf b.2.2.2.1 ≤ lenOf a.2.2.2.1
theorem leE.refl (a : Em) : leE a a := ⟨fun h => h, fun h => h, Int.le_refl _, Int.le_refl _⟩
/-- A node of a right pattern. -/
structure NodeOk (n : NodeD) : Prop where
  op : op23 n.1
  cnt : NOk n
  txt : n.1 = 4 → 1 ≤ (n.2.2.1.size : Int) ∧ (n.2.2.1.size : Int) ≤ 255
theorem rg_node {n : NodeD} {c a b : Em} (hn : NodeOk n) (hc : n.1 = 6 → RgE c) (ha : RgE a) (hb : RgE b) : RgE (nodeE n c a b) := by
  obtain ⟨a1, a2, a3, a4⟩ := ha
  obtain ⟨b1, b2, b3, b4⟩ := hb
  have mul := fun (x : Int) (h1 : 0 ≤ x ∧ x ≤ 1048576) (hk : 0 ≤ n.2.1 ∧ n.2.1 ≤ 50) => mul_le50 hk h1
  have hmL : ∀ x : Int, -1 ≤ x → x ≤ 1048576 → 0 ≤ n.2.1 ∧ n.2.1 ≤ 50 → -1 ≤ mulL n.2.1 x ∧ mulL n.2.1 x ≤ 1048576 := fun x h1 h2 hk => by
    unfold mulL
    split
    · omega
    · have := mul x (by omega) hk
      omega
  have hmM : ∀ x : Int, -1 ≤ x → x ≤ 1048576 → 0 ≤ n.2.1 ∧ n.2.1 ≤ 50 → -1 ≤ mulM n.2.1 x ∧ mulM n.2.1 x ≤ 1048576 := fun x h1 h2 hk => by
    unfold mulM
    split
    · omega
    · have := mul x (by omega) hk
      split <;> omega
  have hlp : -1 ≤ loopM a.2.2.2.1 ∧ loopM a.2.2.2.1 ≤ 1048576 := by unfold loopM; split <;> omega
  unfold nodeE
  split
  · rename_i h; exact hc h
  split
  · unfold rowE mkE RgE sumL sumM
    refine ⟨?_, ?_, ?_, ?_⟩ <;> simp only <;> repeat' split
    all_goals omega
  split
  · unfold eitherE mkE RgE minL maxM
    refine ⟨?_, ?_, ?_, ?_⟩ <;> simp only <;> repeat' split
    all_goals omega
  unfold oneE
  split
  · simp [RgE, mkE]
  split
  · simp [RgE, mkE]
  split
  · simp [RgE, mkE]
  split
  · rename_i h
    have := hn.txt h
    unfold RgE mkE
    simp only
    omega
  split
  · simp only [RgE, mkE]; omega
  split
  · simp only [RgE, mkE]; omega
  split
  · simp only [RgE, mkE]; omega
  split
  · simp only [RgE, mkE]; omega
  split
  · simp only [RgE, mkE]; omega
  split
  · rename_i h
    have hk := hn.cnt h
    have h1 := hmL _ a1 a2 hk
    have h2 := hmM _ a3 a4 hk
    unfold countE RgE mkE
    repeat' split
    all_goals (simp only; omega)
  · exact ⟨a1, a2, a3, a4⟩
theorem len_sumL {x y : Int} (hx : -1 ≤ x) (hy : -1 ≤ y) : lenOf (sumL x y) = if x = -1 ∨ y = -1 then 1048577 else min (x + y) 1048576 := by
  unfold sumL lenOf
  repeat' split
  all_goals omega
theorem len_sumM {x y : Int} (hx : -1 ≤ x) (hy : -1 ≤ y) : lenOf (sumM x y) = if x = -1 ∨ y = -1 ∨ x + y > 1048576 then 1048577 else x + y := by
  unfold sumM lenOf
  repeat' split
  all_goals omega
theorem len_minL {x y : Int} (hx : -1 ≤ x ∧ x ≤ 1048576) (hy : -1 ≤ y ∧ y ≤ 1048576) : lenOf (minL x y) = min (lenOf x) (lenOf y) := by
  unfold minL lenOf
  repeat' split
  all_goals omega
theorem len_maxM {x y : Int} (hx : -1 ≤ x ∧ x ≤ 1048576) (hy : -1 ≤ y ∧ y ≤ 1048576) : lenOf (maxM x y) = max (lenOf x) (lenOf y) := by
  unfold maxM lenOf
  repeat' split
  all_goals omega
theorem mono_sumL {a b a' b' : Int} (ha : -1 ≤ a ∧ -1 ≤ b ∧ -1 ≤ a' ∧ -1 ≤ b') (h1 : lenOf a' ≤ lenOf a) (h2 : lenOf b' ≤ lenOf b) (ha2 : a ≤ 1048576) (hb2 : b ≤ 1048576) : lenOf (sumL a' b') ≤ lenOf (sumL a b) := by
  rw [len_sumL ha.2.2.1 ha.2.2.2, len_sumL ha.1 ha.2.1]
  unfold lenOf at h1 h2
  by_cases h : a = -1 ∨ b = -1
  · rw [if_pos h]; split <;> omega
  · rw [if_neg h]
    rw [if_neg (show ¬a = -1 by omega)] at h1
    rw [if_neg (show ¬b = -1 by omega)] at h2
    have k1 : a' ≠ -1 := by intro e; rw [if_pos e] at h1; omega
    have k2 : b' ≠ -1 := by intro e; rw [if_pos e] at h2; omega
    rw [if_neg k1] at h1
    rw [if_neg k2] at h2
    rw [if_neg (by omega)]
    omega
theorem mono_sumM {a b a' b' : Int} (ha : -1 ≤ a ∧ -1 ≤ b ∧ -1 ≤ a' ∧ -1 ≤ b') (h1 : lenOf a' ≤ lenOf a) (h2 : lenOf b' ≤ lenOf b) (ha2 : a ≤ 1048576) (hb2 : b ≤ 1048576) : lenOf (sumM a' b') ≤ lenOf (sumM a b) := by
  rw [len_sumM ha.2.2.1 ha.2.2.2, len_sumM ha.1 ha.2.1]
  unfold lenOf at h1 h2
  by_cases h : a = -1 ∨ b = -1 ∨ a + b > 1048576
  · rw [if_pos h]; split <;> omega
  · rw [if_neg h]
    rw [if_neg (show ¬a = -1 by omega)] at h1
    rw [if_neg (show ¬b = -1 by omega)] at h2
    have k1 : a' ≠ -1 := by intro e; rw [if_pos e] at h1; omega
    have k2 : b' ≠ -1 := by intro e; rw [if_pos e] at h2; omega
    rw [if_neg k1] at h1
    rw [if_neg k2] at h2
    rw [if_neg (by omega)]
    omega
theorem mono_minL {a b a' b' : Int} (ha : -1 ≤ a ∧ -1 ≤ b ∧ -1 ≤ a' ∧ -1 ≤ b') (h1 : lenOf a' ≤ lenOf a) (h2 : lenOf b' ≤ lenOf b) (hh : a ≤ 1048576 ∧ b ≤ 1048576 ∧ a' ≤ 1048576 ∧ b' ≤ 1048576) : lenOf (minL a' b') ≤ lenOf (minL a b) := by
  rw [len_minL ⟨ha.2.2.1, hh.2.2.1⟩ ⟨ha.2.2.2, hh.2.2.2⟩, len_minL ⟨ha.1, hh.1⟩ ⟨ha.2.1, hh.2.1⟩]
  omega
theorem mono_maxM {a b a' b' : Int} (ha : -1 ≤ a ∧ -1 ≤ b ∧ -1 ≤ a' ∧ -1 ≤ b') (h1 : lenOf a' ≤ lenOf a) (h2 : lenOf b' ≤ lenOf b) (hh : a ≤ 1048576 ∧ b ≤ 1048576 ∧ a' ≤ 1048576 ∧ b' ≤ 1048576) : lenOf (maxM a' b') ≤ lenOf (maxM a b) := by
  rw [len_maxM ⟨ha.2.2.1, hh.2.2.1⟩ ⟨ha.2.2.2, hh.2.2.2⟩, len_maxM ⟨ha.1, hh.1⟩ ⟨ha.2.1, hh.2.1⟩]
  omega
theorem mono_loopM {a a' : Int} (ha : -1 ≤ a ∧ -1 ≤ a') (h1 : lenOf a' ≤ lenOf a) : lenOf (loopM a') ≤ lenOf (loopM a) := by
  unfold lenOf at h1
  unfold loopM
  by_cases h : a = 0
  · rw [if_pos h]
    rw [if_neg (show ¬a = -1 by omega)] at h1
    have : a' = 0 := by
      by_cases e : a' = -1
      · rw [if_pos e] at h1; omega
      · rw [if_neg e] at h1; omega
    rw [if_pos this]
    exact Int.le_refl _
  · rw [if_neg h]
    by_cases h2 : a' = 0
    · rw [if_pos h2]; decide
    · rw [if_neg h2]; exact Int.le_refl _
theorem mono_mulL {n a a' : Int} (hk : 0 ≤ n ∧ n ≤ 50) (ha : -1 ≤ a ∧ a ≤ 1048576) (ha' : -1 ≤ a' ∧ a' ≤ 1048576) (h1 : lenOf a' ≤ lenOf a) : lenOf (mulL n a') ≤ lenOf (mulL n a) := by
  unfold lenOf at h1
  by_cases e1 : a = -1
  · have : lenOf (mulL n a) = 1048577 := by unfold mulL; rw [if_pos e1]; rfl
    rw [this]
    unfold mulL lenOf
    by_cases e2 : a' = -1
    · rw [if_pos e2]; decide
    · have := mul_le50 hk (show 0 ≤ a' ∧ a' ≤ 1048576 by omega)
      rw [if_neg e2]
      split <;> omega
  · rw [if_neg e1] at h1
    have e2 : a' ≠ -1 := by intro e; rw [if_pos e] at h1; omega
    rw [if_neg e2] at h1
    have m1 := mul_le50 hk (show 0 ≤ a' ∧ a' ≤ 1048576 by omega)
    have m2 := mul_le50 hk (show 0 ≤ a ∧ a ≤ 1048576 by omega)
    have m3 := Int.mul_le_mul_of_nonneg_left h1 hk.1
    unfold mulL lenOf
    rw [if_neg e1, if_neg e2, if_neg (by omega), if_neg (by omega)]
    omega
theorem mono_mulM {n a a' : Int} (hk : 0 ≤ n ∧ n ≤ 50) (ha : -1 ≤ a ∧ a ≤ 1048576) (ha' : -1 ≤ a' ∧ a' ≤ 1048576) (h1 : lenOf a' ≤ lenOf a) : lenOf (mulM n a') ≤ lenOf (mulM n a) := by
  unfold lenOf at h1
  have e : ∀ x : Int, 0 ≤ x ∧ x ≤ 1048576 → lenOf (mulM n x) = if n * x > 1048576 then 1048577 else n * x := fun x hx => by
    have := mul_le50 hk hx
    unfold mulM lenOf
    rw [if_neg (show ¬x = -1 by omega)]
    repeat' split
    all_goals omega
  by_cases e1 : a = -1
  · have : lenOf (mulM n a) = 1048577 := by unfold mulM; rw [if_pos e1]; rfl
    rw [this]
    by_cases e2 : a' = -1
    · unfold mulM; rw [if_pos e2]; decide
    · rw [e a' (by omega)]
      split <;> omega
  · rw [if_neg e1] at h1
    have e2 : a' ≠ -1 := by intro e; rw [if_pos e] at h1; omega
    rw [if_neg e2] at h1
    rw [e a' (by omega), e a (by omega)]
    have m3 := Int.mul_le_mul_of_nonneg_left h1 hk.1
    split <;> split <;> omega
theorem mono_node {n : NodeD} {c a b c' a' b' : Em} (hn : NodeOk n) (hc : leE c c') (ha : leE a a') (hb : leE b b') (ra : RgE a) (rb : RgE b) (ra' : RgE a') (rb' : RgE b') : leE (nodeE n c a b) (nodeE n c' a' b') := by
  obtain ⟨a1, a2, a3, a4⟩ := ra
  obtain ⟨b1, b2, b3, b4⟩ := rb
  obtain ⟨a1', a2', a3', a4'⟩ := ra'
  obtain ⟨b1', b2', b3', b4'⟩ := rb'
  have ha0 := ha
  obtain ⟨p1, p2, p3, p4⟩ := ha
  obtain ⟨q1, q2, q3, q4⟩ := hb
  have hlp : lenOf (loopM a'.2.2.2.1) ≤ lenOf (loopM a.2.2.2.1) := mono_loopM ⟨a3, a3'⟩ p4
  unfold nodeE
  by_cases h6 : n.1 = 6
  · rw [if_pos h6, if_pos h6]; exact hc
  rw [if_neg h6, if_neg h6]
  by_cases h7 : n.1 = 7
  · rw [if_pos h7, if_pos h7]
    unfold rowE mkE leE
    simp only [Bool.and_eq_true, Bool.or_eq_true]
    exact ⟨fun h => ⟨p1 h.1, q1 h.2⟩, fun h => h.imp p2 q2, mono_sumL ⟨a1, b1, a1', b1'⟩ p3 q3 a2 b2, mono_sumM ⟨a3, b3, a3', b3'⟩ p4 q4 a4 b4⟩
  rw [if_neg h7, if_neg h7]
  by_cases h8 : n.1 = 8
  · rw [if_pos h8, if_pos h8]
    unfold eitherE mkE leE
    simp only [Bool.and_eq_true, Bool.or_eq_true]
    exact ⟨fun h => h.imp p1 q1, fun h => ⟨p2 h.1, q2 h.2⟩, mono_minL ⟨a1, b1, a1', b1'⟩ p3 q3 ⟨a2, b2, a2', b2'⟩, mono_maxM ⟨a3, b3, a3', b3'⟩ p4 q4 ⟨a4, b4, a4', b4'⟩⟩
  rw [if_neg h8, if_neg h8]
  unfold oneE
  by_cases h1 : n.1 = 1 ∨ n.1 = 17
  · rw [if_pos h1, if_pos h1]; exact leE.refl _
  rw [if_neg h1, if_neg h1]
  by_cases h2 : n.1 = 2
  · rw [if_pos h2, if_pos h2]; exact leE.refl _
  rw [if_neg h2, if_neg h2]
  by_cases h3 : n.1 = 3 ∨ n.1 = 5
  · rw [if_pos h3, if_pos h3]; exact leE.refl _
  rw [if_neg h3, if_neg h3]
  by_cases h4 : n.1 = 4
  · rw [if_pos h4, if_pos h4]; exact leE.refl _
  rw [if_neg h4, if_neg h4]
  by_cases h9 : n.1 = 9
  · rw [if_pos h9, if_pos h9]; exact ⟨fun h => h, fun h => h, Int.le_refl _, hlp⟩
  rw [if_neg h9, if_neg h9]
  by_cases h10 : n.1 = 10
  · rw [if_pos h10, if_pos h10]; exact ⟨p1, p2, p3, hlp⟩
  rw [if_neg h10, if_neg h10]
  by_cases h11 : n.1 = 11
  · rw [if_pos h11, if_pos h11]; exact ⟨fun h => h, fun h => h, Int.le_refl _, p4⟩
  rw [if_neg h11, if_neg h11]
  by_cases h12 : n.1 = 12
  · rw [if_pos h12, if_pos h12]; exact ⟨fun h => h, p2, Int.le_refl _, Int.le_refl _⟩
  rw [if_neg h12, if_neg h12]
  by_cases h13 : n.1 = 13
  · rw [if_pos h13, if_pos h13]; exact leE.refl _
  rw [if_neg h13, if_neg h13]
  by_cases hc : n.1 = 14 ∨ n.1 = 15 ∨ n.1 = 16
  · rw [if_pos hc, if_pos hc]
    have hk := hn.cnt hc
    have hmL := mono_mulL hk ⟨a1, a2⟩ ⟨a1', a2'⟩ p3
    have hmM := mono_mulM hk ⟨a3, a4⟩ ⟨a3', a4'⟩ p4
    unfold countE
    by_cases h0 : n.2.1 = 0
    · rw [if_pos h0, if_pos h0]
      by_cases h15 : n.1 = 15
      · rw [if_pos h15, if_pos h15]; exact ⟨fun h => h, fun h => h, Int.le_refl _, hlp⟩
      · rw [if_neg h15, if_neg h15]; exact leE.refl _
    · rw [if_neg h0, if_neg h0]
      by_cases h14 : n.1 = 14
      · rw [if_pos h14, if_pos h14]; exact ⟨p1, p2, hmL, hmM⟩
      rw [if_neg h14, if_neg h14]
      by_cases h15 : n.1 = 15
      · rw [if_pos h15, if_pos h15]; exact ⟨p1, p2, hmL, hlp⟩
      · rw [if_neg h15, if_neg h15]; exact ⟨fun h => h, fun h => h, Int.le_refl _, hmM⟩
  · rw [if_neg hc, if_neg hc]; exact ha0
end Go.Proofs

/-! Chapter 8: rising lists, walks over maps, what calls what. -/
namespace Go.Abs
end Go.Abs
namespace Go.Proofs
open Go Go.Abs
/-! ### Rising lists -/
/-- The numbers below 'n' of which something holds, rising. -/
noncomputable def listP (n : Nat) (p : Nat → Prop) : List Int := ((List.range n).filter fun i => pb (p i)).map fun (i : Nat) => (i : Int)
theorem mem_listP {n : Nat} {p : Nat → Prop} {k : Int} : k ∈ listP n p ↔ ∃ i : Nat, k = (i : Int) ∧ i < n ∧ p i := by
  unfold listP
  simp only [List.mem_map, List.mem_filter, List.mem_range, pb_iff]
  exact ⟨fun ⟨i, ⟨h1, h2⟩, h3⟩ => ⟨i, h3.symm, h1, h2⟩, fun ⟨i, h1, h2, h3⟩ => ⟨i, ⟨h2, h3⟩, h1.symm⟩⟩
theorem mem_listP_nat {n : Nat} {p : Nat → Prop} {i : Nat} : (i : Int) ∈ listP n p ↔ i < n ∧ p i := by
  rw [mem_listP]
  exact ⟨fun ⟨j, h1, h2⟩ => by have : i = j := by omega
                               subst this; exact h2, fun h => ⟨i, rfl, h⟩⟩
theorem listP_rising (n : Nat) (p : Nat → Prop) : (listP n p).Pairwise (· < ·) := by
  unfold listP
  rw [List.pairwise_map]
  exact (List.pairwise_lt_range.filter _).imp fun h => by omega
theorem rising_nodup {l : List Int} (h : l.Pairwise (· < ·)) : l.Nodup := h.imp fun h => by omega
theorem listP_len {n : Nat} {p : Nat → Prop} : (listP n p).length ≤ n := by
  unfold listP
  rw [List.length_map]
  have := List.length_filter_le (fun i => pb (p i)) (List.range n)
  simpa using this
def sortI (l : List Int) : List Int := l.mergeSort (fun a b => decide (a ≤ b))
theorem sortI_perm (l : List Int) : (sortI l).Perm l := List.mergeSort_perm _ _
theorem sortI_sorted (l : List Int) : (sortI l).Pairwise (· ≤ ·) := by
  have := List.pairwise_mergeSort (le := fun a b : Int => decide (a ≤ b)) (fun a b c h1 h2 => by simp only [decide_eq_true_eq] at *; omega) (fun a b => by simp only [Bool.or_eq_true, decide_eq_true_eq]; omega) l
  exact this.imp fun h => by simpa using h
theorem sortI_listP {l : List Int} {n : Nat} {p : Nat → Prop} (hn : l.Nodup) (h : ∀ k, k ∈ l ↔ ∃ i : Nat, k = (i : Int) ∧ i < n ∧ p i) : sortI l = listP n p := by
  refine List.Perm.eq_of_pairwise (le := (· ≤ ·)) (fun x y _ _ h1 h2 => by omega) (sortI_sorted l) ((listP_rising n p).imp fun h => by omega) ?_
  exact (sortI_perm l).trans ((List.perm_ext_iff_of_nodup hn (rising_nodup (listP_rising n p))).2 fun k => by rw [h k, mem_listP])
/-! ### What calls what -/
/-- A right grammar. -/
def RightG (g : G) : Prop := (chkG g).2 = 0
theorem unkN_none {g : G} : ∀ {l : List NodeD} {k : Nat}, unkN g l k = none → ∀ n ∈ l, n.1 = 6 → ∃ j, findR g n.2.2.1 = some j
  | [], _, _, n, hn, _ => by simp at hn
  | n0 :: l, k, h, n, hn, h6 => by
    unfold unkN at h
    split at h
    · cases h
    · rename_i hc
      rcases List.mem_cons.1 hn with rfl | hn
      · cases hf : findR g n.2.2.1 with
        | some j => exact ⟨j, rfl⟩
        | none => exact absurd ⟨h6, hf⟩ hc
      · exact unkN_none h n hn h6
theorem unkG_none {g : G} : ∀ {l : List RuleD} {i : Nat}, unkG g l i = none → ∀ r ∈ l, ∀ n ∈ (r.2.1 : List NodeD), n.1 = 6 → ∃ j, findR g n.2.2.1 = some j
  | [], _, _, r, hr => by simp at hr
  | r0 :: l, i, h, r, hr => by
    unfold unkG at h
    split at h
    · cases h
    · rename_i hu
      rcases List.mem_cons.1 hr with rfl | hr
      · exact unkN_none hu
      · exact unkG_none h r hr
theorem scan_err {g : G} : ∀ {k i : Nat} {n : Int} {e : SpotD × Int}, scanG g k i n = some e → e.2 ≠ 0
  | 0, _, _, _, h => by simp [scanG] at h
  | k + 1, i, n, e, h => by
    unfold scanG at h
    split at h
    · simp only [Option.some.injEq] at h; subst h; simp
    split at h
    · simp only [Option.some.injEq] at h; subst h; simp
    split at h
    · rename_i h5
      simp only [Option.some.injEq] at h; subst h; exact h5
    split at h
    · simp only [Option.some.injEq] at h; subst h; simp
    · exact scan_err h
structure RG (g : G) : Prop where
  pos : 0 < g.length
  len : g.length ≤ 200
  good : ∀ j, j < g.length → goodR g j
  calls : ∀ r ∈ g, ∀ n ∈ (r.2.1 : List NodeD), n.1 = 6 → ∃ j, findR g n.2.2.1 = some j
theorem rg_of {g : G} (h : RightG g) : RG g := by
  unfold RightG chkG at h
  split at h
  · simp at h
  split at h
  · simp at h
  rename_i h0 h2
  cases hs : scanG g g.length 0 0 with
  | some e => rw [hs] at h; exact absurd h (scan_err hs)
  | none =>
    rw [hs] at h
    have h : (spotE (unkG g g 0)).2 = 0 := h
    cases hu : unkG g g 0 with
    | some p => rw [hu] at h; simp [spotE] at h
    | none => exact ⟨by omega, by omega, fun j hj => scan_good hs j (Nat.zero_le _) (by omega), unkG_none hu⟩
/-- A rule calls a rule. -/
def E (g : G) (r q : Nat) : Prop := ∃ n ∈ ((rth g r).2.1 : List NodeD), n.1 = 6 ∧ findR g n.2.2.1 = some q
theorem E_lt {g : G} {r q : Nat} (h : E g r q) : q < g.length := by
  obtain ⟨n, _, _, h⟩ := h
  exact (findR_at h).1
end Go.Proofs

/-! Chapter 9: what is known of a pattern's parts, by the program and by the book. -/
namespace Go.Proofs
open Go Go.Abs
set_option linter.unusedSimpArgs false
section
variable {α : Type}
/-- The last nodes of what lies on the stack ahead of a node. -/
def endsI (p : List NodeD) (k : Nat) : List Nat := if h : 0 < k ∧ (beginP p ((k : Int) - 1)).toNat < k then endsI p (beginP p ((k : Int) - 1)).toNat ++ [k - 1] else []
termination_by k
decreasing_by exact h.2
theorem look_of {p : List NodeD} (hp : (chkP p).2 = 0) {k : Nat} (hk : k < p.length) : lookP p (k : Int) = 0 := lookP_of hp (by omega) (by omega)
theorem ends_succ {p : List NodeD} (hp : (chkP p).2 = 0) {k : Nat} (hk : k < p.length) : endsI p (k + 1) = endsI p (beginP p (k : Int)).toNat ++ [k] := by
  obtain ⟨h1, h2, _⟩ := begin_le (look_of hp hk)
  rw [endsI]
  have e : ((k + 1 : Nat) : Int) - 1 = (k : Int) := by omega
  rw [e, dif_pos ⟨by omega, by omega⟩]
  rfl
theorem ends_zero {p : List NodeD} : endsI p 0 = [] := by rw [endsI, dif_neg (by omega)]
/-- The stack ahead of a node ends with its parts. -/
theorem ends_kids {p : List NodeD} (hp : (chkP p).2 = 0) {k : Nat} (hk : k < p.length) :
    (arity (nth p k).1 = 0 → beginP p (k : Int) = k) ∧
    (arity (nth p k).1 = 1 → 1 ≤ k ∧ endsI p k = endsI p (beginP p (k : Int)).toNat ++ [k - 1]) ∧
    (arity (nth p k).1 = 2 → 1 ≤ k ∧ 1 ≤ beginP p ((k : Int) - 1) ∧ beginP p ((k : Int) - 1) ≤ (k : Int) - 1 ∧ endsI p k = endsI p (beginP p (k : Int)).toNat ++ [(beginP p ((k : Int) - 1) - 1).toNat, k - 1]) := by
  obtain ⟨_, _, n0, n1, n2⟩ := node_ok (look_of hp hk)
  refine ⟨fun h => (n0 h).1, fun h => ?_, fun h => ?_⟩
  · obtain ⟨m1, m2, _⟩ := n1 h
    obtain ⟨j, rfl⟩ : ∃ j, k = j + 1 := ⟨k - 1, by omega⟩
    refine ⟨by omega, ?_⟩
    rw [ends_succ hp (by omega), m2, show ((j + 1 : Nat) : Int) - 1 = (j : Int) by omega]
    rfl
  · obtain ⟨m1, m2, m3, _⟩ := n2 h
    obtain ⟨j, rfl⟩ : ∃ j, k = j + 1 := ⟨k - 1, by omega⟩
    have ej : ((j + 1 : Nat) : Int) - 1 = (j : Int) := by omega
    rw [ej] at m2 m3 ⊢
    obtain ⟨b1, b2, _⟩ := begin_le (look_of hp (show j < p.length by omega))
    refine ⟨by omega, m2, b2, ?_⟩
    rw [ends_succ hp (by omega)]
    obtain ⟨i, hi⟩ : ∃ i : Nat, beginP p (j : Int) = (i : Int) + 1 := ⟨(beginP p (j : Int) - 1).toNat, by omega⟩
    rw [hi] at m3 ⊢
    have e2 : ((i : Int) + 1).toNat = i + 1 := by omega
    rw [e2, ends_succ hp (by omega), m3, show (i : Int) + 1 - 1 = (i : Int) by omega, List.append_assoc]
    simp
theorem ends_lt {p : List NodeD} (hp : (chkP p).2 = 0) : ∀ {k : Nat}, k ≤ p.length → ∀ i ∈ endsI p k, i < k := by
  intro k
  induction k using Nat.strongRecOn with
  | _ k ih =>
    intro hk i hi
    cases k with
    | zero => rw [ends_zero] at hi; cases hi
    | succ k =>
      obtain ⟨b1, b2, _⟩ := begin_le (look_of hp (show k < p.length by omega))
      rw [ends_succ hp (by omega)] at hi
      rcases List.mem_append.1 hi with hi | hi
      · have := ih _ (by omega) (by omega) i hi
        omega
      · have : i = k := by simpa using hi
        omega
theorem ends_len {p : List NodeD} (hp : (chkP p).2 = 0) : ∀ {k : Nat}, k ≤ p.length → (endsI p k).length ≤ k := by
  intro k
  induction k using Nat.strongRecOn with
  | _ k ih =>
    intro hk
    cases k with
    | zero => rw [ends_zero]; simp
    | succ k =>
      obtain ⟨b1, b2, _⟩ := begin_le (look_of hp (show k < p.length by omega))
      rw [ends_succ hp (by omega), List.length_append]
      have := ih (beginP p (k : Int)).toNat (by omega) (by omega)
      simp
      omega
end
/-! ### Values of parts, node by node: 'f' gives a node's by its parts' -/
section
variable {β : Type} (z : β) (f : NodeD → β → β → β) (p : List NodeD)
def kidA (k : Nat) (l : List β) : β := if arity (nth p k).1 = 1 then l.getD (k - 1) z else if arity (nth p k).1 = 2 then l.getD (beginP p ((k : Int) - 1) - 1).toNat z else z
def kidB (k : Nat) (l : List β) : β := if arity (nth p k).1 = 2 then l.getD (k - 1) z else z
def valsOf : Nat → List β
  | 0 => []
  | k + 1 => valsOf k ++ [f (nth p k) (kidA z p k (valsOf k)) (kidB z p k (valsOf k))]
/-- A part's value. -/
def valOf (i : Nat) : β := (valsOf z f p (i + 1)).getD i z
theorem valsOf_len : ∀ k, (valsOf z f p k).length = k
  | 0 => rfl
  | k + 1 => by rw [valsOf, List.length_append, valsOf_len k]; rfl
theorem valsOf_at : ∀ {k i : Nat}, i < k → (valsOf z f p k).getD i z = valOf z f p i
  | k + 1, i, h => by
    by_cases e : i = k
    · subst e; rfl
    · rw [valsOf, List.getD_eq_getElem?_getD, List.getElem?_append_left (by rw [valsOf_len]; omega), ← List.getD_eq_getElem?_getD]
      exact valsOf_at (by omega)
theorem valOf_is (i : Nat) : valOf z f p i = f (nth p i) (kidA z p i (valsOf z f p i)) (kidB z p i (valsOf z f p i)) := by
  unfold valOf
  rw [valsOf, List.getD_eq_getElem?_getD, List.getElem?_append_right (by rw [valsOf_len]; exact Nat.le_refl _), valsOf_len]
  simp
theorem kidA_one {k : Nat} (h : arity (nth p k).1 = 1) (hk : 1 ≤ k) : kidA z p k (valsOf z f p k) = valOf z f p (k - 1) := by
  unfold kidA; rw [if_pos h]; exact valsOf_at z f p (by omega)
theorem kidA_two {k : Nat} (h : arity (nth p k).1 = 2) (h1 : 1 ≤ beginP p ((k : Int) - 1)) (h2 : beginP p ((k : Int) - 1) ≤ (k : Int) - 1) : kidA z p k (valsOf z f p k) = valOf z f p (beginP p ((k : Int) - 1) - 1).toNat := by
  unfold kidA; rw [if_neg (by omega), if_pos h]; exact valsOf_at z f p (by omega)
theorem kidB_two {k : Nat} (h : arity (nth p k).1 = 2) (hk : 1 ≤ k) : kidB z p k (valsOf z f p k) = valOf z f p (k - 1) := by
  unfold kidB; rw [if_pos h]; exact valsOf_at z f p (by omega)
theorem kid_zero {k : Nat} (h : arity (nth p k).1 = 0) (l : List β) : kidA z p k l = z ∧ kidB z p k l = z := by
  unfold kidA kidB
  rw [if_neg (by omega), if_neg (by omega), if_neg (by omega)]
  exact ⟨rfl, rfl⟩
/-- The stack ahead of a node. -/
def stkOf (k : Nat) : List β := (endsI p k).map (valOf z f p)
theorem stk_step (hp : (chkP p).2 = 0) {k : Nat} (hk : k < p.length) : arity (nth p k).1 ≤ (stkOf z f p k).length ∧ (stkOf z f p k).take ((stkOf z f p k).length - (arity (nth p k).1).toNat) ++ [valOf z f p k] = stkOf z f p (k + 1) ∧
    (arity (nth p k).1 = 1 → (stkOf z f p k).getD ((stkOf z f p k).length - 1) z = valOf z f p (k - 1)) ∧
    (arity (nth p k).1 = 2 → (stkOf z f p k).getD ((stkOf z f p k).length - 2) z = valOf z f p (beginP p ((k : Int) - 1) - 1).toNat ∧ (stkOf z f p k).getD ((stkOf z f p k).length - 1) z = valOf z f p (k - 1)) := by
  obtain ⟨h0, h1, h2⟩ := ends_kids hp hk
  have ha := (node_ok (look_of hp hk)).1
  have hle := arity_le (nth p k).1
  have hs : stkOf z f p (k + 1) = stkOf z f p (beginP p (k : Int)).toNat ++ [valOf z f p k] := by unfold stkOf; rw [ends_succ hp hk]; simp
  rw [hs]
  rcases (show arity (nth p k).1 = 0 ∨ arity (nth p k).1 = 1 ∨ arity (nth p k).1 = 2 by omega) with h | h | h
  · rw [h, h0 h]
    refine ⟨by omega, ?_, fun e => by omega, fun e => by omega⟩
    simp
  · obtain ⟨k1, k2⟩ := h1 h
    have e : stkOf z f p k = stkOf z f p (beginP p (k : Int)).toNat ++ [valOf z f p (k - 1)] := by unfold stkOf; rw [k2]; simp
    rw [h, e]
    refine ⟨by simp; omega, ?_, fun _ => ?_, fun e => by omega⟩
    · simp
    · simp [List.getD_eq_getElem?_getD]
  · obtain ⟨k1, k2, k3, k4⟩ := h2 h
    have e : stkOf z f p k = stkOf z f p (beginP p (k : Int)).toNat ++ [valOf z f p (beginP p ((k : Int) - 1) - 1).toNat, valOf z f p (k - 1)] := by unfold stkOf; rw [k4]; simp
    rw [h, e]
    refine ⟨by simp; omega, ?_, fun e => by omega, fun _ => ⟨?_, ?_⟩⟩
    · simp
    · simp [List.getD_eq_getElem?_getD]
    · simp [List.getD_eq_getElem?_getD, List.getElem?_append_right]
theorem stk_len (hp : (chkP p).2 = 0) {k : Nat} (hk : k ≤ p.length) : (stkOf z f p k).length ≤ k := by
  unfold stkOf; rw [List.length_map]; exact ends_len hp hk
end
theorem nodeOk_of {p : List NodeD} (hp : (chkP p).2 = 0) {k : Nat} (hk : k < p.length) : NodeOk (nth p k) := by
  obtain ⟨ha, hf, _⟩ := node_ok (look_of hp hk)
  unfold fieldB at hf
  split at hf
  · cases hf
  split at hf
  · cases hf
  rename_i h2
  simp only [Bool.or_eq_true, Bool.and_eq_true, decide_eq_true_eq, not_or] at h2
  refine ⟨op23_of ha, fun _ => by omega, fun h4 => ?_⟩
  rw [if_pos h4] at hf
  simp only [Bool.and_eq_true, Bool.not_eq_true', decide_eq_false_iff_not, decide_eq_true_eq] at hf
  have := size_pos hf.1
  omega
end Go.Proofs

/-! Chapter 9: Lengths, and the book's parts. -/
namespace Go.Proofs
open Go Go.Abs
set_option linter.unusedSimpArgs false
abbrev vals9 (c : NodeD → Em) (p : List NodeD) (k : Nat) : List Em := valsOf zEmptiness (fun n a b => nodeE n (c n) a b) p k
abbrev val9 (c : NodeD → Em) (p : List NodeD) (k : Nat) : Em := valOf zEmptiness (fun n a b => nodeE n (c n) a b) p k
abbrev stk9 (c : NodeD → Em) (p : List NodeD) (k : Nat) : List Em := stkOf zEmptiness (fun n a b => nodeE n (c n) a b) p k
/-- What holds of the parts holds of the node. -/
theorem val_ind {c : NodeD → Em} {p : List NodeD} (hp : (chkP p).2 = 0) (I : Em → Prop) (h : ∀ k, k < p.length → ∀ a b, (arity (nth p k).1 = 0 → a = zEmptiness ∧ b = zEmptiness) → (arity (nth p k).1 = 1 → I a ∧ b = zEmptiness) → (arity (nth p k).1 = 2 → I a ∧ I b) → I (nodeE (nth p k) (c (nth p k)) a b)) : ∀ k, k < p.length → I (val9 c p k) := by
  intro k
  induction k using Nat.strongRecOn with
  | _ k ih =>
    intro hk
    rw [show val9 c p k = _ from valOf_is _ _ _ _]
    refine h k hk _ _ (fun h0 => ?_) (fun h1 => ?_) (fun h2 => ?_)
    · exact kid_zero _ _ h0 _
    · obtain ⟨m1, _⟩ := (ends_kids hp hk).2.1 h1
      rw [kidA_one _ _ _ h1 m1]
      refine ⟨ih _ (by omega) (by omega), ?_⟩
      unfold kidB
      rw [if_neg (by omega)]
    · obtain ⟨m1, m2, m3, _⟩ := (ends_kids hp hk).2.2 h2
      rw [kidA_two _ _ _ h2 m2 m3, kidB_two _ _ _ h2 m1]
      exact ⟨ih _ (by omega) (by omega), ih _ (by omega) (by omega)⟩
theorem rg_val {c : NodeD → Em} {p : List NodeD} (hp : (chkP p).2 = 0) (hc : ∀ k, k < p.length → (nth p k).1 = 6 → RgE (c (nth p k))) : ∀ k, k < p.length → RgE (val9 c p k) := by
  refine val_ind hp RgE fun k hk a b h0 h1 h2 => rg_node (nodeOk_of hp hk) (hc k hk) ?_ ?_
  · rcases (show arity (nth p k).1 = 0 ∨ arity (nth p k).1 = 1 ∨ arity (nth p k).1 = 2 by have := (node_ok (look_of hp hk)).1; have := arity_le (nth p k).1; omega) with h | h | h
    · rw [(h0 h).1]; exact rg_zero
    · exact (h1 h).1
    · exact (h2 h).1
  · rcases (show arity (nth p k).1 = 0 ∨ arity (nth p k).1 = 1 ∨ arity (nth p k).1 = 2 by have := (node_ok (look_of hp hk)).1; have := arity_le (nth p k).1; omega) with h | h | h
    · rw [(h0 h).2]; exact rg_zero
    · rw [(h1 h).2]; exact rg_zero
    · exact (h2 h).2
/-- What a called name's rule is known by. -/
def CallAt (m : List (ByteArray × Int)) (now : List Em) (c : NodeD → Em) (n : NodeD) : Prop := ∃ q : Nat, Option.getD (mfind eqS m n.2.2.1) (0 : Int) = (q : Int) ∧ q < now.length ∧ c n = List.getD now q zEmptiness
theorem q_em1 {m : List (ByteArray × Int)} {now : List Em} {c : NodeD → Em} {n : NodeD} (h : CallAt m now c n) : F_gist_Emptiness_1 (n.2.2.1, now, m, ()) = some (c n, now, m, ()) := by
  obtain ⟨q, h1, h2, h3⟩ := h
  unfold F_gist_Emptiness_1
  simp only [h1, Int.toNat_natCast, Nat.zero_add]
  rw [need_pos (by omega), need_pos h2, h3]
theorem arity_78 {k : Int} (h : arity k = 2) : k = 7 ∨ k = 8 := by
  unfold arity at h
  split at h
  · assumption
  · split at h
    · omega
    · split at h <;> omega
theorem nodeE_6 {n : NodeD} (h : n.1 = 6) {c a b : Em} : nodeE n c a b = c := by unfold nodeE; rw [if_pos h]
theorem nodeE_7 {n : NodeD} (h : n.1 = 7) {c a b : Em} : nodeE n c a b = rowE a b := by unfold nodeE; rw [if_neg (by omega), if_pos h]
theorem nodeE_8 {n : NodeD} (h : n.1 = 8) {c a b : Em} : nodeE n c a b = eitherE a b := by unfold nodeE; rw [if_neg (by omega), if_neg (by omega), if_pos h]
theorem nodeE_1 {n : NodeD} (h6 : ¬ n.1 = 6) (h7 : ¬ n.1 = 7) (h8 : ¬ n.1 = 8) {c a b : Em} : nodeE n c a b = oneE n a := by unfold nodeE; rw [if_neg h6, if_neg h7, if_neg h8]
theorem q_lengths {p : List NodeD} (hp : (chkP p).2 = 0) {now : List Em} {m : List (ByteArray × Int)} {c : NodeD → Em} (hc : ∀ k, k < p.length → (nth p k).1 = 6 → CallAt m now c (nth p k)) (hr : ∀ k, k < p.length → (nth p k).1 = 6 → RgE (c (nth p k))) :
    F_gist_Lengths_em (p, now, m, ()) = some (vals9 c p p.length, now, m, ()) := by
  obtain ⟨hlen, _⟩ := chk_len hp
  unfold F_gist_Lengths_em
  simp only [toPb]
  refine loop_up p.length (fun k => (((k : Int), ()), stk9 c p k, vals9 c p k, now, m, ())) ?_ (fun k hk => ?_) ?_
  · simp [stkOf, ends_zero, valsOf]
  · obtain ⟨s1, s2, s3, s4⟩ := stk_step zEmptiness (fun n a b => nodeE n (c n) a b) p hp hk
    have hsl := stk_len zEmptiness (fun n a b => nodeE n (c n) a b) p hp (show k ≤ p.length by omega)
    have hno := nodeOk_of hp hk
    have hz := kid_zero zEmptiness p (k := k)
    have ha := (node_ok (look_of hp hk)).1
    have ha2 := arity_le (nth p k).1
    have hrv := rg_val (c := c) hp hr
    have hv : val9 c p k = nodeE (nth p k) (c (nth p k)) (kidA zEmptiness p k (vals9 c p k)) (kidB zEmptiness p k (vals9 c p k)) := valOf_is _ _ _ _
    have hw : vals9 c p (k + 1) = vals9 c p k ++ [val9 c p k] := by rw [hv]; rfl
    have hwl : (vals9 c p k).length = k := valsOf_len _ _ _ _
    have hnth : List.getD p k zNode = nth p (k : Int) := by simp [nth]
    simp only [Int.toNat_natCast, hnth]
    have eL : stkOf zEmptiness (fun n a b => nodeE n (c n) a b) p k = stk9 c p k := rfl
    rw [eL] at s1 s2 s3 s4 hsl
    generalize stk9 c p k = L at s1 s2 s3 s4 hsl ⊢
    rw [pos (by omega), need_pos (by omega), q_arity, bind_t]
    dsimp only
    rw [need64 (by omega) (by omega), need_pos (by omega)]
    have fin : ∀ V, V = val9 c p k → (need ((0 : Int) ≤ (0 : Int) ∧ ((0 : Int) ≤ (↑(List.length L) : Int) - arity (nth p k).1 ∧ (0 : Int) + ((↑(List.length L) : Int) - arity (nth p k).1) ≤ (↑(List.length L) : Int))) (need ((1 : Nat) ≤ (1 : Nat) ∧ (Int.toNat ((↑(List.length L) : Int) - arity (nth p k).1) ≤ List.length L ∧ (Int.toNat ((↑(List.length L) : Int) - arity (nth p k).1) + (1 : Nat)) * (24 : Nat) ≤ (140737488355328 : Nat))) (need ((1 : Nat) ≤ (1 : Nat) ∧ (List.length (vals9 c p k) + (1 : Nat)) * (24 : Nat) ≤ (140737488355328 : Nat)) (need (Fits Go.IntKind.i64 ((k : Int) + (1 : Int))) (some (Sum.inl (((k : Int) + (1 : Int), ()), List.take (Int.toNat ((↑(List.length L) : Int) - arity (nth p k).1)) L ++ [V], vals9 c p k ++ [V], now, m, ()) : ((Int × Unit) × List Em × List Em × List Em × List (ByteArray × Int) × Unit) ⊕ (List Em × List Em × List (ByteArray × Int) × Unit))))))) =
        some (Sum.inl ((((k + 1 : Nat) : Int), ()), stkOf zEmptiness (fun n a b => nodeE n (c n) a b) p (k + 1), vals9 c p (k + 1), now, m, ())) := by
      rintro V rfl
      rw [need_pos (by omega), need_pos (by omega), need_pos (by omega), need64 (by omega) (by omega), ← s2, hw]
      have e : Int.toNat ((↑(List.length L) : Int) - arity (nth p k).1) = L.length - (arity (nth p k).1).toNat := by omega
      rw [e, Int.natCast_add]
      rfl
    by_cases h6 : (nth p k).1 = 6
    · rw [pos h6, q_em1 (hc k hk h6)]
      simp only [bind_t]
      exact fin _ (by rw [hv, nodeE_6 h6])
    rw [neg h6]
    by_cases h7 : (nth p k).1 = 7
    · have h2 : arity (nth p k).1 = 2 := by rw [h7]; rfl
      obtain ⟨k1, k2, k3, _⟩ := (ends_kids hp hk).2.2 h2
      obtain ⟨g1, g2⟩ := s4 h2
      have e1 : 0 + Int.toNat ((↑(List.length L) : Int) - arity (nth p k).1) = L.length - 2 := by omega
      have e2 : 0 + Int.toNat ((↑(List.length L) : Int) - arity (nth p k).1) + 1 = L.length - 1 := by omega
      rw [pos h7, need_pos (by omega), need_pos (by omega), need_pos (by omega), need_pos (by omega), e2, e1, g1, g2, q_rowE (hrv _ (by omega)) (hrv _ (by omega))]
      simp only [bind_t]
      exact fin _ (by rw [hv, kidA_two _ _ _ h2 k2 k3, kidB_two _ _ _ h2 k1]; rw [nodeE_7 h7])
    rw [neg h7]
    by_cases h8 : (nth p k).1 = 8
    · have h2 : arity (nth p k).1 = 2 := by rw [h8]; rfl
      obtain ⟨k1, k2, k3, _⟩ := (ends_kids hp hk).2.2 h2
      obtain ⟨g1, g2⟩ := s4 h2
      have e1 : 0 + Int.toNat ((↑(List.length L) : Int) - arity (nth p k).1) = L.length - 2 := by omega
      have e2 : 0 + Int.toNat ((↑(List.length L) : Int) - arity (nth p k).1) + 1 = L.length - 1 := by omega
      rw [pos h8, need_pos (by omega), need_pos (by omega), need_pos (by omega), need_pos (by omega), e2, e1, g1, g2, q_eitherE]
      simp only [bind_t]
      exact fin _ (by rw [hv, kidA_two _ _ _ h2 k2 k3, kidB_two _ _ _ h2 k1]; rw [nodeE_8 h8])
    rw [neg h8]
    have hn2 : arity (nth p k).1 ≠ 2 := fun e => by rcases arity_78 e with e | e <;> omega
    by_cases h1 : arity (nth p k).1 = 1
    · obtain ⟨k1, _⟩ := (ends_kids hp hk).2.1 h1
      have g1 := s3 h1
      have e1 : 0 + Int.toNat ((↑(List.length L) : Int) - arity (nth p k).1) = L.length - 1 := by omega
      rw [pos (by omega), need_pos (by omega), need_pos (by omega), e1, g1, q_oneE hno.op ⟨h6, h7, h8⟩ hno.cnt (hrv _ (by omega))]
      simp only [bind_t]
      exact fin _ (by rw [hv, kidA_one _ _ _ h1 k1]; rw [nodeE_1 h6 h7 h8])
    · have h0 : arity (nth p k).1 = 0 := by omega
      rw [neg (by omega), show ((false, false, (0 : Int), (0 : Int), ()) : Em) = zEmptiness from rfl, q_oneE hno.op ⟨h6, h7, h8⟩ hno.cnt rg_zero]
      simp only [bind_t]
      exact fin _ (by rw [hv, (hz h0 _).1, nodeE_1 h6 h7 h8])
  · dsimp only
    rw [neg (by omega)]
end Go.Proofs
