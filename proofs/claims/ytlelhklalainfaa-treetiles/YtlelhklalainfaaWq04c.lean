/- Part of the proof of the law's row: YtlelhklalainfaaWq04c. -/
import Derived.Test.YtlelhklalainfaaWq04b
set_option linter.all false
set_option linter.unusedVariables false
set_option linter.unusedSimpArgs false
/-! Chapter 4: what the layer and its reference answer. -/
namespace Go.Proofs
open Go Go.Abs
def chkP (p : List NodeD) : Int × Int := if (p.length : Int) > 2048 then (0, 2) else eachP p
def shP (p : List NodeD) : List shapeD := (scan p p []).2
theorem q_check (p : List NodeD) : F_tree_Check (p, ()) = some ((chkP p).1, (chkP p).2, ()) := by
  unfold F_tree_Check chkP
  by_cases h : (p.length : Int) > 2048
  · simp [h, sel]
  · rw [sel_neg h, q_each_chk p (by omega), if_neg h]
    rfl
theorem getD_begin (sh : List shapeD) (i : Nat) : List.getD (sh.map (·.1)) i (0 : Int) = (List.getD sh i zshape).1 := getD_map (fun x : shapeD => x.1) sh i zshape
theorem getD_high (sh : List shapeD) (i : Nat) : List.getD (sh.map (·.2.1)) i (0 : Int) = (List.getD sh i zshape).2.1 := getD_map (fun x : shapeD => x.2.1) sh i zshape
/-- What the walk ends with. -/
theorem scan_ends (p : List NodeD) : ∀ (ns : List NodeD) (sh : List shapeD), (∃ a e s, scan p ns sh = ((a, e), s) ∧ e ≠ 0 ∧ 0 ≤ a) ∨ ∃ s, scan p ns sh = ((0, 0), s) ∧ s.length = sh.length + ns.length
  | [], sh => .inr ⟨sh, rfl, rfl⟩
  | n :: ns, sh => by
    unfold scan
    split
    · exact .inl ⟨_, _, _, rfl, by decide, by omega⟩
    split
    · exact .inl ⟨_, _, _, rfl, by decide, by omega⟩
    split
    · exact .inl ⟨_, _, _, rfl, by decide, by omega⟩
    split
    · exact .inl ⟨_, _, _, rfl, by decide, by omega⟩
    · rename_i b h _ _
      rcases scan_ends p ns (sh ++ [(b, h + 1, ())]) with h1 | ⟨s, h1, h2⟩
      · exact .inl h1
      · exact .inr ⟨s, h1, by rw [h2]; simp; omega⟩
theorem scan_ok (p : List NodeD) : ∀ (ns : List NodeD) (sh : List shapeD), ShOk sh → ShOk (scan p ns sh).2
  | [], sh, h => h
  | n :: ns, sh, h => by
    unfold scan
    split
    · exact h
    split
    · exact h
    split
    · exact h
    split
    · exact h
    · rename_i b h' hin _
      have := inner_ok h (by omega) (Int.le_refl _) (Int.le_refl 0) (by omega) hin
      exact scan_ok p ns _ (h.push this.1 this.2.1 (by omega) (by omega))
theorem shOk_nil : ShOk [] := fun i x h => by simp at h
/-- Of a right pattern. -/
theorem chk_len {p : List NodeD} (h : (chkP p).2 = 0) : (p.length : Int) ≤ 2048 ∧ scan p p [] = ((0, 0), shP p) ∧ (shP p).length = p.length ∧ 0 < p.length ∧ (sth (shP p) ((p.length : Int) - 1)).1 = 0 := by
  unfold chkP at h
  split at h
  · cases h
  · rename_i hl
    unfold eachP endP at h
    rcases scan_ends p p [] with ⟨a, e, s, h1, h2, _⟩ | ⟨s, h1, h2⟩
    · rw [h1] at h
      simp only [if_pos h2] at h
      exact absurd h h2
    · have hs : shP p = s := by unfold shP; rw [h1]
      rw [h1] at h
      simp only [ne_eq, not_true, if_false] at h
      split at h
      · cases h
      · rename_i hc
        simp only [Bool.or_eq_true, decide_eq_true_eq, Bool.not_eq_true', decide_eq_false_iff_not, not_or, Classical.not_not] at hc
        rw [hs]
        exact ⟨by omega, h1, by rw [h2]; simp, by omega, hc.2⟩
theorem shP_ok (p : List NodeD) : ShOk (shP p) := scan_ok p p [] shOk_nil
theorem q_checkR (p : List NodeD) : F_ref04_Check (p, ()) = some ((chkP p).1, (chkP p).2, ()) := by
  unfold F_ref04_Check chkP
  by_cases h : (p.length : Int) > 2048
  · simp [h, sel]
  · rw [sel_neg h, q_from p (by omega), if_neg h, bind_t]
    unfold eachP endP fromP
    rcases scan_ends p p [] with ⟨a, e, s, h1, h2, _⟩ | ⟨s, h1, h2⟩
    · rw [h1]
      simp [h2, sel]
    · rw [h1]
      have e1 : (List.getD s ((p.length : Int) - 1).toNat zshape).1 = (sth s ((p.length : Int) - 1)).1 := rfl
      simp only [ne_eq, not_true, if_false, decide_true, Bool.not_true, sel_f, getD_begin, Nat.zero_add, e1, List.length_map]
      by_cases h0 : (p.length : Int) = 0
      · simp [h0, sel]
      · simp at h2
        simp (disch := omega) only [sel_neg, need64, need_pos, bind_t, h0, decide_false, Bool.false_or]
        by_cases hz : (sth s ((p.length : Int) - 1)).1 = 0 <;> simp [sel, hz]
theorem q_known (p : List NodeD) : F_tree_known (p, ()) = some ((chkP p).2, (if (chkP p).2 = 0 then shP p else []), ()) := by
  unfold F_tree_known
  by_cases h : (p.length : Int) > 2048
  · simp [h, sel, chkP]
  · rw [sel_neg h, q_each_known p (by omega), bind_t]
    have e : eachP p = chkP p := by unfold chkP; rw [if_neg h]
    simp only [e]
    by_cases hz : (chkP p).2 = 0 <;> simp [sel, hz, shP]
/-- Is there a node of that number? -/
def lookP (p : List NodeD) (at_ : Int) : Int := if (chkP p).2 ≠ 0 then (chkP p).2 else if at_ < 0 ∨ at_ ≥ (p.length : Int) then 1 else 0
theorem lookP_zero {p : List NodeD} {i : Int} (h : lookP p i = 0) : (chkP p).2 = 0 ∧ 0 ≤ i ∧ i < (p.length : Int) := by
  unfold lookP at h
  split at h
  · rename_i h1; exact absurd h h1
  · rename_i h1
    split at h
    · cases h
    · rename_i h2
      exact ⟨Classical.not_not.1 h1, by omega, by omega⟩
theorem lookP_of {p : List NodeD} {i : Int} (h : (chkP p).2 = 0) (h0 : 0 ≤ i) (h1 : i < (p.length : Int)) : lookP p i = 0 := by
  unfold lookP
  rw [if_neg (by simp [h]), if_neg (by omega)]
theorem q_looked (p : List NodeD) (i : Int) : F_tree_looked (p, i, ()) = some (lookP p i, (if (chkP p).2 = 0 then shP p else []), ()) := by
  unfold F_tree_looked lookP
  rw [q_known, bind_t]
  simp only [sel_or, bind_t, bind_id, sel_and]
  by_cases hz : (chkP p).2 = 0
  · by_cases hi : i < 0 ∨ i ≥ (p.length : Int)
    · have : (decide (i < 0) || decide (i ≥ (p.length : Int))) = true := by simpa using hi
      simp only [hz, decide_true, Bool.true_and, this, sel_t, bind_t, ne_eq, not_true, if_false, if_pos hi, if_true]
    · have : (decide (i < 0) || decide (i ≥ (p.length : Int))) = false := by simpa using hi
      simp only [hz, decide_true, Bool.true_and, this, sel_f, bind_t, ne_eq, not_true, if_false, if_neg hi, if_true]
  · simp only [hz, decide_false, Bool.false_and, sel_f, bind_t, ne_eq, not_false_eq_true, if_true, if_false]
theorem q_lookR (p : List NodeD) (i : Int) : F_ref04_look (p, i, ()) = some (lookP p i, ()) := by
  unfold F_ref04_look lookP
  rw [q_checkR, bind_t]
  simp only [sel_or, bind_t]
  by_cases hz : (chkP p).2 = 0
  · by_cases hi : i < 0 ∨ i ≥ (p.length : Int)
    · have : (decide (i < 0) || decide (i ≥ (p.length : Int))) = true := by simpa using hi
      simp [hz, this, sel, hi]
    · have : (decide (i < 0) || decide (i ≥ (p.length : Int))) = false := by simpa using hi
      simp [hz, this, sel, hi]
  · simp [hz, sel]
def beginP (p : List NodeD) (i : Int) : Int := (sth (shP p) i).1
def highP (p : List NodeD) (i : Int) : Int := (sth (shP p) i).2.1
theorem begin_le {p : List NodeD} {i : Int} (h : lookP p i = 0) : 0 ≤ beginP p i ∧ beginP p i ≤ i ∧ 1 ≤ highP p i ∧ highP p i ≤ 60 := by
  obtain ⟨h1, h2, h3⟩ := lookP_zero h
  obtain ⟨_, _, h4, _⟩ := chk_len h1
  have := sth_ok (shP_ok p) (b := i + 1) (by omega) (by omega)
  rw [show i + 1 - 1 = i by omega] at this
  exact this
theorem q_begin (p : List NodeD) (i : Int) : F_tree_Begin (p, i, ()) = some (if lookP p i = 0 then (beginP p i, 0, ()) else (0, lookP p i, ())) := by
  unfold F_tree_Begin
  rw [q_looked, bind_t]
  by_cases h : lookP p i = 0
  · obtain ⟨h1, h2, h3⟩ := lookP_zero h
    obtain ⟨_, _, h4, _⟩ := chk_len h1
    simp only [h, decide_true, Bool.not_true, sel_f, if_true, h1, Nat.zero_add]
    rw [need_pos (by omega), need_pos (by omega)]
    rfl
  · simp [h, sel]
theorem q_beginR (p : List NodeD) (i : Int) : F_ref04_Begin (p, i, ()) = some (if lookP p i = 0 then (beginP p i, 0, ()) else (0, lookP p i, ())) := by
  unfold F_ref04_Begin
  rw [q_lookR, bind_t]
  by_cases h : lookP p i = 0
  · obtain ⟨h1, h2, h3⟩ := lookP_zero h
    obtain ⟨h5, h6, h4, _⟩ := chk_len h1
    rw [q_from p (by omega), h6]
    simp only [h, decide_true, Bool.not_true, sel_f, if_true, bind_t, fromP, ne_eq, not_true, if_false, List.length_map, Nat.zero_add, getD_begin]
    rw [need_pos (by omega), need_pos (by omega)]
    rfl
  · simp [h, sel]
def partP (p : List NodeD) (i : Int) : List NodeD := List.drop (beginP p i).toNat (List.take (i + 1).toNat p)
theorem partP_length {p : List NodeD} {i : Int} (h : lookP p i = 0) : ((partP p i).length : Int) = i + 1 - beginP p i := by
  obtain ⟨h1, h2, h3⟩ := lookP_zero h
  obtain ⟨h4, h5, _⟩ := begin_le h
  unfold partP
  rw [List.length_drop, List.length_take]
  omega
theorem q_clone (p : List NodeD) (h : p.length * 64 ≤ 140737488355328) : F_slices_Clone_Pattern_Node (p, ()) = some (p, ()) := by
  unfold F_slices_Clone_Pattern_Node
  refine nilK_same ?_ ?_
  · rw [sel_f, need_pos (by simpa using h)]
    rfl
  · intro h0
    simp only at h0
    rw [sel_t, List.eq_nil_of_length_eq_zero h0]
theorem q_copyR (p : List NodeD) (h : p.length * 64 ≤ 140737488355328) : F_ref04_Copy (p, ()) = some (p, ()) := by
  unfold F_ref04_Copy
  rw [need_pos (by simpa using h)]
  rfl
theorem q_part (p : List NodeD) (i : Int) : F_tree_Part (p, i, ()) = some (if lookP p i = 0 then (0, partP p i, ()) else (lookP p i, [], ())) := by
  unfold F_tree_Part
  rw [q_looked, bind_t]
  by_cases h : lookP p i = 0
  · obtain ⟨h1, h2, h3⟩ := lookP_zero h
    obtain ⟨h5, _, h4, _⟩ := chk_len h1
    obtain ⟨b0, b1, _⟩ := begin_le h
    simp only [h, decide_true, Bool.not_true, sel_f, if_true, h1, Nat.zero_add]
    have e : (List.getD (shP p) i.toNat zshape).1 = beginP p i := rfl
    rw [e]
    have hl := partP_length h
    unfold partP at hl
    simp (disch := omega) only [need_pos, need64]
    rw [q_clone _ (by omega)]
    rfl
  · simp [h, sel]
theorem q_partR (p : List NodeD) (i : Int) : F_ref04_Part (p, i, ()) = some (if lookP p i = 0 then (0, partP p i, ()) else (lookP p i, [], ())) := by
  unfold F_ref04_Part
  rw [q_beginR, bind_t]
  by_cases h : lookP p i = 0
  · obtain ⟨h1, h2, h3⟩ := lookP_zero h
    obtain ⟨h5, _, h4, _⟩ := chk_len h1
    obtain ⟨b0, b1, _⟩ := begin_le h
    simp only [h, if_true, decide_true, Bool.not_true, sel_f]
    have hl := partP_length h
    unfold partP at hl
    simp (disch := omega) only [need_pos, need64]
    rw [q_copyR _ (by omega)]
    rfl
  · simp [h, sel]
theorem q_height (p : List NodeD) : F_tree_Height (p, ()) = some (if (chkP p).2 = 0 then (highP p ((p.length : Int) - 1), 0, ()) else (0, (chkP p).2, ())) := by
  unfold F_tree_Height
  rw [q_known, bind_t]
  by_cases h : (chkP p).2 = 0
  · obtain ⟨h5, _, h4, h6, _⟩ := chk_len h
    simp only [h, if_true, decide_true, Bool.not_true, sel_f, Nat.zero_add]
    simp (disch := omega) only [need_pos, need64]
    rfl
  · simp [h, sel]
theorem q_heightR (p : List NodeD) : F_ref04_Height (p, ()) = some (if (chkP p).2 = 0 then (highP p ((p.length : Int) - 1), 0, ()) else (0, (chkP p).2, ())) := by
  unfold F_ref04_Height
  rw [q_checkR, bind_t]
  by_cases h : (chkP p).2 = 0
  · obtain ⟨h5, h7, h4, h6, _⟩ := chk_len h
    rw [q_from p (by omega), h7]
    simp only [h, if_true, decide_true, Bool.not_true, sel_f, Nat.zero_add, bind_t, fromP, ne_eq, not_true, if_false, List.length_map, getD_high]
    simp (disch := omega) only [need_pos, need64]
    rfl
  · simp [h, sel]
theorem scan_node {p : List NodeD} : ∀ {n k : Nat} {sh s : List shapeD}, p.length - k = n → sh.length = k → k ≤ p.length → scan p (List.drop k p) sh = ((0, 0), s) → List.take k s = sh ∧ ∀ i, k ≤ i → i < p.length →
    0 ≤ arity (nth p i).1 ∧ fieldB (nth p i) = true ∧ ∃ b h, inner p (List.take i s) (nth p i).1 (arity (nth p i).1) (arity (nth p i).1).toNat i 0 = some (b, h) ∧ h + 1 ≤ 60 ∧ s[i]? = some (b, h + 1, ())
  | 0, k, sh, s, hn, hl, hk, h => by
    rw [List.drop_eq_nil_of_le (by omega)] at h
    simp only [scan, Prod.mk.injEq, true_and] at h
    subst h
    exact ⟨by rw [← hl, List.take_length], fun i h1 h2 => by omega⟩
  | n + 1, k, sh, s, hn, hl, hk, h => by
    rw [scan_at (by omega)] at h
    have e : List.getD p k zNode = nth p k := by unfold nth; simp
    rw [e] at h
    split at h
    · simp at h
    rename_i ha
    split at h
    · simp at h
    rename_i hf
    split at h
    · simp at h
    rename_i b h' hin
    split at h
    · simp at h
    rename_i h60
    obtain ⟨h1, h2⟩ := scan_node (n := n) (by omega) (by simp; omega) (by omega) h
    have h3 : List.take k s = sh := by
      have := congrArg (List.take k) h1
      rw [List.take_take, Nat.min_eq_left (by omega), List.take_append_of_le_length (by omega), ← hl, List.take_length] at this
      rw [← hl]; exact this
    refine ⟨h3, fun i hi1 hi2 => ?_⟩
    by_cases hik : i = k
    · subst hik
      refine ⟨by omega, by simpa using hf, b, h', by rw [h3]; rw [hl] at hin; exact hin, by omega, ?_⟩
      have := congrArg (fun l => l[i]?) h1
      simp only [List.getElem?_take] at this
      rw [if_pos (by omega), List.getElem?_append_right (by omega), hl, Nat.sub_self] at this
      simpa using this
    · exact h2 i (by omega) hi2
theorem sth_get {s : List shapeD} {i : Nat} {x : shapeD} (h : s[i]? = some x) : sth s i = x := by
  unfold sth
  rw [Int.toNat_natCast, List.getD_eq_getElem?_getD, h]
  rfl
theorem sth_take {s : List shapeD} {n : Nat} {j : Int} (h0 : 0 ≤ j) (h1 : j < n) : sth (List.take n s) j = sth s j := by
  unfold sth
  rw [List.getD_eq_getElem?_getD, List.getD_eq_getElem?_getD, List.getElem?_take, if_pos (by omega)]
def adj (p : List NodeD) (op b : Int) : Int := if (nth p (b - 1)).1 = op then highP p (b - 1) - 1 else highP p (b - 1)
/-- A node of a right pattern: its part is made of its parts. -/
theorem node_ok {p : List NodeD} {i : Int} (h : lookP p i = 0) : 0 ≤ arity (nth p i).1 ∧ fieldB (nth p i) = true ∧ (arity (nth p i).1 = 0 → beginP p i = i ∧ highP p i = 1) ∧
    (arity (nth p i).1 = 1 → 1 ≤ i ∧ beginP p i = beginP p (i - 1) ∧ highP p i = highP p (i - 1) + 1) ∧
    (arity (nth p i).1 = 2 → 1 ≤ i ∧ 1 ≤ beginP p (i - 1) ∧ beginP p i = beginP p (beginP p (i - 1) - 1) ∧ highP p i = max (highP p (i - 1)) (adj p (nth p i).1 (beginP p (i - 1))) + 1) := by
  obtain ⟨h1, h2, h3⟩ := lookP_zero h
  obtain ⟨_, hs, hl, _⟩ := chk_len h1
  obtain ⟨k, rfl⟩ : ∃ k : Nat, i = k := ⟨i.toNat, by omega⟩
  obtain ⟨_, hn⟩ := scan_node (p := p) (k := 0) (sh := []) (n := p.length) (by omega) rfl (by omega) (s := shP p) (by simpa using hs)
  obtain ⟨ha, hf, b, h', hin, _, hx⟩ := hn k (by omega) (by omega)
  have hsx := sth_get hx
  have hb : beginP p k = b := by unfold beginP; rw [hsx]
  have hh : highP p k = h' + 1 := by unfold highP; rw [hsx]
  refine ⟨ha, hf, fun h0 => ?_, fun h0 => ?_, fun h0 => ?_⟩
  · rw [h0] at hin
    simp only [Int.toNat_zero, inner, Option.some.injEq, Prod.mk.injEq] at hin
    omega
  · rw [h0] at hin
    simp only [Int.reduceToNat, inner] at hin
    split at hin
    · cases hin
    · rename_i hk0
      rw [sth_take (by omega) (by omega)] at hin
      simp only [less, Option.some.injEq, Prod.mk.injEq] at hin
      simp at hin
      obtain ⟨_, _, hhi, _⟩ := begin_le (lookP_of (p := p) (i := (k : Int) - 1) h1 (by omega) (by omega))
      refine ⟨by omega, by rw [hb, ← hin.1]; rfl, ?_⟩
      rw [hh, ← hin.2]
      unfold highP at hhi ⊢
      omega
  · rw [h0] at hin
    simp only [Int.reduceToNat, inner] at hin
    split at hin
    · cases hin
    · rename_i hk0
      rw [sth_take (by omega) (by omega)] at hin
      split at hin
      · cases hin
      · rename_i hb0
        obtain ⟨g1, g2, hhi, _⟩ := begin_le (lookP_of (p := p) (i := (k : Int) - 1) h1 (by omega) (by omega))
        have e1 : (sth (shP p) ((k : Int) - 1)).1 = beginP p ((k : Int) - 1) := rfl
        rw [e1] at hin hb0
        rw [sth_take (by omega) (by omega)] at hin
        simp only [Option.some.injEq, Prod.mk.injEq] at hin
        refine ⟨by omega, by omega, by rw [hb, ← hin.1]; rfl, ?_⟩
        rw [hh, ← hin.2]
        unfold adj less highP at *
        simp
        omega
/-- The last nodes of a node's parts. -/
def partsP (p : List NodeD) (i : Int) : List Int := if arity (nth p i).1 = 1 then [i - 1] else if arity (nth p i).1 = 2 then [beginP p (i - 1) - 1, i - 1] else []
theorem q_kids (p : List NodeD) (i : Int) (h : lookP p i = 0) : F_ref04_Kids (p, (shP p).map (·.1), i, ()) = some (partsP p i, ()) := by
  unfold F_ref04_Kids
  obtain ⟨h1, h2, h3⟩ := lookP_zero h
  obtain ⟨h5, _, h4, _⟩ := chk_len h1
  obtain ⟨n0, n1, n2, n3, n4⟩ := node_ok h
  have e : List.getD p i.toNat zNode = nth p i := rfl
  simp only [q_arityR, bind_t, e, List.length_map]
  unfold partsP
  generalize arity (nth p i).1 = a at *
  by_cases a1 : a = 1
  · have := n3 a1
    simp (disch := omega) only [need_pos, need64, sel_pos, if_pos]
  · by_cases a2 : a = 2
    · have := n4 a2
      have e2 : List.getD ((shP p).map (·.1)) (i - 1).toNat (0 : Int) = beginP p (i - 1) := getD_begin _ _
      have g := begin_le (lookP_of (p := p) (i := i - 1) h1 (by omega) (by omega))
      simp only [e2]
      simp (disch := omega) only [need_pos, need64, sel_pos, sel_neg, if_neg, if_pos]
    · simp (disch := omega) only [need_pos, sel_neg, if_neg]
theorem q_partsR (p : List NodeD) (i : Int) : F_ref04_Parts (p, i, ()) = some (if lookP p i = 0 then (0, partsP p i, ()) else (lookP p i, [], ())) := by
  unfold F_ref04_Parts
  rw [q_lookR, bind_t]
  by_cases h : lookP p i = 0
  · obtain ⟨h1, h2, h3⟩ := lookP_zero h
    obtain ⟨h5, h7, h4, _⟩ := chk_len h1
    rw [q_from p (by omega), h7]
    simp only [h, if_true, decide_true, Bool.not_true, sel_f, bind_t, fromP, ne_eq, not_true, if_false]
    rw [q_kids p i h]
    rfl
  · simp [h, sel]
theorem q_parts (p : List NodeD) (i : Int) : F_tree_Parts (p, i, ()) = some (if lookP p i = 0 then (0, partsP p i, ()) else (lookP p i, [], ())) := by
  unfold F_tree_Parts
  rw [q_looked, bind_t]
  by_cases h : lookP p i = 0
  · obtain ⟨h1, h2, h3⟩ := lookP_zero h
    obtain ⟨h5, h7, h4, _⟩ := chk_len h1
    obtain ⟨n0, n1, n2, n3, n4⟩ := node_ok h
    have e : List.getD p i.toNat zNode = nth p i := rfl
    simp only [h, h1, if_true, decide_true, Bool.not_true, sel_f, bind_t, q_arity, e, List.length_replicate, Nat.zero_add]
    unfold partsP
    have a3 := arity_le (nth p i).1
    generalize arity (nth p i).1 = a at *
    have ha : a = 0 ∨ a = 1 ∨ a = 2 := by omega
    rcases ha with rfl | rfl | rfl
    · simp (disch := omega) only [need_pos, need64]
      rw [loopC_eq]
      simp [sel]
    · have := n3 rfl
      have g := begin_le (lookP_of (p := p) (i := i - 1) h1 (by omega) (by omega))
      have e2 : (List.getD (shP p) (i - 1).toNat zshape).1 = beginP p (i - 1) := rfl
      simp (disch := omega) only [need_pos, need64]
      rw [loopC_eq]
      simp only [Int.reduceToNat, List.replicate, List.length_cons, List.length_nil, e2]
      simp (disch := omega) only [sel_pos, need_pos, need64]
      try simp only [Int.reduceToNat, List.set]
      rw [loopC_eq]
      simp [sel]
    · have hn := n4 rfl
      have g := begin_le (lookP_of (p := p) (i := i - 1) h1 (by omega) (by omega))
      have g' := begin_le (lookP_of (p := p) (i := beginP p (i - 1) - 1) h1 (by omega) (by omega))
      have e2 : (List.getD (shP p) (i - 1).toNat zshape).1 = beginP p (i - 1) := rfl
      have e3 : (List.getD (shP p) (beginP p (i - 1) - 1).toNat zshape).1 = beginP p (beginP p (i - 1) - 1) := rfl
      simp (disch := omega) only [need_pos, need64]
      rw [loopC_eq]
      simp only [Int.reduceToNat, List.replicate, List.length_cons, List.length_nil, e2]
      simp (disch := omega) only [sel_pos, need_pos, need64]
      try simp only [List.set]
      rw [loopC_eq]
      simp only [Int.reduceToNat, List.replicate, List.length_cons, List.length_nil, e3]
      simp (disch := omega) only [sel_pos, need_pos, need64, List.length_set, List.length_cons, List.length_nil]
      try simp only [List.set]
      rw [loopC_eq]
      simp [sel]
  · simp [h, sel]
end Go.Proofs
