/- Part of the proof of the law's row: YtnoeomlanbdjeaaWq04c. -/
import Derived.Test.YtnoeomlanbdjeaaWpC04
import Derived.Test.YtnoeomlanbdjeaaWqKit
set_option linter.all false
set_option linter.unusedVariables false
set_option linter.unusedSimpArgs false
/-! Chapter 4: names, templates, fields, numbers of parts. -/
namespace Go.Proofs
open Go Go.Abs
def headB (c : Int) : Bool := (decide (bitv .or .u8 c 32 ≥ 97) && (decide (bitv .or .u8 c 32 ≤ 122)) && decide (c < 128)) || decide (c = 95)
theorem q_isHead (c : Int) : F_tree_isHead (c, ()) = some (headB c, ()) := by
  simp [F_tree_isHead, headB, sel_and, sel_or]
def countedB (op : Int) : Bool := (decide (op ≥ 14) && decide (op ≤ 16)) || decide (op = 23)
theorem q_counted (c : Int) : F_tree_counted (c, ()) = some (countedB c, ()) := by
  simp [F_tree_counted, countedB, sel_and, sel_or]
def arity (op : Int) : Int := if op = 7 ∨ op = 8 then 2 else if (1 ≤ op ∧ op ≤ 6) ∨ op = 17 then 0 else if 8 < op ∧ op ≤ 23 then 1 else -1
theorem q_arity (c : Int) : F_tree_Arity (c, ()) = some (arity c, ()) := by
  simp only [F_tree_Arity, arity, sel_and, sel_or, bind_t]
  simp only [ifsel, Bool.or_eq_true, Bool.and_eq_true, decide_eq_true_eq, ge_iff_le, gt_iff_lt]
  repeat' split
  all_goals first | rfl | (exfalso; omega)
def allFrom (f : Int → Bool) (s : ByteArray) : Nat → Nat → Bool
  | 0, _ => true
  | r + 1, i => if (!f (chr s i)) = true then false else allFrom f s r (i + 1)
def restB (c : Int) : Bool := !(!headB c && (decide (c < 48) || decide (c > 57)))
def nameB (s : ByteArray) : Bool := if (decide (s = ⟨#[]⟩) || decide ((s.size : Int) > 32) || !headB (chr s 0)) = true then false else allFrom restB s s.size 0
theorem size_pos {s : ByteArray} (h : s ≠ ⟨#[]⟩) : 0 < s.size := by
  rcases Nat.eq_zero_or_pos s.size with h0 | h0
  · exfalso
    apply h
    cases s with | mk d => 
      simp only [ByteArray.size] at h0
      rw [Array.size_eq_zero_iff.1 h0]
  · exact h0
theorem allFrom_step {f : Int → Bool} {s : ByteArray} {i : Nat} (hi : i < s.size) : allFrom f s (s.size - i) i = if (!f (chr s i)) = true then false else allFrom f s (s.size - (i + 1)) (i + 1) := by
  rw [show s.size - i = (s.size - (i + 1)) + 1 by omega, allFrom]
theorem q_isName (s : ByteArray) : F_tree_isName (s, ()) = some (nameB s, ()) := by
  unfold F_tree_isName nameB
  simp only [sel_or, bind_t]
  by_cases h1 : s = ⟨#[]⟩
  · subst h1; rfl
  have hp := size_pos h1
  by_cases h2 : (s.size : Int) > 32
  · simp [h1, h2, sel]
  simp (disch := omega) only [need_pos, q_isHead, bind_t]
  simp only [h1, h2, decide_false, Bool.or_false, Bool.false_or, sel_f, bind_t]
  cases hh : headB (chr s 0) with
  | false => rfl
  | true =>
    simp only [Bool.not_true, sel_f, Bool.false_eq_true, if_false]
    refine (loopC_run (I := fun s' => 0 ≤ s'.1.1 ∧ s'.1.1 ≤ (s.size : Int)) (μ := fun s' => s.size - s'.1.1.toNat) (F := fun s' => (allFrom restB s (s.size - s'.1.1.toNat) s'.1.1.toNat, ())) ?_ _ (by simp)).trans (by simp)
    rintro ⟨⟨i, b, ⟨⟩⟩, ⟨⟩⟩ ⟨hi0, hi1⟩
    simp only at hi0 hi1 ⊢
    by_cases hi : i < (s.size : Int)
    · simp (disch := omega) only [sel_pos, need_pos, q_isHead, bind_t, need64, sel_or, bind_id]
      rw [allFrom_step (i := i.toNat) (by omega)]
      unfold restB
      cases headB (chr s i.toNat) <;> simp only [Bool.not_true, Bool.not_false, sel_t, sel_f, bind_t, Bool.true_and, Bool.false_and, if_true, if_false, Bool.false_eq_true, Bool.not_not]
      · cases (decide (chr s i.toNat < 48) || decide (chr s i.toNat > 57)) <;> simp only [Bool.not_true, Bool.not_false, sel_t, sel_f, if_true, if_false, Bool.false_eq_true]
        · exact .inl ⟨_, rfl, ⟨by simp only; omega, by simp only; omega⟩, by simp only; omega, by rw [show (i + 1).toNat = i.toNat + 1 by omega]⟩
        · exact .inr trivial
      · exact .inl ⟨_, rfl, ⟨by simp only; omega, by simp only; omega⟩, by simp only; omega, by rw [show (i + 1).toNat = i.toNat + 1 by omega]⟩
    · simp (disch := omega) only [sel_neg]
      rw [show s.size - i.toNat = 0 by omega]
      exact .inr rfl
theorem byte_all {p : Nat → Bool} (h : (List.range 256).all p = true) {n : Nat} (hn : n < 256) : p n = true := by
  rw [List.all_eq_true] at h
  exact h n (by simpa using hn)
def tmplF (s : ByteArray) : Nat → Nat → Bool
  | 0, _ => true
  | r + 1, i => if i < s.size then
      (if chr s i ≠ 37 then tmplF s r (i + 1)
      else if (decide ((i : Int) + 1 = s.size) || (!decide (chr s (i + 1) = 37) && (decide (chr s (i + 1) < 48) || decide (chr s (i + 1) > 57)))) = true then false
      else tmplF s r (i + 2)) else true
theorem tmplF_more {s : ByteArray} : ∀ {r i : Nat}, s.size ≤ r + i → tmplF s (r + 1) i = tmplF s r i
  | 0, i, h => by
    rw [tmplF.eq_2, if_neg (by omega), tmplF.eq_1]
  | r + 1, i, h => by
    rw [tmplF.eq_2 s i (r + 1), tmplF.eq_2 s i r, tmplF_more (r := r) (i := i + 1) (by omega), tmplF_more (r := r) (i := i + 2) (by omega)]
def tmplB (s : ByteArray) : Bool := if (s.size : Int) > 255 then false else tmplF s s.size 0
theorem tmplF_step {s : ByteArray} {i : Nat} (hi : i < s.size) : tmplF s (s.size - i) i = (if chr s i ≠ 37 then tmplF s (s.size - (i + 1)) (i + 1)
      else if (decide ((i : Int) + 1 = s.size) || (!decide (chr s (i + 1) = 37) && (decide (chr s (i + 1) < 48) || decide (chr s (i + 1) > 57)))) = true then false
      else tmplF s (s.size - (i + 2)) (i + 2)) := by
  rw [show s.size - i = (s.size - (i + 1)) + 1 by omega, tmplF.eq_2, if_pos hi]
  by_cases h : s.size = i + 1
  · rw [show s.size - (i + 1) = 0 by omega, show s.size - (i + 2) = 0 by omega]
  · rw [show s.size - (i + 1) = (s.size - (i + 2)) + 1 by omega, tmplF_more (r := s.size - (i + 2)) (i := i + 2) (by omega)]
theorem q_tmpl (s : ByteArray) : F_tree_isTemplate (s, ()) = some (tmplB s, ()) := by
  unfold F_tree_isTemplate tmplB
  by_cases h1 : (s.size : Int) > 255
  · simp [h1, sel]
  simp only [h1, decide_false, sel_f, if_false]
  refine (loopC_run (I := fun s' => 0 ≤ s'.1.1 ∧ s'.1.1 ≤ (s.size : Int)) (μ := fun s' => s.size - s'.1.1.toNat) (F := fun s' => (tmplF s (s.size - s'.1.1.toNat) s'.1.1.toNat, ())) ?_ _ (by simp)).trans (by simp)
  rintro ⟨⟨i, b, ⟨⟩⟩, ⟨⟩⟩ ⟨hi0, hi1⟩
  simp only at hi0 hi1 ⊢
  by_cases hi : i < (s.size : Int)
  · rw [tmplF_step (i := i.toNat) (by omega)]
    by_cases h37 : chr s i.toNat = 37
    · simp (disch := omega) only [sel_pos, need_pos, bind_t, need64, h37, decide_true, Bool.not_true, sel_f, ne_eq, not_true, if_false]
      by_cases hend : i + 1 = (s.size : Int)
      · simp (disch := omega) only [sel_pos, bind_t, sel_t, hend, decide_true]
        rw [if_pos (by simp; omega)]
        exact .inr rfl
      · have e1 : (i.toNat : Int) + 1 ≠ (s.size : Int) := by omega
        have e2 : (i + 1).toNat = i.toNat + 1 := by omega
        simp (disch := omega) only [sel_neg, need_pos, bind_t, bind_id, sel_or, sel_and, need64, e1, e2, decide_false, Bool.false_or]
        cases (!decide (chr s (i.toNat + 1) = 37) && (decide (chr s (i.toNat + 1) < 48) || decide (chr s (i.toNat + 1) > 57))) <;> simp only [sel_t, sel_f, if_true, if_false, Bool.false_eq_true]
        · exact .inl ⟨_, rfl, ⟨by simp only; omega, by simp only; omega⟩, by simp only; omega, by rw [show (i + 1 + 1).toNat = i.toNat + 2 by omega]⟩
        · exact .inr trivial
    · simp (disch := omega) only [sel_pos, need_pos, bind_t, need64, h37, decide_false, Bool.not_false, sel_t, ne_eq, not_false_eq_true, if_true]
      exact .inl ⟨_, rfl, ⟨by simp only; omega, by simp only; omega⟩, by simp only; omega, by rw [show (i + 1).toNat = i.toNat + 1 by omega]⟩
  · simp (disch := omega) only [sel_neg]
    rw [show s.size - i.toNat = 0 by omega]
    exact .inr rfl
def zset (x : SetD) : Bool := eqSet x zSet
/-- Are a node's fields as its kind asks for? -/
def fieldB (n : NodeD) : Bool :=
  if (!decide (n.1 = 5) && !zset n.2.2.2.1) = true then false
  else if ((decide (n.2.1 < 0) || decide (n.2.1 > 50)) || (decide (n.2.1 > 0) && !countedB n.1)) = true then false
  else if n.1 = 4 then !decide (n.2.2.1 = ⟨#[]⟩) && decide ((n.2.2.1.size : Int) ≤ 255)
  else if n.1 = 6 then nameB n.2.2.1
  else if n.1 = 19 then decide (n.2.2.1 = ⟨#[]⟩) || nameB n.2.2.1
  else if n.1 = 22 then tmplB n.2.2.1
  else decide (n.2.2.1 = ⟨#[]⟩)
theorem q_fields (n : NodeD) : F_tree_fields (n, ()) = some (fieldB n, ()) := by
  unfold F_tree_fields fieldB zset
  simp only [q_counted, q_isName, q_tmpl, sel_and, sel_or, bind_t, bind_id]
  cases (!decide (n.1 = 5) && !eqSet n.2.2.2.1 zSet) <;> simp only [sel_t, sel_f, if_true, if_false, Bool.false_eq_true]
  cases ((decide (n.2.1 < 0) || decide (n.2.1 > 50)) || (decide (n.2.1 > 0) && !countedB n.1)) <;> simp only [sel_t, sel_f, if_true, if_false, Bool.false_eq_true]
  simp only [ifsel, decide_eq_true_eq]
  repeat' split
  all_goals rfl
end Go.Proofs

/-! Chapter 4: the shapes of a pattern's nodes. -/
namespace Go.Proofs
open Go Go.Abs
def nth (p : List NodeD) (i : Int) : NodeD := List.getD p i.toNat zNode
def sth (p : List shapeD) (i : Int) : shapeD := List.getD p i.toNat zshape
def less (p : List NodeD) (op a b : Int) (r : Nat) : Bool := (r == 0) && (decide (a = 2) && decide ((nth p (b - 1)).1 = op))
/-- A node's parts, from the last one: where they begin, how high they are. -/
def inner (p : List NodeD) (sh : List shapeD) (op a : Int) : Nat → Int → Int → Option (Int × Int)
  | 0, b, h => some (b, h)
  | r + 1, b, h => if b = 0 then none else
      inner p sh op a r (sth sh (b - 1)).1 (max h (if less p op a b r = true then (sth sh (b - 1)).2.1 - 1 else (sth sh (b - 1)).2.1))
def scan (p : List NodeD) : List NodeD → List shapeD → (Int × Int) × List shapeD
  | [], sh => ((0, 0), sh)
  | n :: ns, sh =>
    if arity n.1 < 0 then (((sh.length : Int), 40), sh)
    else if (!fieldB n) = true then (((sh.length : Int), 41), sh)
    else match inner p sh n.1 (arity n.1) (arity n.1).toNat (sh.length : Int) 0 with
      | none => (((sh.length : Int), 42), sh)
      | some (b, h) => if h + 1 > 60 then (((sh.length : Int), 4), sh) else scan p ns (sh ++ [(b, h + 1, ())])
def endP (p : List NodeD) (x : (Int × Int) × List shapeD) : Int × Int :=
  if x.1.2 ≠ 0 then x.1
  else if (decide ((p.length : Int) = 0) || !decide ((sth x.2 ((p.length : Int) - 1)).1 = 0)) = true then ((p.length : Int), 42)
  else (0, 0)
def eachP (p : List NodeD) : Int × Int := endP p (scan p p [])
/-- The shapes so far are as they may be. -/
def ShOk (sh : List shapeD) : Prop := ∀ (i : Nat) (x : shapeD), sh[i]? = some x → 0 ≤ x.1 ∧ x.1 ≤ (i : Int) ∧ 1 ≤ x.2.1 ∧ x.2.1 ≤ 60
theorem arity_le (op : Int) : arity op ≤ 2 := by
  unfold arity
  repeat' split
  all_goals omega
theorem scan_at {p : List NodeD} {sh : List shapeD} {i : Nat} (hi : i < p.length) : scan p (List.drop i p) sh =
    if arity (List.getD p i zNode).1 < 0 then (((sh.length : Int), 40), sh)
    else if (!fieldB (List.getD p i zNode)) = true then (((sh.length : Int), 41), sh)
    else match inner p sh (List.getD p i zNode).1 (arity (List.getD p i zNode).1) (arity (List.getD p i zNode).1).toNat (sh.length : Int) 0 with
      | none => (((sh.length : Int), 42), sh)
      | some (b, h) => if h + 1 > 60 then (((sh.length : Int), 4), sh) else scan p (List.drop (i + 1) p) (sh ++ [(b, h + 1, ())]) := by
  rw [List.drop_eq_getElem_cons hi, scan, List.getD_eq_getElem?_getD, List.getElem?_eq_getElem hi]
  rfl
theorem inner_step {p : List NodeD} {sh : List shapeD} {op a b h : Int} {r : Nat} (hb : b ≠ 0) : inner p sh op a (r + 1) b h = inner p sh op a r (sth sh (b - 1)).1 (max h (if less p op a b r = true then (sth sh (b - 1)).2.1 - 1 else (sth sh (b - 1)).2.1)) := by
  rw [inner, if_neg hb]
theorem ShOk.push {sh : List shapeD} (hok : ShOk sh) {b h : Int} (h1 : 0 ≤ b) (h2 : b ≤ (sh.length : Int)) (h3 : 1 ≤ h) (h4 : h ≤ 60) : ShOk (sh ++ [(b, h, ())]) := by
  intro i x hx
  rw [List.getElem?_append] at hx
  split at hx
  · exact hok i x hx
  · rename_i hlt
    have : i = sh.length := by
      have := (List.getElem?_eq_some_iff.1 hx).1
      simp at this
      omega
    subst this
    simp at hx
    subst hx
    exact ⟨h1, h2, h3, h4⟩
theorem sth_ok {sh : List shapeD} (hok : ShOk sh) {b : Int} (h0 : 0 < b) (h1 : b ≤ (sh.length : Int)) :
    0 ≤ (sth sh (b - 1)).1 ∧ (sth sh (b - 1)).1 ≤ b - 1 ∧ 1 ≤ (sth sh (b - 1)).2.1 ∧ (sth sh (b - 1)).2.1 ≤ 60 := by
  have hlt : (b - 1).toNat < sh.length := by omega
  have := hok (b - 1).toNat _ (List.getElem?_eq_getElem hlt)
  unfold sth
  rw [List.getD_eq_getElem?_getD, List.getElem?_eq_getElem hlt]
  simp only [Option.getD_some]
  refine ⟨this.1, ?_, this.2.2.1, this.2.2.2⟩
  have := this.2.1
  omega
theorem less_is {p : List NodeD} {op a b k : Int} (ha2 : a ≤ 2) (hk : 0 ≤ k) (hj : k < a) (h0 : 0 < b) : less p op a b (a.toNat - (k.toNat + 1)) = (decide (k = 1) && decide ((nth p (b - 1)).1 = op)) := by
  unfold less
  by_cases h1 : k = 1
  · have : a = 2 := by omega
    subst h1 this
    rfl
  · have : ¬ (a.toNat - (k.toNat + 1) = 0 ∧ a = 2) := by omega
    by_cases h2 : a = 2
    · have h3 : ¬ (a.toNat - (k.toNat + 1) = 0) := fun e => this ⟨e, h2⟩
      have h4 : (a.toNat - (k.toNat + 1) == 0) = false := by simpa using h3
      rw [h4]
      simp [h1]
    · simp [h2, h1]
theorem inner_ok {p : List NodeD} {sh : List shapeD} (hok : ShOk sh) {op a : Int} : ∀ {r : Nat} {b h b' h' : Int}, 0 ≤ b → b ≤ (sh.length : Int) → 0 ≤ h → h ≤ 60 → inner p sh op a r b h = some (b', h') → 0 ≤ b' ∧ b' ≤ b ∧ 0 ≤ h' ∧ h' ≤ 60
  | 0, b, h, b', h', h0, h1, h2, h3, hi => by
    simp only [inner, Option.some.injEq, Prod.mk.injEq] at hi
    omega
  | r + 1, b, h, b', h', h0, h1, h2, h3, hi => by
    rw [inner] at hi
    split at hi
    · cases hi
    · have := sth_ok hok (b := b) (by omega) h1
      have h5 := inner_ok hok (by omega) (by omega) (by split <;> omega) (by split <;> omega) hi
      omega
theorem q_each_chk (p : List NodeD) (hp : p.length ≤ 2048) : F_tree_each_chk (p, ()) = some ((eachP p).1, (eachP p).2, ()) := by
  unfold F_tree_each_chk
  simp only
  rw [need_pos (by omega)]
  refine (loopC_run (σ := (Int × shapeD) × List shapeD × Unit) (ρ := Int × Int × Unit) (I := fun s => 0 ≤ s.1.1 ∧ s.1.1 ≤ (p.length : Int) ∧ (s.2.1.length : Int) = s.1.1 ∧ ShOk s.2.1) (μ := fun s => p.length - s.1.1.toNat)
    (F := fun s => ((endP p (scan p (List.drop s.1.1.toNat p) s.2.1)).1, (endP p (scan p (List.drop s.1.1.toNat p) s.2.1)).2, ())) ?_ _ ?_).trans ?_
  rotate_left
  · refine ⟨by simp, by simp, by simp, ?_⟩
    intro i x hx
    simp at hx
  · simp [eachP]
  rintro ⟨⟨i, j1, j2, ⟨⟩⟩, sh, ⟨⟩⟩ ⟨hi0, hi1, hlen, hok⟩
  simp only at hi0 hi1 hlen hok ⊢
  by_cases hi : i < (p.length : Int)
  · rw [sel_pos hi, need_pos ⟨hi0, hi⟩, scan_at (i := i.toNat) (by omega)]
    simp only [q_arity, bind_t, q_fields]
    have hlen' : (sh.length : Int) = i := hlen
    generalize hnd : List.getD p i.toNat zNode = nd
    by_cases ha : arity nd.1 < 0
    · rw [sel_pos ha, if_pos ha]
      exact .inr (by simp [endP, hlen'])
    rw [sel_neg ha, if_neg ha]
    cases hf : fieldB nd with
    | false =>
      simp only [Bool.not_false, sel_t, if_true]
      exact .inr (by simp [endP, hlen'])
    | true =>
      simp only [Bool.not_true, sel_f, Bool.false_eq_true, if_false]
      have ha2 := arity_le nd.1
      generalize har : arity nd.1 = a at *
      rw [loopC_run (σ := (Int × shapeD) × shapeD × NodeD × List shapeD × Unit) (ρ := (Int × shapeD) × List shapeD × Unit ⊕ Int × Int × Unit)
        (I := fun s => 0 ≤ s.1.1 ∧ s.1.1 ≤ a ∧ s.1.2 = (j1, j2, ()) ∧ 0 ≤ s.2.1.1 ∧ s.2.1.1 ≤ i ∧ 0 ≤ s.2.1.2.1 ∧ s.2.1.2.1 ≤ 60 ∧ s.2.2 = (nd, sh, ())) (μ := fun s => a.toNat - s.1.1.toNat)
        (F := fun s => match inner p sh nd.1 a (a.toNat - s.1.1.toNat) s.2.1.1 s.2.1.2.1 with
          | none => .inr (i, 42, ())
          | some (b, h) => if h + 1 > 60 then .inr (i, 4, ()) else .inl ((i + 1, j1, j2, ()), sh ++ [(b, h + 1, ())], ())) ?_ _ ?_]
      · simp only [hlen', Int.toNat_zero, Nat.sub_zero]
        generalize hin : inner p sh nd.1 a a.toNat i 0 = o
        rcases o with _ | ⟨b, h⟩
        · exact .inr (by simp [endP])
        · simp only
          by_cases h60 : h + 1 > 60
          · rw [if_pos h60, if_pos h60]
            exact .inr (by simp [endP])
          · rw [if_neg h60, if_neg h60]
            have hb := inner_ok hok hi0 (by omega) (Int.le_refl 0) (by omega) hin
            exact .inl ⟨_, rfl, ⟨by simp only; omega, by simp only; omega, by simp; omega, hok.push hb.1 (by omega) (by omega) (by omega)⟩, by simp only; omega, by simp only [show (i + 1).toNat = i.toNat + 1 by omega]⟩
      · rintro ⟨⟨k, k1, k2, ⟨⟩⟩, ⟨b, h, ⟨⟩⟩, nd', acc', ⟨⟩⟩ ⟨hk0, hk1, e1, hb0, hb1, hh0, hh1, e2⟩
        simp only [Prod.mk.injEq, and_true] at hk0 hk1 e1 hb0 hb1 hh0 hh1 e2 ⊢
        obtain ⟨rfl, rfl⟩ := e1
        obtain ⟨rfl, rfl⟩ := e2
        by_cases hk : k < a
        · rw [sel_pos hk]
          obtain ⟨r, hr⟩ : ∃ r, a.toNat - k.toNat = r + 1 := ⟨a.toNat - (k.toNat + 1), by omega⟩
          by_cases hb : b = 0
          · rw [sel_pos hb, hr]
            simp only [inner, if_pos hb]
            exact .inr trivial
          · have hs := sth_ok hok (b := b) (by omega) (by omega)
            rw [sel_neg hb]
            simp (disch := omega) only [need64, need_pos]
            simp only [Nat.zero_add]
            have es : List.getD acc' (b - 1).toNat zshape = sth acc' (b - 1) := rfl
            have en : List.getD p (b - 1).toNat zNode = nth p (b - 1) := rfl
            rw [es, en, hr, inner_step hb]
            have hl := less_is (p := p) (op := nd'.1) (a := a) (b := b) (k := k) ha2 hk0 hk (by omega)
            rw [show a.toNat - (k.toNat + 1) = r by omega] at hl
            rw [hl, show r = a.toNat - (k + 1).toNat by omega]
            refine .inl ?_
            by_cases h1 : k = 1
            · by_cases h2 : (nth p (b - 1)).1 = nd'.1
              · simp (disch := omega) only [sel_pos, need64, need_pos, bind_t, h1, h2, decide_true, Bool.and_self, if_true, sel_t]
                exact ⟨_, rfl, ⟨by simp only; omega, by simp only; omega, rfl, by simp only; omega, by simp only; omega, by simp only; omega, by simp only; omega, rfl⟩, by simp only; omega, rfl⟩
              · simp (disch := omega) only [sel_pos, need64, need_pos, bind_t, h1, h2, decide_true, decide_false, Bool.and_false, Bool.false_eq_true, if_false, sel_f]
                exact ⟨_, rfl, ⟨by simp only; omega, by simp only; omega, rfl, by simp only; omega, by simp only; omega, by simp only; omega, by simp only; omega, rfl⟩, by simp only; omega, rfl⟩
            · simp (disch := omega) only [sel_neg, need64, need_pos, bind_t, h1, decide_false, Bool.false_and, Bool.false_eq_true, if_false, sel_f]
              exact ⟨_, rfl, ⟨by simp only; omega, by simp only; omega, rfl, by simp only; omega, by simp only; omega, by simp only; omega, by simp only; omega, rfl⟩, by simp only; omega, rfl⟩
        · have : k = a := by omega
          subst this
          rw [sel_neg hk, Nat.sub_self]
          simp only [inner]
          simp (disch := omega) only [need64, bind_t]
          by_cases h60 : h + 1 > 60
          · rw [sel_pos h60, if_pos h60]
            exact .inr rfl
          · rw [sel_neg h60, if_neg h60]
            simp (disch := omega) only [need64, need_pos, bind_t, F_tree_Check_1]
            exact .inr (by simp)
      · exact ⟨by simp, by simp; omega, rfl, hi0, Int.le_refl _, by simp, by simp, rfl⟩
  · have hie : i = p.length := by omega
    rw [sel_neg hi, List.drop_eq_nil_of_le (by omega)]
    simp only [scan, endP]
    by_cases h0 : (p.length : Int) = 0
    · simp only [h0, sel_pos, bind_t, sel_t, decide_true, Bool.true_or, if_true]
      exact .inr (by simp)
    · have e1 : List.getD sh ((p.length : Int) - 1).toNat zshape = sth sh ((p.length : Int) - 1) := rfl
      simp (disch := omega) only [sel_neg, need64, need_pos, bind_t, Nat.zero_add, e1, h0, decide_false, Bool.false_or]
      by_cases hz : (sth sh ((p.length : Int) - 1)).1 = 0 <;> simp [sel_t, sel_f, hz]
end Go.Proofs

/-! Chapter 4: what the layer and its reference answer. -/
namespace Go.Proofs
open Go Go.Abs
def chkP (p : List NodeD) : Int × Int := if (p.length : Int) > 2048 then (0, 2) else eachP p
def shP (p : List NodeD) : List shapeD := (scan p p []).2
theorem q_check (p : List NodeD) : F_tree_Check (p, ()) = some ((chkP p).1, (chkP p).2, ()) := by
  unfold F_tree_Check chkP
  by_cases h : (p.length : Int) > 2048
  · simp [h, sel]
  · rw [sel_neg h, q_each_chk p (by omega), if_neg h]
    rfl
/-- What the walk ends with. -/
theorem scan_ends (p : List NodeD) : ∀ (ns : List NodeD) (sh : List shapeD), (∃ a e s, scan p ns sh = ((a, e), s) ∧ e ≠ 0 ∧ 0 ≤ a) ∨ ∃ s, scan p ns sh = ((0, 0), s) ∧ s.length = sh.length + ns.length
  | [], sh => .inr ⟨sh, rfl, rfl⟩
  | n :: ns, sh => by
    unfold scan
    split
    · exact .inl ⟨_, _, _, rfl, by decide, by omega⟩
    split
    · exact .inl ⟨_, _, _, rfl, by decide, by omega⟩
    split
    · exact .inl ⟨_, _, _, rfl, by decide, by omega⟩
    split
    · exact .inl ⟨_, _, _, rfl, by decide, by omega⟩
    · rename_i b h _ _
      rcases scan_ends p ns (sh ++ [(b, h + 1, ())]) with h1 | ⟨s, h1, h2⟩
      · exact .inl h1
      · exact .inr ⟨s, h1, by rw [h2]; simp; omega⟩
theorem scan_ok (p : List NodeD) : ∀ (ns : List NodeD) (sh : List shapeD), ShOk sh → ShOk (scan p ns sh).2
  | [], sh, h => h
  | n :: ns, sh, h => by
    unfold scan
    split
    · exact h
    split
    · exact h
    split
    · exact h
    split
    · exact h
    · rename_i b h' hin _
      have := inner_ok h (by omega) (Int.le_refl _) (Int.le_refl 0) (by omega) hin
      exact scan_ok p ns _ (h.push this.1 this.2.1 (by omega) (by omega))
theorem shOk_nil : ShOk [] := fun i x h => by simp at h
/-- Of a right pattern. -/
theorem chk_len {p : List NodeD} (h : (chkP p).2 = 0) : (p.length : Int) ≤ 2048 ∧ scan p p [] = ((0, 0), shP p) ∧ (shP p).length = p.length ∧ 0 < p.length ∧ (sth (shP p) ((p.length : Int) - 1)).1 = 0 := by
  unfold chkP at h
  split at h
  · cases h
  · rename_i hl
    unfold eachP endP at h
    rcases scan_ends p p [] with ⟨a, e, s, h1, h2, _⟩ | ⟨s, h1, h2⟩
    · rw [h1] at h
      simp only [if_pos h2] at h
      exact absurd h h2
    · have hs : shP p = s := by unfold shP; rw [h1]
      rw [h1] at h
      simp only [ne_eq, not_true, if_false] at h
      split at h
      · cases h
      · rename_i hc
        simp only [Bool.or_eq_true, decide_eq_true_eq, Bool.not_eq_true', decide_eq_false_iff_not, not_or, Classical.not_not] at hc
        rw [hs]
        exact ⟨by omega, h1, by rw [h2]; simp, by omega, hc.2⟩
theorem shP_ok (p : List NodeD) : ShOk (shP p) := scan_ok p p [] shOk_nil
/-- Is there a node of that number? -/
def lookP (p : List NodeD) (at_ : Int) : Int := if (chkP p).2 ≠ 0 then (chkP p).2 else if at_ < 0 ∨ at_ ≥ (p.length : Int) then 1 else 0
theorem lookP_zero {p : List NodeD} {i : Int} (h : lookP p i = 0) : (chkP p).2 = 0 ∧ 0 ≤ i ∧ i < (p.length : Int) := by
  unfold lookP at h
  split at h
  · rename_i h1; exact absurd h h1
  · rename_i h1
    split at h
    · cases h
    · rename_i h2
      exact ⟨Classical.not_not.1 h1, by omega, by omega⟩
theorem lookP_of {p : List NodeD} {i : Int} (h : (chkP p).2 = 0) (h0 : 0 ≤ i) (h1 : i < (p.length : Int)) : lookP p i = 0 := by
  unfold lookP
  rw [if_neg (by simp [h]), if_neg (by omega)]
def beginP (p : List NodeD) (i : Int) : Int := (sth (shP p) i).1
def highP (p : List NodeD) (i : Int) : Int := (sth (shP p) i).2.1
theorem begin_le {p : List NodeD} {i : Int} (h : lookP p i = 0) : 0 ≤ beginP p i ∧ beginP p i ≤ i ∧ 1 ≤ highP p i ∧ highP p i ≤ 60 := by
  obtain ⟨h1, h2, h3⟩ := lookP_zero h
  obtain ⟨_, _, h4, _⟩ := chk_len h1
  have := sth_ok (shP_ok p) (b := i + 1) (by omega) (by omega)
  rw [show i + 1 - 1 = i by omega] at this
  exact this
theorem scan_node {p : List NodeD} : ∀ {n k : Nat} {sh s : List shapeD}, p.length - k = n → sh.length = k → k ≤ p.length → scan p (List.drop k p) sh = ((0, 0), s) → List.take k s = sh ∧ ∀ i, k ≤ i → i < p.length →
    0 ≤ arity (nth p i).1 ∧ fieldB (nth p i) = true ∧ ∃ b h, inner p (List.take i s) (nth p i).1 (arity (nth p i).1) (arity (nth p i).1).toNat i 0 = some (b, h) ∧ h + 1 ≤ 60 ∧ s[i]? = some (b, h + 1, ())
  | 0, k, sh, s, hn, hl, hk, h => by
    rw [List.drop_eq_nil_of_le (by omega)] at h
    simp only [scan, Prod.mk.injEq, true_and] at h
    subst h
    exact ⟨by rw [← hl, List.take_length], fun i h1 h2 => by omega⟩
  | n + 1, k, sh, s, hn, hl, hk, h => by
    rw [scan_at (by omega)] at h
    have e : List.getD p k zNode = nth p k := by unfold nth; simp
    rw [e] at h
    split at h
    · simp at h
    rename_i ha
    split at h
    · simp at h
    rename_i hf
    split at h
    · simp at h
    rename_i b h' hin
    split at h
    · simp at h
    rename_i h60
    obtain ⟨h1, h2⟩ := scan_node (n := n) (by omega) (by simp; omega) (by omega) h
    have h3 : List.take k s = sh := by
      have := congrArg (List.take k) h1
      rw [List.take_take, Nat.min_eq_left (by omega), List.take_append_of_le_length (by omega), ← hl, List.take_length] at this
      rw [← hl]; exact this
    refine ⟨h3, fun i hi1 hi2 => ?_⟩
    by_cases hik : i = k
    · subst hik
      refine ⟨by omega, by simpa using hf, b, h', by rw [h3]; rw [hl] at hin; exact hin, by omega, ?_⟩
      have := congrArg (fun l => l[i]?) h1
      simp only [List.getElem?_take] at this
      rw [if_pos (by omega), List.getElem?_append_right (by omega), hl, Nat.sub_self] at this
      simpa using this
    · exact h2 i (by omega) hi2
theorem sth_get {s : List shapeD} {i : Nat} {x : shapeD} (h : s[i]? = some x) : sth s i = x := by
  unfold sth
  rw [Int.toNat_natCast, List.getD_eq_getElem?_getD, h]
  rfl
theorem sth_take {s : List shapeD} {n : Nat} {j : Int} (h0 : 0 ≤ j) (h1 : j < n) : sth (List.take n s) j = sth s j := by
  unfold sth
  rw [List.getD_eq_getElem?_getD, List.getD_eq_getElem?_getD, List.getElem?_take, if_pos (by omega)]
def adj (p : List NodeD) (op b : Int) : Int := if (nth p (b - 1)).1 = op then highP p (b - 1) - 1 else highP p (b - 1)
/-- A node of a right pattern: its part is made of its parts. -/
theorem node_ok {p : List NodeD} {i : Int} (h : lookP p i = 0) : 0 ≤ arity (nth p i).1 ∧ fieldB (nth p i) = true ∧ (arity (nth p i).1 = 0 → beginP p i = i ∧ highP p i = 1) ∧
    (arity (nth p i).1 = 1 → 1 ≤ i ∧ beginP p i = beginP p (i - 1) ∧ highP p i = highP p (i - 1) + 1) ∧
    (arity (nth p i).1 = 2 → 1 ≤ i ∧ 1 ≤ beginP p (i - 1) ∧ beginP p i = beginP p (beginP p (i - 1) - 1) ∧ highP p i = max (highP p (i - 1)) (adj p (nth p i).1 (beginP p (i - 1))) + 1) := by
  obtain ⟨h1, h2, h3⟩ := lookP_zero h
  obtain ⟨_, hs, hl, _⟩ := chk_len h1
  obtain ⟨k, rfl⟩ : ∃ k : Nat, i = k := ⟨i.toNat, by omega⟩
  obtain ⟨_, hn⟩ := scan_node (p := p) (k := 0) (sh := []) (n := p.length) (by omega) rfl (by omega) (s := shP p) (by simpa using hs)
  obtain ⟨ha, hf, b, h', hin, _, hx⟩ := hn k (by omega) (by omega)
  have hsx := sth_get hx
  have hb : beginP p k = b := by unfold beginP; rw [hsx]
  have hh : highP p k = h' + 1 := by unfold highP; rw [hsx]
  refine ⟨ha, hf, fun h0 => ?_, fun h0 => ?_, fun h0 => ?_⟩
  · rw [h0] at hin
    simp only [Int.toNat_zero, inner, Option.some.injEq, Prod.mk.injEq] at hin
    omega
  · rw [h0] at hin
    simp only [Int.reduceToNat, inner] at hin
    split at hin
    · cases hin
    · rename_i hk0
      rw [sth_take (by omega) (by omega)] at hin
      simp only [less, Option.some.injEq, Prod.mk.injEq] at hin
      simp at hin
      obtain ⟨_, _, hhi, _⟩ := begin_le (lookP_of (p := p) (i := (k : Int) - 1) h1 (by omega) (by omega))
      refine ⟨by omega, by rw [hb, ← hin.1]; rfl, ?_⟩
      rw [hh, ← hin.2]
      unfold highP at hhi ⊢
      omega
  · rw [h0] at hin
    simp only [Int.reduceToNat, inner] at hin
    split at hin
    · cases hin
    · rename_i hk0
      rw [sth_take (by omega) (by omega)] at hin
      split at hin
      · cases hin
      · rename_i hb0
        obtain ⟨g1, g2, hhi, _⟩ := begin_le (lookP_of (p := p) (i := (k : Int) - 1) h1 (by omega) (by omega))
        have e1 : (sth (shP p) ((k : Int) - 1)).1 = beginP p ((k : Int) - 1) := rfl
        rw [e1] at hin hb0
        rw [sth_take (by omega) (by omega)] at hin
        simp only [Option.some.injEq, Prod.mk.injEq] at hin
        refine ⟨by omega, by omega, by rw [hb, ← hin.1]; rfl, ?_⟩
        rw [hh, ← hin.2]
        unfold adj less highP at *
        simp
        omega
/-- The last nodes of a node's parts. -/
def partsP (p : List NodeD) (i : Int) : List Int := if arity (nth p i).1 = 1 then [i - 1] else if arity (nth p i).1 = 2 then [beginP p (i - 1) - 1, i - 1] else []
end Go.Proofs
