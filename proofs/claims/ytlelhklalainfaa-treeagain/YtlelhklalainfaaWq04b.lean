/- Part of the proof of the law's row: YtlelhklalainfaaWq04b. -/
import Derived.Test.YtlelhklalainfaaWq04a
set_option linter.all false
set_option linter.unusedVariables false
set_option linter.unusedSimpArgs false
/-! Chapter 4: the shapes of a pattern's nodes. -/
namespace Go.Proofs
open Go Go.Abs
def nth (p : List NodeD) (i : Int) : NodeD := List.getD p i.toNat zNode
def sth (p : List shapeD) (i : Int) : shapeD := List.getD p i.toNat zshape
def less (p : List NodeD) (op a b : Int) (r : Nat) : Bool := (r == 0) && (decide (a = 2) && decide ((nth p (b - 1)).1 = op))
/-- A node's parts, from the last one: where they begin, how high they are. -/
def inner (p : List NodeD) (sh : List shapeD) (op a : Int) : Nat → Int → Int → Option (Int × Int)
  | 0, b, h => some (b, h)
  | r + 1, b, h => if b = 0 then none else
      inner p sh op a r (sth sh (b - 1)).1 (max h (if less p op a b r = true then (sth sh (b - 1)).2.1 - 1 else (sth sh (b - 1)).2.1))
def scan (p : List NodeD) : List NodeD → List shapeD → (Int × Int) × List shapeD
  | [], sh => ((0, 0), sh)
  | n :: ns, sh =>
    if arity n.1 < 0 then (((sh.length : Int), 40), sh)
    else if (!fieldB n) = true then (((sh.length : Int), 41), sh)
    else match inner p sh n.1 (arity n.1) (arity n.1).toNat (sh.length : Int) 0 with
      | none => (((sh.length : Int), 42), sh)
      | some (b, h) => if h + 1 > 60 then (((sh.length : Int), 4), sh) else scan p ns (sh ++ [(b, h + 1, ())])
def endP (p : List NodeD) (x : (Int × Int) × List shapeD) : Int × Int :=
  if x.1.2 ≠ 0 then x.1
  else if (decide ((p.length : Int) = 0) || !decide ((sth x.2 ((p.length : Int) - 1)).1 = 0)) = true then ((p.length : Int), 42)
  else (0, 0)
def eachP (p : List NodeD) : Int × Int := endP p (scan p p [])
/-- The shapes so far are as they may be. -/
def ShOk (sh : List shapeD) : Prop := ∀ (i : Nat) (x : shapeD), sh[i]? = some x → 0 ≤ x.1 ∧ x.1 ≤ (i : Int) ∧ 1 ≤ x.2.1 ∧ x.2.1 ≤ 60
theorem arity_le (op : Int) : arity op ≤ 2 := by
  unfold arity
  repeat' split
  all_goals omega
theorem scan_at {p : List NodeD} {sh : List shapeD} {i : Nat} (hi : i < p.length) : scan p (List.drop i p) sh =
    if arity (List.getD p i zNode).1 < 0 then (((sh.length : Int), 40), sh)
    else if (!fieldB (List.getD p i zNode)) = true then (((sh.length : Int), 41), sh)
    else match inner p sh (List.getD p i zNode).1 (arity (List.getD p i zNode).1) (arity (List.getD p i zNode).1).toNat (sh.length : Int) 0 with
      | none => (((sh.length : Int), 42), sh)
      | some (b, h) => if h + 1 > 60 then (((sh.length : Int), 4), sh) else scan p (List.drop (i + 1) p) (sh ++ [(b, h + 1, ())]) := by
  rw [List.drop_eq_getElem_cons hi, scan, List.getD_eq_getElem?_getD, List.getElem?_eq_getElem hi]
  rfl
theorem inner_step {p : List NodeD} {sh : List shapeD} {op a b h : Int} {r : Nat} (hb : b ≠ 0) : inner p sh op a (r + 1) b h = inner p sh op a r (sth sh (b - 1)).1 (max h (if less p op a b r = true then (sth sh (b - 1)).2.1 - 1 else (sth sh (b - 1)).2.1)) := by
  rw [inner, if_neg hb]
theorem ShOk.push {sh : List shapeD} (hok : ShOk sh) {b h : Int} (h1 : 0 ≤ b) (h2 : b ≤ (sh.length : Int)) (h3 : 1 ≤ h) (h4 : h ≤ 60) : ShOk (sh ++ [(b, h, ())]) := by
  intro i x hx
  rw [List.getElem?_append] at hx
  split at hx
  · exact hok i x hx
  · rename_i hlt
    have : i = sh.length := by
      have := (List.getElem?_eq_some_iff.1 hx).1
      simp at this
      omega
    subst this
    simp at hx
    subst hx
    exact ⟨h1, h2, h3, h4⟩
theorem sth_ok {sh : List shapeD} (hok : ShOk sh) {b : Int} (h0 : 0 < b) (h1 : b ≤ (sh.length : Int)) :
    0 ≤ (sth sh (b - 1)).1 ∧ (sth sh (b - 1)).1 ≤ b - 1 ∧ 1 ≤ (sth sh (b - 1)).2.1 ∧ (sth sh (b - 1)).2.1 ≤ 60 := by
  have hlt : (b - 1).toNat < sh.length := by omega
  have := hok (b - 1).toNat _ (List.getElem?_eq_getElem hlt)
  unfold sth
  rw [List.getD_eq_getElem?_getD, List.getElem?_eq_getElem hlt]
  simp only [Option.getD_some]
  refine ⟨this.1, ?_, this.2.2.1, this.2.2.2⟩
  have := this.2.1
  omega
theorem less_is {p : List NodeD} {op a b k : Int} (ha2 : a ≤ 2) (hk : 0 ≤ k) (hj : k < a) (h0 : 0 < b) : less p op a b (a.toNat - (k.toNat + 1)) = (decide (k = 1) && decide ((nth p (b - 1)).1 = op)) := by
  unfold less
  by_cases h1 : k = 1
  · have : a = 2 := by omega
    subst h1 this
    rfl
  · have : ¬ (a.toNat - (k.toNat + 1) = 0 ∧ a = 2) := by omega
    by_cases h2 : a = 2
    · have h3 : ¬ (a.toNat - (k.toNat + 1) = 0) := fun e => this ⟨e, h2⟩
      have h4 : (a.toNat - (k.toNat + 1) == 0) = false := by simpa using h3
      rw [h4]
      simp [h1]
    · simp [h2, h1]
theorem inner_ok {p : List NodeD} {sh : List shapeD} (hok : ShOk sh) {op a : Int} : ∀ {r : Nat} {b h b' h' : Int}, 0 ≤ b → b ≤ (sh.length : Int) → 0 ≤ h → h ≤ 60 → inner p sh op a r b h = some (b', h') → 0 ≤ b' ∧ b' ≤ b ∧ 0 ≤ h' ∧ h' ≤ 60
  | 0, b, h, b', h', h0, h1, h2, h3, hi => by
    simp only [inner, Option.some.injEq, Prod.mk.injEq] at hi
    omega
  | r + 1, b, h, b', h', h0, h1, h2, h3, hi => by
    rw [inner] at hi
    split at hi
    · cases hi
    · have := sth_ok hok (b := b) (by omega) h1
      have h5 := inner_ok hok (by omega) (by omega) (by split <;> omega) (by split <;> omega) hi
      omega
/-- The walk's results. -/
theorem q_each_known (p : List NodeD) (hp : p.length ≤ 2048) : F_tree_each_known (p, [], ()) = some ((eachP p).1, (eachP p).2, (scan p p []).2, ()) := by
  unfold F_tree_each_known
  simp only
  rw [need_pos (by omega)]
  refine (loopC_run (σ := (Int × shapeD) × List shapeD × List shapeD × Unit) (ρ := Int × Int × List shapeD × Unit) (I := fun s => 0 ≤ s.1.1 ∧ s.1.1 ≤ (p.length : Int) ∧ (s.2.1.length : Int) = s.1.1 ∧ ShOk s.2.1 ∧ s.2.1 = s.2.2.1) (μ := fun s => p.length - s.1.1.toNat)
    (F := fun s => ((endP p (scan p (List.drop s.1.1.toNat p) s.2.1)).1, (endP p (scan p (List.drop s.1.1.toNat p) s.2.1)).2, (scan p (List.drop s.1.1.toNat p) s.2.1).2, ())) ?_ _ ?_).trans ?_
  rotate_left
  · refine ⟨by simp, by simp, by simp, ?_, by simp⟩
    intro i x hx
    simp at hx
  · simp [eachP]
  rintro ⟨⟨i, j1, j2, ⟨⟩⟩, sh, acc, ⟨⟩⟩ ⟨hi0, hi1, hlen, hok, hacc⟩
  simp only at hi0 hi1 hlen hok hacc ⊢
  subst hacc
  by_cases hi : i < (p.length : Int)
  · rw [sel_pos hi, need_pos ⟨hi0, hi⟩, scan_at (i := i.toNat) (by omega)]
    simp only [q_arity, bind_t, q_fields]
    have hlen' : (sh.length : Int) = i := hlen
    generalize hnd : List.getD p i.toNat zNode = nd
    by_cases ha : arity nd.1 < 0
    · rw [sel_pos ha, if_pos ha]
      exact .inr (by simp [endP, hlen'])
    rw [sel_neg ha, if_neg ha]
    cases hf : fieldB nd with
    | false =>
      simp only [Bool.not_false, sel_t, if_true]
      exact .inr (by simp [endP, hlen'])
    | true =>
      simp only [Bool.not_true, sel_f, Bool.false_eq_true, if_false]
      have ha2 := arity_le nd.1
      generalize har : arity nd.1 = a at *
      rw [loopC_run (σ := (Int × shapeD) × shapeD × NodeD × List shapeD × List shapeD × Unit) (ρ := (Int × shapeD) × List shapeD × List shapeD × Unit ⊕ Int × Int × List shapeD × Unit)
        (I := fun s => 0 ≤ s.1.1 ∧ s.1.1 ≤ a ∧ s.1.2 = (j1, j2, ()) ∧ 0 ≤ s.2.1.1 ∧ s.2.1.1 ≤ i ∧ 0 ≤ s.2.1.2.1 ∧ s.2.1.2.1 ≤ 60 ∧ s.2.2 = (nd, sh, sh, ())) (μ := fun s => a.toNat - s.1.1.toNat)
        (F := fun s => match inner p sh nd.1 a (a.toNat - s.1.1.toNat) s.2.1.1 s.2.1.2.1 with
          | none => .inr (i, 42, sh, ())
          | some (b, h) => if h + 1 > 60 then .inr (i, 4, sh, ()) else .inl ((i + 1, j1, j2, ()), sh ++ [(b, h + 1, ())], sh ++ [(b, h + 1, ())], ())) ?_ _ ?_]
      · simp only [hlen', Int.toNat_zero, Nat.sub_zero]
        generalize hin : inner p sh nd.1 a a.toNat i 0 = o
        rcases o with _ | ⟨b, h⟩
        · exact .inr (by simp [endP])
        · simp only
          by_cases h60 : h + 1 > 60
          · rw [if_pos h60, if_pos h60]
            exact .inr (by simp [endP])
          · rw [if_neg h60, if_neg h60]
            have hb := inner_ok hok hi0 (by omega) (Int.le_refl 0) (by omega) hin
            exact .inl ⟨_, rfl, ⟨by simp only; omega, by simp only; omega, by simp; omega, hok.push hb.1 (by omega) (by omega) (by omega), rfl⟩, by simp only; omega, by simp only [show (i + 1).toNat = i.toNat + 1 by omega]⟩
      · rintro ⟨⟨k, k1, k2, ⟨⟩⟩, ⟨b, h, ⟨⟩⟩, nd', sh', acc', ⟨⟩⟩ ⟨hk0, hk1, e1, hb0, hb1, hh0, hh1, e2⟩
        simp only [Prod.mk.injEq, and_true] at hk0 hk1 e1 hb0 hb1 hh0 hh1 e2 ⊢
        obtain ⟨rfl, rfl⟩ := e1
        obtain ⟨rfl, rfl, rfl⟩ := e2
        by_cases hk : k < a
        · rw [sel_pos hk]
          obtain ⟨r, hr⟩ : ∃ r, a.toNat - k.toNat = r + 1 := ⟨a.toNat - (k.toNat + 1), by omega⟩
          by_cases hb : b = 0
          · rw [sel_pos hb, hr]
            simp only [inner, if_pos hb]
            exact .inr trivial
          · have hs := sth_ok hok (b := b) (by omega) (by omega)
            rw [sel_neg hb]
            simp (disch := omega) only [need64, need_pos]
            simp only [Nat.zero_add]
            have es : List.getD acc' (b - 1).toNat zshape = sth acc' (b - 1) := rfl
            have en : List.getD p (b - 1).toNat zNode = nth p (b - 1) := rfl
            rw [es, en, hr, inner_step hb]
            have hl := less_is (p := p) (op := nd'.1) (a := a) (b := b) (k := k) ha2 hk0 hk (by omega)
            rw [show a.toNat - (k.toNat + 1) = r by omega] at hl
            rw [hl, show r = a.toNat - (k + 1).toNat by omega]
            refine .inl ?_
            by_cases h1 : k = 1
            · by_cases h2 : (nth p (b - 1)).1 = nd'.1
              · simp (disch := omega) only [sel_pos, need64, need_pos, bind_t, h1, h2, decide_true, Bool.and_self, if_true, sel_t]
                exact ⟨_, rfl, ⟨by simp only; omega, by simp only; omega, rfl, by simp only; omega, by simp only; omega, by simp only; omega, by simp only; omega, rfl⟩, by simp only; omega, rfl⟩
              · simp (disch := omega) only [sel_pos, need64, need_pos, bind_t, h1, h2, decide_true, decide_false, Bool.and_false, Bool.false_eq_true, if_false, sel_f]
                exact ⟨_, rfl, ⟨by simp only; omega, by simp only; omega, rfl, by simp only; omega, by simp only; omega, by simp only; omega, by simp only; omega, rfl⟩, by simp only; omega, rfl⟩
            · simp (disch := omega) only [sel_neg, need64, need_pos, bind_t, h1, decide_false, Bool.false_and, Bool.false_eq_true, if_false, sel_f]
              exact ⟨_, rfl, ⟨by simp only; omega, by simp only; omega, rfl, by simp only; omega, by simp only; omega, by simp only; omega, by simp only; omega, rfl⟩, by simp only; omega, rfl⟩
        · have : k = a := by omega
          subst this
          rw [sel_neg hk, Nat.sub_self]
          simp only [inner]
          simp (disch := omega) only [need64, bind_t]
          by_cases h60 : h + 1 > 60
          · rw [sel_pos h60, if_pos h60]
            exact .inr rfl
          · rw [sel_neg h60, if_neg h60]
            simp (disch := omega) only [need64, need_pos, bind_t, F_tree_known_1]
            exact .inr (by simp)
      · exact ⟨by simp, by simp; omega, rfl, hi0, Int.le_refl _, by simp, by simp, rfl⟩
  · have hie : i = p.length := by omega
    rw [sel_neg hi, List.drop_eq_nil_of_le (by omega)]
    simp only [scan, endP]
    by_cases h0 : (p.length : Int) = 0
    · simp only [h0, sel_pos, bind_t, sel_t, decide_true, Bool.true_or, if_true]
      exact .inr (by simp)
    · have e1 : List.getD sh ((p.length : Int) - 1).toNat zshape = sth sh ((p.length : Int) - 1) := rfl
      simp (disch := omega) only [sel_neg, need64, need_pos, bind_t, Nat.zero_add, e1, h0, decide_false, Bool.false_or]
      by_cases hz : (sth sh ((p.length : Int) - 1)).1 = 0 <;> simp [sel_t, sel_f, hz]
theorem q_each_chk (p : List NodeD) (hp : p.length ≤ 2048) : F_tree_each_chk (p, ()) = some ((eachP p).1, (eachP p).2, ()) := by
  unfold F_tree_each_chk
  simp only
  rw [need_pos (by omega)]
  refine (loopC_run (σ := (Int × shapeD) × List shapeD × Unit) (ρ := Int × Int × Unit) (I := fun s => 0 ≤ s.1.1 ∧ s.1.1 ≤ (p.length : Int) ∧ (s.2.1.length : Int) = s.1.1 ∧ ShOk s.2.1) (μ := fun s => p.length - s.1.1.toNat)
    (F := fun s => ((endP p (scan p (List.drop s.1.1.toNat p) s.2.1)).1, (endP p (scan p (List.drop s.1.1.toNat p) s.2.1)).2, ())) ?_ _ ?_).trans ?_
  rotate_left
  · refine ⟨by simp, by simp, by simp, ?_⟩
    intro i x hx
    simp at hx
  · simp [eachP]
  rintro ⟨⟨i, j1, j2, ⟨⟩⟩, sh, ⟨⟩⟩ ⟨hi0, hi1, hlen, hok⟩
  simp only at hi0 hi1 hlen hok ⊢
  by_cases hi : i < (p.length : Int)
  · rw [sel_pos hi, need_pos ⟨hi0, hi⟩, scan_at (i := i.toNat) (by omega)]
    simp only [q_arity, bind_t, q_fields]
    have hlen' : (sh.length : Int) = i := hlen
    generalize hnd : List.getD p i.toNat zNode = nd
    by_cases ha : arity nd.1 < 0
    · rw [sel_pos ha, if_pos ha]
      exact .inr (by simp [endP, hlen'])
    rw [sel_neg ha, if_neg ha]
    cases hf : fieldB nd with
    | false =>
      simp only [Bool.not_false, sel_t, if_true]
      exact .inr (by simp [endP, hlen'])
    | true =>
      simp only [Bool.not_true, sel_f, Bool.false_eq_true, if_false]
      have ha2 := arity_le nd.1
      generalize har : arity nd.1 = a at *
      rw [loopC_run (σ := (Int × shapeD) × shapeD × NodeD × List shapeD × Unit) (ρ := (Int × shapeD) × List shapeD × Unit ⊕ Int × Int × Unit)
        (I := fun s => 0 ≤ s.1.1 ∧ s.1.1 ≤ a ∧ s.1.2 = (j1, j2, ()) ∧ 0 ≤ s.2.1.1 ∧ s.2.1.1 ≤ i ∧ 0 ≤ s.2.1.2.1 ∧ s.2.1.2.1 ≤ 60 ∧ s.2.2 = (nd, sh, ())) (μ := fun s => a.toNat - s.1.1.toNat)
        (F := fun s => match inner p sh nd.1 a (a.toNat - s.1.1.toNat) s.2.1.1 s.2.1.2.1 with
          | none => .inr (i, 42, ())
          | some (b, h) => if h + 1 > 60 then .inr (i, 4, ()) else .inl ((i + 1, j1, j2, ()), sh ++ [(b, h + 1, ())], ())) ?_ _ ?_]
      · simp only [hlen', Int.toNat_zero, Nat.sub_zero]
        generalize hin : inner p sh nd.1 a a.toNat i 0 = o
        rcases o with _ | ⟨b, h⟩
        · exact .inr (by simp [endP])
        · simp only
          by_cases h60 : h + 1 > 60
          · rw [if_pos h60, if_pos h60]
            exact .inr (by simp [endP])
          · rw [if_neg h60, if_neg h60]
            have hb := inner_ok hok hi0 (by omega) (Int.le_refl 0) (by omega) hin
            exact .inl ⟨_, rfl, ⟨by simp only; omega, by simp only; omega, by simp; omega, hok.push hb.1 (by omega) (by omega) (by omega)⟩, by simp only; omega, by simp only [show (i + 1).toNat = i.toNat + 1 by omega]⟩
      · rintro ⟨⟨k, k1, k2, ⟨⟩⟩, ⟨b, h, ⟨⟩⟩, nd', acc', ⟨⟩⟩ ⟨hk0, hk1, e1, hb0, hb1, hh0, hh1, e2⟩
        simp only [Prod.mk.injEq, and_true] at hk0 hk1 e1 hb0 hb1 hh0 hh1 e2 ⊢
        obtain ⟨rfl, rfl⟩ := e1
        obtain ⟨rfl, rfl⟩ := e2
        by_cases hk : k < a
        · rw [sel_pos hk]
          obtain ⟨r, hr⟩ : ∃ r, a.toNat - k.toNat = r + 1 := ⟨a.toNat - (k.toNat + 1), by omega⟩
          by_cases hb : b = 0
          · rw [sel_pos hb, hr]
            simp only [inner, if_pos hb]
            exact .inr trivial
          · have hs := sth_ok hok (b := b) (by omega) (by omega)
            rw [sel_neg hb]
            simp (disch := omega) only [need64, need_pos]
            simp only [Nat.zero_add]
            have es : List.getD acc' (b - 1).toNat zshape = sth acc' (b - 1) := rfl
            have en : List.getD p (b - 1).toNat zNode = nth p (b - 1) := rfl
            rw [es, en, hr, inner_step hb]
            have hl := less_is (p := p) (op := nd'.1) (a := a) (b := b) (k := k) ha2 hk0 hk (by omega)
            rw [show a.toNat - (k.toNat + 1) = r by omega] at hl
            rw [hl, show r = a.toNat - (k + 1).toNat by omega]
            refine .inl ?_
            by_cases h1 : k = 1
            · by_cases h2 : (nth p (b - 1)).1 = nd'.1
              · simp (disch := omega) only [sel_pos, need64, need_pos, bind_t, h1, h2, decide_true, Bool.and_self, if_true, sel_t]
                exact ⟨_, rfl, ⟨by simp only; omega, by simp only; omega, rfl, by simp only; omega, by simp only; omega, by simp only; omega, by simp only; omega, rfl⟩, by simp only; omega, rfl⟩
              · simp (disch := omega) only [sel_pos, need64, need_pos, bind_t, h1, h2, decide_true, decide_false, Bool.and_false, Bool.false_eq_true, if_false, sel_f]
                exact ⟨_, rfl, ⟨by simp only; omega, by simp only; omega, rfl, by simp only; omega, by simp only; omega, by simp only; omega, by simp only; omega, rfl⟩, by simp only; omega, rfl⟩
            · simp (disch := omega) only [sel_neg, need64, need_pos, bind_t, h1, decide_false, Bool.false_and, Bool.false_eq_true, if_false, sel_f]
              exact ⟨_, rfl, ⟨by simp only; omega, by simp only; omega, rfl, by simp only; omega, by simp only; omega, by simp only; omega, by simp only; omega, rfl⟩, by simp only; omega, rfl⟩
        · have : k = a := by omega
          subst this
          rw [sel_neg hk, Nat.sub_self]
          simp only [inner]
          simp (disch := omega) only [need64, bind_t]
          by_cases h60 : h + 1 > 60
          · rw [sel_pos h60, if_pos h60]
            exact .inr rfl
          · rw [sel_neg h60, if_neg h60]
            simp (disch := omega) only [need64, need_pos, bind_t, F_tree_Check_1]
            exact .inr (by simp)
      · exact ⟨by simp, by simp; omega, rfl, hi0, Int.le_refl _, by simp, by simp, rfl⟩
  · have hie : i = p.length := by omega
    rw [sel_neg hi, List.drop_eq_nil_of_le (by omega)]
    simp only [scan, endP]
    by_cases h0 : (p.length : Int) = 0
    · simp only [h0, sel_pos, bind_t, sel_t, decide_true, Bool.true_or, if_true]
      exact .inr (by simp)
    · have e1 : List.getD sh ((p.length : Int) - 1).toNat zshape = sth sh ((p.length : Int) - 1) := rfl
      simp (disch := omega) only [sel_neg, need64, need_pos, bind_t, Nat.zero_add, e1, h0, decide_false, Bool.false_or]
      by_cases hz : (sth sh ((p.length : Int) - 1)).1 = 0 <;> simp [sel_t, sel_f, hz]
def fromP (x : (Int × Int) × List shapeD) : Int × Int × List Int × List Int × Unit :=
  if x.1.2 ≠ 0 then (x.1.1, x.1.2, [], [], ()) else (0, 0, x.2.map (·.1), x.2.map (·.2.1), ())
theorem q_from (p : List NodeD) (hp : p.length ≤ 2048) : F_ref04_from (p, ()) = some (fromP (scan p p [])) := by
  unfold F_ref04_from
  simp only
  refine (loopC_gh (γ := Nat × List shapeD) (σ := (Int × shapeD) × List Int × List Int × List Int × List Int × Unit) (ρ := Int × Int × List Int × List Int × Unit) (I := fun g s => s.1.1 = (g.1 : Int) ∧ g.1 ≤ p.length ∧ g.2.length = g.1 ∧ ShOk g.2 ∧ s.2.1 = g.2.map (·.2.1) ∧ s.2.2.1 = g.2.map (·.1)) (μ := fun g => p.length - g.1)
    (F := fun g => fromP (scan p (List.drop g.1 p) g.2)) ?_ (0, []) _ ?_).trans ?_
  rotate_left
  · refine ⟨rfl, by simp, rfl, ?_, rfl, rfl⟩
    intro i x hx
    simp at hx
  · simp
  rintro ⟨i, sh⟩ ⟨⟨i', j1, j2, ⟨⟩⟩, hs, bs, X, Y, ⟨⟩⟩ ⟨e1, hi1, hlen, hok, e2, e3⟩
  simp only at e1 hi1 hlen hok e2 e3 ⊢
  subst e1 e2 e3
  by_cases hi : i < p.length
  · rw [sel_pos (by omega), need_pos (by omega), scan_at (by omega)]
    simp only [q_arityR, bind_t, q_fieldR, Int.toNat_natCast]
    generalize hnd : List.getD p i zNode = nd
    by_cases ha : arity nd.1 < 0
    · rw [sel_pos ha, if_pos ha]
      exact .inr (by simp [fromP, hlen])
    rw [sel_neg ha, if_neg ha]
    cases hf : fieldB nd with
    | false =>
      simp only [Bool.not_false, sel_t, if_true]
      exact .inr (by simp [fromP, hlen])
    | true =>
      simp only [Bool.not_true, sel_f, Bool.false_eq_true, if_false]
      have ha2 := arity_le nd.1
      generalize har : arity nd.1 = a at *
      rw [loopC_gh (γ := Nat × Int × Int) (σ := (Int × SetD) × NodeD × List Int × List Int × List Int × List Int × Unit) (ρ := (Int × shapeD) × List Int × List Int × List Int × List Int × Unit ⊕ Int × Int × List Int × List Int × Unit)
        (I := fun g s => s.1.1 = (g.1 : Int) ∧ (g.1 : Int) ≤ a ∧ s.1.2 = (g.2.2, g.2.1, j1, j2, ()) ∧ 0 ≤ g.2.1 ∧ g.2.1 ≤ i ∧ 0 ≤ g.2.2 ∧ g.2.2 ≤ 60 ∧ s.2 = (nd, sh.map (·.2.1), sh.map (·.1), X, Y, ())) (μ := fun g => g.1)
        (F := fun g => match inner p sh nd.1 a g.1 g.2.1 g.2.2 with
          | none => .inr (i, 42, [], [], ())
          | some (b, h) => if h + 1 > 60 then .inr (i, 4, [], [], ()) else .inl ((i + 1, j1, j2, ()), sh.map (·.2.1) ++ [h + 1], sh.map (·.1) ++ [b], X, Y, ())) ?_ (a.toNat, i, 0) _ ?_]
      · simp only [hlen]
        generalize hin : inner p sh nd.1 a a.toNat i 0 = o
        rcases o with _ | ⟨b, h⟩
        · exact .inr (by simp [fromP])
        · simp only
          by_cases h60 : h + 1 > 60
          · rw [if_pos h60, if_pos h60]
            exact .inr (by simp [fromP])
          · rw [if_neg h60, if_neg h60]
            have hb := inner_ok hok (by omega) (by omega) (Int.le_refl 0) (by omega) hin
            exact .inl ⟨(i + 1, sh ++ [(b, h + 1, ())]), _, rfl, ⟨by simp, by simp only; omega, by simp; omega, hok.push hb.1 (by omega) (by omega) (by omega), by simp, by simp⟩, by simp only; omega, by simp only⟩
      · rintro ⟨k, b, h⟩ ⟨⟨k', h', b', k1, k2, ⟨⟩⟩, nd', hs', bs', X', Y', ⟨⟩⟩ ⟨e0, hk1, e1, hb0, hb1, hh0, hh1, e2⟩
        simp only [Prod.mk.injEq, and_true] at e0 hk1 e1 hb0 hb1 hh0 hh1 e2 ⊢
        obtain ⟨rfl, rfl, rfl, rfl⟩ := e1
        obtain ⟨rfl, rfl, rfl, rfl, rfl⟩ := e2
        subst e0
        rcases k with _ | r
        · rw [sel_neg (by omega)]
          simp only [inner]
          simp (disch := omega) only [need64, bind_t]
          by_cases h60 : h' + 1 > 60
          · rw [sel_pos h60, if_pos h60]
            exact .inr rfl
          · rw [sel_neg h60, if_neg h60]
            simp only [List.length_map]
            simp (disch := omega) only [need64, need_pos, bind_t]
            exact .inr (by trivial)
        · rw [sel_pos (by omega)]
          by_cases hb : b' = 0
          · rw [sel_pos hb]
            simp only [inner, if_pos hb]
            exact .inr trivial
          · have hs := sth_ok hok (b := b') (by omega) (by omega)
            rw [sel_neg hb]
            have e4 : List.getD (sh.map (·.2.1)) (b' - 1).toNat (0 : Int) = (sth sh (b' - 1)).2.1 := getD_map (fun x : shapeD => x.2.1) sh _ zshape
            have e5 : List.getD (sh.map (·.1)) (b' - 1).toNat (0 : Int) = (sth sh (b' - 1)).1 := getD_map (fun x : shapeD => x.1) sh _ zshape
            have en : List.getD p (b' - 1).toNat zNode = nth p (b' - 1) := rfl
            simp only [List.length_map, Nat.zero_add, e4, e5, en]
            simp (disch := omega) only [need64, need_pos]
            rw [inner_step hb]
            have hl : less p nd'.1 a b' r = ((decide (((r + 1 : Nat) : Int) = 1) && decide (a = 2)) && decide ((nth p (b' - 1)).1 = nd'.1)) := by
              unfold less
              rw [Bool.and_assoc]
              congr 1
              rw [Bool.eq_iff_iff]
              simp
              omega
            rw [hl]
            simp only [sel_and, bind_t]
            refine .inl ?_
            cases hc : (decide (((r + 1 : Nat) : Int) = 1) && decide (a = 2)) with
            | false =>
              simp only [sel_f, bind_t, Bool.false_and, Bool.false_eq_true, if_false]
              simp (disch := omega) only [need64, need_pos, bind_t, List.length_map, e5, Nat.zero_add]
              exact ⟨(r, (sth sh (b' - 1)).1, max h' (sth sh (b' - 1)).2.1), _, rfl, ⟨by simp only; omega, by simp only; omega, rfl, by simp only; omega, by simp only; omega, by simp only; omega, by simp only; omega, rfl⟩, by simp only; omega, rfl⟩
            | true =>
              by_cases h2 : (nth p (b' - 1)).1 = nd'.1
              · simp only [h2, decide_true, sel_t, Bool.and_self, if_true]
                simp (disch := omega) only [need64, need_pos, bind_t, List.length_map, e5, Nat.zero_add]
                exact ⟨(r, (sth sh (b' - 1)).1, max h' ((sth sh (b' - 1)).2.1 - 1)), _, rfl, ⟨by simp only; omega, by simp only; omega, rfl, by simp only; omega, by simp only; omega, by simp only; omega, by simp only; omega, rfl⟩, by simp only; omega, rfl⟩
              · simp only [h2, decide_false, sel_t, sel_f, Bool.and_false, Bool.false_eq_true, if_false]
                simp (disch := omega) only [need64, need_pos, bind_t, List.length_map, e5, Nat.zero_add]
                exact ⟨(r, (sth sh (b' - 1)).1, max h' (sth sh (b' - 1)).2.1), _, rfl, ⟨by simp only; omega, by simp only; omega, rfl, by simp only; omega, by simp only; omega, by simp only; omega, by simp only; omega, rfl⟩, by simp only; omega, rfl⟩
      · exact ⟨by simp only; omega, by simp only; omega, rfl, by simp only; omega, by simp, by simp, by simp, rfl⟩
  · have hie : i = p.length := by omega
    rw [sel_neg (by omega), List.drop_eq_nil_of_le (by omega)]
    exact .inr (by simp [scan, fromP])
end Go.Proofs
