/- Part of the proof of the law's row: YtlelhklalainfaaWq04f. -/
import Derived.Test.YtlelhklalainfaaWq04e
set_option linter.all false
set_option linter.unusedVariables false
set_option linter.unusedSimpArgs false
/-! Chapter 4: patterns by a stack: what stands behind one another, and in one another. -/
namespace Go.Proofs
open Go Go.Abs
/-- A part on the stack: how long, how high, of which kind. -/
structure En where
  w : Int
  h : Int
  op : Int
def stepE (n : NodeD) (S : List En) : Int ⊕ List En :=
  if arity n.1 < 0 then .inl 40
  else if fieldB n = false then .inl 41
  else if arity n.1 = 0 then .inr (⟨1, 1, n.1⟩ :: S)
  else if arity n.1 = 1 then (match S with
    | e :: S' => if e.h + 1 > 60 then .inl 4 else .inr (⟨e.w + 1, e.h + 1, n.1⟩ :: S')
    | [] => .inl 42)
  else (match S with
    | e1 :: e0 :: S' => if max e1.h (if e0.op = n.1 then e0.h - 1 else e0.h) + 1 > 60 then .inl 4 else .inr (⟨e0.w + e1.w + 1, max e1.h (if e0.op = n.1 then e0.h - 1 else e0.h) + 1, n.1⟩ :: S')
    | _ => .inl 42)
def run : List NodeD → List En → Int ⊕ List En
  | [], S => .inr S
  | n :: ns, S => match stepE n S with
    | .inl c => .inl c
    | .inr S' => run ns S'
theorem run_append : ∀ {xs ys : List NodeD} {S : List En}, run (xs ++ ys) S = match run xs S with
    | .inl c => .inl c
    | .inr S' => run ys S'
  | [], _, _ => rfl
  | n :: ns, ys, S => by
    simp only [List.cons_append, run]
    cases stepE n S with
    | inl c => rfl
    | inr S' => exact run_append
/-- The stack ahead of node 'k', read off the shapes. -/
inductive Stk (p : List NodeD) (sh : List shapeD) : Int → List En → Prop
  | nil : Stk p sh 0 []
  | cons {k : Int} {S : List En} (h0 : 0 < k) (hr : Stk p sh (sth sh (k - 1)).1 S) : Stk p sh k (⟨k - (sth sh (k - 1)).1, (sth sh (k - 1)).2.1, (nth p (k - 1)).1⟩ :: S)
theorem Stk.mono {p : List NodeD} {sh sh' : List shapeD} {n : Int} (hok : ∀ i, 0 ≤ i → i < n → sth sh' i = sth sh i ∧ (sth sh i).1 ≤ i) : ∀ {k : Int} {S : List En}, Stk p sh k S → k ≤ n → Stk p sh' k S
  | _, _, .nil, _ => .nil
  | k, _, .cons h0 hr, hk => by
    obtain ⟨e, hle⟩ := hok (k - 1) (by omega) (by omega)
    have h1 := Stk.mono hok hr (by omega)
    have := Stk.cons (p := p) (sh := sh') h0 (by rw [e]; exact h1)
    rwa [e] at this
theorem Stk.inv {p : List NodeD} {sh : List shapeD} {k : Int} {S : List En} (h : Stk p sh k S) : (k = 0 ∧ S = []) ∨ (0 < k ∧ ∃ S', S = ⟨k - (sth sh (k - 1)).1, (sth sh (k - 1)).2.1, (nth p (k - 1)).1⟩ :: S' ∧ Stk p sh (sth sh (k - 1)).1 S') := by
  cases h with
  | nil => exact .inl ⟨rfl, rfl⟩
  | cons h0 hr => exact .inr ⟨h0, _, rfl, hr⟩
theorem sth_app {sh : List shapeD} {x : shapeD} {i : Int} (h0 : 0 ≤ i) (h1 : i < (sh.length : Int)) : sth (sh ++ [x]) i = sth sh i := by
  unfold sth
  rw [List.getD_eq_getElem?_getD, List.getD_eq_getElem?_getD, List.getElem?_append_left (by omega)]
theorem sth_last {sh : List shapeD} {x : shapeD} : sth (sh ++ [x]) (sh.length : Int) = x := by
  unfold sth
  rw [List.getD_eq_getElem?_getD, Int.toNat_natCast, List.getElem?_append_right (Nat.le_refl _), Nat.sub_self]
  rfl
/-- A node's step, by shapes and by the stack. -/
theorem inner_stk {p : List NodeD} {sh : List shapeD} (hok : ShOk sh) {n : NodeD} {S : List En} (hS : Stk p sh (sh.length : Int) S) (ha : ¬ arity n.1 < 0) (hf : fieldB n = true) :
    match inner p sh n.1 (arity n.1) (arity n.1).toNat (sh.length : Int) 0 with
    | none => stepE n S = .inl 42
    | some (b, h) => if h + 1 > 60 then stepE n S = .inl 4 else ∃ S', Stk p sh b S' ∧ stepE n S = .inr (⟨sh.length + 1 - b, h + 1, n.1⟩ :: S') := by
  have ha2 := arity_le n.1
  have h3 : arity n.1 = 0 ∨ arity n.1 = 1 ∨ arity n.1 = 2 := by omega
  unfold stepE
  rw [if_neg ha, if_neg (by simp [hf])]
  rcases h3 with h3 | h3 | h3
  · rw [h3]
    simp only [Int.toNat_zero, inner]
    rw [if_neg (show ¬ (0 : Int) + 1 > 60 by decide), if_pos trivial]
    exact ⟨S, hS, by simp; omega⟩
  · rw [h3]
    simp only [Int.reduceToNat, inner]
    rw [if_neg (show ¬ (1 : Int) = 0 by decide), if_pos trivial]
    rcases hS.inv with ⟨h0, rfl⟩ | ⟨h0, S', rfl, hr⟩
    · rw [if_pos h0]
    · rw [if_neg (show ¬ (sh.length : Int) = 0 by omega)]
      have hs := sth_ok hok h0 (Int.le_refl _)
      have hl : less p n.1 1 (sh.length : Int) 0 = false := by simp [less]
      simp only [hl, Bool.false_eq_true, if_false]
      rw [show max 0 (sth sh ((sh.length : Int) - 1)).2.1 = (sth sh ((sh.length : Int) - 1)).2.1 by omega]
      split
      · rfl
      · exact ⟨S', hr, by simp; omega⟩
  · rw [h3]
    simp only [Int.reduceToNat, inner]
    rw [if_neg (show ¬ (2 : Int) = 0 by decide), if_neg (show ¬ (2 : Int) = 1 by decide)]
    rcases hS.inv with ⟨h0, rfl⟩ | ⟨h0, S', rfl, hr⟩
    · rw [if_pos h0]
    · rw [if_neg (show ¬ (sh.length : Int) = 0 by omega)]
      have hs := sth_ok hok h0 (Int.le_refl _)
      have hl : less p n.1 2 (sh.length : Int) 1 = false := by simp [less]
      simp only [hl, Bool.false_eq_true, if_false]
      rw [show max 0 (sth sh ((sh.length : Int) - 1)).2.1 = (sth sh ((sh.length : Int) - 1)).2.1 by omega]
      generalize hm : (sth sh ((sh.length : Int) - 1)).1 = m at *
      rcases hr.inv with ⟨g0, rfl⟩ | ⟨g0, S'', rfl, gr⟩
      · rw [if_pos g0]
      · rw [if_neg (show ¬ m = 0 by omega)]
        have hl2 : less p n.1 2 m 0 = decide ((nth p (m - 1)).1 = n.1) := by simp [less]
        rw [hl2]
        simp only [decide_eq_true_eq]
        generalize (if (nth p (m - 1)).1 = n.1 then (sth sh (m - 1)).2.1 - 1 else (sth sh (m - 1)).2.1) = hh
        by_cases h60 : max (sth sh ((sh.length : Int) - 1)).2.1 hh + 1 > 60
        · rw [if_pos h60, if_pos h60]
        · rw [if_neg h60, if_neg h60]
          exact ⟨S'', gr, by simp; omega⟩
theorem scan_run {p : List NodeD} : ∀ {n k : Nat} {sh : List shapeD} {S : List En}, p.length - k = n → sh.length = k → k ≤ p.length → ShOk sh → Stk p sh (k : Int) S →
    match run (List.drop k p) S with
    | .inl c => ∃ a s, scan p (List.drop k p) sh = ((a, c), s) ∧ c ≠ 0
    | .inr T => ∃ s, scan p (List.drop k p) sh = ((0, 0), s) ∧ Stk p s (p.length : Int) T
  | 0, k, sh, S, hn, hl, hk, hok, hS => by
    rw [List.drop_eq_nil_of_le (by omega)]
    simp only [run, scan]
    exact ⟨sh, rfl, by rw [show (p.length : Int) = k by omega]; exact hS⟩
  | n + 1, k, sh, S, hn, hl, hk, hok, hS => by
    have hlt : k < p.length := by omega
    have e : List.getD p k zNode = nth p k := by unfold nth; simp
    have ek : p[k] = nth p k := by unfold nth; rw [Int.toNat_natCast, List.getD_eq_getElem?_getD, List.getElem?_eq_getElem hlt]; rfl
    rw [scan_at hlt, e, List.drop_eq_getElem_cons hlt, ek]
    simp only [run]
    by_cases ha : arity (nth p k).1 < 0
    · have : stepE (nth p k) S = .inl 40 := by unfold stepE; rw [if_pos ha]
      rw [this, if_pos ha]
      exact ⟨_, _, rfl, by decide⟩
    rw [if_neg ha]
    cases hf : fieldB (nth p k) with
    | false =>
      have : stepE (nth p k) S = .inl 41 := by unfold stepE; rw [if_neg ha, if_pos hf]
      rw [this]
      exact ⟨_, _, rfl, by decide⟩
    | true =>
      simp only [Bool.not_true, Bool.false_eq_true, if_false]
      have hin := inner_stk (n := nth p k) hok (by rw [hl]; exact hS) ha hf
      generalize ho : inner p sh (nth p k).1 (arity (nth p k).1) (arity (nth p k).1).toNat (sh.length : Int) 0 = o at hin
      rcases o with _ | ⟨b, h⟩
      · simp only at hin
        rw [hin]
        exact ⟨_, _, rfl, by decide⟩
      · simp only at hin ⊢
        have hb := inner_ok hok (by omega) (Int.le_refl _) (Int.le_refl 0) (by omega) ho
        by_cases h60 : h + 1 > 60
        · rw [if_pos h60] at hin ⊢
          rw [hin]
          exact ⟨_, _, rfl, by decide⟩
        · rw [if_neg h60] at hin ⊢
          obtain ⟨S', hS', hst⟩ := hin
          rw [hst]
          simp only
          refine scan_run (n := n) (by omega) (by simp; omega) (by omega) (hok.push hb.1 hb.2.1 (by omega) (by omega)) ?_
          have hS2 : Stk p (sh ++ [(b, h + 1, ())]) b S' := hS'.mono (n := (sh.length : Int)) (fun i h0 h1 => ⟨sth_app h0 h1, by
            have := sth_ok hok (b := i + 1) (by omega) (by omega)
            rw [show i + 1 - 1 = i by omega] at this
            exact this.2.1⟩) (by omega)
          have e1 : sth (sh ++ [(b, h + 1, ())]) (((k + 1 : Nat) : Int) - 1) = (b, h + 1, ()) := by
            rw [show ((k + 1 : Nat) : Int) - 1 = (sh.length : Int) by omega]
            exact sth_last
          have := Stk.cons (p := p) (sh := sh ++ [(b, h + 1, ())]) (k := ((k + 1 : Nat) : Int)) (S := S') (by omega) (by rw [e1]; exact hS2)
          rw [e1] at this
          rw [show (⟨(sh.length : Int) + 1 - b, h + 1, (nth p k).1⟩ : En) = ⟨((k + 1 : Nat) : Int) - b, h + 1, (nth p (((k + 1 : Nat) : Int) - 1)).1⟩ by
            rw [show ((k + 1 : Nat) : Int) - 1 = (k : Int) by omega, show (sh.length : Int) + 1 - b = ((k + 1 : Nat) : Int) - b by omega]]
          exact this
/-- Right patterns, by the stack. -/
theorem chk_run {p : List NodeD} : (chkP p).2 = 0 ↔ (p.length : Int) ≤ 2048 ∧ ∃ e, run p [] = .inr [e] := by
  have h := scan_run (p := p) (n := p.length) (k := 0) (sh := []) (S := []) (by omega) rfl (by omega) shOk_nil .nil
  rw [List.drop_zero] at h
  constructor
  · intro hc
    obtain ⟨h1, h2, h3, h4, h5⟩ := chk_len hc
    refine ⟨h1, ?_⟩
    cases hr : run p [] with
    | inl c =>
      rw [hr] at h
      obtain ⟨a, s, g1, g2⟩ := h
      rw [h2] at g1
      simp only [Prod.mk.injEq] at g1
      exact absurd g1.1.2.symm g2
    | inr T =>
      rw [hr] at h
      obtain ⟨s, g1, g2⟩ := h
      rw [h2] at g1
      simp only [Prod.mk.injEq, true_and] at g1
      subst g1
      rcases g2.inv with ⟨g0, _⟩ | ⟨g0, S', rfl, gr⟩
      · omega
      · rw [h5] at gr
        rcases gr.inv with ⟨_, rfl⟩ | ⟨g0', _⟩
        · exact ⟨_, rfl⟩
        · omega
  · rintro ⟨h1, e, hr⟩
    rw [hr] at h
    obtain ⟨s, g1, g2⟩ := h
    unfold chkP
    rw [if_neg (by omega)]
    unfold eachP endP
    rw [g1]
    simp only [ne_eq, not_true, if_false]
    rcases g2.inv with ⟨_, h0⟩ | ⟨g0, S', hS, gr⟩
    · cases h0
    · injection hS with _ hS
      subst hS
      rcases gr.inv with ⟨hz, _⟩ | ⟨_, S'', hS, _⟩
      · rw [if_neg]
        simp
        exact ⟨fun h => by rw [h] at g0; simp at g0, hz⟩
      · cases hS
/-- Of a right pattern: what stands on the stack ahead of a node. -/
theorem run_take {p : List NodeD} (hp : (chkP p).2 = 0) (k : Nat) (hk : k ≤ p.length) : ∃ S, run (List.take k p) [] = .inr S ∧ Stk p (shP p) k S := by
  have key : ∀ {n j : Nat} {sh : List shapeD} {S : List En}, k - j = n → sh.length = j → j ≤ k → ShOk sh → Stk p sh (j : Int) S → (∃ s, scan p (List.drop j p) sh = ((0, 0), s) ∧ s = shP p) →
      ∃ T, run (List.take (k - j) (List.drop j p)) S = .inr T ∧ Stk p (shP p) k T := by
    intro n
    induction n with
    | zero =>
      intro j sh S hn hl hj hok hS hsc
      obtain ⟨s, h1, h2⟩ := hsc
      have hjk : j = k := by omega
      subst hjk
      refine ⟨S, by rw [Nat.sub_self]; rfl, ?_⟩
      obtain ⟨h3, _⟩ := scan_node (p := p) (n := p.length - j) rfl hl hk h1
      rw [← h2]
      refine hS.mono (n := (j : Int)) (fun i h0 h1' => ⟨?_, ?_⟩) (Int.le_refl _)
      · rw [← h3, sth_take h0 (by omega)]
      · have := sth_ok hok (b := i + 1) (by omega) (by omega)
        rw [show i + 1 - 1 = i by omega] at this
        exact this.2.1
    | succ n ih =>
      intro j sh S hn hl hj hok hS hsc
      have hlt : j < p.length := by omega
      have e : List.getD p j zNode = nth p j := by unfold nth; simp
      have ek : p[j] = nth p j := by unfold nth; rw [Int.toNat_natCast, List.getD_eq_getElem?_getD, List.getElem?_eq_getElem hlt]; rfl
      rw [scan_at hlt, e] at hsc
      rw [List.drop_eq_getElem_cons hlt, ek, show k - j = (k - (j + 1)) + 1 by omega, List.take_succ_cons]
      simp only [run]
      obtain ⟨s, h1, h2⟩ := hsc
      split at h1
      · simp at h1
      rename_i ha
      split at h1
      · simp at h1
      rename_i hf
      have hf : fieldB (nth p j) = true := by simpa using hf
      have hin := inner_stk (n := nth p j) hok (by rw [hl]; exact hS) ha hf
      split at h1
      · simp at h1
      rename_i b h ho
      rw [ho] at hin
      simp only at hin
      split at h1
      · simp at h1
      rename_i h60
      rw [if_neg h60] at hin
      obtain ⟨S', hS', hst⟩ := hin
      have hb := inner_ok hok (by omega) (Int.le_refl _) (Int.le_refl 0) (by omega) ho
      rw [hst]
      simp only
      have hS2 : Stk p (sh ++ [(b, h + 1, ())]) b S' := hS'.mono (n := (sh.length : Int)) (fun i h0 h1 => ⟨sth_app h0 h1, by
        have := sth_ok hok (b := i + 1) (by omega) (by omega)
        rw [show i + 1 - 1 = i by omega] at this
        exact this.2.1⟩) (by omega)
      have e1 : sth (sh ++ [(b, h + 1, ())]) (((j + 1 : Nat) : Int) - 1) = (b, h + 1, ()) := by
        rw [show ((j + 1 : Nat) : Int) - 1 = (sh.length : Int) by omega]
        exact sth_last
      have hc := Stk.cons (p := p) (sh := sh ++ [(b, h + 1, ())]) (k := ((j + 1 : Nat) : Int)) (S := S') (by omega) (by rw [e1]; exact hS2)
      rw [e1] at hc
      rw [show (⟨(sh.length : Int) + 1 - b, h + 1, (nth p j).1⟩ : En) = ⟨((j + 1 : Nat) : Int) - b, h + 1, (nth p (((j + 1 : Nat) : Int) - 1)).1⟩ by
        rw [show ((j + 1 : Nat) : Int) - 1 = (j : Int) by omega, show (sh.length : Int) + 1 - b = ((j + 1 : Nat) : Int) - b by omega]]
      exact ih (by omega) (by simp; omega) (by omega) (hok.push hb.1 hb.2.1 (by omega) (by omega)) hc ⟨s, h1, h2⟩
  have h0 := chk_len hp
  have := key (n := k) (j := 0) (sh := []) (S := []) (by omega) rfl (by omega) shOk_nil .nil ⟨_, by rw [List.drop_zero]; exact h0.2.1, rfl⟩
  simpa using this
theorem drop_take_succ {p : List NodeD} {b i : Int} (h0 : 0 ≤ b) (hb : b ≤ i) (h1 : i < (p.length : Int)) : List.drop b.toNat (List.take (i + 1).toNat p) = List.drop b.toNat (List.take i.toNat p) ++ [nth p i] := by
  have hlt : i.toNat < p.length := by omega
  rw [show (i + 1).toNat = i.toNat + 1 by omega, List.take_succ_eq_append_getElem hlt, List.drop_append_of_le_length (by rw [List.length_take]; omega)]
  congr 2
  unfold nth
  rw [List.getD_eq_getElem?_getD, List.getElem?_eq_getElem hlt]
  rfl
theorem drop_take_mid {p : List NodeD} {b m i : Nat} (h0 : b ≤ m) (h1 : m ≤ i) (h2 : i ≤ p.length) : List.drop b (List.take i p) = List.drop b (List.take m p) ++ List.drop m (List.take i p) := by
  have e : List.take i p = List.take m p ++ List.drop m (List.take i p) := by
    conv => lhs; rw [← List.take_append_drop m (List.take i p)]
    rw [List.take_take, Nat.min_eq_left h1]
  conv => lhs; rw [e]
  rw [List.drop_append_of_le_length (by rw [List.length_take]; omega)]
/-- A part alone: it lays one thing on whatever stack. -/
theorem part_one {p : List NodeD} : ∀ {n : Nat} {i : Int}, i.toNat ≤ n → lookP p i = 0 → ∀ T, run (partP p i) T = .inr (⟨i + 1 - beginP p i, highP p i, (nth p i).1⟩ :: T) := by
  intro n
  induction n with
  | zero =>
    intro i hn h T
    obtain ⟨g1, g2, g3⟩ := lookP_zero h
    have hi : i = 0 := by omega
    subst hi
    obtain ⟨n0, n1, n2, n3, n4⟩ := node_ok h
    have hb := begin_le h
    have ha : arity (nth p 0).1 = 0 := by
      have := arity_le (nth p 0).1
      have h3 : arity (nth p 0).1 = 0 ∨ arity (nth p 0).1 = 1 ∨ arity (nth p 0).1 = 2 := by omega
      rcases h3 with h3 | h3 | h3
      · exact h3
      · have := n3 h3; omega
      · have := n4 h3; omega
    obtain ⟨e1, e2⟩ := n2 ha
    unfold partP
    rw [drop_take_succ hb.1 hb.2.1 g3, e1, e2]
    simp only [Int.toNat_zero, List.take_zero, List.drop_zero, List.nil_append, run, stepE]
    rw [if_neg (by omega), if_neg (by simp [n1]), if_pos ha]
    rfl
  | succ n ih =>
    intro i hn h T
    obtain ⟨g1, g2, g3⟩ := lookP_zero h
    obtain ⟨n0, n1, n2, n3, n4⟩ := node_ok h
    have hb := begin_le h
    have := arity_le (nth p i).1
    have h3 : arity (nth p i).1 = 0 ∨ arity (nth p i).1 = 1 ∨ arity (nth p i).1 = 2 := by omega
    unfold partP
    rw [drop_take_succ hb.1 hb.2.1 g3]
    rcases h3 with ha | ha | ha
    · obtain ⟨e1, e2⟩ := n2 ha
      rw [e1, e2, List.drop_eq_nil_of_le (by rw [List.length_take]; omega)]
      simp only [List.nil_append, run, stepE]
      rw [if_neg (by omega), if_neg (by simp [n1]), if_pos ha]
      simp
      omega
    · obtain ⟨e0, e1, e2⟩ := n3 ha
      have hl := lookP_of (p := p) (i := i - 1) g1 (by omega) (by omega)
      have h4 := ih (i := i - 1) (by omega) hl T
      unfold partP at h4
      rw [show i - 1 + 1 = i by omega] at h4
      rw [run_append, e1, h4]
      simp only [run, stepE]
      rw [if_neg (by omega), if_neg (by simp [n1]), if_neg (by omega), if_pos ha]
      rw [if_neg (by omega), e2]
      simp
      omega
    · obtain ⟨e0, em, e1, e2⟩ := n4 ha
      have hl := lookP_of (p := p) (i := i - 1) g1 (by omega) (by omega)
      have hb1 := begin_le hl
      generalize hm : beginP p (i - 1) = m at *
      have hl2 := lookP_of (p := p) (i := m - 1) g1 (by omega) (by omega)
      have hb2 := begin_le hl2
      have h5 := ih (i := m - 1) (by omega) hl2 T
      have h4 := ih (i := i - 1) (by omega) hl (⟨m - 1 + 1 - beginP p (m - 1), highP p (m - 1), (nth p (m - 1)).1⟩ :: T)
      unfold partP at h4 h5
      rw [hm, show i - 1 + 1 = i by omega] at h4
      rw [show m - 1 + 1 = m by omega] at h5 h4
      rw [e1, drop_take_mid (b := (beginP p (m - 1)).toNat) (m := m.toNat) (i := i.toNat) (by omega) (by omega) (by omega), List.append_assoc, run_append, h5]
      simp only
      rw [run_append, h4]
      simp only [run, stepE]
      rw [if_neg (by omega), if_neg (by simp [n1]), if_neg (by omega), if_neg (by omega)]
      unfold adj at e2
      rw [if_neg (by omega), e2]
      simp
      omega
end Go.Proofs
