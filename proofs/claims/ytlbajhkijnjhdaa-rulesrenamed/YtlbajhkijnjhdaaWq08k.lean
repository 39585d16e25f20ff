/- Part of the proof of the law's row: YtlbajhkijnjhdaaWq08k. -/
import Derived.Test.YtlbajhkijnjhdaaWq08h
import Derived.Test.YtlbajhkijnjhdaaWq04d
set_option linter.all false
set_option linter.unusedVariables false
set_option linter.unusedSimpArgs false
/-! Chapter 8: the laws RulesReach, RulesOrder. -/
namespace Go.Proofs
open Go Go.Abs
theorem Rt.last {e : Nat → Nat → Prop} {r x : Nat} (h : Rt e r x) : x = r ∨ ∃ q, Rt e r q ∧ e q x ∧ x ≠ q := by
  induction h with
  | refl => exact Or.inl rfl
  | tail h1 h2 ih =>
    rename_i q p
    by_cases h3 : p = q
    · subst h3; exact ih
    · exact Or.inr ⟨q, h1, h2, h3⟩
theorem Rt.first {e : Nat → Nat → Prop} {r x : Nat} (h : Rt e r x) : x = r ∨ ∃ q, e r q ∧ Rt e q x := by
  induction h with
  | refl => exact Or.inl rfl
  | tail h1 h2 ih =>
    rename_i q p
    rcases ih with h | ⟨z, h3, h4⟩
    · subst h; exact Or.inr ⟨p, h2, Rt.refl p⟩
    · exact Or.inr ⟨z, h3, Rt.tail h4 h2⟩
end Go.Proofs

/-! Chapter 4: patterns by a stack: what stands behind one another, and in one another. -/
namespace Go.Proofs
open Go Go.Abs
/-- A part on the stack: how long, how high, of which kind. -/
structure En where
  w : Int
  h : Int
  op : Int
def stepE (n : NodeD) (S : List En) : Int ⊕ List En :=
  if arity n.1 < 0 then .inl 40
  else if fieldB n = false then .inl 41
  else if arity n.1 = 0 then .inr (⟨1, 1, n.1⟩ :: S)
  else if arity n.1 = 1 then (match S with
    | e :: S' => if e.h + 1 > 60 then .inl 4 else .inr (⟨e.w + 1, e.h + 1, n.1⟩ :: S')
    | [] => .inl 42)
  else (match S with
    | e1 :: e0 :: S' => if max e1.h (if e0.op = n.1 then e0.h - 1 else e0.h) + 1 > 60 then .inl 4 else .inr (⟨e0.w + e1.w + 1, max e1.h (if e0.op = n.1 then e0.h - 1 else e0.h) + 1, n.1⟩ :: S')
    | _ => .inl 42)
def run : List NodeD → List En → Int ⊕ List En
  | [], S => .inr S
  | n :: ns, S => match stepE n S with
    | .inl c => .inl c
    | .inr S' => run ns S'
theorem run_append : ∀ {xs ys : List NodeD} {S : List En}, run (xs ++ ys) S = match run xs S with
    | .inl c => .inl c
    | .inr S' => run ys S'
  | [], _, _ => rfl
  | n :: ns, ys, S => by
    simp only [List.cons_append, run]
    cases stepE n S with
    | inl c => rfl
    | inr S' => exact run_append
/-- The stack ahead of node 'k', read off the shapes. -/
inductive Stk (p : List NodeD) (sh : List shapeD) : Int → List En → Prop
  | nil : Stk p sh 0 []
  | cons {k : Int} {S : List En} (h0 : 0 < k) (hr : Stk p sh (sth sh (k - 1)).1 S) : Stk p sh k (⟨k - (sth sh (k - 1)).1, (sth sh (k - 1)).2.1, (nth p (k - 1)).1⟩ :: S)
theorem Stk.mono {p : List NodeD} {sh sh' : List shapeD} {n : Int} (hok : ∀ i, 0 ≤ i → i < n → sth sh' i = sth sh i ∧ (sth sh i).1 ≤ i) : ∀ {k : Int} {S : List En}, Stk p sh k S → k ≤ n → Stk p sh' k S
  | _, _, .nil, _ => .nil
  | k, _, .cons h0 hr, hk => by
    obtain ⟨e, hle⟩ := hok (k - 1) (by omega) (by omega)
    have h1 := Stk.mono hok hr (by omega)
    have := Stk.cons (p := p) (sh := sh') h0 (by rw [e]; exact h1)
    rwa [e] at this
theorem Stk.inv {p : List NodeD} {sh : List shapeD} {k : Int} {S : List En} (h : Stk p sh k S) : (k = 0 ∧ S = []) ∨ (0 < k ∧ ∃ S', S = ⟨k - (sth sh (k - 1)).1, (sth sh (k - 1)).2.1, (nth p (k - 1)).1⟩ :: S' ∧ Stk p sh (sth sh (k - 1)).1 S') := by
  cases h with
  | nil => exact .inl ⟨rfl, rfl⟩
  | cons h0 hr => exact .inr ⟨h0, _, rfl, hr⟩
theorem sth_app {sh : List shapeD} {x : shapeD} {i : Int} (h0 : 0 ≤ i) (h1 : i < (sh.length : Int)) : sth (sh ++ [x]) i = sth sh i := by
  unfold sth
  rw [List.getD_eq_getElem?_getD, List.getD_eq_getElem?_getD, List.getElem?_append_left (by omega)]
theorem sth_last {sh : List shapeD} {x : shapeD} : sth (sh ++ [x]) (sh.length : Int) = x := by
  unfold sth
  rw [List.getD_eq_getElem?_getD, Int.toNat_natCast, List.getElem?_append_right (Nat.le_refl _), Nat.sub_self]
  rfl
/-- A node's step, by shapes and by the stack. -/
theorem inner_stk {p : List NodeD} {sh : List shapeD} (hok : ShOk sh) {n : NodeD} {S : List En} (hS : Stk p sh (sh.length : Int) S) (ha : ¬ arity n.1 < 0) (hf : fieldB n = true) :
    match inner p sh n.1 (arity n.1) (arity n.1).toNat (sh.length : Int) 0 with
    | none => stepE n S = .inl 42
    | some (b, h) => if h + 1 > 60 then stepE n S = .inl 4 else ∃ S', Stk p sh b S' ∧ stepE n S = .inr (⟨sh.length + 1 - b, h + 1, n.1⟩ :: S') := by
  have ha2 := arity_le n.1
  have h3 : arity n.1 = 0 ∨ arity n.1 = 1 ∨ arity n.1 = 2 := by omega
  unfold stepE
  rw [if_neg ha, if_neg (by simp [hf])]
  rcases h3 with h3 | h3 | h3
  · rw [h3]
    simp only [Int.toNat_zero, inner]
    rw [if_neg (show ¬ (0 : Int) + 1 > 60 by decide), if_pos trivial]
    exact ⟨S, hS, by simp; omega⟩
  · rw [h3]
    simp only [Int.reduceToNat, inner]
    rw [if_neg (show ¬ (1 : Int) = 0 by decide), if_pos trivial]
    rcases hS.inv with ⟨h0, rfl⟩ | ⟨h0, S', rfl, hr⟩
    · rw [if_pos h0]
    · rw [if_neg (show ¬ (sh.length : Int) = 0 by omega)]
      have hs := sth_ok hok h0 (Int.le_refl _)
      have hl : less p n.1 1 (sh.length : Int) 0 = false := by simp [less]
      simp only [hl, Bool.false_eq_true, if_false]
      rw [show max 0 (sth sh ((sh.length : Int) - 1)).2.1 = (sth sh ((sh.length : Int) - 1)).2.1 by omega]
      split
      · rfl
      · exact ⟨S', hr, by simp; omega⟩
  · rw [h3]
    simp only [Int.reduceToNat, inner]
    rw [if_neg (show ¬ (2 : Int) = 0 by decide), if_neg (show ¬ (2 : Int) = 1 by decide)]
    rcases hS.inv with ⟨h0, rfl⟩ | ⟨h0, S', rfl, hr⟩
    · rw [if_pos h0]
    · rw [if_neg (show ¬ (sh.length : Int) = 0 by omega)]
      have hs := sth_ok hok h0 (Int.le_refl _)
      have hl : less p n.1 2 (sh.length : Int) 1 = false := by simp [less]
      simp only [hl, Bool.false_eq_true, if_false]
      rw [show max 0 (sth sh ((sh.length : Int) - 1)).2.1 = (sth sh ((sh.length : Int) - 1)).2.1 by omega]
      generalize hm : (sth sh ((sh.length : Int) - 1)).1 = m at *
      rcases hr.inv with ⟨g0, rfl⟩ | ⟨g0, S'', rfl, gr⟩
      · rw [if_pos g0]
      · rw [if_neg (show ¬ m = 0 by omega)]
        have hl2 : less p n.1 2 m 0 = decide ((nth p (m - 1)).1 = n.1) := by simp [less]
        rw [hl2]
        simp only [decide_eq_true_eq]
        generalize (if (nth p (m - 1)).1 = n.1 then (sth sh (m - 1)).2.1 - 1 else (sth sh (m - 1)).2.1) = hh
        by_cases h60 : max (sth sh ((sh.length : Int) - 1)).2.1 hh + 1 > 60
        · rw [if_pos h60, if_pos h60]
        · rw [if_neg h60, if_neg h60]
          exact ⟨S'', gr, by simp; omega⟩
theorem scan_run {p : List NodeD} : ∀ {n k : Nat} {sh : List shapeD} {S : List En}, p.length - k = n → sh.length = k → k ≤ p.length → ShOk sh → Stk p sh (k : Int) S →
    match run (List.drop k p) S with
    | .inl c => ∃ a s, scan p (List.drop k p) sh = ((a, c), s) ∧ c ≠ 0
    | .inr T => ∃ s, scan p (List.drop k p) sh = ((0, 0), s) ∧ Stk p s (p.length : Int) T
  | 0, k, sh, S, hn, hl, hk, hok, hS => by
    rw [List.drop_eq_nil_of_le (by omega)]
    simp only [run, scan]
    exact ⟨sh, rfl, by rw [show (p.length : Int) = k by omega]; exact hS⟩
  | n + 1, k, sh, S, hn, hl, hk, hok, hS => by
    have hlt : k < p.length := by omega
    have e : List.getD p k zNode = nth p k := by unfold nth; simp
    have ek : p[k] = nth p k := by unfold nth; rw [Int.toNat_natCast, List.getD_eq_getElem?_getD, List.getElem?_eq_getElem hlt]; rfl
    rw [scan_at hlt, e, List.drop_eq_getElem_cons hlt, ek]
    simp only [run]
    by_cases ha : arity (nth p k).1 < 0
    · have : stepE (nth p k) S = .inl 40 := by unfold stepE; rw [if_pos ha]
      rw [this, if_pos ha]
      exact ⟨_, _, rfl, by decide⟩
    rw [if_neg ha]
    cases hf : fieldB (nth p k) with
    | false =>
      have : stepE (nth p k) S = .inl 41 := by unfold stepE; rw [if_neg ha, if_pos hf]
      rw [this]
      exact ⟨_, _, rfl, by decide⟩
    | true =>
      simp only [Bool.not_true, Bool.false_eq_true, if_false]
      have hin := inner_stk (n := nth p k) hok (by rw [hl]; exact hS) ha hf
      generalize ho : inner p sh (nth p k).1 (arity (nth p k).1) (arity (nth p k).1).toNat (sh.length : Int) 0 = o at hin
      rcases o with _ | ⟨b, h⟩
      · simp only at hin
        rw [hin]
        exact ⟨_, _, rfl, by decide⟩
      · simp only at hin ⊢
        have hb := inner_ok hok (by omega) (Int.le_refl _) (Int.le_refl 0) (by omega) ho
        by_cases h60 : h + 1 > 60
        · rw [if_pos h60] at hin ⊢
          rw [hin]
          exact ⟨_, _, rfl, by decide⟩
        · rw [if_neg h60] at hin ⊢
          obtain ⟨S', hS', hst⟩ := hin
          rw [hst]
          simp only
          refine scan_run (n := n) (by omega) (by simp; omega) (by omega) (hok.push hb.1 hb.2.1 (by omega) (by omega)) ?_
          have hS2 : Stk p (sh ++ [(b, h + 1, ())]) b S' := hS'.mono (n := (sh.length : Int)) (fun i h0 h1 => ⟨sth_app h0 h1, by
            have := sth_ok hok (b := i + 1) (by omega) (by omega)
            rw [show i + 1 - 1 = i by omega] at this
            exact this.2.1⟩) (by omega)
          have e1 : sth (sh ++ [(b, h + 1, ())]) (((k + 1 : Nat) : Int) - 1) = (b, h + 1, ()) := by
            rw [show ((k + 1 : Nat) : Int) - 1 = (sh.length : Int) by omega]
            exact sth_last
          have := Stk.cons (p := p) (sh := sh ++ [(b, h + 1, ())]) (k := ((k + 1 : Nat) : Int)) (S := S') (by omega) (by rw [e1]; exact hS2)
          rw [e1] at this
          rw [show (⟨(sh.length : Int) + 1 - b, h + 1, (nth p k).1⟩ : En) = ⟨((k + 1 : Nat) : Int) - b, h + 1, (nth p (((k + 1 : Nat) : Int) - 1)).1⟩ by
            rw [show ((k + 1 : Nat) : Int) - 1 = (k : Int) by omega, show (sh.length : Int) + 1 - b = ((k + 1 : Nat) : Int) - b by omega]]
          exact this
/-- Right patterns, by the stack. -/
theorem chk_run {p : List NodeD} : (chkP p).2 = 0 ↔ (p.length : Int) ≤ 2048 ∧ ∃ e, run p [] = .inr [e] := by
  have h := scan_run (p := p) (n := p.length) (k := 0) (sh := []) (S := []) (by omega) rfl (by omega) shOk_nil .nil
  rw [List.drop_zero] at h
  constructor
  · intro hc
    obtain ⟨h1, h2, h3, h4, h5⟩ := chk_len hc
    refine ⟨h1, ?_⟩
    cases hr : run p [] with
    | inl c =>
      rw [hr] at h
      obtain ⟨a, s, g1, g2⟩ := h
      rw [h2] at g1
      simp only [Prod.mk.injEq] at g1
      exact absurd g1.1.2.symm g2
    | inr T =>
      rw [hr] at h
      obtain ⟨s, g1, g2⟩ := h
      rw [h2] at g1
      simp only [Prod.mk.injEq, true_and] at g1
      subst g1
      rcases g2.inv with ⟨g0, _⟩ | ⟨g0, S', rfl, gr⟩
      · omega
      · rw [h5] at gr
        rcases gr.inv with ⟨_, rfl⟩ | ⟨g0', _⟩
        · exact ⟨_, rfl⟩
        · omega
  · rintro ⟨h1, e, hr⟩
    rw [hr] at h
    obtain ⟨s, g1, g2⟩ := h
    unfold chkP
    rw [if_neg (by omega)]
    unfold eachP endP
    rw [g1]
    simp only [ne_eq, not_true, if_false]
    rcases g2.inv with ⟨_, h0⟩ | ⟨g0, S', hS, gr⟩
    · cases h0
    · injection hS with _ hS
      subst hS
      rcases gr.inv with ⟨hz, _⟩ | ⟨_, S'', hS, _⟩
      · rw [if_neg]
        simp
        exact ⟨fun h => by rw [h] at g0; simp at g0, hz⟩
      · cases hS
/-- Of a right pattern: what stands on the stack ahead of a node. -/
theorem run_take {p : List NodeD} (hp : (chkP p).2 = 0) (k : Nat) (hk : k ≤ p.length) : ∃ S, run (List.take k p) [] = .inr S ∧ Stk p (shP p) k S := by
  have key : ∀ {n j : Nat} {sh : List shapeD} {S : List En}, k - j = n → sh.length = j → j ≤ k → ShOk sh → Stk p sh (j : Int) S → (∃ s, scan p (List.drop j p) sh = ((0, 0), s) ∧ s = shP p) →
      ∃ T, run (List.take (k - j) (List.drop j p)) S = .inr T ∧ Stk p (shP p) k T := by
    intro n
    induction n with
    | zero =>
      intro j sh S hn hl hj hok hS hsc
      obtain ⟨s, h1, h2⟩ := hsc
      have hjk : j = k := by omega
      subst hjk
      refine ⟨S, by rw [Nat.sub_self]; rfl, ?_⟩
      obtain ⟨h3, _⟩ := scan_node (p := p) (n := p.length - j) rfl hl hk h1
      rw [← h2]
      refine hS.mono (n := (j : Int)) (fun i h0 h1' => ⟨?_, ?_⟩) (Int.le_refl _)
      · rw [← h3, sth_take h0 (by omega)]
      · have := sth_ok hok (b := i + 1) (by omega) (by omega)
        rw [show i + 1 - 1 = i by omega] at this
        exact this.2.1
    | succ n ih =>
      intro j sh S hn hl hj hok hS hsc
      have hlt : j < p.length := by omega
      have e : List.getD p j zNode = nth p j := by unfold nth; simp
      have ek : p[j] = nth p j := by unfold nth; rw [Int.toNat_natCast, List.getD_eq_getElem?_getD, List.getElem?_eq_getElem hlt]; rfl
      rw [scan_at hlt, e] at hsc
      rw [List.drop_eq_getElem_cons hlt, ek, show k - j = (k - (j + 1)) + 1 by omega, List.take_succ_cons]
      simp only [run]
      obtain ⟨s, h1, h2⟩ := hsc
      split at h1
      · simp at h1
      rename_i ha
      split at h1
      · simp at h1
      rename_i hf
      have hf : fieldB (nth p j) = true := by simpa using hf
      have hin := inner_stk (n := nth p j) hok (by rw [hl]; exact hS) ha hf
      split at h1
      · simp at h1
      rename_i b h ho
      rw [ho] at hin
      simp only at hin
      split at h1
      · simp at h1
      rename_i h60
      rw [if_neg h60] at hin
      obtain ⟨S', hS', hst⟩ := hin
      have hb := inner_ok hok (by omega) (Int.le_refl _) (Int.le_refl 0) (by omega) ho
      rw [hst]
      simp only
      have hS2 : Stk p (sh ++ [(b, h + 1, ())]) b S' := hS'.mono (n := (sh.length : Int)) (fun i h0 h1 => ⟨sth_app h0 h1, by
        have := sth_ok hok (b := i + 1) (by omega) (by omega)
        rw [show i + 1 - 1 = i by omega] at this
        exact this.2.1⟩) (by omega)
      have e1 : sth (sh ++ [(b, h + 1, ())]) (((j + 1 : Nat) : Int) - 1) = (b, h + 1, ()) := by
        rw [show ((j + 1 : Nat) : Int) - 1 = (sh.length : Int) by omega]
        exact sth_last
      have hc := Stk.cons (p := p) (sh := sh ++ [(b, h + 1, ())]) (k := ((j + 1 : Nat) : Int)) (S := S') (by omega) (by rw [e1]; exact hS2)
      rw [e1] at hc
      rw [show (⟨(sh.length : Int) + 1 - b, h + 1, (nth p j).1⟩ : En) = ⟨((j + 1 : Nat) : Int) - b, h + 1, (nth p (((j + 1 : Nat) : Int) - 1)).1⟩ by
        rw [show ((j + 1 : Nat) : Int) - 1 = (j : Int) by omega, show (sh.length : Int) + 1 - b = ((j + 1 : Nat) : Int) - b by omega]]
      exact ih (by omega) (by simp; omega) (by omega) (hok.push hb.1 hb.2.1 (by omega) (by omega)) hc ⟨s, h1, h2⟩
  have h0 := chk_len hp
  have := key (n := k) (j := 0) (sh := []) (S := []) (by omega) rfl (by omega) shOk_nil .nil ⟨_, by rw [List.drop_zero]; exact h0.2.1, rfl⟩
  simpa using this
theorem drop_take_succ {p : List NodeD} {b i : Int} (h0 : 0 ≤ b) (hb : b ≤ i) (h1 : i < (p.length : Int)) : List.drop b.toNat (List.take (i + 1).toNat p) = List.drop b.toNat (List.take i.toNat p) ++ [nth p i] := by
  have hlt : i.toNat < p.length := by omega
  rw [show (i + 1).toNat = i.toNat + 1 by omega, List.take_succ_eq_append_getElem hlt, List.drop_append_of_le_length (by rw [List.length_take]; omega)]
  congr 2
  unfold nth
  rw [List.getD_eq_getElem?_getD, List.getElem?_eq_getElem hlt]
  rfl
theorem drop_take_mid {p : List NodeD} {b m i : Nat} (h0 : b ≤ m) (h1 : m ≤ i) (h2 : i ≤ p.length) : List.drop b (List.take i p) = List.drop b (List.take m p) ++ List.drop m (List.take i p) := by
  have e : List.take i p = List.take m p ++ List.drop m (List.take i p) := by
    conv => lhs; rw [← List.take_append_drop m (List.take i p)]
    rw [List.take_take, Nat.min_eq_left h1]
  conv => lhs; rw [e]
  rw [List.drop_append_of_le_length (by rw [List.length_take]; omega)]
/-- A part alone: it lays one thing on whatever stack. -/
theorem part_one {p : List NodeD} : ∀ {n : Nat} {i : Int}, i.toNat ≤ n → lookP p i = 0 → ∀ T, run (partP p i) T = .inr (⟨i + 1 - beginP p i, highP p i, (nth p i).1⟩ :: T) := by
  intro n
  induction n with
  | zero =>
    intro i hn h T
    obtain ⟨g1, g2, g3⟩ := lookP_zero h
    have hi : i = 0 := by omega
    subst hi
    obtain ⟨n0, n1, n2, n3, n4⟩ := node_ok h
    have hb := begin_le h
    have ha : arity (nth p 0).1 = 0 := by
      have := arity_le (nth p 0).1
      have h3 : arity (nth p 0).1 = 0 ∨ arity (nth p 0).1 = 1 ∨ arity (nth p 0).1 = 2 := by omega
      rcases h3 with h3 | h3 | h3
      · exact h3
      · have := n3 h3; omega
      · have := n4 h3; omega
    obtain ⟨e1, e2⟩ := n2 ha
    unfold partP
    rw [drop_take_succ hb.1 hb.2.1 g3, e1, e2]
    simp only [Int.toNat_zero, List.take_zero, List.drop_zero, List.nil_append, run, stepE]
    rw [if_neg (by omega), if_neg (by simp [n1]), if_pos ha]
    rfl
  | succ n ih =>
    intro i hn h T
    obtain ⟨g1, g2, g3⟩ := lookP_zero h
    obtain ⟨n0, n1, n2, n3, n4⟩ := node_ok h
    have hb := begin_le h
    have := arity_le (nth p i).1
    have h3 : arity (nth p i).1 = 0 ∨ arity (nth p i).1 = 1 ∨ arity (nth p i).1 = 2 := by omega
    unfold partP
    rw [drop_take_succ hb.1 hb.2.1 g3]
    rcases h3 with ha | ha | ha
    · obtain ⟨e1, e2⟩ := n2 ha
      rw [e1, e2, List.drop_eq_nil_of_le (by rw [List.length_take]; omega)]
      simp only [List.nil_append, run, stepE]
      rw [if_neg (by omega), if_neg (by simp [n1]), if_pos ha]
      simp
      omega
    · obtain ⟨e0, e1, e2⟩ := n3 ha
      have hl := lookP_of (p := p) (i := i - 1) g1 (by omega) (by omega)
      have h4 := ih (i := i - 1) (by omega) hl T
      unfold partP at h4
      rw [show i - 1 + 1 = i by omega] at h4
      rw [run_append, e1, h4]
      simp only [run, stepE]
      rw [if_neg (by omega), if_neg (by simp [n1]), if_neg (by omega), if_pos ha]
      rw [if_neg (by omega), e2]
      simp
      omega
    · obtain ⟨e0, em, e1, e2⟩ := n4 ha
      have hl := lookP_of (p := p) (i := i - 1) g1 (by omega) (by omega)
      have hb1 := begin_le hl
      generalize hm : beginP p (i - 1) = m at *
      have hl2 := lookP_of (p := p) (i := m - 1) g1 (by omega) (by omega)
      have hb2 := begin_le hl2
      have h5 := ih (i := m - 1) (by omega) hl2 T
      have h4 := ih (i := i - 1) (by omega) hl (⟨m - 1 + 1 - beginP p (m - 1), highP p (m - 1), (nth p (m - 1)).1⟩ :: T)
      unfold partP at h4 h5
      rw [hm, show i - 1 + 1 = i by omega] at h4
      rw [show m - 1 + 1 = m by omega] at h5 h4
      rw [e1, drop_take_mid (b := (beginP p (m - 1)).toNat) (m := m.toNat) (i := i.toNat) (by omega) (by omega) (by omega), List.append_assoc, run_append, h5]
      simp only
      rw [run_append, h4]
      simp only [run, stepE]
      rw [if_neg (by omega), if_neg (by simp [n1]), if_neg (by omega), if_neg (by omega)]
      unfold adj at e2
      rw [if_neg (by omega), e2]
      simp
      omega
end Go.Proofs

/-! Chapter 4: the laws of parts. -/
namespace Go.Proofs
open Go Go.Abs
theorem stepE_high {n : NodeD} {S T : List En} (h : stepE n S = .inr T) : ∀ e ∈ S, ∃ e' ∈ T, e.h ≤ e'.h := by
  intro e he
  unfold stepE at h
  split at h
  · cases h
  split at h
  · cases h
  split at h
  · simp only [Sum.inr.injEq] at h
    subst h
    exact ⟨e, List.mem_cons_of_mem _ he, Int.le_refl _⟩
  split at h
  · split at h
    · rename_i e1 S'
      split at h
      · cases h
      · simp only [Sum.inr.injEq] at h
        subst h
        rcases List.mem_cons.1 he with rfl | he
        · exact ⟨_, List.mem_cons_self .., by simp only; omega⟩
        · exact ⟨e, List.mem_cons_of_mem _ he, Int.le_refl _⟩
    · cases h
  · split at h
    · rename_i e1 e0 S'
      have hh : e0.h ≤ (if e0.op = n.1 then e0.h - 1 else e0.h) + 1 := by split <;> omega
      generalize (if e0.op = n.1 then e0.h - 1 else e0.h) = x at h hh
      by_cases h60 : max e1.h x + 1 > 60
      · rw [if_pos h60] at h; cases h
      · rw [if_neg h60] at h
        simp only [Sum.inr.injEq] at h
        subst h
        rcases List.mem_cons.1 he with rfl | he
        · exact ⟨_, List.mem_cons_self .., by simp only; omega⟩
        · rcases List.mem_cons.1 he with rfl | he
          · refine ⟨_, List.mem_cons_self .., ?_⟩
            simp only
            omega
          · exact ⟨e, List.mem_cons_of_mem _ he, Int.le_refl _⟩
    · cases h
theorem run_high : ∀ {xs : List NodeD} {S T : List En}, run xs S = .inr T → ∀ e ∈ S, ∃ e' ∈ T, e.h ≤ e'.h
  | [], S, T, h, e, he => by
    simp only [run, Sum.inr.injEq] at h
    subst h
    exact ⟨e, he, Int.le_refl _⟩
  | n :: ns, S, T, h, e, he => by
    simp only [run] at h
    split at h
    · cases h
    · rename_i S' hs
      obtain ⟨e1, h1, h2⟩ := stepE_high hs e he
      obtain ⟨e2, h3, h4⟩ := run_high h e1 h1
      exact ⟨e2, h3, Int.le_trans h2 h4⟩
theorem chk_high {q : List NodeD} {e : En} (hl : (q.length : Int) ≤ 2048) (h : run q [] = .inr [e]) : (chkP q).2 = 0 ∧ highP q ((q.length : Int) - 1) = e.h := by
  have hc := chk_run.2 ⟨hl, e, h⟩
  refine ⟨hc, ?_⟩
  obtain ⟨S, h1, h2⟩ := run_take hc q.length (Nat.le_refl _)
  rw [List.take_length, h] at h1
  simp only [Sum.inr.injEq] at h1
  subst h1
  rcases h2.inv with ⟨_, h3⟩ | ⟨_, S', h3, _⟩
  · cases h3
  · injection h3 with h3 _
    rw [h3]
    rfl
/-- A part of a right pattern is one, no higher than the whole. -/
theorem part_ok {p : List NodeD} {j : Int} (h : lookP p j = 0) : (chkP (partP p j)).2 = 0 ∧ highP (partP p j) (((partP p j).length : Int) - 1) = highP p j ∧ highP p j ≤ highP p ((p.length : Int) - 1) := by
  obtain ⟨g1, g2, g3⟩ := lookP_zero h
  have hp := chk_len g1
  have hb := begin_le h
  have hl := partP_length h
  have h1 := chk_high (q := partP p j) (by omega) (part_one (Nat.le_refl _) h [])
  refine ⟨h1.1, h1.2, ?_⟩
  obtain ⟨S, h2, h3⟩ := run_take g1 (j.toNat + 1) (by omega)
  obtain ⟨S2, h4, h5⟩ := run_take g1 p.length (Nat.le_refl _)
  rw [List.take_length] at h4
  have h6 : run p [] = run (List.drop (j.toNat + 1) p) S := by
    conv => lhs; rw [← List.take_append_drop (j.toNat + 1) p]
    rw [run_append, h2]
  rw [h4] at h6
  rcases h3.inv with ⟨h7, _⟩ | ⟨_, S', h7, _⟩
  · omega
  · have e1 : ((j.toNat + 1 : Nat) : Int) - 1 = j := by omega
    rw [e1] at h7
    obtain ⟨e', h8, h9⟩ := run_high h6.symm _ (by rw [h7]; exact List.mem_cons_self ..)
    obtain ⟨_, e2, h10⟩ := chk_run.1 g1
    rw [h4] at h10
    simp only [Sum.inr.injEq] at h10
    subst h10
    rw [List.mem_singleton] at h8
    subst h8
    rcases h5.inv with ⟨h7, _⟩ | ⟨_, S', h7, _⟩
    · omega
    · injection h7 with h7 _
      rw [h7] at h9
      exact h9
end Go.Proofs

/-! Chapter 4: what is put is there. -/
namespace Go.Proofs
open Go Go.Abs
theorem q_sameT (p : List NodeD) (h : p.length * 64 ≤ 140737488355328) : F_tree_Same (p, p, ()) = some (true, ()) := by
  unfold F_tree_Same
  have : F_slices_Equal_Pattern_Node (p, p, ()) = some (true, ()) := q_same p h
  rw [this]
  rfl
end Go.Proofs

/-! Chapter 8: Rename. -/
namespace Go.Proofs
open Go Go.Abs
/-! ### A pattern with other texts -/
section
variable {f : NodeD → NodeD}
theorem nth_map (hf : ∀ n, (f n).1 = n.1) (p : List NodeD) (i : Int) : (nth (p.map f) i).1 = (nth p i).1 := by
  unfold nth
  rw [List.getD_eq_getElem?_getD, List.getD_eq_getElem?_getD, List.getElem?_map]
  cases p[i.toNat]? with
  | none => rfl
  | some n => exact hf n
theorem inner_map (hf : ∀ n, (f n).1 = n.1) (p : List NodeD) (sh : List shapeD) (op a : Int) : ∀ (r : Nat) (b h : Int), inner (p.map f) sh op a r b h = inner p sh op a r b h
  | 0, _, _ => rfl
  | r + 1, b, h => by
    unfold inner
    have : less (p.map f) op a b r = less p op a b r := by
      unfold less
      rw [nth_map hf]
    rw [this, inner_map hf p sh op a r]
theorem scan_map (hf : ∀ n, (f n).1 = n.1) (p : List NodeD) : ∀ (l : List NodeD) (sh : List shapeD), (∀ n ∈ l, fieldB (f n) = fieldB n) → scan (p.map f) (l.map f) sh = scan p l sh
  | [], _, _ => rfl
  | n :: ns, sh, h => by
    rw [List.map_cons]
    unfold scan
    rw [hf n, h n List.mem_cons_self, inner_map hf]
    have ih := fun sh => scan_map hf p ns sh fun n hn => h n (List.mem_cons_of_mem _ hn)
    simp only [ih]
theorem chk_map (hf : ∀ n, (f n).1 = n.1) {p : List NodeD} (h : ∀ n ∈ p, fieldB (f n) = fieldB n) : chkP (p.map f) = chkP p := by
  unfold chkP eachP
  rw [List.length_map, scan_map hf p p [] h]
  unfold endP
  rw [List.length_map]
theorem scan_fields (p : List NodeD) : ∀ (l : List NodeD) (sh : List shapeD), (scan p l sh).1.2 = 0 → ∀ n ∈ l, fieldB n = true
  | [], _, _, n, hn => by cases hn
  | n0 :: ns, sh, h, n, hn => by
    unfold scan at h
    split at h
    · simp at h
    split at h
    · simp at h
    rename_i hfb
    have hfb : fieldB n0 = true := by simpa using hfb
    rcases List.mem_cons.1 hn with rfl | hn
    · exact hfb
    split at h
    · simp at h
    split at h
    · simp at h
    · exact scan_fields p ns _ h n hn
theorem chk_fields {p : List NodeD} (h : (chkP p).2 = 0) : ∀ n ∈ p, fieldB n = true := by
  have := (chk_len h).2.1
  exact scan_fields p p [] (by rw [this])
end
def renN (w s : ByteArray) (x : NodeD) : NodeD := if x.1 = 6 ∧ x.2.2.1 = w then (x.1, x.2.1, s, x.2.2.2) else x
theorem renN_op {w s : ByteArray} (n : NodeD) : (renN w s n).1 = n.1 := by
  unfold renN
  split <;> rfl
theorem renN_field {w s : ByteArray} (hs : nameB s = true) {n : NodeD} (h : fieldB n = true) : fieldB (renN w s n) = fieldB n := by
  unfold renN
  split
  · rename_i hc
    rw [h]
    obtain ⟨h6, _⟩ := hc
    unfold fieldB at h ⊢
    dsimp only
    split at h
    · cases h
    rename_i c1
    split at h
    · cases h
    rename_i c2
    rw [if_neg c1, if_neg c2, if_neg (by omega), if_pos h6]
    exact hs
  · rfl
theorem chk_ren {w s : ByteArray} (hs : nameB s = true) {p : List NodeD} (h : (chkP p).2 = 0) : chkP (p.map (renN w s)) = chkP p :=
  chk_map renN_op fun n hn => renN_field hs (chk_fields h n hn)
/-! ### A grammar with another name -/
def renG (g : G) (r : Nat) (s : ByteArray) : G := genR g.length fun i => ((if i = r then s else (rth g i).1), (rth g i).2.1.map (renN (rth g r).1 s), ())
theorem renG_len {g : G} {r : Nat} {s : ByteArray} : (renG g r s).length = g.length := genR_len
theorem renG_at {g : G} {r : Nat} {s : ByteArray} {i : Nat} (h : i < g.length) : rth (renG g r s) i = ((if i = r then s else (rth g i).1), (rth g i).2.1.map (renN (rth g r).1 s), ()) := genR_get h
theorem right_scan {g : G} (h : RightG g) : scanG g g.length 0 0 = none := by
  unfold RightG chkG at h
  split at h
  · simp at h
  split at h
  · simp at h
  cases hs : scanG g g.length 0 0 with
  | some e => rw [hs] at h; exact absurd h (scan_err hs)
  | none => rfl
theorem scan_copy {g h : G} : ∀ {k i : Nat} {m : Int}, scanG g k i m = none → (∀ j, i ≤ j → j < i + k → goodR h j ∧ (rth h j).2.1.length = (rth g j).2.1.length) → scanG h k i m = none
  | 0, _, _, _, _ => rfl
  | k + 1, i, m, hs, hg => by
    obtain ⟨⟨g1, g2, g3⟩, hl⟩ := hg i (Nat.le_refl _) (by omega)
    unfold scanG at hs ⊢
    split at hs
    · cases hs
    split at hs
    · cases hs
    split at hs
    · cases hs
    split at hs
    · cases hs
    rename_i h6
    rw [if_neg g1, if_neg g2, if_neg (by simpa using g3), hl, if_neg h6]
    exact scan_copy hs fun j h1 h2 => hg j (by omega) (by omega)
theorem unkN_of {h : G} : ∀ {l : List NodeD} {k : Nat}, (∀ n ∈ l, n.1 = 6 → ∃ j, findR h n.2.2.1 = some j) → unkN h l k = none
  | [], _, _ => rfl
  | n :: l, k, hn => by
    unfold unkN
    rw [if_neg]
    · exact unkN_of fun n hm => hn n (List.mem_cons_of_mem _ hm)
    · rintro ⟨h6, h0⟩
      obtain ⟨j, hj⟩ := hn n List.mem_cons_self h6
      rw [hj] at h0
      cases h0
theorem unkG_of {h : G} : ∀ {l : List RuleD} {i : Nat}, (∀ r ∈ l, ∀ n ∈ (r.2.1 : List NodeD), n.1 = 6 → ∃ j, findR h n.2.2.1 = some j) → unkG h l i = none
  | [], _, _ => rfl
  | r :: l, i, hr => by
    unfold unkG
    rw [unkN_of (hr r List.mem_cons_self)]
    exact unkG_of fun r hm => hr r (List.mem_cons_of_mem _ hm)
theorem find_self {g : G} (hg : RG g) {j : Nat} (hj : j < g.length) : findR g (rth g j).1 = some j := by
  obtain ⟨k, h1, h2⟩ := findR_le hj
  have h3 := (hg.good j hj).2.1
  have h1 : findR g (rth g j).1 = some k := h1
  unfold numR at h3
  rw [h1] at h3
  have h3 : ¬ (k : Int) < (j : Int) := h3
  rw [h1, show k = j by omega]
theorem find_uniq {h : G} (inj : ∀ i j, i < h.length → j < h.length → (rth h i).1 = (rth h j).1 → i = j) {j : Nat} {t : ByteArray} (hj : j < h.length) (e : (rth h j).1 = t) : findR h t = some j := by
  cases hf : findR h t with
  | none => exact absurd e (findF_none hf _ (getD_memR hj))
  | some k =>
    obtain ⟨h1, h2, _⟩ := findR_at hf
    have h2 : (rth h k).1 = t := h2
    rw [inj k j h1 hj (h2.trans e.symm)]
theorem name_inj {g : G} (hg : RG g) : ∀ i j, i < g.length → j < g.length → (rth g i).1 = (rth g j).1 → i = j := fun i j hi hj e => by
  have h1 := find_self hg hi
  rw [e, find_self hg hj] at h1
  simpa using h1.symm
structure Ren (g : G) (r : Nat) (s : ByteArray) : Prop where
  right : RightG g
  lt : r < g.length
  name : nameB s = true
  free : ∀ q, findR g s = some q → q = r
section
variable {g : G} {r : Nat} {s : ByteArray} (H : Ren g r s)
include H
theorem Ren.inj : ∀ i j, i < (renG g r s).length → j < (renG g r s).length → (rth (renG g r s) i).1 = (rth (renG g r s) j).1 → i = j := by
  have hg := rg_of H.right
  intro i j hi hj e
  rw [renG_len] at hi hj
  rw [renG_at hi, renG_at hj] at e
  dsimp only at e
  by_cases h1 : i = r <;> by_cases h2 : j = r
  · omega
  · rw [if_pos h1, if_neg h2] at e
    have := H.free j (by rw [e]; exact find_self hg hj)
    omega
  · rw [if_neg h1, if_pos h2] at e
    have := H.free i (by rw [← e]; exact find_self hg hi)
    omega
  · rw [if_neg h1, if_neg h2] at e
    exact name_inj hg i j hi hj e
theorem Ren.new : findR (renG g r s) s = some r := find_uniq H.inj (by rw [renG_len]; exact H.lt) (by rw [renG_at H.lt]; simp)
theorem Ren.old {j : Nat} (hj : j < g.length) (hr : j ≠ r) : findR (renG g r s) (rth g j).1 = some j := find_uniq H.inj (by rw [renG_len]; exact hj) (by rw [renG_at hj]; simp [hr])
theorem Ren.call {i : Nat} (hi : i < g.length) {n : NodeD} (hn : n ∈ ((rth g i).2.1 : List NodeD)) (h6 : n.1 = 6) : findR (renG g r s) (renN (rth g r).1 s n).2.2.1 = findR g n.2.2.1 := by
  have hg := rg_of H.right
  unfold renN
  by_cases hw : n.2.2.1 = (rth g r).1
  · rw [if_pos ⟨h6, hw⟩, hw, find_self hg H.lt]
    exact H.new
  · rw [if_neg (fun c => hw c.2)]
    obtain ⟨j, hj⟩ := hg.calls _ (getD_memR hi) n hn h6
    obtain ⟨h1, h2, _⟩ := findR_at hj
    have h2 : (rth g j).1 = n.2.2.1 := h2
    rw [hj, ← h2]
    exact H.old h1 fun c => hw (by rw [← h2, c])
theorem Ren.e {i q : Nat} (hi : i < g.length) : E (renG g r s) i q ↔ E g i q := by
  unfold E
  rw [renG_at hi]
  dsimp only
  constructor
  · rintro ⟨n, hn, h6, hf⟩
    obtain ⟨m, hm, rfl⟩ := List.mem_map.1 hn
    rw [renN_op] at h6
    exact ⟨m, hm, h6, by rw [← H.call hi hm h6]; exact hf⟩
  · rintro ⟨m, hm, h6, hf⟩
    exact ⟨_, List.mem_map.2 ⟨m, hm, rfl⟩, by rw [renN_op]; exact h6, by rw [H.call hi hm h6]; exact hf⟩
theorem Ren.isRight : RightG (renG g r s) := by
  have hg := rg_of H.right
  have hgood : ∀ j, j < g.length → goodR (renG g r s) j := by
    intro j hj
    obtain ⟨g1, g2, g3⟩ := hg.good j hj
    refine ⟨?_, ?_, ?_⟩
    · unfold badName at g1 ⊢
      rw [renG_at hj, renG_len]
      dsimp only
      by_cases hr : j = r
      · rw [if_pos hr]
        rintro ⟨h1, _⟩
        rw [H.name] at h1
        cases h1
      · rw [if_neg hr]
        exact g1
    · have : findR (renG g r s) (rth (renG g r s) j).1 = some j := find_uniq H.inj (by rw [renG_len]; exact hj) rfl
      unfold numR
      rw [this]
      exact Int.lt_irrefl _
    · rw [renG_at hj]
      dsimp only
      rw [chk_ren H.name g3]
      exact g3
  have h1 : scanG (renG g r s) g.length 0 0 = none := scan_copy (right_scan H.right) fun j _ hj => ⟨hgood j (by omega), by rw [renG_at (by omega)]; simp⟩
  have h2 : unkG (renG g r s) (renG g r s) 0 = none := unkG_of fun x hx n hn h6 => by
    obtain ⟨i, hi, rfl⟩ := in_getD zRule hx
    rw [renG_len] at hi
    have hn : n ∈ ((rth (renG g r s) i).2.1 : List NodeD) := hn
    rw [renG_at hi] at hn
    obtain ⟨m, hm, rfl⟩ := List.mem_map.1 hn
    rw [renN_op] at h6
    rw [H.call hi hm h6]
    exact hg.calls _ (getD_memR hi) m hm h6
  have hp := hg.pos
  have hl := hg.len
  unfold RightG chkG
  rw [renG_len, if_neg (by omega), if_neg (by omega), h1]
  unfold restG
  rw [h2]
  rfl
/-- Back again. -/
theorem Ren.back : renG (renG g r s) r (rth g r).1 = g := by
  have hg := rg_of H.right
  have : g = genR g.length (fun i => rth g i) := (genR_self (d := zRule)).symm
  conv => rhs; rw [this]
  unfold renG
  rw [genR_len]
  refine genR_ext fun i hi => ?_
  have h1 : rth (renG g r s) i = _ := renG_at hi
  have h2 : rth (renG g r s) r = _ := renG_at H.lt
  unfold renG at h1 h2
  rw [h1, h2]
  dsimp only
  rw [if_pos rfl, List.map_map]
  have hb : List.map (renN s (rth g r).1 ∘ renN (rth g r).1 s) (rth g i).2.1 = (rth g i).2.1 := by
    conv => rhs; rw [← List.map_id (rth g i).2.1]
    refine List.map_congr_left fun n hn => ?_
    simp only [Function.comp, id]
    by_cases hc : n.1 = 6 ∧ n.2.2.1 = (rth g r).1
    · have e1 : renN (rth g r).1 s n = (n.1, n.2.1, s, n.2.2.2) := if_pos hc
      rw [e1]
      unfold renN
      rw [if_pos ⟨hc.1, rfl⟩, ← hc.2]
    · have e1 : renN (rth g r).1 s n = n := if_neg hc
      rw [e1]
      unfold renN
      rw [if_neg]
      rintro ⟨h6, ht⟩
      obtain ⟨j, hj⟩ := hg.calls _ (getD_memR hi) n hn h6
      have hjr := H.free j (by rw [← ht]; exact hj)
      have h3 : (rth g j).1 = n.2.2.1 := (findR_at hj).2.1
      exact hc ⟨h6, by rw [← h3, hjr]⟩
  rw [hb]
  by_cases hir : i = r
  · subst hir
    rw [if_pos rfl]
  · rw [if_neg hir, if_neg hir]
theorem Ren.again (hw : (rth g r).1 ≠ zStr) : Ren (renG g r s) r (rth g r).1 where
  right := H.isRight
  lt := by rw [renG_len]; exact H.lt
  name := by
    have h1 := ((rg_of H.right).good r H.lt).1
    unfold badName at h1
    cases hc : nameB (rth g r).1 with
    | true => rfl
    | false => exact absurd ⟨hc, Or.inl hw⟩ h1
  free := fun q hq => by
    have hg := rg_of H.right
    obtain ⟨h1, h2, _⟩ := findR_at hq
    rw [renG_len] at h1
    have h2 : (rth (renG g r s) q).1 = (rth g r).1 := h2
    rw [renG_at h1] at h2
    dsimp only at h2
    by_cases hqr : q = r
    · exact hqr
    · rw [if_neg hqr] at h2
      exact name_inj hg q r h1 H.lt h2
end
/-! ### Rename -/
open Classical in
noncomputable def renE (g : G) (r : Int) (s : ByteArray) : Int := if lookE g r ≠ 0 then lookE g r else if nameB s = false then 6 else if ∃ q : Nat, findR g s = some q ∧ (q : Int) ≠ r then 80 else 0
theorem renE_ok {g : G} {r : Int} {s : ByteArray} (h : renE g r s = 0) : lookE g r = 0 ∧ Ren g r.toNat s := by
  unfold renE at h
  split at h
  · contradiction
  rename_i h1
  have h1 : lookE g r = 0 := by simpa using h1
  split at h
  · simp at h
  rename_i h2
  split at h
  · simp at h
  rename_i h3
  obtain ⟨_, h5, h6⟩ := lookE_ok h1
  refine ⟨h1, ?_, by omega, by simpa using h2, fun q hq => ?_⟩
  · unfold lookE at h1
    split at h1
    · contradiction
    · rename_i hc1; simpa [RightG] using hc1
  · have : (q : Int) = r := Classical.byContradiction fun hc => h3 ⟨q, hq, hc⟩
    omega
theorem renE_of {g : G} {r : Nat} {s : ByteArray} (H : Ren g r s) : renE g (r : Int) s = 0 := by
  unfold renE
  rw [if_neg (by simpa using lookE_in H.right H.lt), if_neg (by rw [H.name]; simp), if_neg]
  rintro ⟨q, h1, h2⟩
  exact h2 (by rw [H.free q h1])
theorem map_genR {p : List NodeD} {f : NodeD → NodeD} : genR p.length (fun k => f (List.getD p k zNode)) = p.map f := by
  have : genR p.length (fun k => f (List.getD p k zNode)) = (genR p.length (fun k => List.getD p k zNode)).map f := by simp [genR]
  rw [this, genR_self]
theorem q_rename (g : G) (r : Int) (s : ByteArray) : F_rules_Rename ((g, ()), r, s, ()) = some ((if renE g r s = 0 then renG g r.toNat s else [], ()), renE g r s, ()) := by
  unfold F_rules_Rename
  simp only [toPb]
  rw [q_looked8, bind_t]
  dsimp only
  by_cases h1 : lookE g r = 0
  case neg =>
    have : renE g r s = lookE g r := by unfold renE; rw [if_pos h1]
    rw [nneg h1, this, if_neg h1]
  rw [npos h1, q_name8, bind_t]
  cases h2 : nameB s with
  | false =>
    have : renE g r s = 6 := by unfold renE; rw [if_neg (by simpa using h1), if_pos h2]
    rw [this]
    rfl
  | true =>
    simp only [Bool.not_true, sel_f]
    obtain ⟨hg, h3, h4⟩ := lookE_ok h1
    have hl := hg.len
    rw [q_numbers g (by omega), bind_t]
    dsimp only
    rw [nums_find]
    have hv : Option.bind (sel (Option.isSome ((findR g s).map fun k : Nat => (k : Int))) (some (!pb (Option.getD ((findR g s).map fun k : Nat => (k : Int)) 0 = r))) (some false)) (fun v : Bool => some v) = some (pb (∃ q : Nat, findR g s = some q ∧ (q : Int) ≠ r)) := by
      cases hf : findR g s with
      | none =>
        simp only [Option.map_none, Option.isSome_none, sel_f, bind_t]
        rw [pb_f (by rintro ⟨q, h, _⟩; cases h)]
      | some q =>
        simp only [Option.map_some, Option.isSome_some, sel_t, bind_t, Option.getD_some]
        by_cases hq : (q : Int) = r
        · rw [pb_t hq, pb_f (by rintro ⟨q', h, h'⟩; simp only [Option.some.injEq] at h; subst h; exact h' hq)]
          rfl
        · rw [pb_f hq, pb_t ⟨q, rfl, hq⟩]
          rfl
    rw [bind_id] at hv
    rw [hv, bind_t]
    by_cases h5 : ∃ q : Nat, findR g s = some q ∧ (q : Int) ≠ r
    · have : renE g r s = 80 := by unfold renE; rw [if_neg (by simpa using h1), if_neg (by rw [h2]; simp), if_pos h5]
      rw [pb_t h5, sel_t, this]
      rfl
    have h0 : renE g r s = 0 := by unfold renE; rw [if_neg (by simpa using h1), if_neg (by rw [h2]; simp), if_neg h5]
    rw [pb_f h5, sel_f, need_pos ⟨by omega, by omega⟩, h0, if_pos rfl]
    obtain ⟨rr, rfl⟩ : ∃ rr : Nat, r = (rr : Int) := ⟨r.toNat, by omega⟩
    simp only [Int.toNat_natCast]
    have hw : (List.getD g rr zRule).1 = (rth g rr).1 := rfl
    rw [hw]
    generalize hwas : (rth g rr).1 = w
    refine loop_up (σ := (Int × Unit) × Unit × List RuleD × Unit × GrammarD) (ρ := GrammarD × Int × Unit) g.length (fun i => (((i : Int), ()), (), genR i (fun i => ((if i = rr then s else (rth g i).1), (rth g i).2.1.map (renN w s), ())), (), ([], ()))) rfl ?_ ?_
    · intro i hi
      have hb := good_len (hg.good i hi)
      have hfold : List.getD g i zRule = rth g i := rfl
      dsimp only
      rw [pos (by omega), need_pos ⟨by omega, by omega⟩, Int.toNat_natCast, hfold, q_clone _ (by omega), bind_t]
      dsimp only
      generalize hbody : (rth g i).2.1 = body at hb
      refine loop_up (σ := (Int × Unit) × List NodeD × RuleD × Unit × List RuleD × Unit × GrammarD) body.length (fun k => (((k : Int), ()), gone body (fun k => renN w s (List.getD body k zNode)) k, rth g i, (), genR i (fun i => ((if i = rr then s else (rth g i).1), (rth g i).2.1.map (renN w s), ())), (), ([], ()))) rfl ?_ ?_
      · intro k hk
        have hgl : (gone body (fun k => renN w s (List.getD body k zNode)) k).length = body.length := gone_len (by omega)
        have hga : List.getD (gone body (fun k => renN w s (List.getD body k zNode)) k) k zNode = List.getD body k zNode := gone_at
        dsimp only
        simp only [Int.toNat_natCast, Nat.zero_add, hga, hgl]
        rw [pos (by omega), need_pos ⟨by omega, by omega⟩, need_pos hk]
        by_cases h6 : (List.getD body k zNode).1 = 6
        · rw [pos h6, need_pos ⟨by omega, by omega⟩, need_pos hk, bind_t]
          by_cases h7 : (List.getD body k zNode).2.2.1 = w
          · have e : renN w s (List.getD body k zNode) = ((List.getD body k zNode).1, (List.getD body k zNode).2.1, s, (List.getD body k zNode).2.2.2) := if_pos ⟨h6, h7⟩
            rw [pb_t h7, sel_t, need_pos ⟨by omega, by omega⟩, need_pos hk, need64 (by omega) (by omega), cast_succ, ← e, ← gone_set (f := fun k => renN w s (List.getD body k zNode)) hk]
          · have e : renN w s (List.getD body k zNode) = List.getD body k zNode := if_neg fun c => h7 c.2
            rw [pb_f h7, sel_f, need64 (by omega) (by omega), cast_succ, gone_keep (d := zNode) hk e]
        · have e : renN w s (List.getD body k zNode) = List.getD body k zNode := if_neg fun c => h6 c.1
          rw [neg h6, bind_t, sel_f, need64 (by omega) (by omega), cast_succ, gone_keep (d := zNode) hk e]
      · dsimp only
        rw [neg (by omega), gone_all, map_genR]
        by_cases hir : i = rr
        · rw [pos (by omega), bind_t]
          dsimp only
          rw [genR_len, need_pos ⟨by omega, by omega⟩, need64 (by omega) (by omega), bind_t, cast_succ, genR_succ, if_pos hir, hbody]
        · rw [neg (by omega), bind_t]
          dsimp only
          rw [genR_len, need_pos ⟨by omega, by omega⟩, need64 (by omega) (by omega), bind_t, cast_succ, genR_succ, if_neg hir, hbody]
    · dsimp only
      rw [neg (by omega)]
      unfold renG
      rw [hwas]
theorem q_sameR (x : RuleD) (h : (x.2.1 : List NodeD).length * 64 ≤ 140737488355328) : F_rules_Same_1 (x, x, ()) = some (true, ()) := by
  unfold F_rules_Same_1
  simp only [toPb]
  rw [pb_t trivial, sel_t, q_sameT _ h]
  rfl
theorem q_sameG {g : G} (hg : RG g) : F_rules_Same ((g, ()), (g, ()), ()) = some (true, ()) := by
  have hl := hg.len
  unfold F_rules_Same F_slices_EqualFunc_Rule_Rule_Rule_Rule_same
  simp only [toPb]
  rw [npos trivial]
  refine (congrArg (fun o => Option.bind o (fun y : Bool × Unit => some (y.1, ()))) (a₂ := some (true, ())) ?_).trans rfl
  refine loop_up (σ := (Int × Unit) × Unit) (ρ := Bool × Unit) g.length (fun i => (((i : Int), ()), ())) rfl ?_ ?_
  · intro i hi
    have hb := good_len (hg.good i hi)
    have hfold : List.getD g i zRule = rth g i := rfl
    dsimp only
    rw [pos (by omega), need_pos ⟨by omega, by omega⟩, need_pos ⟨by omega, by omega⟩, Int.toNat_natCast, hfold, q_sameR _ (by omega), bind_t]
    simp only [Bool.not_true, sel_f]
    rw [need64 (by omega) (by omega), cast_succ]
  · dsimp only
    rw [neg (by omega)]
end Go.Proofs
