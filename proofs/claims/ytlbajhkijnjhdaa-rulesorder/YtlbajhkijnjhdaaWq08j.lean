/- Part of the proof of the law's row: YtlbajhkijnjhdaaWq08j. -/
import Derived.Test.YtlbajhkijnjhdaaWq08h
set_option linter.all false
set_option linter.unusedVariables false
set_option linter.unusedSimpArgs false
/-! Chapter 8: the laws RulesReach, RulesOrder. -/
namespace Go.Proofs
open Go Go.Abs
theorem Rt.last {e : Nat → Nat → Prop} {r x : Nat} (h : Rt e r x) : x = r ∨ ∃ q, Rt e r q ∧ e q x ∧ x ≠ q := by
  induction h with
  | refl => exact Or.inl rfl
  | tail h1 h2 ih =>
    rename_i q p
    by_cases h3 : p = q
    · subst h3; exact ih
    · exact Or.inr ⟨q, h1, h2, h3⟩
theorem Rt.first {e : Nat → Nat → Prop} {r x : Nat} (h : Rt e r x) : x = r ∨ ∃ q, e r q ∧ Rt e q x := by
  induction h with
  | refl => exact Or.inl rfl
  | tail h1 h2 ih =>
    rename_i q p
    rcases ih with h | ⟨z, h3, h4⟩
    · subst h; exact Or.inr ⟨p, h2, Rt.refl p⟩
    · exact Or.inr ⟨z, h3, Rt.tail h4 h2⟩
theorem rise_at {l : List Int} (h : l.Pairwise (· < ·)) {i : Nat} (hi : i + 1 < l.length) : List.getD l i 0 < List.getD l (i + 1) 0 := by
  rw [List.getD_eq_getElem?_getD, List.getD_eq_getElem?_getD, List.getElem?_eq_getElem hi, List.getElem?_eq_getElem (by omega : i < l.length)]
  exact List.pairwise_iff_getElem.1 h _ _ _ _ (by omega)
end Go.Proofs

/-! Chapter 8: the law RulesOrder. -/
namespace Go.Proofs
open Go Go.Abs
theorem OrdL.at {n : Nat} {e : Nat → Nat → Prop} {L : List Nat} (h : OrdL n e L) : ∀ i, i < L.length → Ready n e (· ∈ List.take i L) (List.getD L i 0) ∧ List.getD L i 0 ∉ List.take i L := by
  induction h with
  | nil => intro i hi; simp at hi
  | snoc h1 h2 h3 h4 h5 ih =>
    rename_i L l
    intro i hi
    rw [List.length_append, List.length_singleton] at hi
    by_cases hl : i < L.length
    · rw [List.take_append_of_le_length (by omega), List.getD_eq_getElem?_getD, List.getElem?_append_left hl, ← List.getD_eq_getElem?_getD]
      exact ih i hl
    · have : i = L.length := by omega
      subst this
      rw [List.take_append_of_le_length (Nat.le_refl _), List.take_length, List.getD_eq_getElem?_getD, List.getElem?_append_right (Nat.le_refl _), Nat.sub_self]
      exact ⟨h5, h4⟩
theorem ints_len {n : Nat} {l : List Int} (h1 : l.Nodup) (h2 : ∀ k ∈ l, ∃ i : Nat, k = (i : Int) ∧ i < n) : l.length ≤ n := by
  have := keys_len (n := n) (m := l.map fun (k : Int) => (k, (0 : Int))) (by
    unfold keysM
    rw [List.map_map, show ((fun y : Int × Int => y.1) ∘ fun k : Int => (k, (0 : Int))) = id from rfl, List.map_id]
    exact h1) (fun k hk => by
    unfold keysM at hk
    rw [List.map_map] at hk
    exact h2 k (by simpa using hk))
  simpa using this
noncomputable def toldL (n : Nat) (e : Nat → Nat → Prop) (A : List Nat) : List Int := (A.map (memG n e)).flatten
theorem mem_memG {n : Nat} {e : Nat → Nat → Prop} {l : Nat} {k : Int} : k ∈ memG n e l ↔ ∃ i : Nat, k = (i : Int) ∧ i < n ∧ lead e i = l := mem_listP
theorem mem_told {n : Nat} {e : Nat → Nat → Prop} {A : List Nat} {k : Int} : k ∈ toldL n e A ↔ ∃ i : Nat, k = (i : Int) ∧ i < n ∧ lead e i ∈ A := by
  unfold toldL
  rw [List.mem_flatten]
  constructor
  · rintro ⟨l, h1, h2⟩
    obtain ⟨a, ha, rfl⟩ := List.mem_map.1 h1
    obtain ⟨i, h3, h4, h5⟩ := mem_memG.1 h2
    exact ⟨i, h3, h4, by rw [h5]; exact ha⟩
  · rintro ⟨i, h3, h4, h5⟩
    exact ⟨_, List.mem_map.2 ⟨_, h5, rfl⟩, mem_memG.2 ⟨i, h3, h4, rfl⟩⟩
theorem told_nodup {n : Nat} {e : Nat → Nat → Prop} : ∀ {A : List Nat}, A.Nodup → (toldL n e A).Nodup
  | [], _ => by simp [toldL]
  | a :: A, h => by
    rw [List.nodup_cons] at h
    show (memG n e a ++ toldL n e A).Nodup
    rw [List.nodup_append]
    refine ⟨rising_nodup (listP_rising _ _), told_nodup h.2, fun x hx y hy hxy => ?_⟩
    subst hxy
    obtain ⟨i, h1, _, h2⟩ := mem_memG.1 hx
    obtain ⟨j, h3, _, h4⟩ := mem_told.1 hy
    have : i = j := by omega
    subst this
    exact h.1 (h2 ▸ h4)
theorem told_len {n : Nat} {e : Nat → Nat → Prop} {A : List Nat} (h : A.Nodup) : (toldL n e A).length ≤ n :=
  ints_len (told_nodup h) fun k hk => by
    obtain ⟨i, h1, h2, _⟩ := mem_told.1 hk
    exact ⟨i, h1, h2⟩
theorem listP_all {n : Nat} {p : Nat → Prop} (h : ∀ i, i < n → p i) : (listP n p).length = n := by
  have h1 : listP n p = listP n fun _ => True := listP_congr fun i hi => ⟨fun _ => trivial, fun _ => h i hi⟩
  rw [h1]
  unfold listP
  rw [List.length_map, List.filter_eq_self.2 (fun a _ => pb_t trivial), List.length_range]
theorem told_all {n : Nat} {e : Nat → Nat → Prop} {A : List Nat} (h : A.Nodup) (h2 : ∀ l, l < n → lead e l = l → l ∈ A) : (toldL n e A).length = n := by
  have h3 := congrArg List.length (sortI_listP (told_nodup (n := n) (e := e) h) (fun k => mem_told))
  rw [(sortI_perm _).length_eq, listP_all (fun i hi => h2 _ (lead_lt hi) lead_lead)] at h3
  exact h3
theorem two_len {l : List Int} {a b : Int} (ha : a ∈ l) (hb : b ∈ l) (h : a ≠ b) : 1 < l.length := by
  cases l with
  | nil => simp at ha
  | cons x l =>
    cases l with
    | nil =>
      simp only [List.mem_singleton] at ha hb
      exact absurd (ha.trans hb.symm) h
    | cons y l => simp
/-- A rule comes to itself just if its group has another, or it calls itself. -/
theorem ag_iff {n : Nat} {e : Nat → Nat → Prop} {q l : Nat} (he : ∀ r q, e r q → q < n) (hq : q < n) (hl : lead e q = l) : Ag e q ↔ (memG n e l).length > 1 ∨ e q q := by
  constructor
  · rintro ⟨p, h1, h2⟩
    by_cases hp : p = q
    · subst hp; exact Or.inr h1
    · left
      have h3 : lead e p = l := by rw [← hl]; exact lead_eq.2 ⟨h2, Rt.one h1⟩
      exact two_len (mem_memG.2 ⟨p, rfl, he _ _ h1, h3⟩) (mem_memG.2 ⟨q, rfl, hq, hl⟩) (by omega)
  · rintro (h | h)
    · have hr : (memG n e l).Pairwise (· < ·) := listP_rising _ _
      have h01 := rise_at hr (i := 0) (by omega)
      obtain ⟨a, ea, _, la⟩ := mem_memG.1 (getD_in (d := (0 : Int)) (show 0 < (memG n e l).length by omega))
      obtain ⟨b, eb, _, lb⟩ := mem_memG.1 (getD_in (d := (0 : Int)) h)
      simp only [Nat.zero_add] at h01
      rw [ea, eb] at h01
      have key : ∀ p, lead e p = l → p ≠ q → Ag e q := fun p hp hpq => by
        have hm : Mut e q p := lead_eq.1 (hl.trans hp.symm)
        rcases hm.1.first with h1 | ⟨z, h1, h2⟩
        · exact absurd h1 hpq
        · exact ⟨z, h1, h2.trans hm.2⟩
      by_cases hc : a = q
      · exact key b lb (by omega)
      · exact key a la hc
    · exact ⟨q, h, Rt.refl q⟩
theorem law_RulesOrder (g : G) : F_law08_RulesOrder ((g, ()), ()) = some (true, ()) := by
  unfold F_law08_RulesOrder
  simp only [toPb]
  by_cases hR : RightG g
  case neg =>
    have h0 : ¬ (chkG g).2 = 0 := hR
    have h1 : F_rules_Groups ((g, ()), ()) = some ((chkG g).2, [], ()) := by
      unfold F_rules_Groups
      simp only [toPb]
      rw [q_checkG, bind_t]
      dsimp only [outE]
      rw [nneg h0]
    have h2 : F_rules_Again ((g, ()), ()) = some ((chkG g).2, [], ()) := by
      unfold F_rules_Again
      simp only [toPb]
      rw [q_checkG, bind_t]
      dsimp only [outE]
      rw [nneg h0]
    rw [h1, bind_t, h2, bind_t]
    dsimp only
    rw [nneg h0, q_lives8, bind_t]
    dsimp only
    rw [sel_t, bind_t, pb_t rfl, sel_t, bind_t, pb_t (by simp), sel_t, bind_t, pb_t (by simp)]
  have hg := rg_of hR
  have hn := hg.len
  have he : ∀ r q, E g r q → q < g.length := E_ltn
  obtain ⟨L, hG, hL, hLall⟩ := q_Groups hR
  have hLn := nodup_len hL.nodup (fun l hl => (hL.lead l hl).1)
  rw [hG, bind_t, q_Again hR, bind_t]
  dsimp only
  rw [npos rfl]
  refine loop_up (σ := (Int × Unit) × List Int × List Bool × List (List Int) × GrammarD × Unit) L.length (fun i => (((i : Int), ()), toldL g.length (E g) (List.take i L), genR g.length (fun r => pb (Ag (E g) r)), L.map (memG g.length (E g)), (g, ()), ())) rfl ?_ ?_
  · intro i hi
    obtain ⟨hready, hnew⟩ := hL.at i hi
    obtain ⟨hl, hll⟩ := hL.lead _ (getD_in (d := 0) hi)
    have hgi : List.getD (L.map (memG g.length (E g))) i [] = memG g.length (E g) (List.getD L i 0) := by
      rw [List.getD_eq_getElem?_getD, List.getD_eq_getElem?_getD, List.getElem?_map, List.getElem?_eq_getElem hi]
      rfl
    have htn : (List.take i L).Nodup := hL.nodup.sublist (List.take_sublist _ _)
    have htl := told_len (n := g.length) (e := E g) htn
    have hts : toldL g.length (E g) (List.take (i + 1) L) = toldL g.length (E g) (List.take i L) ++ memG g.length (E g) (List.getD L i 0) := by
      unfold toldL
      rw [take_succD (d := 0) hi, List.map_append, List.flatten_append]
      simp
    generalize List.getD L i 0 = l at *
    have hml : (memG g.length (E g) l).length ≤ g.length := listP_len
    have hlm : (l : Int) ∈ memG g.length (E g) l := mem_memG.2 ⟨l, rfl, hl, hll⟩
    have hm0 : ¬ ((memG g.length (E g) l).length : Int) = 0 := by
      have := List.length_pos_of_mem hlm
      omega
    dsimp only
    simp only [List.length_map, Int.toNat_natCast, Nat.zero_add, hgi]
    rw [pos (by omega), need_pos ⟨by omega, by omega⟩, need_pos hi, neg hm0]
    refine loop_up (σ := (Int × Unit) × List Int × List Bool × List (List Int) × GrammarD × Unit) (ρ := ((Int × Unit) × List Int × List Bool × List (List Int) × GrammarD × Unit) ⊕ (Bool × Unit)) (memG g.length (E g) l).length (fun k => (((k : Int), ()), toldL g.length (E g) (List.take i L), genR g.length (fun r => pb (Ag (E g) r)), L.map (memG g.length (E g)), (g, ()), ())) rfl ?_ ?_
    · intro k hk
      obtain ⟨q, eq, hq, hql⟩ := mem_memG.1 (getD_in (d := (0 : Int)) hk)
      have hrl := @listP_len g.length (E g q)
      dsimp only
      simp only [List.length_map, hgi, Int.toNat_natCast, eq, genR_len]
      rw [need_pos ⟨by omega, by omega⟩, need_pos hi, pos (by omega), need_pos ⟨by omega, by omega⟩, need_pos hi, need_pos ⟨by omega, by omega⟩]
      rw [pb_f (by omega), sel_f, pb_f (by omega), bind_t, sel_f, q_has _ _ (by omega), bind_t]
      rw [pb_f (p := (q : Int) ∈ toldL g.length (E g) (List.take i L)) (fun hc => by
        obtain ⟨j, h1, _, h2⟩ := mem_told.1 hc
        have : q = j := by omega
        subst this
        rw [hql] at h2
        exact hnew h2), bind_t, sel_f, q_calls8, bind_t, if_pos (lookE_in hR hq), lookE_in hR hq, Int.toNat_natCast]
      dsimp only
      rw [npos rfl]
      refine loop_up (σ := (Int × Unit) × List Int × List Bool × List (List Int) × GrammarD × Unit) (ρ := ((Int × Unit) × List Int × List Bool × List (List Int) × GrammarD × Unit) ⊕ (((Int × Unit) × List Int × List Bool × List (List Int) × GrammarD × Unit) ⊕ (Bool × Unit))) (listP g.length (E g q)).length (fun j => (((j : Int), ()), toldL g.length (E g) (List.take i L), genR g.length (fun r => pb (Ag (E g) r)), L.map (memG g.length (E g)), (g, ()), ())) rfl ?_ ?_
      · intro j hj
        obtain ⟨p, ep, hp, hqp⟩ := mem_listP.1 (getD_in (d := (0 : Int)) hj)
        dsimp only
        simp only [List.length_map, hgi, Int.toNat_natCast, ep]
        rw [pos (by omega), need_pos ⟨by omega, by omega⟩, q_has _ _ (by omega), bind_t]
        have hgo : sel (!pb ((p : Int) ∈ toldL g.length (E g) (List.take i L))) (need ((0 : Int) ≤ (i : Int) ∧ (i : Int) < (L.length : Int)) (need (i < L.length) (need ((0 : Int) ≤ (j : Int) ∧ (j : Int) < ((listP g.length (E g q)).length : Int)) (Option.bind (F_law08_has (memG g.length (E g) l, (p : Int), ())) (fun (y6 : Bool × Unit) => some (!y6.1)))))) (some false) = some false := by
          rcases hready q hq hql p hqp with h1 | h1
          · rw [q_has _ _ (by omega), pb_t (p := (p : Int) ∈ memG g.length (E g) l) (mem_memG.2 ⟨p, rfl, hp, h1⟩), need_pos ⟨by omega, by omega⟩, need_pos hi, need_pos ⟨by omega, by omega⟩]
            exact sel_same
          · rw [npos (mem_told.2 ⟨p, rfl, hp, h1⟩)]
        rw [hgo, bind_t, sel_f, need64 (by omega) (by omega), cast_succ]
      · dsimp only
        simp only [List.length_map, hgi, genR_len]
        rw [neg (by omega), pb_f (by omega), sel_f, need_pos ⟨by omega, by omega⟩, need_pos hq, need_pos ⟨by omega, by omega⟩, need_pos hi, genR_get hq, q_has _ _ (by omega)]
        have hb : pb (Ag (E g) q) = (pb (((memG g.length (E g) l).length : Int) > 1) || pb ((q : Int) ∈ listP g.length (E g q))) := by
          have h1 : Ag (E g) q ↔ ((memG g.length (E g) l).length : Int) > 1 ∨ (q : Int) ∈ listP g.length (E g q) := by
            rw [ag_iff he hq hql, mem_listP_nat]
            exact ⟨fun h => by rcases h with h | h; exact Or.inl (by omega); exact Or.inr ⟨hq, h⟩, fun h => by rcases h with h | h; exact Or.inl (by omega); exact Or.inr h.2⟩
          rw [pb_congr h1]
          by_cases a : ((memG g.length (E g) l).length : Int) > 1 <;> by_cases b : (q : Int) ∈ listP g.length (E g q) <;> simp [pb, a, b]
        rw [bind_t]
        rw [sel_or, bind_t, ← hb]
        simp only [beq_self_eq_true, Bool.not_true]
        rw [bind_t, sel_f, need64 (by omega) (by omega), cast_succ]
        rfl
    · dsimp only
      simp only [List.length_map, hgi]
      rw [need_pos ⟨by omega, by omega⟩, need_pos hi, neg (by omega), need_pos ⟨by omega, by omega⟩, need_pos hi, need_pos (by omega), need64 (by omega) (by omega), cast_succ, hts]
      rfl
  · dsimp only
    have := told_all (n := g.length) (e := E g) hL.nodup hLall
    rw [neg (by simp), List.take_length, genR_len, this, pb_t rfl, sel_t, bind_t, q_lives8]
    rfl
end Go.Proofs
