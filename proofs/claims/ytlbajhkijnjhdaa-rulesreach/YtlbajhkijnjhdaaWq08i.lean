/- Part of the proof of the law's row: YtlbajhkijnjhdaaWq08i. -/
import Derived.Test.YtlbajhkijnjhdaaWq08h
set_option linter.all false
set_option linter.unusedVariables false
set_option linter.unusedSimpArgs false
/-! Chapter 8: the laws RulesReach, RulesOrder. -/
namespace Go.Proofs
open Go Go.Abs
theorem loop_one {σ ρ : Type} {B : σ → Option (σ ⊕ ρ)} (I : σ → Prop) (μ : σ → Nat) {r : ρ} (h : ∀ s, I s → (∃ s', B s = some (.inl s') ∧ I s' ∧ μ s' < μ s) ∨ B s = some (.inr r)) : ∀ s, I s → loopC B s = some r := by
  intro s hs
  obtain ⟨r', h1, h2⟩ := loopC_ends I μ (· = r) (fun s hs => by
    rcases h s hs with h | h
    · exact Or.inl h
    · exact Or.inr ⟨r, h, rfl⟩) s hs
  rw [h1, h2]
theorem Rt.last {e : Nat → Nat → Prop} {r x : Nat} (h : Rt e r x) : x = r ∨ ∃ q, Rt e r q ∧ e q x ∧ x ≠ q := by
  induction h with
  | refl => exact Or.inl rfl
  | tail h1 h2 ih =>
    rename_i q p
    by_cases h3 : p = q
    · subst h3; exact ih
    · exact Or.inr ⟨q, h1, h2, h3⟩
theorem Rt.first {e : Nat → Nat → Prop} {r x : Nat} (h : Rt e r x) : x = r ∨ ∃ q, e r q ∧ Rt e q x := by
  induction h with
  | refl => exact Or.inl rfl
  | tail h1 h2 ih =>
    rename_i q p
    rcases ih with h | ⟨z, h3, h4⟩
    · subst h; exact Or.inr ⟨p, h2, Rt.refl p⟩
    · exact Or.inr ⟨z, h3, Rt.tail h4 h2⟩
theorem set_keep {C : List Bool} {j q : Nat} (h : List.getD C q false = true) : List.getD (List.set C j true) q false = true := by
  by_cases hj : q = j
  · subst hj
    by_cases hl : q < C.length
    · exact set_at hl
    · rw [List.getD_eq_getElem?_getD, List.getElem?_eq_none (by omega)] at h
      simp at h
  · rw [List.getD_eq_getElem?_getD, List.getElem?_set_ne (fun c => hj c.symm), ← List.getD_eq_getElem?_getD]
    exact h
theorem rise_at {l : List Int} (h : l.Pairwise (· < ·)) {i : Nat} (hi : i + 1 < l.length) : List.getD l i 0 < List.getD l (i + 1) 0 := by
  rw [List.getD_eq_getElem?_getD, List.getD_eq_getElem?_getD, List.getElem?_eq_getElem hi, List.getElem?_eq_getElem (by omega : i < l.length)]
  exact List.pairwise_iff_getElem.1 h _ _ _ _ (by omega)
theorem law_RulesReach (g : G) (r : Int) : F_law08_RulesReach ((g, ()), r, ()) = some (true, ()) := by
  unfold F_law08_RulesReach
  simp only [toPb]
  rw [q_reachR, bind_t]
  dsimp only
  by_cases h : lookE g r = 0
  case neg =>
    rw [nneg h, q_calls8, bind_t, q_lives8, bind_t, if_neg h]
    dsimp only
    rw [sel_t, bind_t, pb_t (by simp), sel_t, bind_t, pb_t rfl]
  obtain ⟨hg, hr0, hr1⟩ := lookE_ok h
  have hR : RightG g := by
    unfold lookE at h
    split at h
    · contradiction
    · rename_i h1; simpa [RightG] using h1
  obtain ⟨rr, rfl⟩ : ∃ rr : Nat, r = (rr : Int) := ⟨Int.toNat r, by omega⟩
  have hn := hg.len
  have he : ∀ r q, E g r q → q < g.length := E_ltn
  have hrr : rr < g.length := by omega
  rw [npos h, if_pos h, Int.toNat_natCast, Int.toNat_natCast]
  rw [need_pos ⟨by omega, by omega, by omega, by omega⟩]
  have hll := @listP_len g.length (Rt (E g) rr)
  have hat : ∀ i, i < (listP g.length (Rt (E g) rr)).length → ∃ q : Nat, List.getD (listP g.length (Rt (E g) rr)) i 0 = (q : Int) ∧ q < g.length ∧ Rt (E g) rr q := fun i hi => mem_listP.1 (getD_in hi)
  refine loop_one (σ := (Int × Unit) × List Bool × List Int × GrammarD × Unit)
    (I := fun s => ∃ (i : Nat) (C : List Bool), i ≤ (listP g.length (Rt (E g) rr)).length ∧ s = (((i : Int), ()), C, listP g.length (Rt (E g) rr), (g, ()), ()) ∧ C.length = g.length ∧ ∀ k, k < i → ∀ x q : Nat, List.getD (listP g.length (Rt (E g) rr)) k 0 = (x : Int) → E g x q → q ≠ x → List.getD C q false = true)
    (μ := fun s => (listP g.length (Rt (E g) rr)).length - Int.toNat s.1.1) ?_ _ ⟨0, _, Nat.zero_le _, rfl, by simp, fun k hk => by omega⟩
  rintro _ ⟨i, C, hi, rfl, hC, hcov⟩
  dsimp only
  simp only [Int.toNat_natCast, Nat.zero_add]
  by_cases hlt : i < (listP g.length (Rt (E g) rr)).length
  · left
    obtain ⟨q, eq, hq, hrq⟩ := hat i hlt
    rw [pos (by omega), need_pos ⟨by omega, by omega⟩, need_pos (by omega)]
    simp only [eq]
    rw [q_calls8, bind_t, if_pos (lookE_in hR hq), lookE_in hR hq, Int.toNat_natCast]
    dsimp only
    have hrl := @listP_len g.length (E g q)
    rw [npos rfl, need_pos ⟨by omega, by omega⟩, need_pos (by omega), bind_t, pb_f (by omega), sel_f, need_pos ⟨by omega, by omega⟩, need_pos (by omega), bind_t, pb_f (by omega), sel_f]
    have hv : Option.bind (sel (pb ((i : Int) > 0)) (need ((0 : Int) ≤ (i : Int) ∧ (i : Int) < ((listP g.length (Rt (E g) rr)).length : Int)) (need (i < (listP g.length (Rt (E g) rr)).length) (need (Fits Go.IntKind.i64 ((i : Int) - 1)) (need ((0 : Int) ≤ (i : Int) - 1 ∧ (i : Int) - 1 < ((listP g.length (Rt (E g) rr)).length : Int)) (need (Int.toNat ((i : Int) - 1) < (listP g.length (Rt (E g) rr)).length) (some (pb ((q : Int) ≤ List.getD (listP g.length (Rt (E g) rr)) (Int.toNat ((i : Int) - 1)) 0)))))))) (some false)) (fun v4 : Bool => some v4) = some false := by
      by_cases hi0 : i = 0
      · subst hi0
        rw [neg (by omega), bind_t]
      · have hrise := rise_at (listP_rising g.length (Rt (E g) rr)) (i := i - 1) (by omega)
        rw [show i - 1 + 1 = i by omega, eq] at hrise
        rw [pos (by omega), need_pos ⟨by omega, by omega⟩, need_pos hlt, need64 (by omega) (by omega), need_pos ⟨by omega, by omega⟩, need_pos (by omega), bind_t, show Int.toNat ((i : Int) - 1) = i - 1 by omega, pb_f (by omega)]
    rw [hv, bind_t, sel_f]
    refine fromEx (f := Sum.inl) (Q := fun r => ∃ C' : List Bool, r = Sum.inl (((((i + 1 : Nat) : Int)), ()), C', listP g.length (Rt (E g) rr), (g, ()), ()) ∧ C'.length = g.length ∧ (∀ p : Nat, List.getD C p false = true → List.getD C' p false = true) ∧ ∀ p : Nat, E g q p → p ≠ q → List.getD C' p false = true)
      (loopC_ends (σ := (Int × Unit) × List Bool × List Int × GrammarD × Unit) (I := fun s => ∃ (k : Nat) (C' : List Bool), k ≤ (listP g.length (E g q)).length ∧ s = (((k : Int), ()), C', listP g.length (Rt (E g) rr), (g, ()), ()) ∧ C'.length = g.length ∧ (∀ p : Nat, List.getD C p false = true → List.getD C' p false = true) ∧ ∀ j, j < k → ∀ p : Nat, List.getD (listP g.length (E g q)) j 0 = (p : Int) → p ≠ q → List.getD C' p false = true)
        (Q := fun r => ∃ C' : List Bool, r = Sum.inl (((((i + 1 : Nat) : Int)), ()), C', listP g.length (Rt (E g) rr), (g, ()), ()) ∧ C'.length = g.length ∧ (∀ p : Nat, List.getD C p false = true → List.getD C' p false = true) ∧ ∀ p : Nat, E g q p → p ≠ q → List.getD C' p false = true)
        (μ := fun s => (listP g.length (E g q)).length - Int.toNat s.1.1) ?_ _ ⟨0, C, Nat.zero_le _, rfl, hC, fun p hp => hp, fun j hj => by omega⟩) ?_
    · rintro _ ⟨k, C', hk, rfl, hC', hmono, hnew⟩
      dsimp only
      simp only [Int.toNat_natCast]
      by_cases hkl : k < (listP g.length (E g q)).length
      · left
        obtain ⟨p, ep, hp, hqp⟩ := mem_listP.1 (getD_in (d := (0 : Int)) hkl)
        rw [pos (by omega), need_pos ⟨by omega, by omega⟩, q_has _ _ (by omega), bind_t]
        simp only [ep, eq, Int.toNat_natCast]
        rw [pb_t (mem_listP_nat.2 ⟨hp, Rt.tail hrq hqp⟩)]
        simp only [Bool.not_true, sel_f]
        rw [need_pos ⟨by omega, by omega⟩, need_pos ⟨by omega, by omega⟩, need_pos hlt]
        by_cases hpq : p = q
        · subst hpq
          rw [npos rfl, need64 (by omega) (by omega)]
          refine ⟨_, rfl, ⟨k + 1, C', by omega, by rw [cast_succ], hC', hmono, fun j hj p' ep' hp' => ?_⟩, by dsimp only; omega⟩
          by_cases hjk : j = k
          · subst hjk; rw [ep] at ep'; exact absurd (by omega) hp'
          · exact hnew j (by omega) p' ep' hp'
        · rw [nneg (by omega), need_pos ⟨by omega, by omega⟩, need_pos ⟨by omega, by omega⟩, need_pos (by omega), need64 (by omega) (by omega)]
          refine ⟨_, rfl, ⟨k + 1, List.set C' p true, by omega, by rw [cast_succ], by rw [List.length_set]; exact hC', fun p' hp' => set_keep (hmono p' hp'), fun j hj p' ep' hp' => ?_⟩, by dsimp only; omega⟩
          by_cases hjk : j = k
          · subst hjk
            rw [ep] at ep'
            have : p = p' := by omega
            subst this
            exact set_at (by omega)
          · exact set_keep (hnew j (by omega) p' ep' hp')
      · right
        have : k = (listP g.length (E g q)).length := by omega
        subst this
        rw [neg (by omega), need64 (by omega) (by omega), cast_succ]
        refine ⟨_, rfl, C', rfl, hC', hmono, fun p hp hpq => ?_⟩
        obtain ⟨j, hj, ej⟩ := in_getD (0 : Int) (mem_listP_nat.2 ⟨he _ _ hp, hp⟩)
        exact hnew j hj p ej hpq
    · rintro _ ⟨C', rfl, hC', hmono, hnew⟩
      refine ⟨_, rfl, ⟨i + 1, C', by omega, rfl, hC', fun k hk x p ex hxp hpx => ?_⟩, by dsimp only; omega⟩
      by_cases hki : k = i
      · subst hki
        rw [eq] at ex
        have : q = x := by omega
        subst this
        exact hnew p hxp hpx
      · exact hmono p (hcov k (by omega) x p ex hxp hpx)
  · right
    have : i = (listP g.length (Rt (E g) rr)).length := by omega
    subst this
    rw [neg (by omega)]
    refine (congrArg (fun o => Option.bind o (fun val => some (Sum.inr val))) (a₂ := some (true, ())) ?_).trans rfl
    refine loop_up (σ := (Int × Unit) × List Bool × List Int × GrammarD × Unit) (listP g.length (Rt (E g) rr)).length (fun i => (((i : Int), ()), C, listP g.length (Rt (E g) rr), (g, ()), ())) rfl ?_ ?_
    · intro k hk
      obtain ⟨q, eq, hq, hrq⟩ := hat k hk
      dsimp only
      simp only [Int.toNat_natCast, eq]
      rw [pos (by omega), need_pos ⟨by omega, by omega⟩, need_pos hk]
      have hgo : Option.bind (sel (!pb ((q : Int) = (rr : Int))) (need ((0 : Int) ≤ (k : Int) ∧ (k : Int) < ((listP g.length (Rt (E g) rr)).length : Int)) (need (k < (listP g.length (Rt (E g) rr)).length) (need ((0 : Int) ≤ (q : Int) ∧ (q : Int) < (C.length : Int)) (need (q < C.length) (some (!List.getD C q false)))))) (some false)) (fun v => some v) = some false := by
        rcases hrq.last with h1 | ⟨p, h1, h2, h3⟩
        · rw [npos (by omega)]; rfl
        · have hp : p < g.length := Rt.lt he h1 hrr
          obtain ⟨j, hj, ej⟩ := in_getD (0 : Int) (mem_listP_nat.2 ⟨hp, h1⟩)
          have h4 := hcov j hj p q ej h2 h3
          by_cases hqr : q = rr
          · rw [npos (by omega)]; rfl
          · rw [nneg (by omega), need_pos ⟨by omega, by omega⟩, need_pos hk, need_pos ⟨by omega, by omega⟩, need_pos (by omega), h4]; rfl
      rw [bind_id] at hgo
      rw [hgo, bind_t, sel_f, need64 (by omega) (by omega), cast_succ]
    · dsimp only
      rw [neg (by omega)]
      refine (congrArg (fun o => Option.bind o (fun val => some (Sum.inr val))) (a₂ := some (true, ())) ?_).trans rfl
      obtain ⟨L, hG, hL, hLall⟩ := q_Groups hR
      have hLn := nodup_len hL.nodup (fun l hl => (hL.lead l hl).1)
      rw [hG, bind_t]
      dsimp only
      rw [npos rfl, q_has _ _ (by omega), bind_t, pb_t (mem_listP_nat.2 ⟨hrr, Rt.refl rr⟩)]
      rw [bind_t]
      simp only [Bool.not_true, sel_f]
      refine loop_up (σ := (Int × Unit) × List (List Int) × List Int × GrammarD × Unit) L.length (fun i => (((i : Int), ()), L.map (memG g.length (E g)), listP g.length (Rt (E g) rr), (g, ()), ())) rfl ?_ ?_
      · intro i hi
        dsimp only
        have hgi : List.getD (L.map (memG g.length (E g))) i [] = memG g.length (E g) (List.getD L i 0) := by
          rw [List.getD_eq_getElem?_getD, List.getD_eq_getElem?_getD, List.getElem?_map, List.getElem?_eq_getElem hi]
          rfl
        simp only [List.length_map, Int.toNat_natCast]
        rw [pos (by omega)]
        have hml : (memG g.length (E g) (List.getD L i 0)).length ≤ 1000000 := by
          have := @listP_len g.length (fun r => lead (E g) r = List.getD L i 0)
          unfold memG
          omega
        refine loop_up (σ := (Int × Unit) × List (List Int) × List Int × GrammarD × Unit) (ρ := ((Int × Unit) × List (List Int) × List Int × GrammarD × Unit) ⊕ (Bool × Unit)) (if pb ((rr : Int) ∈ memG g.length (E g) (List.getD L i 0)) = true then g.length else 0) (fun k => (((k : Int), ()), L.map (memG g.length (E g)), listP g.length (Rt (E g) rr), (g, ()), ())) rfl ?_ ?_
        · intro k hk
          by_cases hm : (rr : Int) ∈ memG g.length (E g) (List.getD L i 0)
          case neg => rw [if_neg (by rw [pb_f hm]; simp)] at hk; omega
          rw [if_pos (pb_t hm)] at hk
          dsimp only
          simp only [List.length_map, hgi]
          have hlr := (mem_listP_nat.1 hm).2
          have hb := @listP_len g.length (Rt (E g) k)
          rw [need_pos ⟨by omega, by omega⟩, need_pos hi, q_has _ _ hml, bind_t, pb_t hm, sel_t, bind_t, pb_t (by omega), sel_t, q_reachR, bind_t, if_pos (lookE_in hR hk), lookE_in hR hk, Int.toNat_natCast]
          dsimp only
          rw [npos rfl, need_pos ⟨by omega, by omega⟩, need_pos hi, q_has _ _ hml, bind_t, q_has _ _ (by omega), bind_t, q_has _ _ (by omega)]
          simp only [bind_t, sel_and]
          have hb2 : pb ((k : Int) ∈ memG g.length (E g) (List.getD L i 0)) = (pb ((k : Int) ∈ listP g.length (Rt (E g) rr)) && pb ((rr : Int) ∈ listP g.length (Rt (E g) k))) := by
            have h1 : ((k : Int) ∈ memG g.length (E g) (List.getD L i 0)) ↔ (k : Int) ∈ listP g.length (Rt (E g) rr) ∧ (rr : Int) ∈ listP g.length (Rt (E g) k) := by
              unfold memG
              rw [mem_listP_nat, mem_listP_nat, mem_listP_nat, ← hlr, lead_eq]
              exact ⟨fun h => ⟨⟨hk, h.2.2⟩, hrr, h.2.1⟩, fun h => ⟨hk, h.2.2, h.1.2⟩⟩
            rw [pb_congr h1]
            by_cases a : (k : Int) ∈ listP g.length (Rt (E g) rr) <;> by_cases b : (rr : Int) ∈ listP g.length (Rt (E g) k) <;> simp [pb, a, b]
          rw [hb2]
          simp only [beq_self_eq_true, Bool.not_true, sel_f]
          rw [need64 (by omega) (by omega), cast_succ]
        · dsimp only
          simp only [List.length_map, hgi]
          rw [need_pos ⟨by omega, by omega⟩, need_pos hi, q_has _ _ hml, bind_t]
          by_cases hm : (rr : Int) ∈ memG g.length (E g) (List.getD L i 0)
          · rw [if_pos (pb_t hm), pb_t hm, sel_t, bind_t, pb_f (by omega), sel_f, need64 (by omega) (by omega), cast_succ]
            rfl
          · rw [pb_f hm, sel_f, bind_t, sel_f, need64 (by omega) (by omega), cast_succ]
            rfl
      · dsimp only
        rw [neg (by simp), q_lives8]
        rfl
end Go.Proofs
