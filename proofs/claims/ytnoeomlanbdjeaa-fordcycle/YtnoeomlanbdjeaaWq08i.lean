/- Part of the proof of the law's row: YtnoeomlanbdjeaaWq08i. -/
import Derived.Test.YtnoeomlanbdjeaaWq08h
set_option linter.all false
set_option linter.unusedVariables false
set_option linter.unusedSimpArgs false
/-! Chapter 9: which rules come to themselves. -/
namespace Go.Proofs
open Go Go.Abs
set_option linter.unusedSimpArgs false
/-- The calls of a rule, each as often as it stands. -/
def callL (g : G) (body : List NodeD) : Nat → List Int
  | 0 => []
  | k + 1 => if (List.getD body k zNode).1 = 6 then callL g body k ++ [idxN g (List.getD body k zNode)] else callL g body k
theorem callL_len {g : G} {body : List NodeD} : ∀ k, (callL g body k).length ≤ k
  | 0 => Nat.le_refl _
  | k + 1 => by
    have := callL_len (g := g) (body := body) k
    unfold callL
    split
    · simp; omega
    · omega
theorem callL_mem {g : G} {body : List NodeD} {x : Int} : ∀ k, x ∈ callL g body k ↔ ∃ i, i < k ∧ (List.getD body i zNode).1 = 6 ∧ x = idxN g (List.getD body i zNode)
  | 0 => by simp [callL]
  | k + 1 => by
    have ih := callL_mem (g := g) (body := body) (x := x) k
    unfold callL
    split
    · rename_i h
      rw [List.mem_append, ih, List.mem_singleton]
      constructor
      · rintro (⟨i, h1, h2⟩ | h1)
        · exact ⟨i, by omega, h2⟩
        · exact ⟨k, by omega, h, h1⟩
      · rintro ⟨i, h1, h2, h3⟩
        by_cases e : i = k
        · subst e; exact .inr h3
        · exact .inl ⟨i, by omega, h2, h3⟩
    · rename_i h
      rw [ih]
      constructor
      · rintro ⟨i, h1, h2⟩; exact ⟨i, by omega, h2⟩
      · rintro ⟨i, h1, h2, h3⟩
        by_cases e : i = k
        · subst e; exact absurd h2 h
        · exact ⟨i, by omega, h2, h3⟩
def rowL (g : G) (r : Nat) : List Int := callL g (rth g r).2.1 (rth g r).2.1.length
theorem rowL_mem {g : G} (hg : RG g) {r : Nat} (hr : r < g.length) (x : Int) : x ∈ rowL g r ↔ ∃ i : Nat, x = (i : Int) ∧ E g r i := by
  have h1 : x ∈ rowL g r ↔ x ∈ keysM (callM g (rth g r).2.1 (rth g r).2.1.length) := by
    unfold rowL
    rw [callL_mem, callM_mem]
  rw [h1, E_row hg hr]
  exact ⟨fun ⟨i, a, _, b⟩ => ⟨i, a, b⟩, fun ⟨i, a, b⟩ => ⟨i, a, E_lt b, b⟩⟩
theorem rowL_len {g : G} (hg : RG g) {r : Nat} (hr : r < g.length) : (rowL g r).length ≤ 2048 := by
  have h1 := callL_len (g := g) (body := (rth g r).2.1) (rth g r).2.1.length
  have h2 := good_len (hg.good r hr)
  unfold rowL
  omega
structure InvA (n : Nat) (e : Nat → Nat → Prop) (i : Nat) (L : List Nat) (W : List Int) : Prop where
  nd : L.Nodup
  lt : ∀ l ∈ L, l < n
  len : W.length ≤ (L.length + 1) * 2048
  work : ∀ x ∈ W, ∃ q : Nat, x = (q : Int) ∧ q < n ∧ ∃ p, e i p ∧ Rt e p q
  seen : ∀ l ∈ L, ∃ p, e i p ∧ Rt e p l
  start : ∀ q, e i q → q ∈ L ∨ (q : Int) ∈ W
  next : ∀ l ∈ L, ∀ q, e l q → q ∈ L ∨ (q : Int) ∈ W
theorem InvA.end {n : Nat} {e : Nat → Nat → Prop} {i : Nat} {L : List Nat} (h : InvA n e i L []) : i ∈ L ↔ Ag e i := by
  refine ⟨h.seen i, ?_⟩
  rintro ⟨q, h1, h2⟩
  have key : ∀ j, Rt e q j → j ∈ L := by
    intro j hj
    induction hj with
    | refl => rcases h.start _ h1 with h | h; exact h; simp at h
    | tail a b ih => rcases h.next _ ih _ b with h | h; exact h; simp at h
  exact key i h2
theorem q_gagain {g : G} (hg : RG g) : F_gist_again ((g, ()), nums g, ()) = some (genR g.length (fun r => pb (Ag (E g) r)), ()) := by
  have hn := hg.len
  unfold F_gist_again
  simp only [toPb]
  rw [need_pos (by omega)]
  have hP : (List.replicate g.length ([] : List Int)).length = g.length := List.length_replicate
  have hall : gone (List.replicate g.length ([] : List Int)) (rowL g) g.length = genR g.length (rowL g) := by
    have := @gone_all _ (List.replicate g.length ([] : List Int)) (rowL g)
    rwa [hP] at this
  have hQ : (List.replicate g.length false).length = g.length := List.length_replicate
  have hallQ : gone (List.replicate g.length false) (fun r => pb (Ag (E g) r)) g.length = genR g.length (fun r => pb (Ag (E g) r)) := by
    have := @gone_all _ (List.replicate g.length false) (fun r => pb (Ag (E g) r))
    rwa [hQ] at this
  refine loop_up (σ := (Int × Unit) × List (List Int) × GrammarD × Unit) g.length (fun i => (((i : Int), ()), gone (List.replicate g.length []) (rowL g) i, (g, ()), ())) rfl ?_ ?_
  · intro i hi
    have hb := good_len (hg.good i hi)
    have hGl : (gone (List.replicate g.length ([] : List Int)) (rowL g) i).length = g.length := by rw [gone_len (by omega), hP]
    have hG0 : List.getD (gone (List.replicate g.length ([] : List Int)) (rowL g) i) i [] = [] := by
      rw [gone_at, List.getD_eq_getElem?_getD, List.getElem?_replicate, if_pos hi]; rfl
    dsimp only
    rw [pos (by omega), need_pos (by omega)]
    simp only [Int.toNat_natCast, Nat.zero_add]
    have hbody : List.getD g i zRule = rth g i := rfl
    rw [hbody]
    refine loop_up (σ := (Int × Unit) × List (List Int) × GrammarD × Unit) (rth g i).2.1.length (fun k => (((k : Int), ()), List.set (gone (List.replicate g.length []) (rowL g) i) i (callL g (rth g i).2.1 k), (g, ()), ())) ?_ ?_ ?_
    · have : List.set (gone (List.replicate g.length ([] : List Int)) (rowL g) i) i (callL g (rth g i).2.1 0) = gone (List.replicate g.length []) (rowL g) i := by
        have e : callL g (rth g i).2.1 0 = List.getD (gone (List.replicate g.length ([] : List Int)) (rowL g) i) i [] := by rw [hG0]; rfl
        rw [e]
        apply List.ext_getElem
        · simp
        · intro j h1 h2
          rw [List.getElem_set]
          split
          · rename_i hj; subst hj; rw [List.getD_eq_getElem?_getD, List.getElem?_eq_getElem h2]; rfl
          · rfl
      simp only [this]
      rfl
    · intro k hk
      have hcl := callL_len (g := g) (body := (rth g i).2.1) k
      dsimp only
      simp only [Int.toNat_natCast, List.length_set, hGl]
      rw [pos (by omega), need_pos (by omega)]
      by_cases h6 : (List.getD (rth g i).2.1 k zNode).1 = 6
      · have e1 : callL g (rth g i).2.1 (k + 1) = callL g (rth g i).2.1 k ++ [Option.getD (mfind eqS (nums g) (List.getD (rth g i).2.1 k zNode).2.2.1) 0] := by
          conv => lhs; unfold callL
          rw [if_pos h6]
          rfl
        rw [pos h6, need_pos (by omega), need_pos (by omega), set_at (by omega), e1, need_pos (by omega), need_pos (by omega), need_pos ⟨hi, trivial⟩, need64 (by omega) (by omega), List.set_set, List.set_set, cast_succ]
      · rw [neg h6, need64 (by omega) (by omega)]
        have e1 : callL g (rth g i).2.1 (k + 1) = callL g (rth g i).2.1 k := by
          conv => lhs; unfold callL
          rw [if_neg h6]
        rw [e1, cast_succ]
    · dsimp only
      rw [neg (by omega), need64 (by omega) (by omega), bind_t]
      show some (Sum.inr (Sum.inl ((((i : Int) + 1, ()), List.set (gone (List.replicate g.length []) (rowL g) i) i (rowL g i), (g, ()), ())))) = _
      rw [gone_set (by omega)]
      rfl
  · dsimp only
    rw [neg (by omega), hall]
    simp only [Int.toNat_natCast]
    rw [need_pos (by omega)]
    have hCl : (genR g.length (rowL g)).length = g.length := genR_len
    refine (congrArg (fun o => Option.bind o (fun val1 => some (Sum.inr val1))) (a₂ := some (genR g.length (fun r => pb (Ag (E g) r)), ())) ?_).trans ?_
    · refine loop_up (σ := (Int × Unit) × List (List Int) × List Bool × GrammarD × Unit) g.length (fun i => (((i : Int), ()), genR g.length (rowL g), gone (List.replicate g.length false) (fun r => pb (Ag (E g) r)) i, (g, ()), ())) rfl ?_ ?_
      · intro i hi
        have hOl : (gone (List.replicate g.length false) (fun r => pb (Ag (E g) r)) i).length = g.length := by rw [gone_len (by omega), hQ]
        dsimp only
        simp only [Int.toNat_natCast, Nat.zero_add, hCl]
        rw [pos (by omega), need_pos (by omega), need_pos (by omega), need_pos (by omega), genR_get hi]
        have e0 : List.replicate g.length false = toldG g.length [] := by
          unfold toldG genR
          apply List.ext_getElem
          · simp
          · intro j h1 h2
            simp only [List.getElem_map, List.getElem_replicate]
            exact (pb_f (by simp)).symm
        refine loopC_gh (γ := List Nat × List Int) (σ := (List Int × Unit) × List (List Int) × List Bool × List Bool × GrammarD × Unit) (I := fun γ s => InvA g.length (E g) i γ.1 γ.2 ∧ s = ((γ.2, ()), genR g.length (rowL g), toldG g.length γ.1, gone (List.replicate g.length false) (fun r => pb (Ag (E g) r)) i, (g, ()), ())) (μ := fun γ => (g.length - γ.1.length) * 2049 + γ.2.length) (F := fun _ => Sum.inl ((((i + 1 : Nat) : Int), ()), genR g.length (rowL g), gone (List.replicate g.length false) (fun r => pb (Ag (E g) r)) (i + 1), (g, ()), ())) ?_ ([], rowL g i) _ ⟨⟨List.nodup_nil, by simp, by have := rowL_len hg hi; simp; omega, ?_, by simp, ?_, by simp⟩, by rw [← e0]⟩
        · rintro ⟨L, W⟩ s ⟨hI, rfl⟩
          dsimp only at hI ⊢
          have hLn := nodup_len hI.nd hI.lt
          have hWl := hI.len
          simp only [Int.toNat_natCast, Nat.zero_add, toldG_len, hCl, hOl, toldG_at hi]
          have hc : sel (pb ((W.length : Int) > 0)) (need (0 ≤ (i : Int) ∧ (i : Int) < (g.length : Int)) (need (i < g.length) (some (!pb (i ∈ L))))) (some false) = some (pb (W ≠ [] ∧ i ∉ L)) := by
            by_cases hW : W = []
            · subst hW
              rw [neg (by simp), pb_f (by simp)]
            · have hl := List.length_pos_iff.2 hW
              rw [pos (by omega), need_pos (by omega), need_pos hi]
              by_cases hs : i ∈ L
              · rw [pb_t hs, pb_f (by simp [hs])]; rfl
              · rw [pb_f hs, pb_t ⟨hW, hs⟩]; rfl
          rw [hc, bind_t]
          by_cases hgo : W ≠ [] ∧ i ∉ L
          · rw [pos hgo]
            obtain ⟨hW, hs⟩ := hgo
            obtain ⟨V, x, rfl⟩ : ∃ V x, W = V ++ [x] := ⟨W.dropLast, W.getLast hW, (List.dropLast_concat_getLast hW).symm⟩
            obtain ⟨q, rfl, hq, hpq⟩ := hI.work x (by simp)
            have el : (V ++ [(q : Int)]).length = V.length + 1 := by simp
            have en : ((V.length + 1 : Nat) : Int) - 1 = (V.length : Int) := by omega
            have eg : List.getD (V ++ [(q : Int)]) V.length 0 = (q : Int) := by rw [List.getD_eq_getElem?_getD, List.getElem?_concat_length]; rfl
            have et : List.take V.length (V ++ [(q : Int)]) = V := List.take_left' rfl
            rw [el] at hWl
            simp only [el, en, Int.toNat_natCast, eg, et, toldG_at hq, genR_get hq]
            rw [need64 (by omega) (by omega), need_pos (by omega), need64 (by omega) (by omega), need64 (by omega) (by omega), need_pos ⟨by omega, trivial, by omega, by omega⟩, need_pos (by omega), need_pos hq]
            have hrl := rowL_len hg hq
            by_cases hqL : q ∈ L
            · refine .inl ⟨(L, V), _, ?_, ⟨⟨hI.nd, hI.lt, by show V.length ≤ (L.length + 1) * 2048; omega, fun x hx => hI.work x (by simp [hx]), hI.seen, ?_, ?_⟩, rfl⟩, ?_, trivial⟩
              · rw [npos hqL]
              · intro p hp
                rcases hI.start p hp with h | h
                · exact .inl h
                · rcases List.mem_append.1 h with h | h
                  · exact .inr h
                  · have : p = q := by rw [List.mem_singleton] at h; omega
                    exact .inl (this ▸ hqL)
              · intro l hl p hp
                rcases hI.next l hl p hp with h | h
                · exact .inl h
                · rcases List.mem_append.1 h with h | h
                  · exact .inr h
                  · have : p = q := by rw [List.mem_singleton] at h; omega
                    exact .inl (this ▸ hqL)
              · show (g.length - L.length) * 2049 + V.length < (g.length - L.length) * 2049 + (V.length + 1)
                omega
            · have hnd : (L ++ [q]).Nodup := by
                rw [List.nodup_append]
                exact ⟨hI.nd, by simp, fun a ha b hb => by rw [List.mem_singleton] at hb; subst hb; rintro rfl; exact hqL ha⟩
              have hlt : ∀ l ∈ L ++ [q], l < g.length := by
                intro l hl
                rcases List.mem_append.1 hl with h | h
                · exact hI.lt l h
                · rw [List.mem_singleton] at h; omega
              have hLn2 := nodup_len hnd hlt
              rw [List.length_append, List.length_singleton] at hLn2
              refine .inl ⟨(L ++ [q], V ++ rowL g q), _, ?_, ⟨⟨hnd, hlt, ?_, ?_, ?_, ?_, ?_⟩, rfl⟩, ?_, trivial⟩
              · rw [nneg hqL, need_pos (by omega), need_pos hq, need_pos (by omega), need_pos hq, need_pos (by omega), toldG_set]
              · show (V ++ rowL g q).length ≤ ((L ++ [q]).length + 1) * 2048
                simp only [List.length_append, List.length_singleton]
                omega
              · intro x hx
                rcases List.mem_append.1 hx with h | h
                · exact hI.work x (by simp [h])
                · obtain ⟨m, rfl, hm⟩ := (rowL_mem hg hq x).1 h
                  obtain ⟨p, p1, p2⟩ := hpq
                  exact ⟨m, rfl, E_lt hm, p, p1, Rt.tail p2 hm⟩
              · intro l hl
                rcases List.mem_append.1 hl with h | h
                · exact hI.seen l h
                · rw [List.mem_singleton] at h; exact h ▸ hpq
              · intro p hp
                rcases hI.start p hp with h | h
                · exact .inl (by simp [h])
                · rcases List.mem_append.1 h with h | h
                  · exact .inr (by simp [h])
                  · have : p = q := by rw [List.mem_singleton] at h; omega
                    exact .inl (by simp [this])
              · intro l hl p hp
                rcases List.mem_append.1 hl with hl | hl
                · rcases hI.next l hl p hp with h | h
                  · exact .inl (by simp [h])
                  · rcases List.mem_append.1 h with h | h
                    · exact .inr (by simp [h])
                    · have : p = q := by rw [List.mem_singleton] at h; omega
                      exact .inl (by simp [this])
                · rw [List.mem_singleton] at hl
                  subst hl
                  exact .inr (List.mem_append.2 (.inr ((rowL_mem hg hq _).2 ⟨p, rfl, hp⟩)))
              · show (g.length - (L ++ [q]).length) * 2049 + (V ++ rowL g q).length < (g.length - L.length) * 2049 + (V.length + 1)
                simp only [List.length_append, List.length_singleton]
                omega
          · refine .inr ?_
            rw [neg hgo, need_pos (by omega), need_pos hi, need_pos (by omega), need_pos (by omega), need64 (by omega) (by omega), bind_t]
            have hag : i ∈ L ↔ Ag (E g) i := by
              by_cases hs : i ∈ L
              · exact ⟨fun _ => hI.seen i hs, fun _ => hs⟩
              · have hW : W = [] := Classical.byContradiction fun h => hgo ⟨h, hs⟩
                subst hW
                exact hI.end
            rw [pb_congr hag, ← gone_set (f := fun r => pb (Ag (E g) r)) (by omega), cast_succ]
        · intro x hx
          obtain ⟨q, rfl, h⟩ := (rowL_mem hg hi x).1 hx
          exact ⟨q, rfl, E_lt h, q, h, Rt.refl q⟩
        · intro q h
          exact .inr ((rowL_mem hg hi _).2 ⟨q, rfl, h⟩)
      · dsimp only
        rw [neg (by omega), hallQ]
    · rfl
end Go.Proofs

/-! Chapter 9: which rules come to themselves, by the book. -/
namespace Go.Proofs
open Go Go.Abs
set_option linter.unusedSimpArgs false
structure InvL (n : Nat) (e : Nat → Nat → Prop) (i k : Nat) (L : List Nat) : Prop where
  nd : L.Nodup
  lt : ∀ l ∈ L, l < n
  no : i ∉ L
  seen : ∀ l ∈ L, ∃ p, e i p ∧ Rt e p l
  cl : ∀ l ∈ List.take k (i :: L), ∀ q, e l q → q ∈ L
def castL (l : List Nat) : List Int := l.map fun x : Nat => (x : Int)
theorem InvL.end {n : Nat} {e : Nat → Nat → Prop} {i k : Nat} {L : List Nat} (h : InvL n e i k L) (hk : L.length < k) : ¬ Ag e i := by
  rintro ⟨q, h1, h2⟩
  have ht : List.take k (i :: L) = i :: L := List.take_of_length_le (by simp; omega)
  have cl := h.cl
  rw [ht] at cl
  have key : ∀ j, Rt e q j → j ∈ L := by
    intro j hj
    induction hj with
    | refl => exact cl i (by simp) _ h1
    | tail a b ih => exact cl _ (by simp [ih]) _ b
  exact h.no (key i h2)
theorem or_of {σ ρ γ : Type} {X : Option (σ ⊕ ρ)} {A : ρ} {P : γ → σ → Prop} (Q : (σ ⊕ ρ) → Prop) (h : ∃ r, X = some r ∧ Q r) (h2 : ∀ r, Q r → (∃ g' s', r = .inl s' ∧ P g' s') ∨ r = .inr A) : (∃ g' s', X = some (.inl s') ∧ P g' s') ∨ X = some (.inr A) := by
  obtain ⟨r, rfl, hr⟩ := h
  rcases h2 r hr with ⟨g', s', rfl, hp⟩ | rfl
  · exact .inl ⟨g', s', rfl, hp⟩
  · exact .inr rfl
end Go.Proofs

/-! Chapter 9: rounds, and where they end. -/
namespace Go.Proofs
open Go Go.Abs
set_option linter.unusedSimpArgs false
theorem val_ind2 {c c' : NodeD → Em} {p : List NodeD} (hp : (chkP p).2 = 0) (I : Em → Em → Prop) (h0 : I zEmptiness zEmptiness) (h : ∀ k, k < p.length → ∀ a b a' b', I a a' → I b b' → I (nodeE (nth p k) (c (nth p k)) a b) (nodeE (nth p k) (c' (nth p k)) a' b')) : ∀ k, k < p.length → I (val9 c p k) (val9 c' p k) := by
  intro k
  induction k using Nat.strongRecOn with
  | _ k ih =>
    intro hk
    rw [show val9 c p k = _ from valOf_is _ _ _ _, show val9 c' p k = _ from valOf_is _ _ _ _]
    rcases (show arity (nth p k).1 = 0 ∨ arity (nth p k).1 = 1 ∨ arity (nth p k).1 = 2 by have := (node_ok (look_of hp hk)).1; have := arity_le (nth p k).1; omega) with h1 | h1 | h1
    · refine h k hk _ _ _ _ ?_ ?_
      · rw [(kid_zero _ _ h1 _).1, (kid_zero _ _ h1 _).1]; exact h0
      · rw [(kid_zero _ _ h1 _).2, (kid_zero _ _ h1 _).2]; exact h0
    · obtain ⟨m1, _⟩ := (ends_kids hp hk).2.1 h1
      refine h k hk _ _ _ _ ?_ ?_
      · rw [kidA_one _ _ _ h1 m1, kidA_one _ _ _ h1 m1]
        exact ih _ (by omega) (by omega)
      · unfold kidB
        rw [if_neg (by omega), if_neg (by omega)]
        exact h0
    · obtain ⟨m1, m2, m3, _⟩ := (ends_kids hp hk).2.2 h1
      refine h k hk _ _ _ _ ?_ ?_
      · rw [kidA_two _ _ _ h1 m2 m3, kidA_two _ _ _ h1 m2 m3]
        exact ih _ (by omega) (by omega)
      · rw [kidB_two _ _ _ h1 m1, kidB_two _ _ _ h1 m1]
        exact ih _ (by omega) (by omega)
def botE : Em := (false, false, -1, -1, ())
def loopE (l : Bool) (a : Em) : Em := if l = true then (a.1, a.2.1, a.2.2.1, -1, ()) else a
def RgL (n : Nat) (l : List Em) : Prop := l.length = n ∧ ∀ i, i < n → RgE (List.getD l i zEmptiness)
def leL (n : Nat) (l m : List Em) : Prop := ∀ i, i < n → leE (List.getD l i zEmptiness) (List.getD m i zEmptiness)
theorem call_in {g : G} (hg : RG g) (n : NodeD) : ∃ q, q < g.length ∧ ∀ now, callE g now n = List.getD now q zEmptiness := by
  unfold callE
  cases h : findR g n.2.2.1 with
  | none => exact ⟨0, hg.pos, fun _ => rfl⟩
  | some q => exact ⟨q, (findR_at h).1, fun _ => rfl⟩
/-- What is known of a rule's whole pattern. -/
def lastE (g : G) (now : List Em) (i : Nat) : Em := val9 (callE g now) (rth g i).2.1 ((rth g i).2.1.length - 1)
theorem good_pos {g : G} (hg : RG g) {i : Nat} (hi : i < g.length) : (chkP (rth g i).2.1).2 = 0 ∧ 0 < (rth g i).2.1.length ∧ ((rth g i).2.1.length : Int) ≤ 2048 := by
  have h := (hg.good i hi).2.2
  obtain ⟨h1, _, _, h2, _⟩ := chk_len h
  exact ⟨h, by omega, h1⟩
theorem last_rg {g : G} (hg : RG g) {now : List Em} (h : RgL g.length now) {i : Nat} (hi : i < g.length) : RgE (lastE g now i) := by
  obtain ⟨h1, h2, _⟩ := good_pos hg hi
  refine rg_val h1 (fun k _ _ => ?_) _ (by omega)
  obtain ⟨q, hq, e⟩ := call_in hg (nth (rth g i).2.1 k)
  rw [e]
  exact h.2 q hq
theorem last_mono {g : G} (hg : RG g) {now now' : List Em} (h : RgL g.length now) (h' : RgL g.length now') (hl : leL g.length now now') {i : Nat} (hi : i < g.length) : leE (lastE g now i) (lastE g now' i) := by
  obtain ⟨h1, h2, _⟩ := good_pos hg hi
  refine (val_ind2 h1 (fun a b => leE a b ∧ RgE a ∧ RgE b) ⟨leE.refl _, rg_zero, rg_zero⟩ (fun k hk a b a' b' ha hb => ?_) _ (by omega)).1
  obtain ⟨q, hq, e⟩ := call_in hg (nth (rth g i).2.1 k)
  have hn := nodeOk_of h1 hk
  rw [e, e]
  exact ⟨mono_node hn (hl q hq) ha.1 hb.1 ha.2.1 hb.2.1 ha.2.2 hb.2.2, rg_node hn (fun _ => h.2 q hq) ha.2.1 hb.2.1, rg_node hn (fun _ => h'.2 q hq) ha.2.2 hb.2.2⟩
noncomputable def stepE (g : G) (now : List Em) (i : Nat) : Em := loopE (pb (Ag (E g) i)) (lastE g now i)
noncomputable def roundE (g : G) (now : List Em) : List Em := genR g.length (stepE g now)
theorem loop_rg {l : Bool} {a : Em} (h : RgE a) : RgE (loopE l a) := by
  unfold loopE
  split
  · exact ⟨h.1, h.2.1, Int.le_refl (-1), (by decide : (-1 : Int) ≤ 1048576)⟩
  · exact h
theorem loop_mono {l : Bool} {a b : Em} (h : leE a b) : leE (loopE l a) (loopE l b) := by
  unfold loopE
  split
  · exact ⟨h.1, h.2.1, h.2.2.1, Int.le_refl _⟩
  · exact h
theorem round_rg {g : G} (hg : RG g) {now : List Em} (h : RgL g.length now) : RgL g.length (roundE g now) :=
  ⟨genR_len, fun i hi => by unfold roundE; rw [genR_get hi]; exact loop_rg (last_rg hg h hi)⟩
theorem round_mono {g : G} (hg : RG g) {now now' : List Em} (h : RgL g.length now) (h' : RgL g.length now') (hl : leL g.length now now') : leL g.length (roundE g now) (roundE g now') := by
  intro i hi
  unfold roundE
  rw [genR_get hi, genR_get hi]
  exact loop_mono (last_mono hg h h' hl hi)
def botL (n : Nat) : List Em := List.replicate n botE
theorem bot_at {n i : Nat} (h : i < n) : List.getD (botL n) i zEmptiness = botE := by
  unfold botL
  rw [List.getD_eq_getElem?_getD, List.getElem?_replicate, if_pos h]
  rfl
theorem bot_rg (n : Nat) : RgL n (botL n) := ⟨List.length_replicate, fun i hi => by rw [bot_at hi]; simp [RgE, botE]⟩
theorem lenOf_le {x : Int} (h : -1 ≤ x ∧ x ≤ 1048576) : 0 ≤ lenOf x ∧ lenOf x ≤ 1048577 := by unfold lenOf; split <;> omega
theorem lenOf_inj {x y : Int} (h : -1 ≤ x ∧ x ≤ 1048576) (h2 : -1 ≤ y ∧ y ≤ 1048576) (e : lenOf x = lenOf y) : x = y := by
  unfold lenOf at e
  split at e <;> split at e <;> omega
theorem bot_le {n : Nat} {l : List Em} (h : RgL n l) : leL n (botL n) l := by
  intro i hi
  rw [bot_at hi]
  obtain ⟨h1, h2, h3, h4⟩ := h.2 i hi
  exact ⟨by simp [botE], by simp [botE], (lenOf_le ⟨h1, h2⟩).2, (lenOf_le ⟨h3, h4⟩).2⟩
noncomputable def itE (g : G) : Nat → List Em
  | 0 => botL g.length
  | k + 1 => roundE g (itE g k)
theorem it_rg {g : G} (hg : RG g) : ∀ k, RgL g.length (itE g k)
  | 0 => bot_rg _
  | k + 1 => round_rg hg (it_rg hg k)
theorem it_le {g : G} (hg : RG g) : ∀ k, leL g.length (itE g k) (itE g (k + 1))
  | 0 => bot_le (it_rg hg 1)
  | k + 1 => round_mono hg (it_rg hg k) (it_rg hg (k + 1)) (it_le hg k)
/-- How much is known. -/
def rankE (a : Em) : Nat := (if a.1 then 1 else 0) + (if a.2.1 then 1 else 0) + (1048577 - lenOf a.2.2.1).toNat + (1048577 - lenOf a.2.2.2.1).toNat
theorem rank_le {a : Em} (h : RgE a) : rankE a ≤ 2097156 := by
  obtain ⟨h1, h2, h3, h4⟩ := h
  have := lenOf_le ⟨h1, h2⟩
  have := lenOf_le ⟨h3, h4⟩
  unfold rankE
  split <;> split <;> omega
theorem rank_mono {a b : Em} (ha : RgE a) (hb : RgE b) (h : leE a b) : rankE a ≤ rankE b ∧ (rankE a = rankE b → a = b) := by
  obtain ⟨h1, h2, h3, h4⟩ := ha
  obtain ⟨k1, k2, k3, k4⟩ := hb
  have l1 := lenOf_le ⟨h1, h2⟩
  have l2 := lenOf_le ⟨h3, h4⟩
  have l3 := lenOf_le ⟨k1, k2⟩
  have l4 := lenOf_le ⟨k3, k4⟩
  obtain ⟨p1, p2, p3, p4⟩ := h
  have i1 := lenOf_inj ⟨h1, h2⟩ ⟨k1, k2⟩
  have i2 := lenOf_inj ⟨h3, h4⟩ ⟨k3, k4⟩
  obtain ⟨a1, a2, a3, a4, _⟩ := a
  obtain ⟨b1, b2, b3, b4, _⟩ := b
  simp only at *
  unfold rankE
  simp only
  constructor
  · cases a1 <;> cases a2 <;> cases b1 <;> cases b2 <;> simp at p1 p2 ⊢ <;> omega
  · intro e
    have e1 : a1 = b1 ∧ a2 = b2 ∧ lenOf a3 = lenOf b3 ∧ lenOf a4 = lenOf b4 := by
      cases a1 <;> cases a2 <;> cases b1 <;> cases b2 <;> simp at p1 p2 e ⊢ <;> omega
    rw [e1.1, e1.2.1, i1 e1.2.2.1, i2 e1.2.2.2]
def sumTo (f : Nat → Nat) : Nat → Nat
  | 0 => 0
  | n + 1 => sumTo f n + f n
theorem sum_mono {f f' : Nat → Nat} : ∀ {n : Nat}, (∀ i, i < n → f i ≤ f' i) → sumTo f n ≤ sumTo f' n ∧ (sumTo f n = sumTo f' n → ∀ i, i < n → f i = f' i)
  | 0, _ => ⟨Nat.le_refl _, fun _ i hi => absurd hi (Nat.not_lt_zero _)⟩
  | n + 1, h => by
    obtain ⟨h1, h2⟩ := sum_mono (n := n) fun i hi => h i (by omega)
    have h3 := h n (by omega)
    simp only [sumTo]
    refine ⟨by omega, fun e i hi => ?_⟩
    by_cases e2 : i = n
    · subst e2; omega
    · exact h2 (by omega) i (by omega)
theorem sum_le {f : Nat → Nat} {m : Nat} : ∀ {n : Nat}, (∀ i, i < n → f i ≤ m) → sumTo f n ≤ n * m
  | 0, _ => Nat.zero_le _
  | n + 1, h => by
    have h1 := sum_le (n := n) fun i hi => h i (by omega)
    have h3 := h n (by omega)
    simp only [sumTo]
    rw [Nat.succ_mul]
    omega
def rankL (n : Nat) (l : List Em) : Nat := sumTo (fun i => rankE (List.getD l i zEmptiness)) n
theorem rankL_le {n : Nat} {l : List Em} (h : RgL n l) : rankL n l ≤ n * 2097156 := sum_le fun i hi => rank_le (h.2 i hi)
theorem getD_ext {α : Type} {l m : List α} {n : Nat} (d : α) (h1 : l.length = n) (h2 : m.length = n) (h : ∀ i, i < n → List.getD l i d = List.getD m i d) : l = m := by
  apply List.ext_getElem (by omega)
  intro i a b
  have := h i (by omega)
  rwa [List.getD_eq_getElem?_getD, List.getD_eq_getElem?_getD, List.getElem?_eq_getElem a, List.getElem?_eq_getElem b] at this
theorem it_rank {g : G} (hg : RG g) (k : Nat) : rankL g.length (itE g k) ≤ rankL g.length (itE g (k + 1)) ∧ (itE g (k + 1) ≠ itE g k → rankL g.length (itE g k) < rankL g.length (itE g (k + 1))) := by
  have h1 := it_rg hg k
  have h2 := it_rg hg (k + 1)
  have h3 := it_le hg k
  obtain ⟨h4, h5⟩ := sum_mono (n := g.length) fun i hi => (rank_mono (h1.2 i hi) (h2.2 i hi) (h3 i hi)).1
  refine ⟨h4, fun hne => Nat.lt_of_le_of_ne h4 fun e => hne ?_⟩
  exact (getD_ext zEmptiness h1.1 h2.1 fun i hi => (rank_mono (h1.2 i hi) (h2.2 i hi) (h3 i hi)).2 (h5 e i hi)).symm
theorem it_end {g : G} (hg : RG g) : ∃ k, itE g (k + 1) = itE g k := by
  apply Classical.byContradiction
  intro hno
  have h : ∀ k, k ≤ rankL g.length (itE g k) := by
    intro k
    induction k with
    | zero => exact Nat.zero_le _
    | succ k ih =>
      have := (it_rank hg k).2 fun e => hno ⟨k, e⟩
      omega
  have := h (g.length * 2097156 + 1)
  have := rankL_le (it_rg hg (g.length * 2097156 + 1))
  omega
theorem it_stay {g : G} {k : Nat} (h : itE g (k + 1) = itE g k) : ∀ m, itE g (k + m) = itE g k
  | 0 => rfl
  | m + 1 => by
    have ih := it_stay h m
    show roundE g (itE g (k + m)) = _
    rw [ih]
    exact h
open Classical in
/-- What is known of the rules at last. -/
noncomputable def fixE (g : G) : List Em := if h : ∃ k, itE g (k + 1) = itE g k then itE g (Classical.choose h) else []
theorem fix_is {g : G} {k : Nat} (h : itE g (k + 1) = itE g k) : fixE g = itE g k := by
  unfold fixE
  rw [dif_pos ⟨k, h⟩]
  generalize hw : Classical.choose (⟨k, h⟩ : ∃ k, itE g (k + 1) = itE g k) = w
  have hs : itE g (w + 1) = itE g w := hw ▸ Classical.choose_spec (⟨k, h⟩ : ∃ k, itE g (k + 1) = itE g k)
  rcases Nat.le_total k w with hle | hle
  · obtain ⟨m, rfl⟩ := Nat.exists_eq_add_of_le hle
    exact it_stay h m
  · obtain ⟨m, rfl⟩ := Nat.exists_eq_add_of_le hle
    exact (it_stay hs m).symm
theorem fix_rg {g : G} (hg : RG g) : RgL g.length (fixE g) := by
  obtain ⟨k, h⟩ := it_end hg
  rw [fix_is h]
  exact it_rg hg k
theorem fix_fix {g : G} (hg : RG g) : roundE g (fixE g) = fixE g := by
  obtain ⟨k, h⟩ := it_end hg
  rw [fix_is h]
  exact h
/-- What holds at the start and is kept by a round holds at last. -/
theorem fix_ind {g : G} (hg : RG g) (I : List Em → Prop) (h0 : I (botL g.length)) (h : ∀ l, RgL g.length l → I l → I (roundE g l)) : I (fixE g) := by
  obtain ⟨k, e⟩ := it_end hg
  rw [fix_is e]
  clear e
  induction k with
  | zero => exact h0
  | succ k ih => exact h _ (it_rg hg k) ih
end Go.Proofs

/-! Chapter 9: the rounds of both programs. -/
namespace Go.Proofs
open Go Go.Abs
set_option linter.unusedSimpArgs false
theorem eqbE (x y : Em) : Ty.eqb (Ty.st [Ty.bool, Ty.bool, Ty.int Go.IntKind.i64, Ty.int Go.IntKind.i64]) x y = pb (x = y) := by
  by_cases h : x = y
  · rw [pb_t h, h]; exact eqb_refl (t := Ty.st [Ty.bool, Ty.bool, Ty.int Go.IntKind.i64, Ty.int Go.IntKind.i64]) y rfl
  · rw [pb_f h]
    cases e : Ty.eqb (Ty.st [Ty.bool, Ty.bool, Ty.int Go.IntKind.i64, Ty.int Go.IntKind.i64]) x y with
    | false => rfl
    | true => exact absurd (eqb_eq (t := Ty.st [Ty.bool, Ty.bool, Ty.int Go.IntKind.i64, Ty.int Go.IntKind.i64]) e) h
theorem bot_gen (n : Nat) : genR n (fun _ => botE) = botL n := by
  unfold botL genR
  apply List.ext_getElem
  · simp
  · intro i h1 h2
    simp
theorem last_at {g : G} {now : List Em} {i : Nat} (h : 0 < (rth g i).2.1.length) : List.getD (vals9 (callE g now) (rth g i).2.1 (rth g i).2.1.length) ((rth g i).2.1.length - 1) zEmptiness = lastE g now i := valsOf_at _ _ _ (by omega)
theorem lengths_at {g : G} (hg : RG g) {now : List Em} (h : RgL g.length now) {i : Nat} (hi : i < g.length) : F_gist_Lengths_em ((rth g i).2.1, now, nums g, ()) = some (vals9 (callE g now) (rth g i).2.1 (rth g i).2.1.length, now, nums g, ()) := by
  have hc : ∀ k, k < (rth g i).2.1.length → (nth (rth g i).2.1 k).1 = 6 → ∃ q, findR g (nth (rth g i).2.1 k).2.2.1 = some q := fun k hk h6 => hg.calls (rth g i) (getD_memR hi) _ (by rw [show nth (rth g i).2.1 k = List.getD (rth g i).2.1 k zNode by simp [nth]]; exact getD_in hk) h6
  refine q_lengths (good_pos hg hi).1 (fun k hk h6 => ?_) (fun k hk h6 => ?_)
  · obtain ⟨q, hq⟩ := hc k hk h6
    exact callAt h.1 hq
  · obtain ⟨q, hq, e⟩ := call_in hg (nth (rth g i).2.1 k)
    rw [e]
    exact h.2 q hq
theorem same_round {g : G} {now : List Em} (h : now.length = g.length) : (∀ j, j < g.length → stepE g now j = List.getD now j zEmptiness) ↔ roundE g now = now := by
  constructor
  · intro hh
    exact getD_ext zEmptiness genR_len h fun j hj => by unfold roundE; rw [genR_get hj]; exact hh j hj
  · intro e j hj
    conv => rhs; rw [← e]
    unfold roundE
    rw [genR_get hj]
theorem gone_same {α : Type} {n : Nat} {d : α} {f : Nat → α} : gone (List.replicate n d) f n = genR n f := by
  have := @gone_all _ (List.replicate n d) f
  rwa [List.length_replicate] at this
theorem both_eq {R : Type} (x : Option R) : both x x = x := by unfold both; rw [if_pos rfl]
open Classical in
theorem q_gEmpt {g : G} (hg : RG g) : F_gist_Emptiness ((g, ()), ()) = some (fixE g, nums g, ()) := by
  have hn := hg.len
  have hm := hg.pos
  unfold F_gist_Emptiness
  simp only [toPb, eqbE, both_eq]
  rw [q_gnums hg, bind_t]
  dsimp only
  rw [q_gagain hg, bind_t]
  dsimp only
  rw [need_pos (by omega)]
  have hQ : (List.replicate g.length zEmptiness).length = g.length := List.length_replicate
  refine loop_up (σ := (Int × Unit) × List EmptinessD × List Bool × List (ByteArray × Int) × GrammarD × Unit) g.length (fun i => (((i : Int), ()), gone (List.replicate g.length zEmptiness) (fun _ => botE) i, genR g.length (fun r => pb (Ag (E g) r)), nums g, (g, ()), ())) rfl ?_ ?_
  · intro i hi
    have hGm : (gone (List.replicate g.length zEmptiness) (fun _ => botE) i).length = g.length := by rw [gone_len (by omega), hQ]
    dsimp only
    simp only [Int.toNat_natCast, Nat.zero_add, hGm, hQ]
    rw [pos (by omega), need_pos (by omega), need_pos hi, need64 (by omega) (by omega), cast_succ, ← gone_set (f := fun _ => botE) (by omega)]
    rfl
  · dsimp only
    simp only [Int.toNat_natCast, hQ]
    rw [gone_same, bot_gen, neg (by omega)]
    refine (congrArg (fun o => Option.bind o (fun val1 => some (Sum.inr val1))) (a₂ := some (fixE g, nums g, ())) ?_).trans rfl
    refine loopC_gh (γ := Nat × Bool) (σ := (Bool × Unit) × List EmptinessD × List Bool × List (ByteArray × Int) × GrammarD × Unit) (I := fun k s => s = ((k.2, ()), itE g k.1, genR g.length (fun r => pb (Ag (E g) r)), nums g, (g, ()), ()) ∧ (k.2 = false → itE g k.1 = fixE g)) (μ := fun k => if k.2 = true then g.length * 2097156 - rankL g.length (itE g k.1) + 1 else 0) (F := fun _ => (fixE g, nums g, ())) ?_ (0, true) _ ⟨rfl, fun h => by cases h⟩
    rintro ⟨k, b⟩ s ⟨rfl, hb⟩
    have hR := it_rg hg k
    have hO : (genR g.length (fun r => pb (Ag (E g) r))).length = g.length := genR_len
    dsimp only at hb ⊢
    cases b with
    | false =>
      refine .inr ?_
      rw [sel_f, hb rfl]
    | true =>
      rw [sel_t, hR.1]
      simp only [Int.toNat_natCast, Nat.zero_add]
      rw [need_pos (by omega)]
      refine or_of (fun a => a = Sum.inl ((!pb (roundE g (itE g k) = itE g k), ()), itE g (k + 1), genR g.length (fun r => pb (Ag (E g) r)), nums g, (g, ()), ())) ⟨_, ?_, rfl⟩ ?_
      · refine loop_up (σ := (Int × Bool × Unit) × List EmptinessD × List EmptinessD × List Bool × List (ByteArray × Int) × GrammarD × Unit) g.length (fun i => (((i : Int), !pb (∀ j, j < i → stepE g (itE g k) j = List.getD (itE g k) j zEmptiness), ()), gone (List.replicate g.length zEmptiness) (stepE g (itE g k)) i, itE g k, genR g.length (fun r => pb (Ag (E g) r)), nums g, (g, ()), ())) ?_ ?_ ?_
        · rw [pb_t (by intro j hj; omega)]
          rfl
        · intro i hi
          obtain ⟨p1, p2, p3⟩ := good_pos hg hi
          have hGm : (gone (List.replicate g.length zEmptiness) (stepE g (itE g k)) i).length = g.length := by rw [gone_len (by omega), hQ]
          have hvl : (vals9 (callE g (itE g k)) (rth g i).2.1 (rth g i).2.1.length).length = (rth g i).2.1.length := valsOf_len _ _ _ _
          have hbody : List.getD g i zRule = rth g i := rfl
          have e1 : Int.toNat (((rth g i).2.1.length : Int) - 1) = (rth g i).2.1.length - 1 := by omega
          dsimp only
          simp only [Int.toNat_natCast, hO, hbody]
          rw [pos (by omega), need_pos (by omega), need64 (by omega) (by omega), lengths_at hg hR hi, bind_t]
          dsimp only
          simp only [hvl, e1, last_at p2]
          rw [need_pos (by omega), need_pos (by omega), need_pos (by omega), need_pos hi, genR_get hi]
          have hstep : stepE g (itE g k) i = if Ag (E g) i then ((lastE g (itE g k) i).1, (lastE g (itE g k) i).2.1, (lastE g (itE g k) i).2.2.1, -1, ()) else lastE g (itE g k) i := by
            unfold stepE loopE
            by_cases h : Ag (E g) i
            · rw [if_pos (pb_t h), if_pos h]
            · rw [if_neg (by rw [pb_f h]; simp), if_neg h]
          have hset := gone_set (p := List.replicate g.length zEmptiness) (f := stepE g (itE g k)) (i := i) (by omega)
          have hfl : pb (∀ j, j < i + 1 → stepE g (itE g k) j = List.getD (itE g k) j zEmptiness) = (pb (∀ j, j < i → stepE g (itE g k) j = List.getD (itE g k) j zEmptiness) && pb (stepE g (itE g k) i = List.getD (itE g k) i zEmptiness)) := by
            by_cases h1 : ∀ j, j < i → stepE g (itE g k) j = List.getD (itE g k) j zEmptiness
            · rw [pb_t h1, Bool.true_and]
              apply pb_congr
              constructor
              · intro h2; exact h2 i (by omega)
              · intro h2 j hj
                by_cases e : j = i
                · subst e; exact h2
                · exact h1 j (by omega)
            · rw [pb_f h1, Bool.false_and, pb_f fun h2 => h1 fun j hj => h2 j (by omega)]
          have hfin : ∀ v, v = stepE g (itE g k) i → Option.bind (need ((0 : Int) ≤ (i : Int) ∧ (i : Int) < (g.length : Int)) (need (i < g.length) (sel (!pb (v = List.getD (itE g k) i zEmptiness)) (some (Sum.inl ((true, ()), v, itE g k, nums g, gone (List.replicate g.length zEmptiness) (stepE g (itE g k)) i, genR g.length (fun r => pb (Ag (E g) r)), (g, ()), ()))) (some (Sum.inl ((!pb (∀ j, j < i → stepE g (itE g k) j = List.getD (itE g k) j zEmptiness), ()), v, itE g k, nums g, gone (List.replicate g.length zEmptiness) (stepE g (itE g k)) i, genR g.length (fun r => pb (Ag (E g) r)), (g, ()), ())))))) (fun (o1 : (Bool × Unit) × EmptinessD × List EmptinessD × List (ByteArray × Int) × List EmptinessD × List Bool × GrammarD × Unit ⊕ (Int × Bool × Unit) × List EmptinessD × List EmptinessD × List Bool × List (ByteArray × Int) × GrammarD × Unit ⊕ (Bool × Unit) × List EmptinessD × List Bool × List (ByteArray × Int) × GrammarD × Unit ⊕ (List EmptinessD × List (ByteArray × Int) × Unit)) => (match o1 with | Sum.inl val1 => need ((0 : Int) ≤ (i : Int) ∧ (i : Int) < (↑(List.length val1.2.2.2.2.1) : Int)) (need (i < List.length val1.2.2.2.2.1) (need (Fits Go.IntKind.i64 ((i : Int) + (1 : Int))) (some (Sum.inl (((i : Int) + (1 : Int), val1.1.1, ()), List.set val1.2.2.2.2.1 i val1.2.1, val1.2.2.1, val1.2.2.2.2.2.1, val1.2.2.2.1, (val1.2.2.2.2.2.2.1.1, ()), ()))))) | Sum.inr val2 => some val2)) = some (Sum.inl ((((i + 1 : Nat) : Int), !pb (∀ j, j < i + 1 → stepE g (itE g k) j = List.getD (itE g k) j zEmptiness), ()), gone (List.replicate g.length zEmptiness) (stepE g (itE g k)) (i + 1), itE g k, genR g.length (fun r => pb (Ag (E g) r)), nums g, (g, ()), ())) := by
            rintro v rfl
            rw [need_pos (by omega), need_pos hi, hfl, cast_succ]
            by_cases h : stepE g (itE g k) i = List.getD (itE g k) i zEmptiness
            · rw [npos h, bind_t, pb_t h]
              dsimp only
              rw [hGm, need_pos (by omega), need_pos hi, need64 (by omega) (by omega), hset, Bool.and_true]
            · rw [nneg h, bind_t, pb_f h]
              dsimp only
              rw [hGm, need_pos (by omega), need_pos hi, need64 (by omega) (by omega), hset, Bool.and_false]
              rfl
          by_cases h : Ag (E g) i
          · rw [pb_t h, sel_t, bind_t]
            dsimp only
            rw [hR.1]
            exact hfin _ (by rw [hstep, if_pos h])
          · rw [pb_f h, sel_f, bind_t]
            dsimp only
            rw [hR.1]
            exact hfin _ (by rw [hstep, if_neg h])
        · dsimp only
          rw [neg (by omega), gone_same, pb_congr (same_round hR.1)]
          rfl
      · rintro a rfl
        refine .inl ⟨(k + 1, !pb (roundE g (itE g k) = itE g k)), _, rfl, ⟨rfl, fun h => ?_⟩, ?_, trivial⟩
        · by_cases h2 : roundE g (itE g k) = itE g k
          · rw [fix_is h2]; exact h2
          · rw [pb_f h2] at h; cases h
        · by_cases h2 : roundE g (itE g k) = itE g k
          · rw [pb_t h2]; simp
          · rw [pb_f h2]
            have h1 := (it_rank hg k).2 h2
            have h3 := rankL_le (it_rg hg (k + 1))
            show g.length * 2097156 - rankL g.length (itE g (k + 1)) + 1 < g.length * 2097156 - rankL g.length (itE g k) + 1
            omega
end Go.Proofs

/-! Chapter 8: the laws RulesReach, RulesOrder. -/
namespace Go.Proofs
open Go Go.Abs
theorem loop_one {σ ρ : Type} {B : σ → Option (σ ⊕ ρ)} (I : σ → Prop) (μ : σ → Nat) {r : ρ} (h : ∀ s, I s → (∃ s', B s = some (.inl s') ∧ I s' ∧ μ s' < μ s) ∨ B s = some (.inr r)) : ∀ s, I s → loopC B s = some r := by
  intro s hs
  obtain ⟨r', h1, h2⟩ := loopC_ends I μ (· = r) (fun s hs => by
    rcases h s hs with h | h
    · exact Or.inl h
    · exact Or.inr ⟨r, h, rfl⟩) s hs
  rw [h1, h2]
theorem Rt.last {e : Nat → Nat → Prop} {r x : Nat} (h : Rt e r x) : x = r ∨ ∃ q, Rt e r q ∧ e q x ∧ x ≠ q := by
  induction h with
  | refl => exact Or.inl rfl
  | tail h1 h2 ih =>
    rename_i q p
    by_cases h3 : p = q
    · subst h3; exact ih
    · exact Or.inr ⟨q, h1, h2, h3⟩
theorem Rt.first {e : Nat → Nat → Prop} {r x : Nat} (h : Rt e r x) : x = r ∨ ∃ q, e r q ∧ Rt e q x := by
  induction h with
  | refl => exact Or.inl rfl
  | tail h1 h2 ih =>
    rename_i q p
    rcases ih with h | ⟨z, h3, h4⟩
    · subst h; exact Or.inr ⟨p, h2, Rt.refl p⟩
    · exact Or.inr ⟨z, h3, Rt.tail h4 h2⟩
end Go.Proofs
