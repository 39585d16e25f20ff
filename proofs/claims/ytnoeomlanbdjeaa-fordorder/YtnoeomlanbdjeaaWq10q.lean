/- Part of the proof of the law's row: YtnoeomlanbdjeaaWq10q. -/
import Derived.Test.YtnoeomlanbdjeaaWq10n
set_option linter.all false
set_option linter.unusedVariables false
set_option linter.unusedSimpArgs false
/-! Chapter 10: a well-formed grammar's rules are all told, each behind its heads. -/
namespace Go.Proofs
open Go Go.Abs
set_option linter.unusedSimpArgs false
theorem way_snoc {e : Nat → Nat → Prop} {b c : Nat} (h : e b c) : ∀ {k a}, Way e b k a → Way e c (k + 1) a
  | 0, _, h1 => absurd h1 (fun h => h)
  | 1, _, h1 => ⟨b, h1, h⟩
  | k + 2, _, ⟨q, h1, h2⟩ => ⟨q, h1, way_snoc h h2⟩
theorem rt_way {e : Nat → Nat → Prop} {a b : Nat} (h : Rt e a b) : a = b ∨ ∃ k, Way e b k a := by
  induction h with
  | refl => exact .inl rfl
  | tail _ h2 ih =>
    rcases ih with rfl | ⟨k, hk⟩
    · exact .inr ⟨1, h2⟩
    · exact .inr ⟨k + 1, way_snoc h2 hk⟩
/-- A rule stands behind itself if a head of it leads back to it. -/
theorem way_back {e : Nat → Nat → Prop} {r q : Nat} (h1 : e r q) (h2 : Rt e q r) : ∃ k, Way e r k r := by
  rcases rt_way h2 with rfl | ⟨k, hk⟩
  · exact ⟨1, h1⟩
  · have hk1 : 1 ≤ k := by
      cases k with
      | zero => exact absurd hk (fun h => h)
      | succ k => omega
    exact ⟨k + 1, (way_succ hk1).2 ⟨q, h1, hk⟩⟩
theorem lead_self {e : Nat → Nat → Prop} {r : Nat} (h : ∀ k, ¬ Way e r k r) : lead e r = r := by
  obtain ⟨h1, h2⟩ := lead_mut (e := e) (r := r)
  rcases Rt.first h1 with h3 | ⟨q, h3, h4⟩
  · exact h3
  · obtain ⟨k, hk⟩ := way_back h3 (h4.trans h2)
    exact absurd hk (h k)
theorem all_len {n : Nat} {L : List Nat} (h1 : L.Nodup) (h2 : ∀ r ∈ L, r < n) (h3 : ∀ r, r < n → r ∈ L) : L.length = n := by
  have hmem : ∀ k, k ∈ castL L ↔ ∃ i : Nat, k = (i : Int) ∧ i < n ∧ i ∈ L := fun k => by
    unfold castL
    rw [List.mem_map]
    exact ⟨fun ⟨a, h4, h5⟩ => ⟨a, h5.symm, h2 a h4, h4⟩, fun ⟨i, h4, _, h5⟩ => ⟨i, h5, h4.symm⟩⟩
  have hnd : (castL L).Nodup := by
    unfold castL
    rw [List.nodup_iff_pairwise_ne, List.pairwise_map]
    rw [List.nodup_iff_pairwise_ne] at h1
    exact h1.imp fun h e => h (by omega)
  have h4 := sortI_listP hnd hmem
  have h5 := (sortI_perm (castL L)).length_eq
  rw [h4, castL_len] at h5
  have h6 : (listP n (· ∈ L)).length = n := by
    unfold listP
    rw [List.length_map, List.filter_eq_self.2 (fun i hi => pb_t (h3 i (List.mem_range.1 hi))), List.length_range]
  rw [h6] at h5
  exact h5.symm
theorem acyc_all {e : Nat → Nat → Prop} {n : Nat} (he : ∀ r q, e r q → q < n) (h : ∀ r, r < n → ∀ k, ¬ Way e r k r) : (ordE e n).length = n := by
  obtain ⟨o1, o2, _⟩ := ordF_ok (e := e) (n := n) n
  rcases ordF_full (e := e) (n := n) with hf | hf
  · exact hf
  · refine all_len o1 o2 fun r hr => Classical.byContradiction fun hn => hf ?_
    obtain ⟨l, h1, h2, h3, h4⟩ := some_ready (L := ordF e n n) he ⟨r, hr, lead_self (h r hr), hn⟩
    refine ⟨l, h1, h3, fun q hq h5 => ?_⟩
    have h6 := h4 l h1 h2 q h5
    rw [lead_self (h q hq)] at h6
    rcases h6 with h6 | h6
    · subst h6; exact absurd (show Way e q 1 q from h5) (h q hq 1)
    · exact h6
theorem ordF_free {e : Nat → Nat → Prop} {n : Nat} : ∀ k i, i < (ordF e n k).length → Free e n (List.take i (ordF e n k)) (List.getD (ordF e n k) i 0)
  | 0, i, h => absurd h (Nat.not_lt_zero i)
  | k + 1, i, h => by
    have ih := ordF_free (e := e) (n := n) k
    by_cases hx : ∃ r, Free e n (ordF e n k) r
    · obtain ⟨r, h1, h2⟩ := least hx
      rw [ordF_next h1 (fun q hq h3 => by have := h2 q h3; omega)] at h ⊢
      rw [List.length_append] at h
      by_cases hi : i < (ordF e n k).length
      · have := ih i hi
        rw [List.take_append_of_le_length (by omega), List.getD_eq_getElem?_getD, List.getElem?_append_left hi, ← List.getD_eq_getElem?_getD]
        exact this
      · have ei : i = (ordF e n k).length := by simp at h; omega
        subst ei
        rw [List.take_left', List.getD_eq_getElem?_getD, List.getElem?_append_right (Nat.le_refl _), Nat.sub_self]
        · exact h1
        · rfl
    · rw [show ordF e n (k + 1) = ordF e n k from ordF_stay hx 1] at h ⊢
      exact ih i h
theorem q_has10 (l : List Int) (n : Int) (h : l.length ≤ 1000000) : F_law10_has (l, n, ()) = some (pb (n ∈ l), ()) := by
  unfold F_law10_has
  simp only [toPb]
  refine (loop_all (σ := (Int × Unit) × Unit) l.length (fun i => (((i : Int), ()), ())) (fun i => List.getD l i 0 ≠ n) (bad := (true, ())) (fin := (false, ())) rfl ?_ ?_).trans ?_
  · intro i hi
    dsimp only
    simp only [Int.toNat_natCast]
    rw [pos (by omega), need_pos (by omega)]
    by_cases e : List.getD l i 0 = n
    · rw [pb_t e, sel_t, pb_f (fun h => h e), if_neg (by simp)]
    · rw [pb_f e, sel_f, need64 (by omega) (by omega), pb_t e, if_pos rfl, cast_succ]
  · dsimp only
    rw [neg (by omega)]
  · by_cases hm : n ∈ l
    · obtain ⟨k, hk, e⟩ := in_getD 0 hm
      rw [pb_t hm, pb_f (fun h => h k hk e), if_neg (by simp)]
    · rw [pb_f hm, pb_t (fun i hi e => hm (by rw [← e]; exact getD_in hi)), if_pos rfl]
theorem vd_cycle {g : G} (h : (vd10 g).2.1 = 0) : (vd10 g).2.2 = [] := by
  obtain ⟨h1, h2, h3⟩ := vd_zero h
  unfold vd10
  rw [if_neg (fun h => h h1), h2, h3, if_neg (by simp), if_neg (by simp)]
theorem no_way {g : G} (h : cycG g = []) : ∀ r, r < g.length → ∀ k, ¬ Way (Hd g) r k r := fun r hr k hw => by
  have hx : ∃ r, Self (Hd g) g.length r := ⟨r, hr, fun h0 => dst_none.1 h0 k hw⟩
  obtain ⟨v, h1, h2⟩ := least hx
  have := cyc_some h1 (fun q hq h3 => by have := h2 q h3; omega)
  unfold cycG at h
  rw [h] at this
  cases this
theorem law_FordOrder (g : G) : F_law10_FordOrder ((g, ()), ()) = some (true, ()) := by
  unfold F_law10_FordOrder
  simp only [toPb]
  rw [q_fCheck, bind_t, q_fOrder, bind_t]
  dsimp only
  by_cases hv : (vd10 g).2.1 = 0
  · obtain ⟨h0, hcyc, hloop⟩ := vd_zero hv
    have hg := rg_of h0
    have hn := hg.len
    have hall := acyc_all (Hd_lt g) (no_way hcyc)
    have hord : order10 g = castL (ordE (Hd g) g.length) := by unfold order10; rw [if_pos hv]
    have hl10 : loops10 g = [] := by unfold loops10; rw [if_pos h0, hloop]
    have hfree := ordF_free (e := Hd g) (n := g.length) g.length
    rw [npos hv, q_fLoops, bind_t]
    dsimp only
    rw [hv, h0, hl10, hord, vd_cycle hv]
    have hE : ordF (Hd g) g.length g.length = ordE (Hd g) g.length := rfl
    rw [hE] at hfree
    generalize ordE (Hd g) g.length = L at hall hfree ⊢
    have hcl : (castL L).length = g.length := by rw [castL_len, hall]
    rw [pb_t rfl, Bool.not_true, sel_f, bind_t, sel_f, pb_f (by simp), bind_t, sel_f, hcl, pb_t rfl, Bool.not_true, bind_t, sel_f, pb_f (by simp), bind_t, sel_f]
    refine loop_up (σ := (Int × Unit) × List Int × List Int × GrammarD × Unit) g.length (fun i => (((i : Int), ()), castL (List.take i L), castL L, (g, ()), ())) rfl ?_ ?_
    · intro i hi
      obtain ⟨f1, f2, f3⟩ := hfree i (by omega)
      have hget : List.getD (castL L) i 0 = ((List.getD L i 0 : Nat) : Int) := castL_at (by omega)
      have htk : List.take (i + 1) L = List.take i L ++ [List.getD L i 0] := take_succD (d := 0) (by omega)
      have htl : (castL (List.take i L)).length = i := by rw [castL_len, List.length_take]; omega
      have hmem : ∀ q : Nat, ((q : Int) ∈ castL (List.take i L)) ↔ q ∈ List.take i L := fun q => by
        unfold castL
        rw [List.mem_map]
        exact ⟨fun ⟨a, h1, h2⟩ => by rw [show q = a by omega]; exact h1, fun h => ⟨q, h, rfl⟩⟩
      dsimp only
      simp only [Int.toNat_natCast, Nat.zero_add]
      rw [htk, castL_snoc]
      generalize castL (List.take i L) = T at htl hmem ⊢
      rw [pos (by omega), need_pos (by omega), need_pos (by omega), hget]
      have hlook : lookE g ((List.getD L i 0 : Nat) : Int) = 0 := lookE_in h0 f1
      have hheads : heads10 g ((List.getD L i 0 : Nat) : Int) = listP g.length (Hd g (List.getD L i 0)) := by
        unfold heads10
        rw [if_pos hlook, Int.toNat_natCast]
      have hhl := listP_len (n := g.length) (p := Hd g (List.getD L i 0))
      rw [q_fHeads, bind_t, hlook, hheads]
      dsimp only
      rw [pb_t rfl, Bool.not_true, sel_f, need_pos (by omega), need_pos (by omega), q_has10 _ _ (by omega), bind_t, bind_t, pb_f (fun h => f2 ((hmem _).1 h)), sel_f]
      have hin : ∀ j, j < (listP g.length (Hd g (List.getD L i 0))).length → List.getD (listP g.length (Hd g (List.getD L i 0))) j 0 ∈ T := fun j hj => by
        obtain ⟨q, h1, h2, h3⟩ := mem_listP.1 (getD_in (d := (0 : Int)) hj)
        rw [h1]
        exact (hmem q).2 (f3 q h2 h3)
      generalize listP g.length (Hd g (List.getD L i 0)) = A at hin hhl ⊢
      refine loop_up (σ := (Int × Unit) × List Int × List Int × List Int × GrammarD × Unit) A.length (fun j => (((j : Int), ()), A, T, castL L, (g, ()), ())) rfl ?_ ?_
      · intro j hj
        dsimp only
        simp only [Int.toNat_natCast, Nat.zero_add]
        rw [pos (by omega), need_pos (by omega), need_pos (by omega), q_has10 _ _ (by omega), bind_t, pb_t (hin j hj)]
        dsimp only
        rw [Bool.not_true, sel_f, need64 (by omega) (by omega), cast_succ]
      · dsimp only
        simp only [Int.toNat_natCast, Nat.zero_add]
        rw [neg (by omega), need_pos (by omega), need_pos (by omega), need_pos (by omega), need64 (by omega) (by omega), bind_t, hget, cast_succ]
    · dsimp only
      rw [neg (by omega), q_lives10, bind_t, bind_t]
  · have hord : order10 g = [] := by unfold order10; rw [if_neg hv]
    rw [nneg hv, q_lives10, bind_t, hord]
    dsimp only
    rw [sel_t, pb_t rfl, bind_t, sel_t, pb_t (by simp), bind_t]
end Go.Proofs
