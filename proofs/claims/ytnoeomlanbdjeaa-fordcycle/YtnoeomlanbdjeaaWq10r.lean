/- Part of the proof of the law's row: YtnoeomlanbdjeaaWq10r. -/
import Derived.Test.YtnoeomlanbdjeaaWq10q
set_option linter.all false
set_option linter.unusedVariables false
set_option linter.unusedSimpArgs false
/-! Chapter 10: what a cycle is. -/
namespace Go.Proofs
open Go Go.Abs
set_option linter.unusedSimpArgs false
theorem scan_le {p : List NodeD} : ∀ (ns : List NodeD) (sh : List shapeD), (scan p ns sh).1.2 ≤ 90
  | [], sh => by rw [scan]; show (0 : Int) ≤ 90; decide
  | n :: ns, sh => by
    rw [scan]
    split
    · show (40 : Int) ≤ 90; decide
    · split
      · show (41 : Int) ≤ 90; decide
      · split
        · show (42 : Int) ≤ 90; decide
        · split
          · show (4 : Int) ≤ 90; decide
          · exact scan_le ns _
theorem chkP_le (p : List NodeD) : (chkP p).2 ≤ 90 := by
  unfold chkP
  split
  · show (2 : Int) ≤ 90; decide
  · unfold eachP endP
    split
    · exact scan_le _ _
    · split
      · show (42 : Int) ≤ 90; decide
      · show (0 : Int) ≤ 90; decide
theorem scanG_le {g : G} : ∀ {k i : Nat} {n : Int} {e : SpotD × Int}, scanG g k i n = some e → e.2 ≤ 90
  | 0, _, _, _, h => by cases h
  | k + 1, i, n, e, h => by
    rw [scanG] at h
    split at h
    · cases h; show (6 : Int) ≤ 90; decide
    · split at h
      · cases h; show (80 : Int) ≤ 90; decide
      · split at h
        · cases h; exact chkP_le _
        · split at h
          · cases h; show (2 : Int) ≤ 90; decide
          · exact scanG_le h
theorem chkG_le (g : G) : (chkG g).2 ≤ 90 := by
  unfold chkG
  split
  · show (3 : Int) ≤ 90; decide
  · split
    · show (2 : Int) ≤ 90; decide
    · cases hs : scanG g g.length 0 0 with
      | some e => exact scanG_le hs
      | none =>
        show (spotE (unkG g g 0)).2 ≤ 90
        cases unkG g g 0 with
        | none => show (0 : Int) ≤ 90; decide
        | some x => show (81 : Int) ≤ 90; decide
theorem cycT_at {e : Nat → Nat → Prop} {to : Nat} : ∀ k at_, dst e to at_ = k + 1 → ∀ i, i < k → ∃ b q : Nat, List.getD ((at_ : Int) :: cycT e to at_ k) i 0 = (b : Int) ∧ List.getD ((at_ : Int) :: cycT e to at_ k) (i + 1) 0 = (q : Int) ∧ e b q ∧ dst e to q = k - i
  | 0, _, _, i, hi => absurd hi (Nat.not_lt_zero i)
  | k + 1, at_, h, i, hi => by
    obtain ⟨⟨n1, n2⟩, _⟩ := nextQ_is (dst_prev h (by omega))
    have hc : cycT e to at_ (k + 1) = (nextQ e to at_ (k + 1) : Int) :: cycT e to (nextQ e to at_ (k + 1)) k := rfl
    cases i with
    | zero => exact ⟨at_, nextQ e to at_ (k + 1), rfl, by rw [hc]; rfl, n1, n2⟩
    | succ i =>
      obtain ⟨b, q, h1, h2, h3, h4⟩ := cycT_at k (nextQ e to at_ (k + 1)) n2 i (by omega)
      rw [hc]
      exact ⟨b, q, h1, h2, h3, by omega⟩
/-- The rules of a cycle. -/
theorem cyc_at {e : Nat → Nat → Prop} {n r : Nat} (he : ∀ r q, e r q → q < n) (hr : Self e n r) : ∀ i, i < dst e r r → ∃ a : Nat, List.getD ((r : Int) :: cycT e r r (dst e r r - 1)) i 0 = (a : Int) ∧ dst e r a = dst e r r - i ∧ Rt e r a ∧ a < n
  | 0, _ => ⟨r, rfl, by omega, Rt.refl r, hr.1⟩
  | i + 1, hi => by
    obtain ⟨a, h1, _, h3, _⟩ := cyc_at he hr i (by omega)
    obtain ⟨b, q, g1, g2, g3, g4⟩ := cycT_at (e := e) (to := r) (dst e r r - 1) r (by omega) i (by omega)
    have : a = b := by rw [h1] at g1; omega
    subst this
    exact ⟨q, g2, by omega, h3.tail g3, he _ _ g3⟩
theorem cyc_edge {e : Nat → Nat → Prop} {n r : Nat} (he : ∀ r q, e r q → q < n) (hr : Self e n r) {i a : Nat} (hi : i < dst e r r) (ha : List.getD ((r : Int) :: cycT e r r (dst e r r - 1)) i 0 = (a : Int)) : ∃ q : Nat, List.getD ((r : Int) :: cycT e r r (dst e r r - 1)) ((i + 1) % dst e r r) 0 = (q : Int) ∧ e a q := by
  by_cases hl : i + 1 < dst e r r
  · obtain ⟨b, q, g1, g2, g3, g4⟩ := cycT_at (e := e) (to := r) (dst e r r - 1) r (by omega) i (by omega)
    have : a = b := by rw [ha] at g1; omega
    subst this
    rw [Nat.mod_eq_of_lt hl]
    exact ⟨q, g2, g3⟩
  · have e1 : i + 1 = dst e r r := by omega
    obtain ⟨b, h1, h2, _⟩ := cyc_at he hr i hi
    have : a = b := by rw [ha] at h1; omega
    subst this
    rw [e1, Nat.mod_self]
    exact ⟨r, rfl, dst_one.1 (by omega)⟩
theorem cyc_twice {e : Nat → Nat → Prop} {n r : Nat} (he : ∀ r q, e r q → q < n) (hr : Self e n r) {i : Nat} (hi : i < dst e r r) : List.getD ((r : Int) :: cycT e r r (dst e r r - 1)) i 0 ∉ List.take i ((r : Int) :: cycT e r r (dst e r r - 1)) := fun hm => by
  obtain ⟨j, hj, h1⟩ := in_getD 0 hm
  rw [List.length_take] at hj
  have h2 : List.getD (List.take i ((r : Int) :: cycT e r r (dst e r r - 1))) j 0 = List.getD ((r : Int) :: cycT e r r (dst e r r - 1)) j 0 := by
    rw [List.getD_eq_getElem?_getD, List.getD_eq_getElem?_getD, List.getElem?_take_of_lt (by omega)]
  rw [h2] at h1
  obtain ⟨a, a1, a2, _⟩ := cyc_at he hr i hi
  obtain ⟨b, b1, b2, _⟩ := cyc_at he hr j (by omega)
  rw [a1, b1] at h1
  have : b = a := by omega
  subst this
  omega
theorem cyc_least {e : Nat → Nat → Prop} {n r : Nat} (he : ∀ r q, e r q → q < n) (hr : Self e n r) (hmin : ∀ q, q < r → ¬ Self e n q) {i : Nat} (hi : i < dst e r r) : ¬ List.getD ((r : Int) :: cycT e r r (dst e r r - 1)) i 0 < (r : Int) := fun hlt => by
  obtain ⟨a, a1, a2, a3, a4⟩ := cyc_at he hr i hi
  rw [a1] at hlt
  have hw := way_dst (e := e) (to := r) (r := a) (by omega)
  obtain ⟨q, h1, h2⟩ := way_rt hw
  obtain ⟨k, hk⟩ := way_back h1 (h2.trans a3)
  exact hmin a (by omega) ⟨a4, fun h0 => dst_none.1 h0 k hk⟩
theorem vd_cases (g : G) : ((chkG g).2 ≠ 0 ∧ vd10 g = ((chkG g).1, (chkG g).2, [])) ∨ ((chkG g).2 = 0 ∧ (cycG g).length > 0 ∧ vd10 g = (zSpot, 100, cycG g)) ∨ ((chkG g).2 = 0 ∧ (cycG g).length = 0 ∧ (loopsTo g g.length).length > 0 ∧ vd10 g = (List.getD (loopsTo g g.length) 0 zSpot, 101, [])) ∨ ((chkG g).2 = 0 ∧ (cycG g).length = 0 ∧ (loopsTo g g.length).length = 0 ∧ vd10 g = (zSpot, 0, [])) := by
  unfold vd10
  by_cases h : (chkG g).2 = 0
  · rw [if_neg (fun h2 => h2 h)]
    by_cases h1 : (cycG g).length > 0
    · rw [if_pos h1]; exact .inr (.inl ⟨h, h1, rfl⟩)
    · rw [if_neg h1]
      by_cases h2 : (loopsTo g g.length).length > 0
      · rw [if_pos h2]; exact .inr (.inr (.inl ⟨h, by omega, h2, rfl⟩))
      · rw [if_neg h2]; exact .inr (.inr (.inr ⟨h, by omega, by omega, rfl⟩))
  · rw [if_pos h]; exact .inl ⟨h, rfl⟩
theorem law_FordCycle (g : G) : F_law10_FordCycle ((g, ()), ()) = some (true, ()) := by
  have hle := chkG_le g
  unfold F_law10_FordCycle
  simp only [toPb, eqbS]
  rw [q_fCheck, bind_t]
  rcases vd_cases g with ⟨h0, hv⟩ | ⟨h0, h1, hv⟩ | ⟨h0, h1, h2, hv⟩ | ⟨h0, h1, h2, hv⟩
  · rw [hv]
    dsimp only
    rw [neg (by omega), neg (by omega), pb_t (by simp), sel_t, q_lives10, bind_t, bind_t]
  · have hg := rg_of h0
    have hn := hg.len
    rw [hv]
    dsimp only
    rw [pos rfl]
    have hx : ∃ r, Self (Hd g) g.length r := Classical.byContradiction fun h => by
      have : cycG g = [] := cyc_none h
      rw [this] at h1
      exact absurd h1 (by decide)
    obtain ⟨r, hr, hm⟩ := least hx
    have hmin : ∀ q, q < r → ¬ Self (Hd g) g.length q := fun q hq h3 => by have := hm q h3; omega
    have hc : cycG g = (r : Int) :: cycT (Hd g) r r (dst (Hd g) r r - 1) := cyc_some hr hmin
    have hd0 := hr.2
    have hdn := dst_le (to := r) (Hd_lt g) hr.1
    have hcl : (cycG g).length = dst (Hd g) r r := by rw [hc, List.length_cons, cycT_len]; omega
    have p1 := fun i hi => cyc_at (Hd_lt g) hr i hi
    have p2 := fun i a hi ha => cyc_edge (Hd_lt g) hr (i := i) (a := a) hi ha
    have p3 := fun i hi => cyc_twice (Hd_lt g) hr (i := i) hi
    have p4 := fun i hi => cyc_least (Hd_lt g) hr hmin (i := i) hi
    have p0 : List.getD (cycG g) 0 0 = (r : Int) := by rw [hc]; rfl
    rw [← hc] at p1 p2 p3 p4
    generalize dst (Hd g) r r = d at hcl hd0 hdn p1 p2 p3 p4
    generalize cycG g = c at hcl p0 p1 p2 p3 p4 ⊢
    refine loop_up (σ := (Int × Unit) × shapeD × List Int × GrammarD × Unit) d (fun i => (((i : Int), ()), zSpot, c, (g, ()), ())) rfl ?_ ?_
    · intro i hi
      obtain ⟨a, a1, a2, a3, a4⟩ := p1 i hi
      obtain ⟨q, q1, q2⟩ := p2 i a hi a1
      have hlook : lookE g (a : Int) = 0 := lookE_in h0 a4
      have hheads : heads10 g (a : Int) = listP g.length (Hd g a) := by
        unfold heads10
        rw [if_pos hlook, Int.toNat_natCast]
      have hhl := listP_len (n := g.length) (p := Hd g a)
      have hmod : ((i : Int) + 1) % (d : Int) = (((i + 1) % d : Nat) : Int) := by rw [Int.natCast_emod]; rfl
      have hmlt : (i + 1) % d < d := Nat.mod_lt _ (by omega)
      have p3i := p3 i hi
      have p4i := p4 i hi
      dsimp only
      simp only [Int.toNat_natCast, Nat.zero_add, hcl, List.drop_zero]
      rw [a1] at p3i p4i
      rw [hmod, Int.toNat_natCast, q1, p0, a1, pos (by omega), need_pos (by omega), need_pos (by omega), q_fHeads, bind_t, hlook, hheads]
      dsimp only
      rw [pb_t rfl, Bool.not_true, sel_f, need64 (by omega) (by omega), need_pos (by omega), need_pos (by omega), need_pos (by omega), q_has10 _ _ (by omega), bind_t, pb_t (mem_listP_nat.2 ⟨q2.2.1, q2⟩)]
      dsimp only
      rw [Bool.not_true, bind_t, sel_f, need_pos (by omega), need_pos (by omega), need_pos (by omega), need_pos (by omega), q_has10 _ _ (by rw [List.length_take]; omega), bind_t, pb_f p3i]
      dsimp only
      rw [bind_t, sel_f, need_pos (by omega), need_pos (by omega), need_pos (by omega), need_pos (by omega), pb_f p4i, bind_t, sel_f, need64 (by omega) (by omega), cast_succ]
    · dsimp only
      rw [hcl, neg (by omega), pos (by omega), q_lives10, bind_t, bind_t, bind_t]
  · have hl10 : loops10 g = loopsTo g g.length := by unfold loops10; rw [if_pos h0]
    rw [hv]
    dsimp only
    rw [neg (by decide), pos rfl, q_fLoops, bind_t, h0, hl10]
    dsimp only
    rw [pos rfl, pb_t (by omega), bind_t, sel_t, need_pos (by omega), pb_t rfl, bind_t, sel_t, pb_t (by simp), bind_t, sel_t, q_lives10, bind_t, bind_t]
  · rw [hv]
    dsimp only
    rw [neg (by decide), neg (by decide), pb_t (by simp), sel_t, q_lives10, bind_t, bind_t]
end Go.Proofs
