/- Part of the proof of the law's row: YtlignclejgdpeaaWq09m. -/
import Derived.Test.YtlignclejgdpeaaWq09l
set_option linter.all false
set_option linter.unusedVariables false
set_option linter.unusedSimpArgs false
/-! Chapter 9: the laws. -/
namespace Go.Proofs
open Go Go.Abs
set_option linter.unusedSimpArgs false
theorem wk_E0 : E wkG 0 0 := ⟨List.getD wk0 1 zNode, getD_in (by decide), rfl, wk_find⟩
theorem wk_ag0 : Ag (E wkG) 0 := ⟨0, wk_E0, Rt.refl 0⟩
theorem wk_ag1 : ¬ Ag (E wkG) 1 := by
  rintro ⟨q, ⟨n, h1, h2, _⟩, _⟩
  have h1 : n ∈ wk1 := h1
  simp only [wk1, List.mem_cons, List.not_mem_nil, or_false] at h1
  rcases h1 with rfl | rfl | rfl | rfl | rfl <;> exact absurd h2 (by decide)
theorem wk_last0 (now : List Em) : lastE wkG now 0 = val9 (fun _ => List.getD now 0 zEmptiness) wk0 4 := by
  refine val_ind2 (p := wk0) (by rw [wk_c0]) (fun a b => a = b) rfl (fun k hk a b a' b' ha hb => ?_) 4 (by decide)
  subst ha hb
  by_cases h6 : (nth wk0 k).1 = 6
  · have hk : k < 5 := hk
    have : k = 1 := by
      rcases (show k = 0 ∨ k = 1 ∨ k = 2 ∨ k = 3 ∨ k = 4 by omega) with rfl | rfl | rfl | rfl | rfl <;> first | rfl | exact absurd h6 (by decide)
    subst this
    have e : callE wkG now (nth wk0 ((1 : Nat) : Int)) = List.getD now 0 zEmptiness := by
      unfold callE
      rw [show findR wkG (nth wk0 ((1 : Nat) : Int)).2.2.1 = some 0 from wk_find]
      rfl
    rw [e]
  · unfold nodeE
    rw [if_neg h6, if_neg h6]
theorem wk_last1 (now : List Em) : lastE wkG now 1 = (false, true, 4, 5, ()) := by
  rw [← wk_c]
  refine val_ind2 (p := wk1) (by rw [wk_c1]) (fun a b => a = b) rfl (fun k hk a b a' b' ha hb => ?_) 4 (by decide)
  subst ha hb
  have h6 : ¬ (nth wk1 k).1 = 6 := by
    have hk : k < 5 := hk
    rcases (show k = 0 ∨ k = 1 ∨ k = 2 ∨ k = 3 ∨ k = 4 by omega) with rfl | rfl | rfl | rfl | rfl <;> decide
  unfold nodeE
  rw [if_neg h6, if_neg h6]
theorem wk_round (now : List Em) : roundE wkG now = [loopE true (val9 (fun _ => List.getD now 0 zEmptiness) wk0 4), (false, true, 4, 5, ())] := by
  have e0 : stepE wkG now 0 = loopE true (val9 (fun _ => List.getD now 0 zEmptiness) wk0 4) := by unfold stepE; rw [pb_t wk_ag0, wk_last0]
  have e1 : stepE wkG now 1 = (false, true, 4, 5, ()) := by unfold stepE; rw [pb_f wk_ag1, wk_last1]; rfl
  show [stepE wkG now 0, stepE wkG now 1] = _
  rw [e0, e1]
theorem wk_fix : fixG wkG = [(true, false, 0, -1, ()), (false, true, 4, 5, ())] := by
  have e1 : itE wkG 1 = [(true, false, 0, -1, ()), (false, true, 4, 5, ())] := by
    show roundE wkG (botL 2) = _
    rw [wk_round, ← wk_a]
    rfl
  have e2 : itE wkG 2 = itE wkG 1 := by
    show roundE wkG (itE wkG 1) = _
    rw [e1, wk_round, ← wk_b]
    rfl
  unfold fixG
  rw [if_pos wk_chk, fix_is e2, e1]
theorem q_works9 : F_law09_works () = some (true, ()) := by
  unfold F_law09_works
  have e := q_eRules wkG
  rw [wk_fix, wk_chk] at e
  simp only [toPb, eqbE]
  refine (congrArg (fun o => Option.bind o _) e).trans ?_
  rw [bind_t]
  dsimp only
  rw [pos rfl]
  simp [pb_true, need_pos, sel_t, bind_t]
/-- A right pattern's parts are as they must be, if the rules are. -/
theorem in_vals {c : NodeD → Em} {p : List NodeD} (hp : (chkP p).2 = 0) (hc : ∀ k, k < p.length → (nth p k).1 = 6 → InE (c (nth p k))) : ∀ k, k < p.length → InE (val9 c p k) := by
  refine val_ind hp InE fun k hk a b h0 h1 h2 => ?_
  have hn := nodeOk_of hp hk
  have hr : RgE a ∧ RgE b := by
    rcases (show arity (nth p k).1 = 0 ∨ arity (nth p k).1 = 1 ∨ arity (nth p k).1 = 2 by have := (node_ok (look_of hp hk)).1; have := arity_le (nth p k).1; omega) with h | h | h
    · rw [(h0 h).1, (h0 h).2]; exact ⟨rg_zero, rg_zero⟩
    · rw [(h1 h).2]; exact ⟨(h1 h).1.1, rg_zero⟩
    · exact ⟨(h2 h).1.1, (h2 h).2.1⟩
  refine in_node hn (hc k hk) (fun ha => ?_) (fun h => (h2 h).2) hr.1 hr.2
  rcases (show arity (nth p k).1 = 1 ∨ arity (nth p k).1 = 2 by have := (node_ok (look_of hp hk)).1; have := arity_le (nth p k).1; omega) with h | h
  · exact (h1 h).1
  · exact (h2 h).1
theorem in_loop {l : Bool} {a : Em} (h : InE a) : InE (loopE l a) := by
  unfold loopE
  split
  · exact ⟨⟨h.1.1, h.1.2.1, Int.le_refl (-1), (by decide : (-1 : Int) ≤ 1048576)⟩, h.2.1, fun _ h2 => absurd h2 (by show ¬ (0 : Int) ≤ -1; decide)⟩
  · exact h
theorem fix_in {g : G} (hg : RG g) : ∀ i, i < g.length → InE (List.getD (fixE g) i zEmptiness) := by
  refine fix_ind hg (fun l => ∀ i, i < g.length → InE (List.getD l i zEmptiness)) ?_ ?_
  · intro i hi
    rw [bot_at hi]
    exact ⟨by simp [RgE, botE], by simp [botE], fun h => absurd h (by decide)⟩
  · intro l hl ih i hi
    obtain ⟨h1, h2, _⟩ := good_pos hg hi
    unfold roundE
    rw [genR_get hi]
    refine in_loop (in_vals h1 (fun k _ _ => ?_) _ (by omega))
    obtain ⟨q, hq, e⟩ := call_in hg (nth (rth g i).2.1 k)
    rw [e]
    exact ih q hq
theorem parts_in {g : G} (hg : RG g) {i : Nat} (hi : i < g.length) : ∀ k, k < (rth g i).2.1.length → InE (List.getD (partsV g (rth g i).2.1) k zEmptiness) := by
  intro k hk
  unfold partsV
  rw [show List.getD (vals9 (callE g (fixE g)) (rth g i).2.1 (rth g i).2.1.length) k zEmptiness = val9 (callE g (fixE g)) (rth g i).2.1 k from valsOf_at _ _ _ hk]
  refine in_vals (good_pos hg hi).1 (fun k _ _ => ?_) _ hk
  obtain ⟨q, hq, e⟩ := call_in hg (nth (rth g i).2.1 k)
  rw [e]
  exact fix_in hg q hq
theorem look_rule {g : G} (hg : RG g) {i : Nat} (hi : i < g.length) : lookV g (rth g i).2.1 = 0 := by
  refine lookV_ok (good_pos hg hi).1 ?_
  rintro ⟨k, h1, h2, h3⟩
  obtain ⟨q, hq⟩ := hg.calls (rth g i) (getD_memR hi) _ (getD_in h1) h2
  rw [hq] at h3
  cases h3
theorem valG_step {g : G} (hg : RG g) {i : Nat} (hi : i < g.length) : List.getD (fixE g) i zEmptiness = loopE (pb (Ag (E g) i)) (valG g (rth g i).2.1) := by
  conv => lhs; rw [← fix_fix hg]
  unfold roundE
  rw [genR_get hi]
  unfold stepE valG partsV
  rw [last_at (good_pos hg hi).2.1]
theorem law_EmptyLeast (g : G) : F_law09_EmptyLeast ((g, ()), ()) = some (true, ()) := by
  unfold F_law09_EmptyLeast
  simp only [toPb, eqbE, both_eq]
  rw [q_works9, bind_t]
  dsimp only
  rw [Bool.not_true, sel_f, q_eRules, bind_t]
  dsimp only
  by_cases h : (chkG g).2 = 0
  · have hg := rg_of h
    have hn := hg.len
    have hF := fix_rg hg
    have hFl : (fixG g) = fixE g := by unfold fixG; rw [if_pos h]
    rw [npos h, hFl, hF.1, npos rfl]
    refine loop_up (σ := (Int × Unit) × List EmptinessD × GrammarD × Unit) g.length (fun i => (((i : Int), ()), fixE g, (g, ()), ())) rfl ?_ ?_
    · intro i hi
      obtain ⟨p1, p2, p3⟩ := good_pos hg hi
      have hbody : List.getD g i zRule = rth g i := rfl
      have hl0 : lookE g (i : Int) = 0 := lookE_in h hi
      have hpg : partsG g (i : Int) = partsV g (rth g i).2.1 := by unfold partsG; rw [if_pos hl0]; rfl
      have ho : ofC g (rth g i).2.1 = 0 := by rw [ofC_ok h, look_rule hg hi]
      have hvl := partsV_len (g := g) (p := (rth g i).2.1)
      have e1 : Int.toNat (((rth g i).2.1.length : Int) - 1) = (rth g i).2.1.length - 1 := by omega
      dsimp only
      simp only [Int.toNat_natCast, Nat.zero_add, hbody, hF.1]
      rw [pos (by omega), q_eParts, bind_t]
      dsimp only
      rw [need_pos (by omega), q_eOf, bind_t]
      dsimp only
      rw [hl0, ho, hpg, ofV_ok ho]
      simp only [hvl, e1]
      have eV : List.getD (partsV g (rth g i).2.1) ((rth g i).2.1.length - 1) zEmptiness = valG g (rth g i).2.1 := rfl
      have f1 : (List.getD (fixE g) i zEmptiness).1 = (valG g (rth g i).2.1).1 := by rw [valG_step hg hi]; unfold loopE; split <;> rfl
      have f2 : (List.getD (fixE g) i zEmptiness).2.1 = (valG g (rth g i).2.1).2.1 := by rw [valG_step hg hi]; unfold loopE; split <;> rfl
      have f3 : (List.getD (fixE g) i zEmptiness).2.2.1 = (valG g (rth g i).2.1).2.2.1 := by rw [valG_step hg hi]; unfold loopE; split <;> rfl
      have f4 : (List.getD (fixE g) i zEmptiness).2.2.2.1 ≥ 0 → (valG g (rth g i).2.1).2.2.2.1 = (List.getD (fixE g) i zEmptiness).2.2.2.1 := by
        rw [valG_step hg hi]
        unfold loopE
        split
        · intro h; exact absurd h (by show ¬ (-1 : Int) ≥ 0; decide)
        · intro _; rfl
      rw [eV, f1, f2, f3]
      have f5 : sel (pb ((List.getD (fixE g) i zEmptiness).2.2.2.1 ≥ 0)) (need ((0 : Int) ≤ (i : Int) ∧ (i : Int) < (g.length : Int)) (need (i < g.length) (some (!pb ((valG g (rth g i).2.1).2.2.2.1 = (List.getD (fixE g) i zEmptiness).2.2.2.1))))) (some false) = some false := by
        by_cases h4 : (List.getD (fixE g) i zEmptiness).2.2.2.1 ≥ 0
        · rw [pos h4, need_pos (show (0 : Int) ≤ (i : Int) ∧ (i : Int) < (g.length : Int) by omega), need_pos hi, pb_t (f4 h4)]; rfl
        · rw [neg h4]
      rw [f5]
      have t1 : pb (((rth g i).2.1.length : Int) = 0) = false := pb_f (by omega)
      have t2 : (0 : Int) ≤ ((rth g i).2.1.length : Int) - 1 ∧ ((rth g i).2.1.length : Int) - 1 < ((rth g i).2.1.length : Int) := by omega
      have t3 : (rth g i).2.1.length - 1 < (rth g i).2.1.length := by omega
      have t4 : (0 : Int) ≤ (i : Int) ∧ (i : Int) < (g.length : Int) := by omega
      have t5 : ∀ {R : Type} {k : Option R}, need (Fits Go.IntKind.i64 (((rth g i).2.1.length : Int) - 1)) k = k := need64 (by omega) (by omega)
      simp only [pb_true, t1, t5, need_pos t2, need_pos t3, need_pos t4, need_pos hi, Bool.not_true, sel_f, bind_t, beq_self_eq_true]
      have hin := parts_in hg hi
      generalize partsV g (rth g i).2.1 = P at hvl hin ⊢
      refine loop_up (σ := (Int × Unit) × List EmptinessD × List EmptinessD × GrammarD × Unit) (rth g i).2.1.length (fun k => (((k : Int), ()), P, fixE g, (g, ()), ())) rfl ?_ ?_
      · intro k hk
        obtain ⟨⟨r1, r2, r3, r4⟩, n1, n2⟩ := hin k hk
        dsimp only
        simp only [Int.toNat_natCast, hvl]
        generalize List.getD P k zEmptiness = a at r1 r2 r3 r4 n1 n2 ⊢
        have c1 : (a.1 == pb (a.2.2.1 = 0)) = true := by
          by_cases ha : a.2.2.1 = 0
          · rw [pb_t ha, n1.2 ha]; rfl
          · rw [pb_f ha]
            cases h : a.1 with
            | false => rfl
            | true => exact absurd (n1.1 h) ha
        have c2 : Option.bind (sel (pb (a.2.2.1 ≥ 0)) (some (pb (a.2.2.2.1 ≥ 0))) (some false)) (fun v8 => Option.bind (sel v8 (some (pb (a.2.2.1 > a.2.2.2.1))) (some false)) (fun v6 : Bool => some v6)) = some false := by
          by_cases h1 : a.2.2.1 ≥ 0
          · rw [pos h1, bind_t]
            by_cases h2 : a.2.2.2.1 ≥ 0
            · have := n2 h1 h2
              rw [pos h2, bind_t, pb_f (by omega)]
            · rw [neg h2, bind_t]
          · rw [neg h1, bind_t, sel_f, bind_t]
        rw [pos (by omega), need_pos (by omega), need_pos hk, c1, c2, Bool.not_true, sel_f, bind_t, sel_f, bind_t, pb_f (by omega), sel_f, bind_t, pb_f (by omega), sel_f, need64 (by omega) (by omega), cast_succ]
      · dsimp only
        rw [neg (by omega), need64 (by omega) (by omega), bind_t, cast_succ]
    · dsimp only
      rw [hF.1, neg (by omega)]
  · have hFl : (fixG g) = [] := by unfold fixG; rw [if_neg h]
    rw [nneg h, hFl, pb_t (show ((List.length ([] : List Em) : Nat) : Int) = 0 from rfl)]
end Go.Proofs
