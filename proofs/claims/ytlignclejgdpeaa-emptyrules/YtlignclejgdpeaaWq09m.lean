/- Part of the proof of the law's row: YtlignclejgdpeaaWq09m. -/
import Derived.Test.YtlignclejgdpeaaWq09k
set_option linter.all false
set_option linter.unusedVariables false
set_option linter.unusedSimpArgs false
/-! Chapter 9: patterns' names, Of. -/
namespace Go.Proofs
open Go Go.Abs
set_option linter.unusedSimpArgs false
theorem partsV_len {g : G} {p : List NodeD} : (partsV g p).length = p.length := valsOf_len _ _ _ _
end Go.Proofs

/-! Chapter 9: the laws. -/
namespace Go.Proofs
open Go Go.Abs
set_option linter.unusedSimpArgs false
theorem wk_E0 : E wkG 0 0 := ⟨List.getD wk0 1 zNode, getD_in (by decide), rfl, wk_find⟩
theorem wk_ag0 : Ag (E wkG) 0 := ⟨0, wk_E0, Rt.refl 0⟩
theorem wk_ag1 : ¬ Ag (E wkG) 1 := by
  rintro ⟨q, ⟨n, h1, h2, _⟩, _⟩
  have h1 : n ∈ wk1 := h1
  simp only [wk1, List.mem_cons, List.not_mem_nil, or_false] at h1
  rcases h1 with rfl | rfl | rfl | rfl | rfl <;> exact absurd h2 (by decide)
theorem wk_last0 (now : List Em) : lastE wkG now 0 = val9 (fun _ => List.getD now 0 zEmptiness) wk0 4 := by
  refine val_ind2 (p := wk0) (by rw [wk_c0]) (fun a b => a = b) rfl (fun k hk a b a' b' ha hb => ?_) 4 (by decide)
  subst ha hb
  by_cases h6 : (nth wk0 k).1 = 6
  · have hk : k < 5 := hk
    have : k = 1 := by
      rcases (show k = 0 ∨ k = 1 ∨ k = 2 ∨ k = 3 ∨ k = 4 by omega) with rfl | rfl | rfl | rfl | rfl <;> first | rfl | exact absurd h6 (by decide)
    subst this
    have e : callE wkG now (nth wk0 ((1 : Nat) : Int)) = List.getD now 0 zEmptiness := by
      unfold callE
      rw [show findR wkG (nth wk0 ((1 : Nat) : Int)).2.2.1 = some 0 from wk_find]
      rfl
    rw [e]
  · unfold nodeE
    rw [if_neg h6, if_neg h6]
theorem wk_last1 (now : List Em) : lastE wkG now 1 = (false, true, 4, 5, ()) := by
  rw [← wk_c]
  refine val_ind2 (p := wk1) (by rw [wk_c1]) (fun a b => a = b) rfl (fun k hk a b a' b' ha hb => ?_) 4 (by decide)
  subst ha hb
  have h6 : ¬ (nth wk1 k).1 = 6 := by
    have hk : k < 5 := hk
    rcases (show k = 0 ∨ k = 1 ∨ k = 2 ∨ k = 3 ∨ k = 4 by omega) with rfl | rfl | rfl | rfl | rfl <;> decide
  unfold nodeE
  rw [if_neg h6, if_neg h6]
theorem wk_round (now : List Em) : roundE wkG now = [loopE true (val9 (fun _ => List.getD now 0 zEmptiness) wk0 4), (false, true, 4, 5, ())] := by
  have e0 : stepE wkG now 0 = loopE true (val9 (fun _ => List.getD now 0 zEmptiness) wk0 4) := by unfold stepE; rw [pb_t wk_ag0, wk_last0]
  have e1 : stepE wkG now 1 = (false, true, 4, 5, ()) := by unfold stepE; rw [pb_f wk_ag1, wk_last1]; rfl
  show [stepE wkG now 0, stepE wkG now 1] = _
  rw [e0, e1]
theorem wk_fix : fixG wkG = [(true, false, 0, -1, ()), (false, true, 4, 5, ())] := by
  have e1 : itE wkG 1 = [(true, false, 0, -1, ()), (false, true, 4, 5, ())] := by
    show roundE wkG (botL 2) = _
    rw [wk_round, ← wk_a]
    rfl
  have e2 : itE wkG 2 = itE wkG 1 := by
    show roundE wkG (itE wkG 1) = _
    rw [e1, wk_round, ← wk_b]
    rfl
  unfold fixG
  rw [if_pos wk_chk, fix_is e2, e1]
theorem q_works9 : F_law09_works () = some (true, ()) := by
  unfold F_law09_works
  have e := q_eRules wkG
  rw [wk_fix, wk_chk] at e
  simp only [toPb, eqbE]
  refine (congrArg (fun o => Option.bind o _) e).trans ?_
  rw [bind_t]
  dsimp only
  rw [pos rfl]
  simp [pb_true, need_pos, sel_t, bind_t]
theorem fixG_len (g : G) : (fixG g).length ≤ 200 := by
  unfold fixG
  split
  · rename_i h
    have hg := rg_of h
    rw [(fix_rg hg).1]
    exact hg.len
  · simp
theorem partsG_len (g : G) (r : Int) : (partsG g r).length ≤ 2048 := by
  unfold partsG
  split
  · rename_i h
    obtain ⟨hg, h0, h1⟩ := lookE_ok h
    have := good_len (hg.good (Int.toNat r) (by omega))
    rw [partsV_len]
    omega
  · simp
theorem law_EmptyRules (g : G) (r : Int) (h : SzG g) : F_law09_EmptyRules ((g, ()), r, ()) = some (true, ()) := by
  have hfl := fixG_len g
  have hpl := partsG_len g r
  unfold F_law09_EmptyRules
  dsimp only
  rw [show (fun (y : RuleD) => ((y.1, (y.2.1, List.length y.2.1), ()) : RuleLD)) = liftR from rfl, show (fun (y : RuleLD) => ((y.1, List.take y.2.1.2 y.2.1.1, ()) : RuleD)) = plainR from rfl, q_lendG g h, bind_t]
  dsimp only
  simp only [toPb]
  rw [plain_lent, plain_lift, q_eRules, bind_t, bind_t, q_rRules, bind_t, q_eParts, bind_t, q_rParts, bind_t]
  dsimp only
  rw [q_same9 _ _ (by omega), pb_t rfl, bind_t]
  dsimp only
  rw [Bool.not_true, sel_f, pb_t rfl, Bool.not_true, bind_t, sel_f, q_same9 _ _ (by omega), pb_t rfl, bind_t]
  dsimp only
  rw [Bool.not_true, bind_t, sel_f, pb_t rfl, Bool.not_true, bind_t, sel_f]
  refine loop_up (σ := (Int × Unit) × List EmptinessD × List EmptinessD × GrammarLD × GrammarLD × Unit) (fixG g).length (fun i => (((i : Int), ()), fixG g, gone (fixG g) (fun _ => ((false, false, (-7 : Int), (0 : Int), ()) : Em)) i, ((lentG g, g.length), ()), ((List.map liftR g, g.length), ()), ())) rfl ?_ ?_
  · intro i hi
    have hgl : (gone (fixG g) (fun _ => ((false, false, (-7 : Int), (0 : Int), ()) : Em)) i).length = (fixG g).length := gone_len (by omega)
    dsimp only
    simp only [Int.toNat_natCast, Nat.zero_add, hgl]
    rw [pos (by omega), need_pos (by omega), need_pos hi, need64 (by omega) (by omega), cast_succ, ← gone_set (f := fun _ => ((false, false, (-7 : Int), (0 : Int), ()) : Em)) hi]
  · have hgl : (gone (fixG g) (fun _ => ((false, false, (-7 : Int), (0 : Int), ()) : Em)) (fixG g).length).length = (fixG g).length := gone_len (by omega)
    dsimp only
    rw [hgl, neg (by omega), q_same9 _ _ (by omega), pb_t rfl, bind_t]
    dsimp only
    rw [sel_t, q_keptG g h, bind_t]
    dsimp only
    rw [bind_t, sel_t, q_works9]
    rfl
end Go.Proofs
