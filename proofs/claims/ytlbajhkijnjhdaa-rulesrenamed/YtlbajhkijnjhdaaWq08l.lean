/- Part of the proof of the law's row: YtlbajhkijnjhdaaWq08l. -/
import Derived.Test.YtlbajhkijnjhdaaWq08k
set_option linter.all false
set_option linter.unusedVariables false
set_option linter.unusedSimpArgs false
/-! Chapter 8: the law RulesRenamed. -/
namespace Go.Proofs
open Go Go.Abs
theorem both_same {R : Type} (x : Option R) : both x x = x := by unfold both; rw [if_pos rfl]
theorem nameB_none : nameB zStr = false := by
  unfold nameB
  rw [if_pos]
  rw [decide_eq_true (show zStr = ⟨#[]⟩ from rfl)]
  rfl
theorem law_RulesRenamed (g : G) (r : Int) (s : ByteArray) : F_law08_RulesRenamed ((g, ()), r, s, ()) = some (true, ()) := by
  unfold F_law08_RulesRenamed
  simp only [toPb, both_same]
  rw [q_rename, bind_t]
  dsimp only
  by_cases h : renE g r s = 0
  case neg =>
    rw [nneg h, q_lives8, bind_t, if_neg h]
    dsimp only
    rw [sel_t, bind_t, pb_t (by simp)]
  obtain ⟨h1, H⟩ := renE_ok h
  obtain ⟨hg, h2, h3⟩ := lookE_ok h1
  obtain ⟨rr, rfl⟩ : ∃ rr : Nat, r = (rr : Int) := ⟨r.toNat, by omega⟩
  rw [Int.toNat_natCast] at H
  have hl := hg.len
  have hgh := rg_of H.isRight
  have hlh := @renG_len g rr s
  rw [npos h, if_pos h, Int.toNat_natCast]
  have hfind : F_rules_Find ((renG g rr s, ()), s, ()) = some ((rr : Int), 0, ()) := by
    unfold F_rules_Find
    simp only [toPb]
    have h0 : (chkG (renG g rr s)).2 = 0 := H.isRight
    rw [q_checkG, bind_t]
    dsimp only [outE]
    rw [npos h0, q_numbers _ (by omega), bind_t]
    dsimp only
    rw [nums_find, H.new]
    rfl
  rw [hfind, bind_t]
  dsimp only
  rw [npos rfl, bind_t, pb_t rfl]
  simp only [Bool.not_true, sel_f]
  rw [bind_t, pb_t (by omega)]
  simp only [Bool.not_true, sel_f]
  refine loop_up (σ := (Int × Unit) × GrammarD × GrammarD × Unit) (ρ := Bool × Unit) g.length (fun i => (((i : Int), ()), (renG g rr s, ()), (g, ()), ())) rfl ?_ ?_
  · intro i hi
    have hi2 : i < (renG g rr s).length := by omega
    have he : listP (renG g rr s).length (E (renG g rr s) i) = listP g.length (E g i) := by
      rw [hlh]
      exact listP_congr fun q _ => H.e hi
    have hrl := @listP_len g.length (E g i)
    dsimp only
    rw [pos (by omega), q_calls8, bind_t, q_calls8, bind_t, if_pos (lookE_in H.right hi), lookE_in H.right hi, if_pos (lookE_in H.isRight hi2), lookE_in H.isRight hi2, Int.toNat_natCast, he]
    dsimp only
    rw [npos rfl, bind_t, pb_t rfl]
    simp only [Bool.not_true, sel_f]
    rw [q_ints _ (by omega), bind_t, bind_t]
    simp only [Bool.not_true, sel_f]
    rw [need64 (by omega) (by omega), cast_succ]
  · dsimp only
    have hfold : List.getD g rr zRule = rth g rr := rfl
    rw [neg (by omega), need_pos ⟨by omega, by omega⟩, hfold, q_rename, bind_t, need_pos ⟨by omega, by omega⟩]
    by_cases hw : (rth g rr).1 = zStr
    · have hr6 : renE (renG g rr s) (rr : Int) (rth g rr).1 = 6 := by
        unfold renE
        rw [if_neg (by simpa using lookE_in H.isRight (by omega)), hw, if_pos nameB_none]
      rw [pos hw, hr6]
      dsimp only
      rw [pb_t rfl, sel_t, q_lives8]
      rfl
    · have hr0 := renE_of (H.again hw)
      rw [neg hw, hr0, if_pos rfl, Int.toNat_natCast, H.back]
      dsimp only
      rw [pb_t rfl, sel_t, q_sameG hg, q_lives8]
      rfl
end Go.Proofs
