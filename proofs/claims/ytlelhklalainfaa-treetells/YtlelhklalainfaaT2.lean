/- Part of the proof of the law's row: YtlelhklalainfaaT2. -/
import Derived.Test.YtlelhklalainfaaT1
import Derived.Test.YtlelhklalainfaaAbsW
set_option linter.all false
set_option linter.unusedVariables false
set_option linter.unusedSimpArgs false
namespace Go.Proofs
open Go.Abs
attribute [local irreducible] AW Abs.Fin thenQ blockQ Le
def samePat : List tNode.Den → List tNode.Den → Bool
  | [], [] => true
  | x :: xs, y :: ys => if (!Ty.eqb tNode x y) = true then false else samePat xs ys
  | _, _ => false
theorem samePat_len {a b : List tNode.Den} (h : a.length ≠ b.length) : samePat a b = false := by
  induction a generalizing b with
  | nil => cases b <;> simp_all [samePat]
  | cons x xs ih => cases b with
    | nil => rfl
    | cons y ys =>
      simp only [samePat]
      split
      · rfl
      · exact ih (by simpa using h)
theorem samePat_step {a b : List tNode.Den} {i : Nat} (hi : i < a.length) (hl : a.length = b.length) :
    samePat (a.drop i) (b.drop i) = if (!Ty.eqb tNode (a.getD i tNode.dflt) (b.getD i tNode.dflt)) = true then false else samePat (a.drop (i + 1)) (b.drop (i + 1)) := by
  rw [List.drop_eq_getElem_cons hi, List.drop_eq_getElem_cons (show i < b.length by omega), samePat, List.getD_eq_getElem?_getD, List.getD_eq_getElem?_getD, List.getElem?_eq_getElem hi, List.getElem?_eq_getElem (show i < b.length by omega)]
  rfl
set_option maxHeartbeats 400000 in
theorem f19_ok : FnOk Try.prog 19 (dspec [.sl 48 tNode, .sl 48 tNode] fun x => some ([], .data .bool (samePat x.1 x.2.1), none)) := by
  have hΦ : FnsOk GT.P [] := fns_nil
  refine fn_data (Γ := GT) (rs := [.tmp 4]) Try.func19 rfl rfl Try.ntmps19 (by decide) ?_
  rintro S0 w0 ⟨a, b, ⟨⟩⟩ ps r ob h _ hw
  simp only [Option.some.injEq, Prod.mk.injEq] at h
  obtain ⟨rfl, rfl, rfl⟩ := h
  simp only [Wfs, Wf] at hw
  simp only [dataArgs]
  repeat' (first
    | refine aw_seq ?_
    | refine aw_region GT_ok hΦ rfl (by (simp only [go_sem, GT, Nat.reduceEqDiff, Nat.reduceSub, Nat.reduceMul, Nat.reduceLeDiff, Nat.reduceAdd, Nat.reduceLT, Nat.reduceBEq, reduceIte, reduceCtorEq, Int.reduceToNat]); exact rfl) ?_ ?_
    | refine aw_draw GT_ok hΦ rfl (by kernel_rfl) (by (simp only [go_sem, GT, Nat.reduceEqDiff, Nat.reduceSub, Nat.reduceMul, Nat.reduceLeDiff, Nat.reduceAdd, Nat.reduceLT, Nat.reduceBEq, reduceIte, reduceCtorEq, Int.reduceToNat]); exact rfl) ?_ ?_
    | refine aw_cond (by (simp only [go_sem, GT, Nat.reduceEqDiff, Nat.reduceSub, Nat.reduceMul, Nat.reduceLeDiff, Nat.reduceAdd, Nat.reduceLT, Nat.reduceBEq, reduceIte, reduceCtorEq, Int.reduceToNat]); exact rfl) ?_ ?_ ?_
    | refine aw_ret ?_
    | refine aw_skip ?_
    | refine aw_block ?_
    | refine aw_exit ?_
    | refine tq_ret ?_
    | refine tq_exit ?_
    | refine bq_ret ?_
    | refine bq_normal ?_
    | refine bq_exit ?_
    | refine bq_out (by decide) ?_
    | refine tq_normal ?_
    | exact nop
    | (refine fun (hc : (_ : Bool) = _) => ?_; first | assumption | exact hc | (simp only [Bool.not_eq_true', Bool.not_eq_false', decide_eq_true_eq, decide_eq_false_iff_not, Bool.and_eq_true, Bool.or_eq_true, Bool.or_eq_false_iff, Bool.and_eq_false_imp, Int.not_lt, Int.not_le, Classical.not_not, ne_eq, reduceCtorEq, gt_iff_lt, ge_iff_le, Bool.true_eq_false, Bool.false_eq_true, eq_self, not_true, not_false_eq_true] at hc; first | done | (exfalso; omega) | skip) | skip)
    | simp only [List.mem_cons, List.not_mem_nil, forall_eq_or_imp, false_implies, implies_true, and_true, true_and, or_false, forall_eq]
    | refine fin_data (.inl rfl) (by (simp only [go_sem, GT, Nat.reduceEqDiff, Nat.reduceSub, Nat.reduceMul, Nat.reduceLeDiff, Nat.reduceAdd, Nat.reduceLT, Nat.reduceBEq, reduceIte, reduceCtorEq, Int.reduceToNat]); exact rfl) ?_ ?_
    | refine fin_pure (.inl rfl) (by (simp only [go_sem, GT, Nat.reduceEqDiff, Nat.reduceSub, Nat.reduceMul, Nat.reduceLeDiff, Nat.reduceAdd, Nat.reduceLT, Nat.reduceBEq, reduceIte, reduceCtorEq, Int.reduceToNat]); exact rfl) ?_ (tup_congr ?_)
    | refine fin_pure (.inr rfl) (by (simp only [go_sem, GT, Nat.reduceEqDiff, Nat.reduceSub, Nat.reduceMul, Nat.reduceLeDiff, Nat.reduceAdd, Nat.reduceLT, Nat.reduceBEq, reduceIte, reduceCtorEq, Int.reduceToNat]); exact rfl) ?_ (tup_congr ?_)
    | refine cons_congr (data_congr ?_) ?_
    | exact trivial
    | assumption
    | exact fun h => h
    | refine And.intro ?_ ?_
    | rfl
    | omega
    | (show (_ : Int) ≤ _; omega)
    | (show (_ : Int) < _; omega)
    | (refine fits_i64 ?_ ?_ <;> omega)
    | (show (_ : Bool) = true; simp only [Bool.not_eq_true', Bool.not_eq_false', decide_eq_true_eq, decide_eq_false_iff_not, Bool.and_eq_true, Bool.or_eq_true, Bool.or_eq_false_iff, Bool.and_eq_false_imp, Int.not_lt, Int.not_le, Classical.not_not, ne_eq, reduceCtorEq, gt_iff_lt, ge_iff_le, Bool.true_eq_false, Bool.false_eq_true, eq_self, not_true, not_false_eq_true]; first | omega | (refine And.intro ?_ ?_ <;> first | assumption | omega))
    | (simp only [Bool.not_eq_true', Bool.not_eq_false', decide_eq_true_eq, decide_eq_false_iff_not, Bool.and_eq_true, Bool.or_eq_true, Bool.or_eq_false_iff, Bool.and_eq_false_imp, Int.not_lt, Int.not_le, Classical.not_not, ne_eq, reduceCtorEq, gt_iff_lt, ge_iff_le, Bool.true_eq_false, Bool.false_eq_true, eq_self, not_true, not_false_eq_true]; omega))
  · rw [samePat_len (by omega)]
  · have hl : List.length a = List.length b := by omega
    refine aw_loop (σ := {i : Nat // i ≤ List.length a ∧ samePat (List.drop i a) (List.drop i b) = samePat a b}) (fun i => ⟨[(5, .data (.int .i64) (i.1 : Int)), (0, .data (.sl 48 tNode) a), (1, .data (.sl 48 tNode) b)], [], 26⟩) (fun i => List.length a - i.1) ⟨0, by simp, by simp⟩ (Le.drop (by simp [Abs.get]) (by simp) rfl) ?_
    rintro ⟨i, hi, hs⟩
    repeat' (first
      | refine aw_seq ?_
      | refine aw_region GT_ok hΦ rfl (by (simp only [go_sem, GT, Nat.reduceEqDiff, Nat.reduceSub, Nat.reduceMul, Nat.reduceLeDiff, Nat.reduceAdd, Nat.reduceLT, Nat.reduceBEq, reduceIte, reduceCtorEq, Int.reduceToNat]); exact rfl) ?_ ?_
      | refine aw_draw GT_ok hΦ rfl (by kernel_rfl) (by (simp only [go_sem, GT, Nat.reduceEqDiff, Nat.reduceSub, Nat.reduceMul, Nat.reduceLeDiff, Nat.reduceAdd, Nat.reduceLT, Nat.reduceBEq, reduceIte, reduceCtorEq, Int.reduceToNat]); exact rfl) ?_ ?_
      | refine aw_cond (by (simp only [go_sem, GT, Nat.reduceEqDiff, Nat.reduceSub, Nat.reduceMul, Nat.reduceLeDiff, Nat.reduceAdd, Nat.reduceLT, Nat.reduceBEq, reduceIte, reduceCtorEq, Int.reduceToNat]); exact rfl) ?_ ?_ ?_
      | refine aw_ret ?_
      | refine aw_skip ?_
      | refine aw_block ?_
      | refine aw_exit ?_
      | refine tq_ret ?_
      | refine tq_exit ?_
      | refine bq_ret ?_
      | refine bq_normal ?_
      | refine bq_exit ?_
      | refine bq_out (by decide) ?_
      | refine tq_normal ?_
      | exact nop
      | (refine fun (hc : (_ : Bool) = _) => ?_; first | assumption | exact hc | (simp only [Bool.not_eq_true', Bool.not_eq_false', decide_eq_true_eq, decide_eq_false_iff_not, Bool.and_eq_true, Bool.or_eq_true, Bool.or_eq_false_iff, Bool.and_eq_false_imp, Int.not_lt, Int.not_le, Classical.not_not, ne_eq, reduceCtorEq, gt_iff_lt, ge_iff_le, Bool.true_eq_false, Bool.false_eq_true, eq_self, not_true, not_false_eq_true] at hc; first | done | (exfalso; omega) | skip) | skip)
      | simp only [List.mem_cons, List.not_mem_nil, forall_eq_or_imp, false_implies, implies_true, and_true, true_and, or_false, forall_eq]
      | refine fin_data (.inl rfl) (by (simp only [go_sem, GT, Nat.reduceEqDiff, Nat.reduceSub, Nat.reduceMul, Nat.reduceLeDiff, Nat.reduceAdd, Nat.reduceLT, Nat.reduceBEq, reduceIte, reduceCtorEq, Int.reduceToNat]); exact rfl) ?_ ?_
      | refine fin_pure (.inl rfl) (by (simp only [go_sem, GT, Nat.reduceEqDiff, Nat.reduceSub, Nat.reduceMul, Nat.reduceLeDiff, Nat.reduceAdd, Nat.reduceLT, Nat.reduceBEq, reduceIte, reduceCtorEq, Int.reduceToNat]); exact rfl) ?_ (tup_congr ?_)
      | refine fin_pure (.inr rfl) (by (simp only [go_sem, GT, Nat.reduceEqDiff, Nat.reduceSub, Nat.reduceMul, Nat.reduceLeDiff, Nat.reduceAdd, Nat.reduceLT, Nat.reduceBEq, reduceIte, reduceCtorEq, Int.reduceToNat]); exact rfl) ?_ (tup_congr ?_)
      | refine cons_congr (data_congr ?_) ?_
      | exact trivial
      | assumption
      | exact fun h => h
      | refine And.intro ?_ ?_
      | rfl
      | omega
      | (show (_ : Int) ≤ _; omega)
      | (show (_ : Int) < _; omega)
      | (refine fits_i64 ?_ ?_ <;> omega)
      | (show (_ : Bool) = true; simp only [Bool.not_eq_true', Bool.not_eq_false', decide_eq_true_eq, decide_eq_false_iff_not, Bool.and_eq_true, Bool.or_eq_true, Bool.or_eq_false_iff, Bool.and_eq_false_imp, Int.not_lt, Int.not_le, Classical.not_not, ne_eq, reduceCtorEq, gt_iff_lt, ge_iff_le, Bool.true_eq_false, Bool.false_eq_true, eq_self, not_true, not_false_eq_true]; first | omega | (refine And.intro ?_ ?_ <;> first | assumption | omega))
      | (simp only [Bool.not_eq_true', Bool.not_eq_false', decide_eq_true_eq, decide_eq_false_iff_not, Bool.and_eq_true, Bool.or_eq_true, Bool.or_eq_false_iff, Bool.and_eq_false_imp, Int.not_lt, Int.not_le, Classical.not_not, ne_eq, reduceCtorEq, gt_iff_lt, ge_iff_le, Bool.true_eq_false, Bool.false_eq_true, eq_self, not_true, not_false_eq_true]; omega))
    · rw [← hs, samePat_step (by omega) hl]
      simp only [hc, Bool.not_false, if_true]
    · exact ⟨⟨i + 1, by omega, by rw [← hs, samePat_step (i := i) (by omega) hl]; simp only [hc, Bool.not_true, Bool.false_eq_true, if_false]⟩, Le.drop (by simp [Abs.get]) (by simp) rfl, by simp only; omega⟩
    · rw [← hs, List.drop_of_length_le (by omega), List.drop_of_length_le (by omega)]
      rfl
end Go.Proofs
