/- Part of the proof of the law's row: YtlelhklalainfaaWL. -/
import Derived.Test.YtlelhklalainfaaWK
set_option linter.all false
set_option linter.unusedVariables false
set_option linter.unusedSimpArgs false
namespace Go.Proofs
open Go.Abs
attribute [local irreducible] AW Abs.Fin thenQ blockQ Le
noncomputable def Φ15 : Fns := [(11, s11), (14, dspec [] fun x => some ([], .data .bool true, none)), (17, s17), (20, s20), (21, s20), (22, s22), (23, s22), (24, s24)]
theorem Φ15_ok : FnsOk GT.P Φ15 := fns_cons f11_ok (by kernel_rfl) (fns_cons f14_ok (by kernel_rfl) (fns_cons f17_ok (by kernel_rfl) (fns_cons f20_ok (by kernel_rfl) (fns_cons f21_ok (by kernel_rfl) (fns_cons f22_ok (by kernel_rfl) (fns_cons f23_ok (by kernel_rfl) (fns_cons f24_ok (by kernel_rfl) fns_nil)))))))
set_option maxHeartbeats 1000000 in
theorem f5_ok : FnOk Try.prog 5 (dspec [.sl 48 tNode] fun x => some ([(List.length x.1 + 1) * 64 ≤ 140737488355328], .data .bool true, none)) := by
  have hΦ := Φ15_ok
  refine fn_data (Γ := GT) (rs := [.tmp 2]) Try.func5 rfl rfl Try.ntmps5 (by decide) ?_
  rintro S0 w0 ⟨p, ⟨⟩⟩ ps r ob h hps hw
  simp only [Option.some.injEq, Prod.mk.injEq] at h
  obtain ⟨rfl, rfl, rfl⟩ := h
  have hp : (List.length p + 1) * 64 ≤ 140737488355328 := hps _ (List.mem_cons_self ..)
  simp only [dataArgs]
  repeat' (first
    | refine aw_seq ?_
    | refine aw_region GT_ok hΦ rfl (by (simp only [go_sem, GT, Nat.reduceEqDiff, Nat.reduceSub, Nat.reduceMul, Nat.reduceLeDiff, Nat.reduceAdd, Nat.reduceLT, Nat.reduceBEq, reduceIte, reduceCtorEq, Int.reduceToNat, Φ15, s11, s17, s20, s22, s24]); exact rfl) ?_ ?_
    | refine aw_draw GT_ok hΦ rfl (by kernel_rfl) (by (simp only [go_sem, GT, Nat.reduceEqDiff, Nat.reduceSub, Nat.reduceMul, Nat.reduceLeDiff, Nat.reduceAdd, Nat.reduceLT, Nat.reduceBEq, reduceIte, reduceCtorEq, Int.reduceToNat, Φ15, s11, s17, s20, s22, s24]); exact rfl) ?_ ?_
    | refine aw_cond (by (simp only [go_sem, GT, Nat.reduceEqDiff, Nat.reduceSub, Nat.reduceMul, Nat.reduceLeDiff, Nat.reduceAdd, Nat.reduceLT, Nat.reduceBEq, reduceIte, reduceCtorEq, Int.reduceToNat, Φ15, s11, s17, s20, s22, s24]); exact rfl) ?_ ?_ ?_
    | refine aw_ret ?_
    | refine aw_skip ?_
    | refine aw_block ?_
    | refine aw_exit ?_
    | refine tq_ret ?_
    | refine tq_exit ?_
    | refine bq_ret ?_
    | refine bq_normal ?_
    | refine bq_exit ?_
    | refine bq_out (by decide) ?_
    | refine tq_normal ?_
    | exact nop
    | (refine fun (hc : (_ : Bool) = _) => ?_; first | assumption | exact hc | (simp only [Bool.not_eq_true', Bool.not_eq_false', decide_eq_true_eq, decide_eq_false_iff_not, Bool.and_eq_true, Bool.or_eq_true, Bool.or_eq_false_iff, Bool.and_eq_false_imp, Int.not_lt, Int.not_le, Classical.not_not, ne_eq, reduceCtorEq, gt_iff_lt, ge_iff_le, Bool.true_eq_false, Bool.false_eq_true, eq_self, not_true, not_false_eq_true] at hc; first | done | (exfalso; omega) | skip) | skip)
    | simp only [List.mem_cons, List.not_mem_nil, forall_eq_or_imp, false_implies, implies_true, and_true, true_and, or_false, forall_eq]
    | refine fin_data (.inl rfl) (by (simp only [go_sem, GT, Nat.reduceEqDiff, Nat.reduceSub, Nat.reduceMul, Nat.reduceLeDiff, Nat.reduceAdd, Nat.reduceLT, Nat.reduceBEq, reduceIte, reduceCtorEq, Int.reduceToNat, Φ15, s11, s17, s20, s22, s24]); exact rfl) ?_ ?_
    | refine fin_pure (.inl rfl) (by (simp only [go_sem, GT, Nat.reduceEqDiff, Nat.reduceSub, Nat.reduceMul, Nat.reduceLeDiff, Nat.reduceAdd, Nat.reduceLT, Nat.reduceBEq, reduceIte, reduceCtorEq, Int.reduceToNat, Φ15, s11, s17, s20, s22, s24]); exact rfl) ?_ (tup_congr ?_)
    | refine fin_pure (.inr rfl) (by (simp only [go_sem, GT, Nat.reduceEqDiff, Nat.reduceSub, Nat.reduceMul, Nat.reduceLeDiff, Nat.reduceAdd, Nat.reduceLT, Nat.reduceBEq, reduceIte, reduceCtorEq, Int.reduceToNat, Φ15, s11, s17, s20, s22, s24]); exact rfl) ?_ (tup_congr ?_)
    | refine fin_own (.inl rfl) (by (simp only [go_sem, GT, Nat.reduceEqDiff, Nat.reduceSub, Nat.reduceMul, Nat.reduceLeDiff, Nat.reduceAdd, Nat.reduceLT, Nat.reduceBEq, reduceIte, reduceCtorEq, Int.reduceToNat, Φ15, s11, s17, s20, s22, s24]); exact rfl) ?_ ?_
    | refine cons_congr (data_congr ?_) ?_
    | exact trivial
    | assumption
    | exact fun h => h
    | refine And.intro ?_ ?_
    | rfl
    | omega
    | (show (_ : Int) ≤ _; omega)
    | (show (_ : Int) < _; omega)
    | (refine fits_i64 ?_ ?_ <;> omega)
    | (show (_ : Bool) = true; simp only [Bool.not_eq_true', Bool.not_eq_false', decide_eq_true_eq, decide_eq_false_iff_not, Bool.and_eq_true, Bool.or_eq_true, Bool.or_eq_false_iff, Bool.and_eq_false_imp, Int.not_lt, Int.not_le, Classical.not_not, ne_eq, reduceCtorEq, gt_iff_lt, ge_iff_le, Bool.true_eq_false, Bool.false_eq_true, eq_self, not_true, not_false_eq_true]; first | omega | (refine And.intro ?_ ?_ <;> first | assumption | omega))
    | (simp only [Bool.not_eq_true', Bool.not_eq_false', decide_eq_true_eq, decide_eq_false_iff_not, Bool.and_eq_true, Bool.or_eq_true, Bool.or_eq_false_iff, Bool.and_eq_false_imp, Int.not_lt, Int.not_le, Classical.not_not, ne_eq, reduceCtorEq, gt_iff_lt, ge_iff_le, Bool.true_eq_false, Bool.false_eq_true, eq_self, not_true, not_false_eq_true]; omega))
  rw [sameTx_refl, keptB_lend]
  rfl
end Go.Proofs
