/- Part of the proof of the law's row: YtlelhklalainfaaWH. -/
import Derived.Test.YtlelhklalainfaaWG
import Derived.Test.YtlelhklalainfaaWF
import Derived.Test.YtlelhklalainfaaAbsY
set_option linter.all false
set_option linter.unusedVariables false
set_option linter.unusedSimpArgs false
namespace Go.Proofs
open Go.Abs
attribute [local irreducible] AW Abs.Fin thenQ blockQ Le
/-- The node behind what is lent. -/
def lendN : Nd := (-77, 0, ⟨#[]⟩, (0, 0, 0, 0, ()), ())
@[reducible] noncomputable def s11 : Abs.Spec := dspec [.sl 48 tNode] fun x => some ([(List.length x.1 + 1) * 64 ≤ 140737488355328], .own 0 tNode 0 (List.length x.1), some (.row 48 tNode (x.1 ++ [lendN]) false))
set_option maxHeartbeats 1000000 in
theorem f11_ok : FnOk Try.prog 11 s11 := by
  have hΦ : FnsOk GT.P [] := fns_nil
  refine fn_data (Γ := GT) (rs := [.tmp 2]) Try.func11 rfl rfl Try.ntmps11 (by decide) ?_
  rintro S0 w0 ⟨p, ⟨⟩⟩ ps r ob h hps hw
  simp only [Option.some.injEq, Prod.mk.injEq] at h
  obtain ⟨rfl, rfl, rfl⟩ := h
  have hp : (List.length p + 1) * 64 ≤ 140737488355328 := hps _ (List.mem_cons_self ..)
  simp only [dataArgs]
  repeat' (first
    | refine aw_seq ?_
    | refine aw_region GT_ok hΦ rfl (by (simp only [go_sem, GT, Nat.reduceEqDiff, Nat.reduceSub, Nat.reduceMul, Nat.reduceLeDiff, Nat.reduceAdd, Nat.reduceLT, Nat.reduceBEq, reduceIte, reduceCtorEq, Int.reduceToNat]); exact rfl) ?_ ?_
    | refine aw_draw GT_ok hΦ rfl (by kernel_rfl) (by (simp only [go_sem, GT, Nat.reduceEqDiff, Nat.reduceSub, Nat.reduceMul, Nat.reduceLeDiff, Nat.reduceAdd, Nat.reduceLT, Nat.reduceBEq, reduceIte, reduceCtorEq, Int.reduceToNat]); exact rfl) ?_ ?_
    | refine aw_cond (by (simp only [go_sem, GT, Nat.reduceEqDiff, Nat.reduceSub, Nat.reduceMul, Nat.reduceLeDiff, Nat.reduceAdd, Nat.reduceLT, Nat.reduceBEq, reduceIte, reduceCtorEq, Int.reduceToNat]); exact rfl) ?_ ?_ ?_
    | refine aw_ret ?_
    | refine aw_skip ?_
    | refine aw_block ?_
    | refine aw_exit ?_
    | refine tq_ret ?_
    | refine tq_exit ?_
    | refine bq_ret ?_
    | refine bq_normal ?_
    | refine bq_exit ?_
    | refine bq_out (by decide) ?_
    | refine tq_normal ?_
    | exact nop
    | (refine fun (hc : (_ : Bool) = _) => ?_; first | assumption | exact hc | (simp only [Bool.not_eq_true', Bool.not_eq_false', decide_eq_true_eq, decide_eq_false_iff_not, Bool.and_eq_true, Bool.or_eq_true, Bool.or_eq_false_iff, Bool.and_eq_false_imp, Int.not_lt, Int.not_le, Classical.not_not, ne_eq, reduceCtorEq, gt_iff_lt, ge_iff_le, Bool.true_eq_false, Bool.false_eq_true, eq_self, not_true, not_false_eq_true] at hc; first | done | (exfalso; omega) | skip) | skip)
    | simp only [List.mem_cons, List.not_mem_nil, forall_eq_or_imp, false_implies, implies_true, and_true, true_and, or_false, forall_eq]
    | refine fin_data (.inl rfl) (by (simp only [go_sem, GT, Nat.reduceEqDiff, Nat.reduceSub, Nat.reduceMul, Nat.reduceLeDiff, Nat.reduceAdd, Nat.reduceLT, Nat.reduceBEq, reduceIte, reduceCtorEq, Int.reduceToNat]); exact rfl) ?_ ?_
    | refine fin_pure (.inl rfl) (by (simp only [go_sem, GT, Nat.reduceEqDiff, Nat.reduceSub, Nat.reduceMul, Nat.reduceLeDiff, Nat.reduceAdd, Nat.reduceLT, Nat.reduceBEq, reduceIte, reduceCtorEq, Int.reduceToNat]); exact rfl) ?_ (tup_congr ?_)
    | refine fin_pure (.inr rfl) (by (simp only [go_sem, GT, Nat.reduceEqDiff, Nat.reduceSub, Nat.reduceMul, Nat.reduceLeDiff, Nat.reduceAdd, Nat.reduceLT, Nat.reduceBEq, reduceIte, reduceCtorEq, Int.reduceToNat]); exact rfl) ?_ (tup_congr ?_)
    | refine fin_own (.inl rfl) (by (simp only [go_sem, GT, Nat.reduceEqDiff, Nat.reduceSub, Nat.reduceMul, Nat.reduceLeDiff, Nat.reduceAdd, Nat.reduceLT, Nat.reduceBEq, reduceIte, reduceCtorEq, Int.reduceToNat]); exact rfl) ?_ ?_
    | refine cons_congr (data_congr ?_) ?_
    | exact trivial
    | assumption
    | exact fun h => h
    | refine And.intro ?_ ?_
    | rfl
    | omega
    | (show (_ : Int) ≤ _; omega)
    | (show (_ : Int) < _; omega)
    | (refine fits_i64 ?_ ?_ <;> omega)
    | (show (_ : Bool) = true; simp only [Bool.not_eq_true', Bool.not_eq_false', decide_eq_true_eq, decide_eq_false_iff_not, Bool.and_eq_true, Bool.or_eq_true, Bool.or_eq_false_iff, Bool.and_eq_false_imp, Int.not_lt, Int.not_le, Classical.not_not, ne_eq, reduceCtorEq, gt_iff_lt, ge_iff_le, Bool.true_eq_false, Bool.false_eq_true, eq_self, not_true, not_false_eq_true]; first | omega | (refine And.intro ?_ ?_ <;> first | assumption | omega))
    | (simp only [Bool.not_eq_true', Bool.not_eq_false', decide_eq_true_eq, decide_eq_false_iff_not, Bool.and_eq_true, Bool.or_eq_true, Bool.or_eq_false_iff, Bool.and_eq_false_imp, Int.not_lt, Int.not_le, Classical.not_not, ne_eq, reduceCtorEq, gt_iff_lt, ge_iff_le, Bool.true_eq_false, Bool.false_eq_true, eq_self, not_true, not_false_eq_true]; omega))
theorem samePat_length {a b : List tNode.Den} (h : samePat a b = true) : a.length = b.length := by
  rcases Nat.decEq a.length b.length with hn | he
  · rw [samePat_len hn] at h
    cases h
  · exact he
theorem getD_take {α : Type} (l : List α) (n : Nat) (d : α) : List.getD (List.take (n + 1) l) n d = List.getD l n d := by
  rw [List.getD_eq_getElem?_getD, List.getD_eq_getElem?_getD, List.getElem?_take, if_pos (by omega)]
def keptB (xs : List Nd) (n : Nat) (q : List Nd) : Bool := samePat (List.take n xs) q && Ty.eqb tNode (List.getD xs (List.length q) tNode.dflt) lendN
@[reducible] noncomputable def s17 : Abs.Spec := kspec [.len 48 tNode, .dat (.sl 48 tNode)] fun x => some ([x.1.2 < List.length x.1.1], .data .bool (keptB x.1.1 x.1.2 x.2.1), none)
noncomputable def Φ10 : Fns := [(19, sSame)]
theorem Φ10_ok : FnsOk GT.P Φ10 := fns_cons f19_ok (by kernel_rfl) fns_nil
set_option maxHeartbeats 1000000 in
theorem f17_ok : FnOk Try.prog 17 s17 := by
  have hΦ := Φ10_ok
  refine fn_k (Γ := GT) (rs := [.tmp 4]) Try.func17 rfl rfl Try.ntmps17 (by decide) ?_
  rintro S0 w0 ⟨⟨xs, n⟩, q, ⟨⟩⟩ ps r ob h hps
  simp only [Option.some.injEq, Prod.mk.injEq] at h
  obtain ⟨rfl, rfl, rfl⟩ := h
  have hn : n < List.length xs := hps _ (List.mem_cons_self ..)
  simp only [avKs, avK]
  refine aw_lent (i := 0) (e := 48) (t := tNode) (xs := xs) (n := n) rfl ?_
  intro _ hwx
  simp only [Wf] at hwx
  repeat' (first
    | refine aw_seq ?_
    | refine aw_region GT_ok hΦ rfl (by (simp only [go_sem, GT, Nat.reduceEqDiff, Nat.reduceSub, Nat.reduceMul, Nat.reduceLeDiff, Nat.reduceAdd, Nat.reduceLT, Nat.reduceBEq, reduceIte, reduceCtorEq, Int.reduceToNat, Φ10, sSame]); exact rfl) ?_ ?_
    | refine aw_draw GT_ok hΦ rfl (by kernel_rfl) (by (simp only [go_sem, GT, Nat.reduceEqDiff, Nat.reduceSub, Nat.reduceMul, Nat.reduceLeDiff, Nat.reduceAdd, Nat.reduceLT, Nat.reduceBEq, reduceIte, reduceCtorEq, Int.reduceToNat, Φ10, sSame]); exact rfl) ?_ ?_
    | refine aw_cond (by (simp only [go_sem, GT, Nat.reduceEqDiff, Nat.reduceSub, Nat.reduceMul, Nat.reduceLeDiff, Nat.reduceAdd, Nat.reduceLT, Nat.reduceBEq, reduceIte, reduceCtorEq, Int.reduceToNat, Φ10, sSame]); exact rfl) ?_ ?_ ?_
    | refine aw_ret ?_
    | refine aw_skip ?_
    | refine aw_block ?_
    | refine aw_exit ?_
    | refine tq_ret ?_
    | refine tq_exit ?_
    | refine bq_ret ?_
    | refine bq_normal ?_
    | refine bq_exit ?_
    | refine bq_out (by decide) ?_
    | refine tq_normal ?_
    | exact nop
    | (refine fun (hc : (_ : Bool) = _) => ?_; first | assumption | exact hc | (simp only [Bool.not_eq_true', Bool.not_eq_false', decide_eq_true_eq, decide_eq_false_iff_not, Bool.and_eq_true, Bool.or_eq_true, Bool.or_eq_false_iff, Bool.and_eq_false_imp, Int.not_lt, Int.not_le, Classical.not_not, ne_eq, reduceCtorEq, gt_iff_lt, ge_iff_le, Bool.true_eq_false, Bool.false_eq_true, eq_self, not_true, not_false_eq_true] at hc; first | done | (exfalso; omega) | skip) | skip)
    | simp only [List.mem_cons, List.not_mem_nil, forall_eq_or_imp, false_implies, implies_true, and_true, true_and, or_false, forall_eq]
    | refine fin_data (.inl rfl) (by (simp only [go_sem, GT, Nat.reduceEqDiff, Nat.reduceSub, Nat.reduceMul, Nat.reduceLeDiff, Nat.reduceAdd, Nat.reduceLT, Nat.reduceBEq, reduceIte, reduceCtorEq, Int.reduceToNat, Φ10, sSame]); exact rfl) ?_ ?_
    | refine fin_pure (.inl rfl) (by (simp only [go_sem, GT, Nat.reduceEqDiff, Nat.reduceSub, Nat.reduceMul, Nat.reduceLeDiff, Nat.reduceAdd, Nat.reduceLT, Nat.reduceBEq, reduceIte, reduceCtorEq, Int.reduceToNat, Φ10, sSame]); exact rfl) ?_ (tup_congr ?_)
    | refine fin_pure (.inr rfl) (by (simp only [go_sem, GT, Nat.reduceEqDiff, Nat.reduceSub, Nat.reduceMul, Nat.reduceLeDiff, Nat.reduceAdd, Nat.reduceLT, Nat.reduceBEq, reduceIte, reduceCtorEq, Int.reduceToNat, Φ10, sSame]); exact rfl) ?_ (tup_congr ?_)
    | refine fin_own (.inl rfl) (by (simp only [go_sem, GT, Nat.reduceEqDiff, Nat.reduceSub, Nat.reduceMul, Nat.reduceLeDiff, Nat.reduceAdd, Nat.reduceLT, Nat.reduceBEq, reduceIte, reduceCtorEq, Int.reduceToNat, Φ10, sSame]); exact rfl) ?_ ?_
    | refine cons_congr (data_congr ?_) ?_
    | exact trivial
    | assumption
    | exact fun h => h
    | refine And.intro ?_ ?_
    | rfl
    | omega
    | (show (_ : Int) ≤ _; omega)
    | (show (_ : Int) < _; omega)
    | (refine fits_i64 ?_ ?_ <;> omega)
    | (show (_ : Bool) = true; simp only [Bool.not_eq_true', Bool.not_eq_false', decide_eq_true_eq, decide_eq_false_iff_not, Bool.and_eq_true, Bool.or_eq_true, Bool.or_eq_false_iff, Bool.and_eq_false_imp, Int.not_lt, Int.not_le, Classical.not_not, ne_eq, reduceCtorEq, gt_iff_lt, ge_iff_le, Bool.true_eq_false, Bool.false_eq_true, eq_self, not_true, not_false_eq_true]; first | omega | (refine And.intro ?_ ?_ <;> first | assumption | omega))
    | (simp only [Bool.not_eq_true', Bool.not_eq_false', decide_eq_true_eq, decide_eq_false_iff_not, Bool.and_eq_true, Bool.or_eq_true, Bool.or_eq_false_iff, Bool.and_eq_false_imp, Int.not_lt, Int.not_le, Classical.not_not, ne_eq, reduceCtorEq, gt_iff_lt, ge_iff_le, Bool.true_eq_false, Bool.false_eq_true, eq_self, not_true, not_false_eq_true]; omega))
  · have hl := samePat_length hc
    rw [List.length_take] at hl
    refine fits_i64 ?_ ?_ <;> omega
  · have hl := samePat_length hc
    rw [List.length_take] at hl
    show (_ : Int) ≤ _
    omega
  · have hl := samePat_length hc
    rw [List.length_take] at hl
    rw [List.length_take]
    show (_ : Int) < _
    omega
  · unfold keptB
    congr 1
    rw [getD_take]
    rfl
theorem keptB_lend (p : List Nd) : keptB (p ++ [lendN]) (List.length p) p = true := by
  unfold keptB
  rw [List.take_left, samePat_refl, List.getD_eq_getElem?_getD, List.getElem?_append_right (Nat.le_refl _), Nat.sub_self]
  exact eqb_refl lendN
noncomputable def Φ11 : Fns := [(11, s11), (12, s12), (13, s12), (14, dspec [] fun x => some ([], .data .bool true, none)), (15, dspec [.int .i64] fun x => some ([], .data (.int .i64) (arity x.1), none)), (16, dspec [.int .i64] fun x => some ([], .data (.int .i64) (arity x.1), none)), (17, s17)]
theorem Φ11_ok : FnsOk GT.P Φ11 := fns_cons f11_ok (by kernel_rfl) (fns_cons f12_ok (by kernel_rfl) (fns_cons f13_ok (by kernel_rfl) (fns_cons f14_ok (by kernel_rfl) (fns_cons f15_ok (by kernel_rfl) (fns_cons f16_ok (by kernel_rfl) (fns_cons f17_ok (by kernel_rfl) fns_nil))))))
set_option maxHeartbeats 1000000 in
theorem f3_ok : FnOk Try.prog 3 (dspec [.sl 48 tNode, .int .i64] fun x => some ([(List.length x.1 + 1) * 64 ≤ 140737488355328], .data .bool true, none)) := by
  have hΦ := Φ11_ok
  refine fn_data (Γ := GT) (rs := [.tmp 4]) Try.func3 rfl rfl Try.ntmps3 (by decide) ?_
  rintro S0 w0 ⟨p, op, ⟨⟩⟩ ps r ob h hps hw
  simp only [Option.some.injEq, Prod.mk.injEq] at h
  obtain ⟨rfl, rfl, rfl⟩ := h
  have hp : (List.length p + 1) * 64 ≤ 140737488355328 := hps _ (List.mem_cons_self ..)
  simp only [dataArgs]
  repeat' (first
    | refine aw_seq ?_
    | refine aw_region GT_ok hΦ rfl (by (simp only [go_sem, GT, Nat.reduceEqDiff, Nat.reduceSub, Nat.reduceMul, Nat.reduceLeDiff, Nat.reduceAdd, Nat.reduceLT, Nat.reduceBEq, reduceIte, reduceCtorEq, Int.reduceToNat, Φ11, s11, s12, s17]); exact rfl) ?_ ?_
    | refine aw_draw GT_ok hΦ rfl (by kernel_rfl) (by (simp only [go_sem, GT, Nat.reduceEqDiff, Nat.reduceSub, Nat.reduceMul, Nat.reduceLeDiff, Nat.reduceAdd, Nat.reduceLT, Nat.reduceBEq, reduceIte, reduceCtorEq, Int.reduceToNat, Φ11, s11, s12, s17]); exact rfl) ?_ ?_
    | refine aw_cond (by (simp only [go_sem, GT, Nat.reduceEqDiff, Nat.reduceSub, Nat.reduceMul, Nat.reduceLeDiff, Nat.reduceAdd, Nat.reduceLT, Nat.reduceBEq, reduceIte, reduceCtorEq, Int.reduceToNat, Φ11, s11, s12, s17]); exact rfl) ?_ ?_ ?_
    | refine aw_ret ?_
    | refine aw_skip ?_
    | refine aw_block ?_
    | refine aw_exit ?_
    | refine tq_ret ?_
    | refine tq_exit ?_
    | refine bq_ret ?_
    | refine bq_normal ?_
    | refine bq_exit ?_
    | refine bq_out (by decide) ?_
    | refine tq_normal ?_
    | exact nop
    | (refine fun (hc : (_ : Bool) = _) => ?_; first | assumption | exact hc | (simp only [Bool.not_eq_true', Bool.not_eq_false', decide_eq_true_eq, decide_eq_false_iff_not, Bool.and_eq_true, Bool.or_eq_true, Bool.or_eq_false_iff, Bool.and_eq_false_imp, Int.not_lt, Int.not_le, Classical.not_not, ne_eq, reduceCtorEq, gt_iff_lt, ge_iff_le, Bool.true_eq_false, Bool.false_eq_true, eq_self, not_true, not_false_eq_true] at hc; first | done | (exfalso; omega) | skip) | skip)
    | simp only [List.mem_cons, List.not_mem_nil, forall_eq_or_imp, false_implies, implies_true, and_true, true_and, or_false, forall_eq]
    | refine fin_data (.inl rfl) (by (simp only [go_sem, GT, Nat.reduceEqDiff, Nat.reduceSub, Nat.reduceMul, Nat.reduceLeDiff, Nat.reduceAdd, Nat.reduceLT, Nat.reduceBEq, reduceIte, reduceCtorEq, Int.reduceToNat, Φ11, s11, s12, s17]); exact rfl) ?_ ?_
    | refine fin_pure (.inl rfl) (by (simp only [go_sem, GT, Nat.reduceEqDiff, Nat.reduceSub, Nat.reduceMul, Nat.reduceLeDiff, Nat.reduceAdd, Nat.reduceLT, Nat.reduceBEq, reduceIte, reduceCtorEq, Int.reduceToNat, Φ11, s11, s12, s17]); exact rfl) ?_ (tup_congr ?_)
    | refine fin_pure (.inr rfl) (by (simp only [go_sem, GT, Nat.reduceEqDiff, Nat.reduceSub, Nat.reduceMul, Nat.reduceLeDiff, Nat.reduceAdd, Nat.reduceLT, Nat.reduceBEq, reduceIte, reduceCtorEq, Int.reduceToNat, Φ11, s11, s12, s17]); exact rfl) ?_ (tup_congr ?_)
    | refine fin_own (.inl rfl) (by (simp only [go_sem, GT, Nat.reduceEqDiff, Nat.reduceSub, Nat.reduceMul, Nat.reduceLeDiff, Nat.reduceAdd, Nat.reduceLT, Nat.reduceBEq, reduceIte, reduceCtorEq, Int.reduceToNat, Φ11, s11, s12, s17]); exact rfl) ?_ ?_
    | refine cons_congr (data_congr ?_) ?_
    | exact trivial
    | assumption
    | exact fun h => h
    | refine And.intro ?_ ?_
    | rfl
    | omega
    | (show (_ : Int) ≤ _; omega)
    | (show (_ : Int) < _; omega)
    | (refine fits_i64 ?_ ?_ <;> omega)
    | (show (_ : Bool) = true; simp only [Bool.not_eq_true', Bool.not_eq_false', decide_eq_true_eq, decide_eq_false_iff_not, Bool.and_eq_true, Bool.or_eq_true, Bool.or_eq_false_iff, Bool.and_eq_false_imp, Int.not_lt, Int.not_le, Classical.not_not, ne_eq, reduceCtorEq, gt_iff_lt, ge_iff_le, Bool.true_eq_false, Bool.false_eq_true, eq_self, not_true, not_false_eq_true]; first | omega | (refine And.intro ?_ ?_ <;> first | assumption | omega))
    | (simp only [Bool.not_eq_true', Bool.not_eq_false', decide_eq_true_eq, decide_eq_false_iff_not, Bool.and_eq_true, Bool.or_eq_true, Bool.or_eq_false_iff, Bool.and_eq_false_imp, Int.not_lt, Int.not_le, Classical.not_not, ne_eq, reduceCtorEq, gt_iff_lt, ge_iff_le, Bool.true_eq_false, Bool.false_eq_true, eq_self, not_true, not_false_eq_true]; omega))
  exact keptB_lend p
end Go.Proofs
