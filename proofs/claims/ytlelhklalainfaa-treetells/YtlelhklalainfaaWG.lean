/- Part of the proof of the law's row: YtlelhklalainfaaWG. -/
import Derived.Test.YtlelhklalainfaaWE
set_option linter.all false
set_option linter.unusedVariables false
set_option linter.unusedSimpArgs false
namespace Go.Proofs
open Go.Abs
attribute [local irreducible] AW Abs.Fin thenQ blockQ Le
def fromP (p : List Nd) : (List Int × List Int) × (Int × Int) :=
  let x := scan p p []
  if x.1.2 ≠ 0 then (([], []), x.1) else ((x.2.map (·.1), x.2.map (·.2.1)), (0, 0))
theorem getD_map {α β : Type} (f : α → β) (l : List α) (i : Nat) (d : α) : List.getD (l.map f) i (f d) = f (List.getD l i d) := by
  rw [List.getD_eq_getElem?_getD, List.getD_eq_getElem?_getD, List.getElem?_map]
  cases l[i]? <;> rfl
theorem fromP_err {p : List Nd} {a e : Int} {sh : List Shp} (h : scan p p [] = ((a, e), sh)) (he : e ≠ 0) : fromP p = (([], []), (a, e)) := by
  unfold fromP
  simp only [h]
  rw [if_pos he]
theorem fromP_end {p : List Nd} {sh : List Shp} (h : scan p p [] = ((0, 0), sh)) : fromP p = ((sh.map (·.1), sh.map (·.2.1)), (0, 0)) := by
  unfold fromP
  simp only [h]
  rw [if_neg (by simp)]
theorem map1 (sh : List Shp) (i : Nat) : List.getD (sh.map fun x => x.1) i (Ty.int .i64).dflt = (List.getD sh i tShape.dflt).1 := getD_map (fun x : Shp => x.1) sh i tShape.dflt
theorem map2 (sh : List Shp) (i : Nat) : List.getD (sh.map fun x => x.2.1) i (Ty.int .i64).dflt = (List.getD sh i tShape.dflt).2.1 := getD_map (fun x : Shp => x.2.1) sh i tShape.dflt
theorem less_yes {p : List Nd} {op a b : Int} {j : Nat} (h : ((j : Int) = 1 ∧ a = 2) ∧ (List.getD p (b - 1).toNat tNode.dflt).1 = op) : less p op a b (j - 1) = true := by
  unfold less nth
  rw [h.2, h.1.2, show j - 1 = 0 by omega]
  simp
theorem less_no {p : List Nd} {op a b : Int} {j : Nat} (hj : 0 < (j : Int)) (h : ((j : Int) = 1 ∧ a = 2) → ¬(List.getD p (b - 1).toNat tNode.dflt).1 = op) : less p op a b (j - 1) = false := by
  unfold less nth
  by_cases h1 : (j : Int) = 1
  · by_cases h2 : a = 2
    · simp only [h ⟨h1, h2⟩]
      simp
    · simp [h2]
  · have : (j - 1 == 0) = false := by
      simp
      omega
    rw [this]
    rfl
@[reducible] noncomputable def s41 : Abs.Spec := dspec [.sl 48 tNode] fun x => some ([List.length x.1 ≤ 2048], .tup [.data (.sl 3 (.int .i64)) (fromP x.1).1.1, .data (.sl 3 (.int .i64)) (fromP x.1).1.2, .data (.int .i64) (fromP x.1).2.1, .data (.int .i64) (fromP x.1).2.2], none)
noncomputable def Φ8 : Fns := [(16, dspec [.int .i64] fun x => some ([], .data (.int .i64) (arity x.1), none)), (54, dspec [tNode] fun x => some ([], .data .bool (fieldB x.1.1 x.1.2.1 x.1.2.2.1 x.1.2.2.2.1), none))]
theorem Φ8_ok : FnsOk GT.P Φ8 := fns_cons f16_ok (by kernel_rfl) (fns_cons f54_ok (by kernel_rfl) fns_nil)
set_option maxHeartbeats 4000000 in
theorem f41_ok : FnOk Try.prog 41 s41 := by
  have hΦ := Φ8_ok
  refine fn_data (Γ := GT) (rs := [.tmp 2, .tmp 3, .tmp 4, .tmp 5]) Try.func41 rfl rfl Try.ntmps41 (by decide) ?_
  rintro S0 w0 ⟨p, ⟨⟩⟩ ps r ob h hps hw
  simp only [Option.some.injEq, Prod.mk.injEq] at h
  obtain ⟨rfl, rfl, rfl⟩ := h
  have hp : List.length p ≤ 2048 := hps _ (List.mem_cons_self ..)
  simp only [dataArgs]
  repeat' (first
    | refine aw_seq ?_
    | refine aw_region GT_ok hΦ rfl (by (simp only [go_sem, GT, Nat.reduceEqDiff, Nat.reduceSub, Nat.reduceMul, Nat.reduceLeDiff, Nat.reduceAdd, Nat.reduceLT, Nat.reduceBEq, reduceIte, reduceCtorEq, Int.reduceToNat, Φ8]); exact rfl) ?_ ?_
    | refine aw_draw GT_ok hΦ rfl (by kernel_rfl) (by (simp only [go_sem, GT, Nat.reduceEqDiff, Nat.reduceSub, Nat.reduceMul, Nat.reduceLeDiff, Nat.reduceAdd, Nat.reduceLT, Nat.reduceBEq, reduceIte, reduceCtorEq, Int.reduceToNat, Φ8]); exact rfl) ?_ ?_
    | refine aw_cond (by (simp only [go_sem, GT, Nat.reduceEqDiff, Nat.reduceSub, Nat.reduceMul, Nat.reduceLeDiff, Nat.reduceAdd, Nat.reduceLT, Nat.reduceBEq, reduceIte, reduceCtorEq, Int.reduceToNat, Φ8]); exact rfl) ?_ ?_ ?_
    | refine aw_ret ?_
    | refine aw_skip ?_
    | refine aw_block ?_
    | refine aw_exit ?_
    | refine tq_ret ?_
    | refine tq_exit ?_
    | refine bq_ret ?_
    | refine bq_normal ?_
    | refine bq_exit ?_
    | refine bq_out (by decide) ?_
    | refine tq_normal ?_
    | exact nop
    | (refine fun (hc : (_ : Bool) = _) => ?_; first | assumption | exact hc | (simp only [Bool.not_eq_true', Bool.not_eq_false', decide_eq_true_eq, decide_eq_false_iff_not, Bool.and_eq_true, Bool.or_eq_true, Bool.or_eq_false_iff, Bool.and_eq_false_imp, Int.not_lt, Int.not_le, Classical.not_not, ne_eq, reduceCtorEq, gt_iff_lt, ge_iff_le, Bool.true_eq_false, Bool.false_eq_true, eq_self, not_true, not_false_eq_true] at hc; first | done | (exfalso; omega) | skip) | skip)
    | simp only [List.mem_cons, List.not_mem_nil, forall_eq_or_imp, false_implies, implies_true, and_true, true_and, or_false, forall_eq]
    | refine fin_data (.inl rfl) (by (simp only [go_sem, GT, Nat.reduceEqDiff, Nat.reduceSub, Nat.reduceMul, Nat.reduceLeDiff, Nat.reduceAdd, Nat.reduceLT, Nat.reduceBEq, reduceIte, reduceCtorEq, Int.reduceToNat, Φ8]); exact rfl) ?_ ?_
    | refine fin_pure (.inl rfl) (by (simp only [go_sem, GT, Nat.reduceEqDiff, Nat.reduceSub, Nat.reduceMul, Nat.reduceLeDiff, Nat.reduceAdd, Nat.reduceLT, Nat.reduceBEq, reduceIte, reduceCtorEq, Int.reduceToNat, Φ8]); exact rfl) ?_ (tup_congr ?_)
    | refine fin_pure (.inr rfl) (by (simp only [go_sem, GT, Nat.reduceEqDiff, Nat.reduceSub, Nat.reduceMul, Nat.reduceLeDiff, Nat.reduceAdd, Nat.reduceLT, Nat.reduceBEq, reduceIte, reduceCtorEq, Int.reduceToNat, Φ8]); exact rfl) ?_ (tup_congr ?_)
    | refine cons_congr (data_congr ?_) ?_
    | exact trivial
    | assumption
    | exact fun h => h
    | refine And.intro ?_ ?_
    | rfl
    | omega
    | (show (_ : Int) ≤ _; omega)
    | (show (_ : Int) < _; omega)
    | (refine fits_i64 ?_ ?_ <;> omega)
    | (show (_ : Bool) = true; simp only [Bool.not_eq_true', Bool.not_eq_false', decide_eq_true_eq, decide_eq_false_iff_not, Bool.and_eq_true, Bool.or_eq_true, Bool.or_eq_false_iff, Bool.and_eq_false_imp, Int.not_lt, Int.not_le, Classical.not_not, ne_eq, reduceCtorEq, gt_iff_lt, ge_iff_le, Bool.true_eq_false, Bool.false_eq_true, eq_self, not_true, not_false_eq_true]; first | omega | (refine And.intro ?_ ?_ <;> first | assumption | omega))
    | (simp only [Bool.not_eq_true', Bool.not_eq_false', decide_eq_true_eq, decide_eq_false_iff_not, Bool.and_eq_true, Bool.or_eq_true, Bool.or_eq_false_iff, Bool.and_eq_false_imp, Int.not_lt, Int.not_le, Classical.not_not, ne_eq, reduceCtorEq, gt_iff_lt, ge_iff_le, Bool.true_eq_false, Bool.false_eq_true, eq_self, not_true, not_false_eq_true]; omega))
  refine aw_loop (σ := {x : Nat × List Shp // x.1 ≤ List.length p ∧ x.2.length = x.1 ∧ ShOk x.2 ∧ scan p (List.drop x.1 p) x.2 = scan p p []}) (fun x => ⟨[(8, .data (.int .i64) (x.1.1 : Int)), (6, .own 6 (.int .i64) 0 (List.length x.1.2)), (7, .own 7 (.int .i64) 0 (List.length x.1.2)), (0, .data (.sl 48 tNode) p)], [(6, .row 3 (.int .i64) (x.1.2.map (·.1)) false), (7, .row 3 (.int .i64) (x.1.2.map (·.2.1)) false)], 91⟩) (fun x => List.length p - x.1.1) ⟨(0, []), by simp, rfl, by intro i x h; simp at h, rfl⟩ (Le.drop (by simp [Abs.get]) (by simp [Abs.get]) rfl) ?_
  rintro ⟨⟨i, sh⟩, hi, hl, hok, hs⟩
  simp only at hi hl hok hs
  repeat' (first
    | refine aw_seq ?_
    | refine aw_region GT_ok hΦ rfl (by (simp only [go_sem, GT, Nat.reduceEqDiff, Nat.reduceSub, Nat.reduceMul, Nat.reduceLeDiff, Nat.reduceAdd, Nat.reduceLT, Nat.reduceBEq, reduceIte, reduceCtorEq, Int.reduceToNat, Φ8]); exact rfl) ?_ ?_
    | refine aw_draw GT_ok hΦ rfl (by kernel_rfl) (by (simp only [go_sem, GT, Nat.reduceEqDiff, Nat.reduceSub, Nat.reduceMul, Nat.reduceLeDiff, Nat.reduceAdd, Nat.reduceLT, Nat.reduceBEq, reduceIte, reduceCtorEq, Int.reduceToNat, Φ8]); exact rfl) ?_ ?_
    | refine aw_cond (by (simp only [go_sem, GT, Nat.reduceEqDiff, Nat.reduceSub, Nat.reduceMul, Nat.reduceLeDiff, Nat.reduceAdd, Nat.reduceLT, Nat.reduceBEq, reduceIte, reduceCtorEq, Int.reduceToNat, Φ8]); exact rfl) ?_ ?_ ?_
    | refine aw_ret ?_
    | refine aw_skip ?_
    | refine aw_block ?_
    | refine aw_exit ?_
    | refine tq_ret ?_
    | refine tq_exit ?_
    | refine bq_ret ?_
    | refine bq_normal ?_
    | refine bq_exit ?_
    | refine bq_out (by decide) ?_
    | refine tq_normal ?_
    | exact nop
    | (refine fun (hc : (_ : Bool) = _) => ?_; first | assumption | exact hc | (simp only [Bool.not_eq_true', Bool.not_eq_false', decide_eq_true_eq, decide_eq_false_iff_not, Bool.and_eq_true, Bool.or_eq_true, Bool.or_eq_false_iff, Bool.and_eq_false_imp, Int.not_lt, Int.not_le, Classical.not_not, ne_eq, reduceCtorEq, gt_iff_lt, ge_iff_le, Bool.true_eq_false, Bool.false_eq_true, eq_self, not_true, not_false_eq_true] at hc; first | done | (exfalso; omega) | skip) | skip)
    | simp only [List.mem_cons, List.not_mem_nil, forall_eq_or_imp, false_implies, implies_true, and_true, true_and, or_false, forall_eq]
    | refine fin_data (.inl rfl) (by (simp only [go_sem, GT, Nat.reduceEqDiff, Nat.reduceSub, Nat.reduceMul, Nat.reduceLeDiff, Nat.reduceAdd, Nat.reduceLT, Nat.reduceBEq, reduceIte, reduceCtorEq, Int.reduceToNat, Φ8]); exact rfl) ?_ ?_
    | refine fin_pure (.inl rfl) (by (simp only [go_sem, GT, Nat.reduceEqDiff, Nat.reduceSub, Nat.reduceMul, Nat.reduceLeDiff, Nat.reduceAdd, Nat.reduceLT, Nat.reduceBEq, reduceIte, reduceCtorEq, Int.reduceToNat, Φ8]); exact rfl) ?_ (tup_congr ?_)
    | refine fin_pure (.inr rfl) (by (simp only [go_sem, GT, Nat.reduceEqDiff, Nat.reduceSub, Nat.reduceMul, Nat.reduceLeDiff, Nat.reduceAdd, Nat.reduceLT, Nat.reduceBEq, reduceIte, reduceCtorEq, Int.reduceToNat, Φ8]); exact rfl) ?_ (tup_congr ?_)
    | exact trivial
    | assumption
    | exact fun h => h
    | refine And.intro ?_ ?_
    | rfl
    | omega
    | (show (_ : Int) ≤ _; omega)
    | (show (_ : Int) < _; omega)
    | (refine fits_i64 ?_ ?_ <;> omega)
    | (show (_ : Bool) = true; simp only [Bool.not_eq_true', Bool.not_eq_false', decide_eq_true_eq, decide_eq_false_iff_not, Bool.and_eq_true, Bool.or_eq_true, Bool.or_eq_false_iff, Bool.and_eq_false_imp, Int.not_lt, Int.not_le, Classical.not_not, ne_eq, reduceCtorEq, gt_iff_lt, ge_iff_le, Bool.true_eq_false, Bool.false_eq_true, eq_self, not_true, not_false_eq_true]; first | omega | (refine And.intro ?_ ?_ <;> first | assumption | omega))
    | (simp only [Bool.not_eq_true', Bool.not_eq_false', decide_eq_true_eq, decide_eq_false_iff_not, Bool.and_eq_true, Bool.or_eq_true, Bool.or_eq_false_iff, Bool.and_eq_false_imp, Int.not_lt, Int.not_le, Classical.not_not, ne_eq, reduceCtorEq, gt_iff_lt, ge_iff_le, Bool.true_eq_false, Bool.false_eq_true, eq_self, not_true, not_false_eq_true]; omega))
  · rw [fromP_err (by rw [← hs, scan_at (by omega), if_pos (by assumption), hl]) (by decide)]
  · rw [fromP_err (by rw [← hs, scan_at (by omega), if_neg (by omega), if_pos (by rw [hc]; rfl), hl]) (by decide)]
  · have hfld := hc
    rename_i ha
    rw [scan_at (by omega), if_neg (by omega), if_neg (by rw [hfld]; simp)] at hs
    have ha2 := arity_le (List.getD p i tNode.dflt).1
    generalize hn : List.getD p i tNode.dflt = n at *
    refine aw_loop (σ := {x : Nat × Int × Int // x.1 ≤ (arity n.1).toNat ∧ 0 ≤ x.2.1 ∧ x.2.1 ≤ (i : Int) ∧ 0 ≤ x.2.2 ∧ x.2.2 ≤ 60 ∧ inner p sh n.1 (arity n.1) x.1 x.2.1 x.2.2 = inner p sh n.1 (arity n.1) (arity n.1).toNat (sh.length : Int) 0}) (fun x => ⟨[(13, .data (.int .i64) (x.1.1 : Int)), (10, .data (.int .i64) (arity n.1)), (11, .data (.int .i64) x.1.2.1), (12, .data (.int .i64) x.1.2.2), (9, .optr 9 tNode 0 []), (8, .data (.int .i64) (i : Int)), (6, .own 6 (.int .i64) 0 (List.length sh)), (7, .own 7 (.int .i64) 0 (List.length sh)), (0, .data (.sl 48 tNode) p)], [(9, .row 48 tNode [n] false), (6, .row 3 (.int .i64) (sh.map (·.1)) false), (7, .row 3 (.int .i64) (sh.map (·.2.1)) false)], 91⟩) (fun x => x.1.1) ⟨((arity n.1).toNat, (i : Int), 0), by simp, by simp only; omega, by simp only; omega, by simp only; omega, by simp only; omega, by rw [hl]⟩ (Le.drop (by simp [Abs.get]; show (_ : Int) = _; omega) (by simp [Abs.get]) rfl) ?_
    rintro ⟨⟨j, b, h⟩, hj, hb0, hb1, hh0, hh1, hin⟩
    simp only at hj hb0 hb1 hh0 hh1 hin
    repeat' (first
      | refine aw_seq ?_
      | refine aw_region GT_ok hΦ rfl (by (simp only [go_sem, GT, Nat.reduceEqDiff, Nat.reduceSub, Nat.reduceMul, Nat.reduceLeDiff, Nat.reduceAdd, Nat.reduceLT, Nat.reduceBEq, reduceIte, reduceCtorEq, Int.reduceToNat, Φ8]); exact rfl) ?_ ?_
      | refine aw_draw GT_ok hΦ rfl (by kernel_rfl) (by (simp only [go_sem, GT, Nat.reduceEqDiff, Nat.reduceSub, Nat.reduceMul, Nat.reduceLeDiff, Nat.reduceAdd, Nat.reduceLT, Nat.reduceBEq, reduceIte, reduceCtorEq, Int.reduceToNat, Φ8]); exact rfl) ?_ ?_
      | refine aw_cond (by (simp only [go_sem, GT, Nat.reduceEqDiff, Nat.reduceSub, Nat.reduceMul, Nat.reduceLeDiff, Nat.reduceAdd, Nat.reduceLT, Nat.reduceBEq, reduceIte, reduceCtorEq, Int.reduceToNat, Φ8]); exact rfl) ?_ ?_ ?_
      | refine aw_ret ?_
      | refine aw_skip ?_
      | refine aw_block ?_
      | refine aw_exit ?_
      | refine tq_ret ?_
      | refine tq_exit ?_
      | refine bq_ret ?_
      | refine bq_normal ?_
      | refine bq_exit ?_
      | refine bq_out (by decide) ?_
      | refine tq_normal ?_
      | exact nop
      | (refine fun (hc : (_ : Bool) = _) => ?_; first | assumption | exact hc | (simp only [Bool.not_eq_true', Bool.not_eq_false', decide_eq_true_eq, decide_eq_false_iff_not, Bool.and_eq_true, Bool.or_eq_true, Bool.or_eq_false_iff, Bool.and_eq_false_imp, Int.not_lt, Int.not_le, Classical.not_not, ne_eq, reduceCtorEq, gt_iff_lt, ge_iff_le, Bool.true_eq_false, Bool.false_eq_true, eq_self, not_true, not_false_eq_true] at hc; first | done | (exfalso; omega) | skip) | skip)
      | simp only [List.mem_cons, List.not_mem_nil, forall_eq_or_imp, false_implies, implies_true, and_true, true_and, or_false, forall_eq]
      | refine fin_data (.inl rfl) (by (simp only [go_sem, GT, Nat.reduceEqDiff, Nat.reduceSub, Nat.reduceMul, Nat.reduceLeDiff, Nat.reduceAdd, Nat.reduceLT, Nat.reduceBEq, reduceIte, reduceCtorEq, Int.reduceToNat, Φ8]); exact rfl) ?_ ?_
      | refine fin_pure (.inl rfl) (by (simp only [go_sem, GT, Nat.reduceEqDiff, Nat.reduceSub, Nat.reduceMul, Nat.reduceLeDiff, Nat.reduceAdd, Nat.reduceLT, Nat.reduceBEq, reduceIte, reduceCtorEq, Int.reduceToNat, Φ8]); exact rfl) ?_ (tup_congr ?_)
      | refine fin_pure (.inr rfl) (by (simp only [go_sem, GT, Nat.reduceEqDiff, Nat.reduceSub, Nat.reduceMul, Nat.reduceLeDiff, Nat.reduceAdd, Nat.reduceLT, Nat.reduceBEq, reduceIte, reduceCtorEq, Int.reduceToNat, Φ8]); exact rfl) ?_ (tup_congr ?_)
      | exact trivial
      | assumption
      | exact fun h => h
      | refine And.intro ?_ ?_
      | rfl
      | omega
      | (show (_ : Int) ≤ _; omega)
      | (show (_ : Int) < _; omega)
      | (refine fits_i64 ?_ ?_ <;> omega)
      | (show (_ : Bool) = true; simp only [Bool.not_eq_true', Bool.not_eq_false', decide_eq_true_eq, decide_eq_false_iff_not, Bool.and_eq_true, Bool.or_eq_true, Bool.or_eq_false_iff, Bool.and_eq_false_imp, Int.not_lt, Int.not_le, Classical.not_not, ne_eq, reduceCtorEq, gt_iff_lt, ge_iff_le, Bool.true_eq_false, Bool.false_eq_true, eq_self, not_true, not_false_eq_true]; first | omega | (refine And.intro ?_ ?_ <;> first | assumption | omega))
      | (simp only [Bool.not_eq_true', Bool.not_eq_false', decide_eq_true_eq, decide_eq_false_iff_not, Bool.and_eq_true, Bool.or_eq_true, Bool.or_eq_false_iff, Bool.and_eq_false_imp, Int.not_lt, Int.not_le, Classical.not_not, ne_eq, reduceCtorEq, gt_iff_lt, ge_iff_le, Bool.true_eq_false, Bool.false_eq_true, eq_self, not_true, not_false_eq_true]; omega))
    · obtain ⟨j, rfl⟩ : ∃ k, j = k + 1 := ⟨j - 1, by omega⟩
      rw [inner, if_pos (by assumption)] at hin
      rw [← hin] at hs
      rw [fromP_err hs.symm (by decide), hl]
    · have hx := sth_ok hok (b := b) (by omega) (by omega)
      rw [map2]
      refine fits_i64 ?_ ?_ <;> omega
    · have hx := sth_ok hok (b := b) (by omega) (by omega)
      obtain ⟨j, rfl⟩ : ∃ k, j = k + 1 := ⟨j - 1, by omega⟩
      rw [map1, map2]
      refine ⟨⟨(j, (List.getD sh (b - 1).toNat tShape.dflt).1, max h ((List.getD sh (b - 1).toNat tShape.dflt).2.1 - 1)), by simp only; omega, by simp only; omega, by simp only; omega, by simp only; omega, by simp only; omega, ?_⟩, Le.drop (by simp [Abs.get]) (by simp [Abs.get]) rfl, by simp only; omega⟩
      have hless := less_yes (j := j + 1) hc
      rw [Nat.add_sub_cancel] at hless
      rw [← hin, inner_step (by assumption), hless]
      simp only [sth, if_true, Bool.false_eq_true, if_false]
    · have hx := sth_ok hok (b := b) (by omega) (by omega)
      have hless := less_no (p := p) (b := b) (j := j) (by assumption) (by assumption)
      obtain ⟨j, rfl⟩ : ∃ k, j = k + 1 := ⟨j - 1, by omega⟩
      rw [map1, map2]
      refine ⟨⟨(j, (List.getD sh (b - 1).toNat tShape.dflt).1, max h (List.getD sh (b - 1).toNat tShape.dflt).2.1), by simp only; omega, by simp only; omega, by simp only; omega, by simp only; omega, by simp only; omega, ?_⟩, Le.drop (by simp [Abs.get]) (by simp [Abs.get]) rfl, by simp only; omega⟩
      rw [Nat.add_sub_cancel] at hless
      rw [← hin, inner_step (by assumption), hless]
      simp only [sth, if_true, Bool.false_eq_true, if_false]
    · rw [show j = 0 by omega, inner] at hin
      rw [← hin] at hs
      simp only at hs
      rw [if_pos (by assumption)] at hs
      rw [fromP_err hs.symm (by decide), hl]
    · rw [show j = 0 by omega, inner] at hin
      rw [← hin] at hs
      simp only at hs
      rw [if_neg (by omega)] at hs
      refine ⟨⟨(i + 1, sh ++ [(b, h + 1, ())]), by simp only; omega, by simp [hl], ?_, hs⟩, Le.drop (by simp [Abs.get]) (by simp [Abs.get, List.take_of_length_le]) rfl, by simp only; omega⟩
      exact hok.push (by omega) (by omega) (by omega) (by omega)
  · have hse : scan p p [] = ((0, 0), sh) := by rw [← hs, List.drop_of_length_le (by omega), scan]
    rw [fromP_end hse]
    simp [List.take_of_length_le]
theorem scan_cases {p : List Nd} : ∀ (ns : List Nd) (sh : List Shp), (∃ a e sh', scan p ns sh = ((a, e), sh') ∧ e ≠ 0) ∨ ∃ sh', scan p ns sh = ((0, 0), sh') ∧ sh'.length = sh.length + ns.length
  | [], sh => .inr ⟨sh, rfl, rfl⟩
  | n :: ns, sh => by
    rw [scan]
    split
    · exact .inl ⟨_, _, _, rfl, by decide⟩
    · split
      · exact .inl ⟨_, _, _, rfl, by decide⟩
      · split
        · exact .inl ⟨_, _, _, rfl, by decide⟩
        · split
          · exact .inl ⟨_, _, _, rfl, by decide⟩
          · rcases scan_cases ns (sh ++ [_]) with h | ⟨sh', h1, h2⟩
            · exact .inl h
            · refine .inr ⟨sh', h1, ?_⟩
              rw [h2]
              simp
              omega
noncomputable def Φ9 : Fns := [(41, s41)]
theorem Φ9_ok : FnsOk GT.P Φ9 := fns_cons f41_ok (by kernel_rfl) fns_nil
set_option maxHeartbeats 1000000 in
theorem f13_ok : FnOk Try.prog 13 s12 := by
  have hΦ := Φ9_ok
  refine fn_data (Γ := GT) (rs := [.tmp 2, .tmp 3]) Try.func13 rfl rfl Try.ntmps13 (by decide) ?_
  rintro S0 w0 ⟨p, ⟨⟩⟩ ps r ob h _ hw
  simp only [Option.some.injEq, Prod.mk.injEq] at h
  obtain ⟨rfl, rfl, rfl⟩ := h
  simp only [dataArgs]
  repeat' (first
    | refine aw_seq ?_
    | refine aw_region GT_ok hΦ rfl (by (simp only [go_sem, GT, Nat.reduceEqDiff, Nat.reduceSub, Nat.reduceMul, Nat.reduceLeDiff, Nat.reduceAdd, Nat.reduceLT, Nat.reduceBEq, reduceIte, reduceCtorEq, Int.reduceToNat, Φ9, s41]); exact rfl) ?_ ?_
    | refine aw_draw GT_ok hΦ rfl (by kernel_rfl) (by (simp only [go_sem, GT, Nat.reduceEqDiff, Nat.reduceSub, Nat.reduceMul, Nat.reduceLeDiff, Nat.reduceAdd, Nat.reduceLT, Nat.reduceBEq, reduceIte, reduceCtorEq, Int.reduceToNat, Φ9, s41]); exact rfl) ?_ ?_
    | refine aw_cond (by (simp only [go_sem, GT, Nat.reduceEqDiff, Nat.reduceSub, Nat.reduceMul, Nat.reduceLeDiff, Nat.reduceAdd, Nat.reduceLT, Nat.reduceBEq, reduceIte, reduceCtorEq, Int.reduceToNat, Φ9, s41]); exact rfl) ?_ ?_ ?_
    | refine aw_ret ?_
    | refine aw_skip ?_
    | refine aw_block ?_
    | refine aw_exit ?_
    | refine tq_ret ?_
    | refine tq_exit ?_
    | refine bq_ret ?_
    | refine bq_normal ?_
    | refine bq_exit ?_
    | refine bq_out (by decide) ?_
    | refine tq_normal ?_
    | exact nop
    | (refine fun (hc : (_ : Bool) = _) => ?_; first | assumption | exact hc | (simp only [Bool.not_eq_true', Bool.not_eq_false', decide_eq_true_eq, decide_eq_false_iff_not, Bool.and_eq_true, Bool.or_eq_true, Bool.or_eq_false_iff, Bool.and_eq_false_imp, Int.not_lt, Int.not_le, Classical.not_not, ne_eq, reduceCtorEq, gt_iff_lt, ge_iff_le, Bool.true_eq_false, Bool.false_eq_true, eq_self, not_true, not_false_eq_true] at hc; first | done | (exfalso; omega) | skip) | skip)
    | simp only [List.mem_cons, List.not_mem_nil, forall_eq_or_imp, false_implies, implies_true, and_true, true_and, or_false, forall_eq]
    | refine fin_data (.inl rfl) (by (simp only [go_sem, GT, Nat.reduceEqDiff, Nat.reduceSub, Nat.reduceMul, Nat.reduceLeDiff, Nat.reduceAdd, Nat.reduceLT, Nat.reduceBEq, reduceIte, reduceCtorEq, Int.reduceToNat, Φ9, s41]); exact rfl) ?_ ?_
    | refine fin_pure (.inl rfl) (by (simp only [go_sem, GT, Nat.reduceEqDiff, Nat.reduceSub, Nat.reduceMul, Nat.reduceLeDiff, Nat.reduceAdd, Nat.reduceLT, Nat.reduceBEq, reduceIte, reduceCtorEq, Int.reduceToNat, Φ9, s41]); exact rfl) ?_ (tup_congr ?_)
    | refine fin_pure (.inr rfl) (by (simp only [go_sem, GT, Nat.reduceEqDiff, Nat.reduceSub, Nat.reduceMul, Nat.reduceLeDiff, Nat.reduceAdd, Nat.reduceLT, Nat.reduceBEq, reduceIte, reduceCtorEq, Int.reduceToNat, Φ9, s41]); exact rfl) ?_ (tup_congr ?_)
    | exact trivial
    | assumption
    | exact fun h => h
    | refine And.intro ?_ ?_
    | rfl
    | omega
    | (show (_ : Int) ≤ _; omega)
    | (show (_ : Int) < _; omega)
    | (refine fits_i64 ?_ ?_ <;> omega)
    | (show (_ : Bool) = true; simp only [Bool.not_eq_true', Bool.not_eq_false', decide_eq_true_eq, decide_eq_false_iff_not, Bool.and_eq_true, Bool.or_eq_true, Bool.or_eq_false_iff, Bool.and_eq_false_imp, Int.not_lt, Int.not_le, Classical.not_not, ne_eq, reduceCtorEq, gt_iff_lt, ge_iff_le, Bool.true_eq_false, Bool.false_eq_true, eq_self, not_true, not_false_eq_true]; first | omega | (refine And.intro ?_ ?_ <;> first | assumption | omega))
    | (simp only [Bool.not_eq_true', Bool.not_eq_false', decide_eq_true_eq, decide_eq_false_iff_not, Bool.and_eq_true, Bool.or_eq_true, Bool.or_eq_false_iff, Bool.and_eq_false_imp, Int.not_lt, Int.not_le, Classical.not_not, ne_eq, reduceCtorEq, gt_iff_lt, ge_iff_le, Bool.true_eq_false, Bool.false_eq_true, eq_self, not_true, not_false_eq_true]; omega))
  · unfold chkP
    rw [if_pos (by omega)]
  · unfold chkP
    rw [if_neg (by omega)]
    rcases scan_cases p [] with ⟨a, e, sh, h1, h2⟩ | ⟨sh, h1, h2⟩
    · rw [fromP_err h1 h2, eachP_err h1 h2]
    · rw [fromP_end h1] at hc
      exact absurd rfl hc
  · rcases scan_cases p [] with ⟨a, e, sh, h1, h2⟩ | ⟨sh, h1, h2⟩
    · have h3 : (fromP p).2.2 = 0 := by assumption
      rw [fromP_err h1 h2] at h3
      exact absurd h3 h2
    · rw [fromP_end h1]
      simp only [List.length_map, h2, List.length_nil]
      show (_ : Int) < _
      omega
  · unfold chkP
    rw [if_neg (by omega)]
    rcases scan_cases p [] with ⟨a, e, sh, h1, h2⟩ | ⟨sh, h1, h2⟩
    · have h3 : (fromP p).2.2 = 0 := by assumption
      rw [fromP_err h1 h2] at h3
      exact absurd h3 h2
    · rw [fromP_end h1, map1] at hc
      rw [eachP_end h1, if_pos (by simp only [Bool.not_eq_true', Bool.not_eq_false', decide_eq_true_eq, decide_eq_false_iff_not, Bool.and_eq_true, Bool.or_eq_true, Bool.or_eq_false_iff, Bool.and_eq_false_imp, Int.not_lt, Int.not_le, Classical.not_not, ne_eq, reduceCtorEq, gt_iff_lt, ge_iff_le, Bool.true_eq_false, Bool.false_eq_true, eq_self, not_true, not_false_eq_true]; exact hc)]
  · unfold chkP
    rw [if_neg (by omega)]
    rcases scan_cases p [] with ⟨a, e, sh, h1, h2⟩ | ⟨sh, h1, h2⟩
    · have h3 : (fromP p).2.2 = 0 := by assumption
      rw [fromP_err h1 h2] at h3
      exact absurd h3 h2
    · rw [fromP_end h1, map1] at hc
      rw [eachP_end h1, if_neg (by simp only [Bool.not_eq_true', Bool.not_eq_false', decide_eq_true_eq, decide_eq_false_iff_not, Bool.and_eq_true, Bool.or_eq_true, Bool.or_eq_false_iff, Bool.and_eq_false_imp, Int.not_lt, Int.not_le, Classical.not_not, ne_eq, reduceCtorEq, gt_iff_lt, ge_iff_le, Bool.true_eq_false, Bool.false_eq_true, eq_self, not_true, not_false_eq_true]; intro h; rcases h with h | h; exact hc.1 h; exact h hc.2)]
end Go.Proofs
