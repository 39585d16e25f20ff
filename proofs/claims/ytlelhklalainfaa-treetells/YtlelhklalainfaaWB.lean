/- Part of the proof of the law's row: YtlelhklalainfaaWB. -/
import Derived.Test.YtlelhklalainfaaWA
set_option linter.all false
set_option linter.unusedVariables false
set_option linter.unusedSimpArgs false
namespace Go.Proofs
open Go.Abs
attribute [local irreducible] AW Abs.Fin thenQ blockQ Le
def allFrom (f : Int → Bool) (s : ByteArray) : Nat → Nat → Bool
  | 0, _ => true
  | r + 1, i => if (!f (chr s i)) = true then false else allFrom f s r (i + 1)
def restB (c : Int) : Bool := !(!headB c && (decide (c < 48) || decide (c > 57)))
def nameB (s : ByteArray) : Bool := if (decide (s = ⟨#[]⟩) || decide ((s.size : Int) > 32) || !headB (chr s 0)) = true then false else allFrom restB s s.size 0
theorem size_pos {s : ByteArray} (h : s ≠ ⟨#[]⟩) : 0 < s.size := by
  rcases Nat.eq_zero_or_pos s.size with h0 | h0
  · exfalso
    apply h
    cases s with | mk d => 
      simp only [ByteArray.size] at h0
      rw [Array.size_eq_zero_iff.1 h0]
  · exact h0
theorem allFrom_step {f : Int → Bool} {s : ByteArray} {i : Nat} (hi : i < s.size) : allFrom f s (s.size - i) i = if (!f (chr s i)) = true then false else allFrom f s (s.size - (i + 1)) (i + 1) := by
  rw [show s.size - i = (s.size - (i + 1)) + 1 by omega, allFrom]
noncomputable def Φ1 : Fns := [(63, dspec [.int .u8] fun x => some ([], .data .bool (headB x.1), none))]
theorem Φ1_ok : FnsOk GT.P Φ1 := fns_cons f63_ok (by kernel_rfl) fns_nil
set_option maxHeartbeats 400000 in
theorem f59_ok : FnOk Try.prog 59 (dspec [.str] fun x => some ([], .data .bool (nameB x.1), none)) := by
  have hΦ := Φ1_ok
  refine fn_data (Γ := GT) (rs := [.tmp 2]) Try.func59 rfl rfl Try.ntmps59 (by decide) ?_
  rintro S0 w0 ⟨s, ⟨⟩⟩ ps r ob h _ hw
  simp only [Option.some.injEq, Prod.mk.injEq] at h
  obtain ⟨rfl, rfl, rfl⟩ := h
  simp only [dataArgs]
  repeat' (first
    | refine aw_seq ?_
    | refine aw_region GT_ok hΦ rfl (by (simp only [go_sem, GT, Nat.reduceEqDiff, Nat.reduceSub, Nat.reduceMul, Nat.reduceLeDiff, Nat.reduceAdd, Nat.reduceLT, Nat.reduceBEq, reduceIte, reduceCtorEq, Int.reduceToNat, Φ1]); exact rfl) ?_ ?_
    | refine aw_draw GT_ok hΦ rfl (by kernel_rfl) (by (simp only [go_sem, GT, Nat.reduceEqDiff, Nat.reduceSub, Nat.reduceMul, Nat.reduceLeDiff, Nat.reduceAdd, Nat.reduceLT, Nat.reduceBEq, reduceIte, reduceCtorEq, Int.reduceToNat, Φ1]); exact rfl) ?_ ?_
    | refine aw_cond (by (simp only [go_sem, GT, Nat.reduceEqDiff, Nat.reduceSub, Nat.reduceMul, Nat.reduceLeDiff, Nat.reduceAdd, Nat.reduceLT, Nat.reduceBEq, reduceIte, reduceCtorEq, Int.reduceToNat, Φ1]); exact rfl) ?_ ?_ ?_
    | refine aw_ret ?_
    | refine aw_skip ?_
    | refine aw_block ?_
    | refine aw_exit ?_
    | refine tq_ret ?_
    | refine tq_exit ?_
    | refine bq_ret ?_
    | refine bq_normal ?_
    | refine bq_exit ?_
    | refine bq_out (by decide) ?_
    | refine tq_normal ?_
    | exact nop
    | (refine fun (hc : (_ : Bool) = _) => ?_; first | assumption | exact hc | (simp only [Bool.not_eq_true', Bool.not_eq_false', decide_eq_true_eq, decide_eq_false_iff_not, Bool.and_eq_true, Bool.or_eq_true, Bool.or_eq_false_iff, Bool.and_eq_false_imp, Int.not_lt, Int.not_le, Classical.not_not, ne_eq, reduceCtorEq, gt_iff_lt, ge_iff_le, Bool.true_eq_false, Bool.false_eq_true, eq_self, not_true, not_false_eq_true] at hc; first | done | (exfalso; omega) | skip) | skip)
    | simp only [List.mem_cons, List.not_mem_nil, forall_eq_or_imp, false_implies, implies_true, and_true, true_and, or_false, forall_eq]
    | refine fin_data (.inl rfl) (by (simp only [go_sem, GT, Nat.reduceEqDiff, Nat.reduceSub, Nat.reduceMul, Nat.reduceLeDiff, Nat.reduceAdd, Nat.reduceLT, Nat.reduceBEq, reduceIte, reduceCtorEq, Int.reduceToNat, Φ1]); exact rfl) ?_ ?_
    | refine fin_pure (.inl rfl) (by (simp only [go_sem, GT, Nat.reduceEqDiff, Nat.reduceSub, Nat.reduceMul, Nat.reduceLeDiff, Nat.reduceAdd, Nat.reduceLT, Nat.reduceBEq, reduceIte, reduceCtorEq, Int.reduceToNat, Φ1]); exact rfl) ?_ (tup_congr ?_)
    | refine cons_congr (data_congr ?_) ?_
    | exact trivial
    | assumption
    | exact fun h => h
    | refine And.intro ?_ ?_
    | rfl
    | omega
    | (refine fits_i64 ?_ ?_ <;> omega)
    | (show (_ : Bool) = true; simp only [Bool.not_eq_true', Bool.not_eq_false', decide_eq_true_eq, decide_eq_false_iff_not, Bool.and_eq_true, Bool.or_eq_true, Bool.or_eq_false_iff, Bool.and_eq_false_imp, Int.not_lt, Int.not_le, Classical.not_not, ne_eq, reduceCtorEq, gt_iff_lt, ge_iff_le, Bool.true_eq_false, Bool.false_eq_true, eq_self, not_true, not_false_eq_true]; first | omega | (refine And.intro ?_ ?_ <;> first | assumption | omega))
    | (simp only [Bool.not_eq_true', Bool.not_eq_false', decide_eq_true_eq, decide_eq_false_iff_not, Bool.and_eq_true, Bool.or_eq_true, Bool.or_eq_false_iff, Bool.and_eq_false_imp, Int.not_lt, Int.not_le, Classical.not_not, ne_eq, reduceCtorEq, gt_iff_lt, ge_iff_le, Bool.true_eq_false, Bool.false_eq_true, eq_self, not_true, not_false_eq_true]; omega))
  · have := size_pos hc.1
    omega
  · unfold nameB chr
    rw [if_pos (by simp only [Bool.not_eq_true', Bool.not_eq_false', decide_eq_true_eq, decide_eq_false_iff_not, Bool.and_eq_true, Bool.or_eq_true, Bool.or_eq_false_iff, Bool.and_eq_false_imp, Int.not_lt, Int.not_le, Classical.not_not, ne_eq, reduceCtorEq, gt_iff_lt, ge_iff_le, Bool.true_eq_false, Bool.false_eq_true, eq_self, not_true, not_false_eq_true]; exact hc)]
  · have hp := size_pos hc.1.1
    have hs32 := hc.1.2
    have hn : nameB s = allFrom restB s (s.size - 0) 0 := by
      unfold nameB chr
      rw [if_neg (fun h => by simp only [Bool.not_eq_true', Bool.not_eq_false', decide_eq_true_eq, decide_eq_false_iff_not, Bool.and_eq_true, Bool.or_eq_true, Bool.or_eq_false_iff, Bool.and_eq_false_imp, Int.not_lt, Int.not_le, Classical.not_not, ne_eq, reduceCtorEq, gt_iff_lt, ge_iff_le, Bool.true_eq_false, Bool.false_eq_true, eq_self, not_true, not_false_eq_true] at h; rcases h with (h | h) | h; exact hc.1.1 h; omega; rw [hc.2] at h; cases h)]
      rfl
    refine aw_loop (σ := {i : Nat // i ≤ s.size ∧ allFrom restB s (s.size - i) i = nameB s}) (fun i => ⟨[(19, .data (.int .i64) (i.1 : Int)), (18, .data (.int .i64) (s.size : Int)), (0, .data .str s)], [], 40⟩) (fun i => s.size - i.1) ⟨0, by simp, hn.symm⟩ (Le.drop (by simp [Abs.get]) (by simp) rfl) ?_
    rintro ⟨i, hi, hs⟩
    repeat' (first
      | refine aw_seq ?_
      | refine aw_region GT_ok hΦ rfl (by (simp only [go_sem, GT, Nat.reduceEqDiff, Nat.reduceSub, Nat.reduceMul, Nat.reduceLeDiff, Nat.reduceAdd, Nat.reduceLT, Nat.reduceBEq, reduceIte, reduceCtorEq, Int.reduceToNat, Φ1]); exact rfl) ?_ ?_
      | refine aw_draw GT_ok hΦ rfl (by kernel_rfl) (by (simp only [go_sem, GT, Nat.reduceEqDiff, Nat.reduceSub, Nat.reduceMul, Nat.reduceLeDiff, Nat.reduceAdd, Nat.reduceLT, Nat.reduceBEq, reduceIte, reduceCtorEq, Int.reduceToNat, Φ1]); exact rfl) ?_ ?_
      | refine aw_cond (by (simp only [go_sem, GT, Nat.reduceEqDiff, Nat.reduceSub, Nat.reduceMul, Nat.reduceLeDiff, Nat.reduceAdd, Nat.reduceLT, Nat.reduceBEq, reduceIte, reduceCtorEq, Int.reduceToNat, Φ1]); exact rfl) ?_ ?_ ?_
      | refine aw_ret ?_
      | refine aw_skip ?_
      | refine aw_block ?_
      | refine aw_exit ?_
      | refine tq_ret ?_
      | refine tq_exit ?_
      | refine bq_ret ?_
      | refine bq_normal ?_
      | refine bq_exit ?_
      | refine bq_out (by decide) ?_
      | refine tq_normal ?_
      | exact nop
      | (refine fun (hc : (_ : Bool) = _) => ?_; first | assumption | exact hc | (simp only [Bool.not_eq_true', Bool.not_eq_false', decide_eq_true_eq, decide_eq_false_iff_not, Bool.and_eq_true, Bool.or_eq_true, Bool.or_eq_false_iff, Bool.and_eq_false_imp, Int.not_lt, Int.not_le, Classical.not_not, ne_eq, reduceCtorEq, gt_iff_lt, ge_iff_le, Bool.true_eq_false, Bool.false_eq_true, eq_self, not_true, not_false_eq_true] at hc; first | done | (exfalso; omega) | skip) | skip)
      | simp only [List.mem_cons, List.not_mem_nil, forall_eq_or_imp, false_implies, implies_true, and_true, true_and, or_false, forall_eq]
      | refine fin_data (.inl rfl) (by (simp only [go_sem, GT, Nat.reduceEqDiff, Nat.reduceSub, Nat.reduceMul, Nat.reduceLeDiff, Nat.reduceAdd, Nat.reduceLT, Nat.reduceBEq, reduceIte, reduceCtorEq, Int.reduceToNat, Φ1]); exact rfl) ?_ ?_
      | refine fin_pure (.inl rfl) (by (simp only [go_sem, GT, Nat.reduceEqDiff, Nat.reduceSub, Nat.reduceMul, Nat.reduceLeDiff, Nat.reduceAdd, Nat.reduceLT, Nat.reduceBEq, reduceIte, reduceCtorEq, Int.reduceToNat, Φ1]); exact rfl) ?_ (tup_congr ?_)
      | refine cons_congr (data_congr ?_) ?_
      | exact trivial
      | assumption
      | exact fun h => h
      | refine And.intro ?_ ?_
      | rfl
      | omega
      | (refine fits_i64 ?_ ?_ <;> omega)
      | (show (_ : Bool) = true; simp only [Bool.not_eq_true', Bool.not_eq_false', decide_eq_true_eq, decide_eq_false_iff_not, Bool.and_eq_true, Bool.or_eq_true, Bool.or_eq_false_iff, Bool.and_eq_false_imp, Int.not_lt, Int.not_le, Classical.not_not, ne_eq, reduceCtorEq, gt_iff_lt, ge_iff_le, Bool.true_eq_false, Bool.false_eq_true, eq_self, not_true, not_false_eq_true]; first | omega | (refine And.intro ?_ ?_ <;> first | assumption | omega))
      | (simp only [Bool.not_eq_true', Bool.not_eq_false', decide_eq_true_eq, decide_eq_false_iff_not, Bool.and_eq_true, Bool.or_eq_true, Bool.or_eq_false_iff, Bool.and_eq_false_imp, Int.not_lt, Int.not_le, Classical.not_not, ne_eq, reduceCtorEq, gt_iff_lt, ge_iff_le, Bool.true_eq_false, Bool.false_eq_true, eq_self, not_true, not_false_eq_true]; omega))
    · rw [← hs, allFrom_step (by omega), if_pos (by simp only [restB, Bool.not_eq_true', Bool.not_eq_false', decide_eq_true_eq, decide_eq_false_iff_not, Bool.and_eq_true, Bool.or_eq_true, Bool.or_eq_false_iff, Bool.and_eq_false_imp, Int.not_lt, Int.not_le, Classical.not_not, ne_eq, reduceCtorEq, gt_iff_lt, ge_iff_le, Bool.true_eq_false, Bool.false_eq_true, eq_self, not_true, not_false_eq_true]; exact hc)]
    · exact ⟨⟨i + 1, by omega, by rw [← hs, allFrom_step (i := i) (by omega), if_neg (by simp [restB, chr]; simpa using hc)]⟩, Le.drop (by simp [Abs.get]) (by simp) rfl, by simp only; omega⟩
    · rw [← hs, show s.size - i = 0 by omega]
      rfl
/-- A template, from a place on. -/
def tmplF (s : ByteArray) : Nat → Nat → Bool
  | 0, _ => true
  | r + 1, i => if i < s.size then
      (if chr s i ≠ 37 then tmplF s r (i + 1)
      else if (decide ((i : Int) + 1 = s.size) || (!decide (chr s (i + 1) = 37) && (decide (chr s (i + 1) < 48) || decide (chr s (i + 1) > 57)))) = true then false
      else tmplF s r (i + 2)) else true
def tmplB (s : ByteArray) : Bool := if (s.size : Int) > 255 then false else tmplF s (s.size + 1) 0
set_option maxHeartbeats 1000000 in
theorem f60_ok : FnOk Try.prog 60 (dspec [.str] fun x => some ([], .data .bool (tmplB x.1), none)) := by
  have hΦ : FnsOk GT.P [] := fns_nil
  refine fn_data (Γ := GT) (rs := [.tmp 2]) Try.func60 rfl rfl Try.ntmps60 (by decide) ?_
  rintro S0 w0 ⟨s, ⟨⟩⟩ ps r ob h _ hw
  simp only [Option.some.injEq, Prod.mk.injEq] at h
  obtain ⟨rfl, rfl, rfl⟩ := h
  simp only [dataArgs]
  repeat' (first
    | refine aw_seq ?_
    | refine aw_region GT_ok hΦ rfl (by (simp only [go_sem, GT, Nat.reduceEqDiff, Nat.reduceSub, Nat.reduceMul, Nat.reduceLeDiff, Nat.reduceAdd, Nat.reduceLT, Nat.reduceBEq, reduceIte, reduceCtorEq, Int.reduceToNat]); exact rfl) ?_ ?_
    | refine aw_draw GT_ok hΦ rfl (by kernel_rfl) (by (simp only [go_sem, GT, Nat.reduceEqDiff, Nat.reduceSub, Nat.reduceMul, Nat.reduceLeDiff, Nat.reduceAdd, Nat.reduceLT, Nat.reduceBEq, reduceIte, reduceCtorEq, Int.reduceToNat]); exact rfl) ?_ ?_
    | refine aw_cond (by (simp only [go_sem, GT, Nat.reduceEqDiff, Nat.reduceSub, Nat.reduceMul, Nat.reduceLeDiff, Nat.reduceAdd, Nat.reduceLT, Nat.reduceBEq, reduceIte, reduceCtorEq, Int.reduceToNat]); exact rfl) ?_ ?_ ?_
    | refine aw_ret ?_
    | refine aw_skip ?_
    | refine aw_block ?_
    | refine aw_exit ?_
    | refine tq_ret ?_
    | refine tq_exit ?_
    | refine bq_ret ?_
    | refine bq_normal ?_
    | refine bq_exit ?_
    | refine bq_out (by decide) ?_
    | refine tq_normal ?_
    | exact nop
    | (refine fun (hc : (_ : Bool) = _) => ?_; first | assumption | exact hc | (simp only [Bool.not_eq_true', Bool.not_eq_false', decide_eq_true_eq, decide_eq_false_iff_not, Bool.and_eq_true, Bool.or_eq_true, Bool.or_eq_false_iff, Bool.and_eq_false_imp, Int.not_lt, Int.not_le, Classical.not_not, ne_eq, reduceCtorEq, gt_iff_lt, ge_iff_le, Bool.true_eq_false, Bool.false_eq_true, eq_self, not_true, not_false_eq_true] at hc; first | done | (exfalso; omega) | skip) | skip)
    | simp only [List.mem_cons, List.not_mem_nil, forall_eq_or_imp, false_implies, implies_true, and_true, true_and, or_false, forall_eq]
    | refine fin_data (.inl rfl) (by (simp only [go_sem, GT, Nat.reduceEqDiff, Nat.reduceSub, Nat.reduceMul, Nat.reduceLeDiff, Nat.reduceAdd, Nat.reduceLT, Nat.reduceBEq, reduceIte, reduceCtorEq, Int.reduceToNat]); exact rfl) ?_ ?_
    | refine fin_pure (.inl rfl) (by (simp only [go_sem, GT, Nat.reduceEqDiff, Nat.reduceSub, Nat.reduceMul, Nat.reduceLeDiff, Nat.reduceAdd, Nat.reduceLT, Nat.reduceBEq, reduceIte, reduceCtorEq, Int.reduceToNat]); exact rfl) ?_ (tup_congr ?_)
    | refine cons_congr (data_congr ?_) ?_
    | exact trivial
    | assumption
    | exact fun h => h
    | refine And.intro ?_ ?_
    | rfl
    | omega
    | (refine fits_i64 ?_ ?_ <;> omega)
    | (show (_ : Bool) = true; simp only [Bool.not_eq_true', Bool.not_eq_false', decide_eq_true_eq, decide_eq_false_iff_not, Bool.and_eq_true, Bool.or_eq_true, Bool.or_eq_false_iff, Bool.and_eq_false_imp, Int.not_lt, Int.not_le, Classical.not_not, ne_eq, reduceCtorEq, gt_iff_lt, ge_iff_le, Bool.true_eq_false, Bool.false_eq_true, eq_self, not_true, not_false_eq_true]; first | omega | (refine And.intro ?_ ?_ <;> first | assumption | omega))
    | (simp only [Bool.not_eq_true', Bool.not_eq_false', decide_eq_true_eq, decide_eq_false_iff_not, Bool.and_eq_true, Bool.or_eq_true, Bool.or_eq_false_iff, Bool.and_eq_false_imp, Int.not_lt, Int.not_le, Classical.not_not, ne_eq, reduceCtorEq, gt_iff_lt, ge_iff_le, Bool.true_eq_false, Bool.false_eq_true, eq_self, not_true, not_false_eq_true]; omega))
  · unfold tmplB
    rw [if_pos hc]
  · have hn : tmplF s (s.size + 1) 0 = tmplB s := by
      unfold tmplB
      rw [if_neg (by omega)]
    refine aw_loop (σ := {x : Nat × Nat // x.2 ≤ s.size ∧ s.size < x.1 + x.2 ∧ tmplF s x.1 x.2 = tmplB s}) (fun x => ⟨[(3, .data (.int .i64) (x.1.2 : Int)), (2, .data .bool false), (0, .data .str s)], [], 41⟩) (fun x => s.size - x.1.2) ⟨(s.size + 1, 0), by simp, by simp, hn⟩ (Le.drop (by simp [Abs.get]) (by simp) rfl) ?_
    rintro ⟨⟨r, i⟩, hi, hr, hs⟩
    obtain ⟨r, rfl⟩ : ∃ k, r = k + 1 := ⟨r - 1, by simp only at hi hr; omega⟩
    simp only at hi hr hs
    rw [tmplF] at hs
    repeat' (first
      | refine aw_seq ?_
      | refine aw_region GT_ok hΦ rfl (by (simp only [go_sem, GT, Nat.reduceEqDiff, Nat.reduceSub, Nat.reduceMul, Nat.reduceLeDiff, Nat.reduceAdd, Nat.reduceLT, Nat.reduceBEq, reduceIte, reduceCtorEq, Int.reduceToNat]); exact rfl) ?_ ?_
      | refine aw_draw GT_ok hΦ rfl (by kernel_rfl) (by (simp only [go_sem, GT, Nat.reduceEqDiff, Nat.reduceSub, Nat.reduceMul, Nat.reduceLeDiff, Nat.reduceAdd, Nat.reduceLT, Nat.reduceBEq, reduceIte, reduceCtorEq, Int.reduceToNat]); exact rfl) ?_ ?_
      | refine aw_cond (by (simp only [go_sem, GT, Nat.reduceEqDiff, Nat.reduceSub, Nat.reduceMul, Nat.reduceLeDiff, Nat.reduceAdd, Nat.reduceLT, Nat.reduceBEq, reduceIte, reduceCtorEq, Int.reduceToNat]); exact rfl) ?_ ?_ ?_
      | refine aw_ret ?_
      | refine aw_skip ?_
      | refine aw_block ?_
      | refine aw_exit ?_
      | refine tq_ret ?_
      | refine tq_exit ?_
      | refine bq_ret ?_
      | refine bq_normal ?_
      | refine bq_exit ?_
      | refine bq_out (by decide) ?_
      | refine tq_normal ?_
      | exact nop
      | (refine fun (hc : (_ : Bool) = _) => ?_; first | assumption | exact hc | (simp only [Bool.not_eq_true', Bool.not_eq_false', decide_eq_true_eq, decide_eq_false_iff_not, Bool.and_eq_true, Bool.or_eq_true, Bool.or_eq_false_iff, Bool.and_eq_false_imp, Int.not_lt, Int.not_le, Classical.not_not, ne_eq, reduceCtorEq, gt_iff_lt, ge_iff_le, Bool.true_eq_false, Bool.false_eq_true, eq_self, not_true, not_false_eq_true] at hc; first | done | (exfalso; omega) | skip) | skip)
      | simp only [List.mem_cons, List.not_mem_nil, forall_eq_or_imp, false_implies, implies_true, and_true, true_and, or_false, forall_eq]
      | refine fin_data (.inl rfl) (by (simp only [go_sem, GT, Nat.reduceEqDiff, Nat.reduceSub, Nat.reduceMul, Nat.reduceLeDiff, Nat.reduceAdd, Nat.reduceLT, Nat.reduceBEq, reduceIte, reduceCtorEq, Int.reduceToNat]); exact rfl) ?_ ?_
      | refine fin_pure (.inl rfl) (by (simp only [go_sem, GT, Nat.reduceEqDiff, Nat.reduceSub, Nat.reduceMul, Nat.reduceLeDiff, Nat.reduceAdd, Nat.reduceLT, Nat.reduceBEq, reduceIte, reduceCtorEq, Int.reduceToNat]); exact rfl) ?_ (tup_congr ?_)
      | refine cons_congr (data_congr ?_) ?_
      | exact trivial
      | assumption
      | exact fun h => h
      | refine And.intro ?_ ?_
      | rfl
      | omega
      | (refine fits_i64 ?_ ?_ <;> omega)
      | (show (_ : Bool) = true; simp only [Bool.not_eq_true', Bool.not_eq_false', decide_eq_true_eq, decide_eq_false_iff_not, Bool.and_eq_true, Bool.or_eq_true, Bool.or_eq_false_iff, Bool.and_eq_false_imp, Int.not_lt, Int.not_le, Classical.not_not, ne_eq, reduceCtorEq, gt_iff_lt, ge_iff_le, Bool.true_eq_false, Bool.false_eq_true, eq_self, not_true, not_false_eq_true]; first | omega | (refine And.intro ?_ ?_ <;> first | assumption | omega))
      | (simp only [Bool.not_eq_true', Bool.not_eq_false', decide_eq_true_eq, decide_eq_false_iff_not, Bool.and_eq_true, Bool.or_eq_true, Bool.or_eq_false_iff, Bool.and_eq_false_imp, Int.not_lt, Int.not_le, Classical.not_not, ne_eq, reduceCtorEq, gt_iff_lt, ge_iff_le, Bool.true_eq_false, Bool.false_eq_true, eq_self, not_true, not_false_eq_true]; omega))
    · exact ⟨⟨(r, i + 1), by simp only; omega, by simp only; omega, by rw [← hs, if_pos (by omega), if_pos (show chr s i ≠ 37 from hc)]⟩, Le.drop (by simp [Abs.get]) (by simp) rfl, by simp only; omega⟩
    · rw [← hs, if_pos (by omega), if_neg (show ¬ chr s i ≠ 37 from fun h => h (by assumption)), if_pos (by simp only [Bool.not_eq_true', Bool.not_eq_false', decide_eq_true_eq, decide_eq_false_iff_not, Bool.and_eq_true, Bool.or_eq_true, Bool.or_eq_false_iff, Bool.and_eq_false_imp, Int.not_lt, Int.not_le, Classical.not_not, ne_eq, reduceCtorEq, gt_iff_lt, ge_iff_le, Bool.true_eq_false, Bool.false_eq_true, eq_self, not_true, not_false_eq_true]; exact hc)]
    · exact ⟨⟨(r, i + 2), by simp only; omega, by simp only; omega, by rw [← hs, if_pos (by omega), if_neg (show ¬ chr s i ≠ 37 from fun h => h (by assumption)), if_neg (by simp only [Bool.not_eq_true', Bool.not_eq_false', decide_eq_true_eq, decide_eq_false_iff_not, Bool.and_eq_true, Bool.or_eq_true, Bool.or_eq_false_iff, Bool.and_eq_false_imp, Int.not_lt, Int.not_le, Classical.not_not, ne_eq, reduceCtorEq, gt_iff_lt, ge_iff_le, Bool.true_eq_false, Bool.false_eq_true, eq_self, not_true, not_false_eq_true]; intro h; rcases h with h | ⟨h, h2⟩; exact hc.1 h; have h3 : 48 ≤ chr s (i + 1) ∧ chr s (i + 1) ≤ 57 := hc.2 h; omega)]⟩, Le.drop (by simp [Abs.get]; show (_ : Int) = _; omega) (by simp) rfl, by simp only; omega⟩
    · rw [← hs, if_neg (by omega)]
set_option maxHeartbeats 1000000 in
theorem f62_ok : FnOk Try.prog 62 (dspec [.str] fun x => some ([], .data .bool (tmplB x.1), none)) := by
  have hΦ : FnsOk GT.P [] := fns_nil
  refine fn_data (Γ := GT) (rs := [.tmp 2]) Try.func62 rfl rfl Try.ntmps62 (by decide) ?_
  rintro S0 w0 ⟨s, ⟨⟩⟩ ps r ob h _ hw
  simp only [Option.some.injEq, Prod.mk.injEq] at h
  obtain ⟨rfl, rfl, rfl⟩ := h
  simp only [dataArgs]
  repeat' (first
    | refine aw_seq ?_
    | refine aw_region GT_ok hΦ rfl (by (simp only [go_sem, GT, Nat.reduceEqDiff, Nat.reduceSub, Nat.reduceMul, Nat.reduceLeDiff, Nat.reduceAdd, Nat.reduceLT, Nat.reduceBEq, reduceIte, reduceCtorEq, Int.reduceToNat]); exact rfl) ?_ ?_
    | refine aw_draw GT_ok hΦ rfl (by kernel_rfl) (by (simp only [go_sem, GT, Nat.reduceEqDiff, Nat.reduceSub, Nat.reduceMul, Nat.reduceLeDiff, Nat.reduceAdd, Nat.reduceLT, Nat.reduceBEq, reduceIte, reduceCtorEq, Int.reduceToNat]); exact rfl) ?_ ?_
    | refine aw_cond (by (simp only [go_sem, GT, Nat.reduceEqDiff, Nat.reduceSub, Nat.reduceMul, Nat.reduceLeDiff, Nat.reduceAdd, Nat.reduceLT, Nat.reduceBEq, reduceIte, reduceCtorEq, Int.reduceToNat]); exact rfl) ?_ ?_ ?_
    | refine aw_ret ?_
    | refine aw_skip ?_
    | refine aw_block ?_
    | refine aw_exit ?_
    | refine tq_ret ?_
    | refine tq_exit ?_
    | refine bq_ret ?_
    | refine bq_normal ?_
    | refine bq_exit ?_
    | refine bq_out (by decide) ?_
    | refine tq_normal ?_
    | exact nop
    | (refine fun (hc : (_ : Bool) = _) => ?_; first | assumption | exact hc | (simp only [Bool.not_eq_true', Bool.not_eq_false', decide_eq_true_eq, decide_eq_false_iff_not, Bool.and_eq_true, Bool.or_eq_true, Bool.or_eq_false_iff, Bool.and_eq_false_imp, Int.not_lt, Int.not_le, Classical.not_not, ne_eq, reduceCtorEq, gt_iff_lt, ge_iff_le, Bool.true_eq_false, Bool.false_eq_true, eq_self, not_true, not_false_eq_true] at hc; first | done | (exfalso; omega) | skip) | skip)
    | simp only [List.mem_cons, List.not_mem_nil, forall_eq_or_imp, false_implies, implies_true, and_true, true_and, or_false, forall_eq]
    | refine fin_data (.inl rfl) (by (simp only [go_sem, GT, Nat.reduceEqDiff, Nat.reduceSub, Nat.reduceMul, Nat.reduceLeDiff, Nat.reduceAdd, Nat.reduceLT, Nat.reduceBEq, reduceIte, reduceCtorEq, Int.reduceToNat]); exact rfl) ?_ ?_
    | refine fin_pure (.inl rfl) (by (simp only [go_sem, GT, Nat.reduceEqDiff, Nat.reduceSub, Nat.reduceMul, Nat.reduceLeDiff, Nat.reduceAdd, Nat.reduceLT, Nat.reduceBEq, reduceIte, reduceCtorEq, Int.reduceToNat]); exact rfl) ?_ (tup_congr ?_)
    | refine cons_congr (data_congr ?_) ?_
    | exact trivial
    | assumption
    | exact fun h => h
    | refine And.intro ?_ ?_
    | rfl
    | omega
    | (refine fits_i64 ?_ ?_ <;> omega)
    | (show (_ : Bool) = true; simp only [Bool.not_eq_true', Bool.not_eq_false', decide_eq_true_eq, decide_eq_false_iff_not, Bool.and_eq_true, Bool.or_eq_true, Bool.or_eq_false_iff, Bool.and_eq_false_imp, Int.not_lt, Int.not_le, Classical.not_not, ne_eq, reduceCtorEq, gt_iff_lt, ge_iff_le, Bool.true_eq_false, Bool.false_eq_true, eq_self, not_true, not_false_eq_true]; first | omega | (refine And.intro ?_ ?_ <;> first | assumption | omega))
    | (simp only [Bool.not_eq_true', Bool.not_eq_false', decide_eq_true_eq, decide_eq_false_iff_not, Bool.and_eq_true, Bool.or_eq_true, Bool.or_eq_false_iff, Bool.and_eq_false_imp, Int.not_lt, Int.not_le, Classical.not_not, ne_eq, reduceCtorEq, gt_iff_lt, ge_iff_le, Bool.true_eq_false, Bool.false_eq_true, eq_self, not_true, not_false_eq_true]; omega))
  · unfold tmplB
    rw [if_pos hc]
  · have hn : tmplF s (s.size + 1) 0 = tmplB s := by
      unfold tmplB
      rw [if_neg (by omega)]
    refine aw_loop (σ := {x : Nat × Nat // x.2 ≤ s.size ∧ s.size < x.1 + x.2 ∧ tmplF s x.1 x.2 = tmplB s}) (fun x => ⟨[(3, .data (.int .i64) (x.1.2 : Int)), (2, .data .bool false), (0, .data .str s)], [], 41⟩) (fun x => s.size - x.1.2) ⟨(s.size + 1, 0), by simp, by simp, hn⟩ (Le.drop (by simp [Abs.get]) (by simp) rfl) ?_
    rintro ⟨⟨r, i⟩, hi, hr, hs⟩
    obtain ⟨r, rfl⟩ : ∃ k, r = k + 1 := ⟨r - 1, by simp only at hi hr; omega⟩
    simp only at hi hr hs
    rw [tmplF] at hs
    repeat' (first
      | refine aw_seq ?_
      | refine aw_region GT_ok hΦ rfl (by (simp only [go_sem, GT, Nat.reduceEqDiff, Nat.reduceSub, Nat.reduceMul, Nat.reduceLeDiff, Nat.reduceAdd, Nat.reduceLT, Nat.reduceBEq, reduceIte, reduceCtorEq, Int.reduceToNat]); exact rfl) ?_ ?_
      | refine aw_draw GT_ok hΦ rfl (by kernel_rfl) (by (simp only [go_sem, GT, Nat.reduceEqDiff, Nat.reduceSub, Nat.reduceMul, Nat.reduceLeDiff, Nat.reduceAdd, Nat.reduceLT, Nat.reduceBEq, reduceIte, reduceCtorEq, Int.reduceToNat]); exact rfl) ?_ ?_
      | refine aw_cond (by (simp only [go_sem, GT, Nat.reduceEqDiff, Nat.reduceSub, Nat.reduceMul, Nat.reduceLeDiff, Nat.reduceAdd, Nat.reduceLT, Nat.reduceBEq, reduceIte, reduceCtorEq, Int.reduceToNat]); exact rfl) ?_ ?_ ?_
      | refine aw_ret ?_
      | refine aw_skip ?_
      | refine aw_block ?_
      | refine aw_exit ?_
      | refine tq_ret ?_
      | refine tq_exit ?_
      | refine bq_ret ?_
      | refine bq_normal ?_
      | refine bq_exit ?_
      | refine bq_out (by decide) ?_
      | refine tq_normal ?_
      | exact nop
      | (refine fun (hc : (_ : Bool) = _) => ?_; first | assumption | exact hc | (simp only [Bool.not_eq_true', Bool.not_eq_false', decide_eq_true_eq, decide_eq_false_iff_not, Bool.and_eq_true, Bool.or_eq_true, Bool.or_eq_false_iff, Bool.and_eq_false_imp, Int.not_lt, Int.not_le, Classical.not_not, ne_eq, reduceCtorEq, gt_iff_lt, ge_iff_le, Bool.true_eq_false, Bool.false_eq_true, eq_self, not_true, not_false_eq_true] at hc; first | done | (exfalso; omega) | skip) | skip)
      | simp only [List.mem_cons, List.not_mem_nil, forall_eq_or_imp, false_implies, implies_true, and_true, true_and, or_false, forall_eq]
      | refine fin_data (.inl rfl) (by (simp only [go_sem, GT, Nat.reduceEqDiff, Nat.reduceSub, Nat.reduceMul, Nat.reduceLeDiff, Nat.reduceAdd, Nat.reduceLT, Nat.reduceBEq, reduceIte, reduceCtorEq, Int.reduceToNat]); exact rfl) ?_ ?_
      | refine fin_pure (.inl rfl) (by (simp only [go_sem, GT, Nat.reduceEqDiff, Nat.reduceSub, Nat.reduceMul, Nat.reduceLeDiff, Nat.reduceAdd, Nat.reduceLT, Nat.reduceBEq, reduceIte, reduceCtorEq, Int.reduceToNat]); exact rfl) ?_ (tup_congr ?_)
      | refine cons_congr (data_congr ?_) ?_
      | exact trivial
      | assumption
      | exact fun h => h
      | refine And.intro ?_ ?_
      | rfl
      | omega
      | (refine fits_i64 ?_ ?_ <;> omega)
      | (show (_ : Bool) = true; simp only [Bool.not_eq_true', Bool.not_eq_false', decide_eq_true_eq, decide_eq_false_iff_not, Bool.and_eq_true, Bool.or_eq_true, Bool.or_eq_false_iff, Bool.and_eq_false_imp, Int.not_lt, Int.not_le, Classical.not_not, ne_eq, reduceCtorEq, gt_iff_lt, ge_iff_le, Bool.true_eq_false, Bool.false_eq_true, eq_self, not_true, not_false_eq_true]; first | omega | (refine And.intro ?_ ?_ <;> first | assumption | omega))
      | (simp only [Bool.not_eq_true', Bool.not_eq_false', decide_eq_true_eq, decide_eq_false_iff_not, Bool.and_eq_true, Bool.or_eq_true, Bool.or_eq_false_iff, Bool.and_eq_false_imp, Int.not_lt, Int.not_le, Classical.not_not, ne_eq, reduceCtorEq, gt_iff_lt, ge_iff_le, Bool.true_eq_false, Bool.false_eq_true, eq_self, not_true, not_false_eq_true]; omega))
    · exact ⟨⟨(r, i + 1), by simp only; omega, by simp only; omega, by rw [← hs, if_pos (by omega), if_pos (show chr s i ≠ 37 from hc)]⟩, Le.drop (by simp [Abs.get]) (by simp) rfl, by simp only; omega⟩
    · rw [← hs, if_pos (by omega), if_neg (show ¬ chr s i ≠ 37 from fun h => h (by assumption)), if_pos (by simp only [Bool.not_eq_true', Bool.not_eq_false', decide_eq_true_eq, decide_eq_false_iff_not, Bool.and_eq_true, Bool.or_eq_true, Bool.or_eq_false_iff, Bool.and_eq_false_imp, Int.not_lt, Int.not_le, Classical.not_not, ne_eq, reduceCtorEq, gt_iff_lt, ge_iff_le, Bool.true_eq_false, Bool.false_eq_true, eq_self, not_true, not_false_eq_true]; exact hc)]
    · exact ⟨⟨(r, i + 2), by simp only; omega, by simp only; omega, by rw [← hs, if_pos (by omega), if_neg (show ¬ chr s i ≠ 37 from fun h => h (by assumption)), if_neg (by simp only [Bool.not_eq_true', Bool.not_eq_false', decide_eq_true_eq, decide_eq_false_iff_not, Bool.and_eq_true, Bool.or_eq_true, Bool.or_eq_false_iff, Bool.and_eq_false_imp, Int.not_lt, Int.not_le, Classical.not_not, ne_eq, reduceCtorEq, gt_iff_lt, ge_iff_le, Bool.true_eq_false, Bool.false_eq_true, eq_self, not_true, not_false_eq_true]; intro h; rcases h with h | ⟨h, h2⟩; exact hc.1 h; have h3 : 48 ≤ chr s (i + 1) ∧ chr s (i + 1) ≤ 57 := hc.2 h; omega)]⟩, Le.drop (by simp [Abs.get]; show (_ : Int) = _; omega) (by simp) rfl, by simp only; omega⟩
    · rw [← hs, if_neg (by omega)]
end Go.Proofs
