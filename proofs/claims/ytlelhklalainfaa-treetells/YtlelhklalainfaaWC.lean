/- Part of the proof of the law's row: YtlelhklalainfaaWC. -/
import Derived.Test.YtlelhklalainfaaWB
set_option linter.all false
set_option linter.unusedVariables false
set_option linter.unusedSimpArgs false
namespace Go.Proofs
open Go.Abs
attribute [local irreducible] AW Abs.Fin thenQ blockQ Le
def letB (c : Int) : Bool := (((decide (c ≥ 97) && decide (c ≤ 122)) || (decide (c ≥ 65) && decide (c ≤ 90))) || (decide (c ≥ 48) && decide (c ≤ 57))) || decide (c = 95)
def nameR (s : ByteArray) : Bool := if ((decide ((s.size : Int) < 1) || decide ((s.size : Int) > 32)) || (decide (chr s 0 ≥ 48) && decide (chr s 0 ≤ 57))) = true then false else allFrom letB s s.size 0
theorem byte_all {p : Nat → Bool} (h : (List.range 256).all p = true) {n : Nat} (hn : n < 256) : p n = true := by
  rw [List.all_eq_true] at h
  exact h n (by simpa using hn)
theorem restB_let (u : UInt8) : restB (u.toNat : Int) = letB (u.toNat : Int) := by
  have := byte_all (p := fun n => restB (n : Int) == letB (n : Int)) (by kernel_rfl) u.toNat_lt
  simpa using this
theorem headB_let (u : UInt8) : headB (u.toNat : Int) = (letB (u.toNat : Int) && !(decide ((u.toNat : Int) ≥ 48) && decide ((u.toNat : Int) ≤ 57))) := by
  have := byte_all (p := fun n => headB (n : Int) == (letB (n : Int) && !(decide ((n : Int) ≥ 48) && decide ((n : Int) ≤ 57)))) (by kernel_rfl) u.toNat_lt
  simpa using this
theorem allFrom_congr {s : ByteArray} : ∀ (r i : Nat), allFrom restB s r i = allFrom letB s r i
  | 0, _ => rfl
  | r + 1, i => by rw [allFrom, allFrom, restB_let, allFrom_congr r]
theorem nameR_eq (s : ByteArray) : nameR s = nameB s := by
  unfold nameR nameB
  rw [allFrom_congr, headB_let]
  by_cases h0 : s.size = 0
  · have : s = ⟨#[]⟩ := by
      cases s with | mk d =>
        simp only [ByteArray.size] at h0
        rw [Array.size_eq_zero_iff.1 h0]
    rw [if_pos (by simp [h0]), if_pos (by simp [this])]
  · have hne : s ≠ ⟨#[]⟩ := fun e => h0 (by rw [e]; rfl)
    obtain ⟨k, hk⟩ : ∃ k, s.size = k + 1 := ⟨s.size - 1, by omega⟩
    by_cases h32 : (s.size : Int) > 32
    · rw [if_pos (by simp [h32]), if_pos (by simp [h32])]
    · by_cases hd : (decide (chr s 0 ≥ 48) && decide (chr s 0 ≤ 57)) = true
      · rw [if_pos (by rw [hd]; simp), if_pos (by rw [hd]; simp)]
      · rw [Bool.not_eq_true] at hd
        rw [if_neg (by rw [hd]; simp [h32]; omega)]
        by_cases hl : letB (chr s 0) = true
        · rw [if_neg (by rw [hd, hl]; simp [h32, hne])]
        · rw [Bool.not_eq_true] at hl
          rw [if_pos (by rw [hd, hl]; simp), hk, allFrom, if_pos (by rw [hl]; rfl)]
set_option maxHeartbeats 1000000 in
theorem f61_ok : FnOk Try.prog 61 (dspec [.str] fun x => some ([], .data .bool (nameB x.1), none)) := by
  have hΦ : FnsOk GT.P [] := fns_nil
  refine fn_data (Γ := GT) (rs := [.tmp 2]) Try.func61 rfl rfl Try.ntmps61 (by decide) ?_
  rintro S0 w0 ⟨s, ⟨⟩⟩ ps r ob h _ hw
  simp only [Option.some.injEq, Prod.mk.injEq] at h
  obtain ⟨rfl, rfl, rfl⟩ := h
  simp only [dataArgs]
  repeat' (first
    | refine aw_seq ?_
    | refine aw_region GT_ok hΦ rfl (by (simp only [go_sem, GT, Nat.reduceEqDiff, Nat.reduceSub, Nat.reduceMul, Nat.reduceLeDiff, Nat.reduceAdd, Nat.reduceLT, Nat.reduceBEq, reduceIte, reduceCtorEq, Int.reduceToNat]); exact rfl) ?_ ?_
    | refine aw_draw GT_ok hΦ rfl (by kernel_rfl) (by (simp only [go_sem, GT, Nat.reduceEqDiff, Nat.reduceSub, Nat.reduceMul, Nat.reduceLeDiff, Nat.reduceAdd, Nat.reduceLT, Nat.reduceBEq, reduceIte, reduceCtorEq, Int.reduceToNat]); exact rfl) ?_ ?_
    | refine aw_cond (by (simp only [go_sem, GT, Nat.reduceEqDiff, Nat.reduceSub, Nat.reduceMul, Nat.reduceLeDiff, Nat.reduceAdd, Nat.reduceLT, Nat.reduceBEq, reduceIte, reduceCtorEq, Int.reduceToNat]); exact rfl) ?_ ?_ ?_
    | refine aw_ret ?_
    | refine aw_skip ?_
    | refine aw_block ?_
    | refine aw_exit ?_
    | refine tq_ret ?_
    | refine tq_exit ?_
    | refine bq_ret ?_
    | refine bq_normal ?_
    | refine bq_exit ?_
    | refine bq_out (by decide) ?_
    | refine tq_normal ?_
    | exact nop
    | (refine fun (hc : (_ : Bool) = _) => ?_; first | assumption | exact hc | (simp only [Bool.not_eq_true', Bool.not_eq_false', decide_eq_true_eq, decide_eq_false_iff_not, Bool.and_eq_true, Bool.or_eq_true, Bool.or_eq_false_iff, Bool.and_eq_false_imp, Int.not_lt, Int.not_le, Classical.not_not, ne_eq, reduceCtorEq, gt_iff_lt, ge_iff_le, Bool.true_eq_false, Bool.false_eq_true, eq_self, not_true, not_false_eq_true] at hc; first | done | (exfalso; omega) | skip) | skip)
    | simp only [List.mem_cons, List.not_mem_nil, forall_eq_or_imp, false_implies, implies_true, and_true, true_and, or_false, forall_eq]
    | refine fin_data (.inl rfl) (by (simp only [go_sem, GT, Nat.reduceEqDiff, Nat.reduceSub, Nat.reduceMul, Nat.reduceLeDiff, Nat.reduceAdd, Nat.reduceLT, Nat.reduceBEq, reduceIte, reduceCtorEq, Int.reduceToNat]); exact rfl) ?_ ?_
    | refine fin_pure (.inl rfl) (by (simp only [go_sem, GT, Nat.reduceEqDiff, Nat.reduceSub, Nat.reduceMul, Nat.reduceLeDiff, Nat.reduceAdd, Nat.reduceLT, Nat.reduceBEq, reduceIte, reduceCtorEq, Int.reduceToNat]); exact rfl) ?_ (tup_congr ?_)
    | refine cons_congr (data_congr ?_) ?_
    | exact trivial
    | assumption
    | exact fun h => h
    | refine And.intro ?_ ?_
    | rfl
    | omega
    | (refine fits_i64 ?_ ?_ <;> omega)
    | (show (_ : Bool) = true; simp only [Bool.not_eq_true', Bool.not_eq_false', decide_eq_true_eq, decide_eq_false_iff_not, Bool.and_eq_true, Bool.or_eq_true, Bool.or_eq_false_iff, Bool.and_eq_false_imp, Int.not_lt, Int.not_le, Classical.not_not, ne_eq, reduceCtorEq, gt_iff_lt, ge_iff_le, Bool.true_eq_false, Bool.false_eq_true, eq_self, not_true, not_false_eq_true]; first | omega | (refine And.intro ?_ ?_ <;> first | assumption | omega))
    | (simp only [Bool.not_eq_true', Bool.not_eq_false', decide_eq_true_eq, decide_eq_false_iff_not, Bool.and_eq_true, Bool.or_eq_true, Bool.or_eq_false_iff, Bool.and_eq_false_imp, Int.not_lt, Int.not_le, Classical.not_not, ne_eq, reduceCtorEq, gt_iff_lt, ge_iff_le, Bool.true_eq_false, Bool.false_eq_true, eq_self, not_true, not_false_eq_true]; omega))
  · rw [← nameR_eq]
    unfold nameR
    rw [if_pos (by simp only [Bool.not_eq_true', Bool.not_eq_false', decide_eq_true_eq, decide_eq_false_iff_not, Bool.and_eq_true, Bool.or_eq_true, Bool.or_eq_false_iff, Bool.and_eq_false_imp, Int.not_lt, Int.not_le, Classical.not_not, ne_eq, reduceCtorEq, gt_iff_lt, ge_iff_le, Bool.true_eq_false, Bool.false_eq_true, eq_self, not_true, not_false_eq_true]; exact hc)]
  · have hp : 0 < s.size := by have := hc.1.1; omega
    have hs32 := hc.1.2
    have hn : nameB s = allFrom letB s (s.size - 0) 0 := by
      rw [← nameR_eq]
      unfold nameR
      rw [if_neg (fun h => by simp only [Bool.not_eq_true', Bool.not_eq_false', decide_eq_true_eq, decide_eq_false_iff_not, Bool.and_eq_true, Bool.or_eq_true, Bool.or_eq_false_iff, Bool.and_eq_false_imp, Int.not_lt, Int.not_le, Classical.not_not, ne_eq, reduceCtorEq, gt_iff_lt, ge_iff_le, Bool.true_eq_false, Bool.false_eq_true, eq_self, not_true, not_false_eq_true] at h; rcases h with (h | h) | h; omega; omega; have h3 : 57 < chr s 0 := hc.2 h.1; omega)]
      rfl
    refine aw_loop (σ := {i : Nat // i ≤ s.size ∧ allFrom letB s (s.size - i) i = nameB s}) (fun i => ⟨[(3, .data (.int .i64) (i.1 : Int)), (0, .data .str s)], [], 59⟩) (fun i => s.size - i.1) ⟨0, by simp, hn.symm⟩ (Le.drop (by simp [Abs.get]) (by simp) rfl) ?_
    rintro ⟨i, hi, hs⟩
    repeat' (first
      | refine aw_seq ?_
      | refine aw_region GT_ok hΦ rfl (by (simp only [go_sem, GT, Nat.reduceEqDiff, Nat.reduceSub, Nat.reduceMul, Nat.reduceLeDiff, Nat.reduceAdd, Nat.reduceLT, Nat.reduceBEq, reduceIte, reduceCtorEq, Int.reduceToNat]); exact rfl) ?_ ?_
      | refine aw_draw GT_ok hΦ rfl (by kernel_rfl) (by (simp only [go_sem, GT, Nat.reduceEqDiff, Nat.reduceSub, Nat.reduceMul, Nat.reduceLeDiff, Nat.reduceAdd, Nat.reduceLT, Nat.reduceBEq, reduceIte, reduceCtorEq, Int.reduceToNat]); exact rfl) ?_ ?_
      | refine aw_cond (by (simp only [go_sem, GT, Nat.reduceEqDiff, Nat.reduceSub, Nat.reduceMul, Nat.reduceLeDiff, Nat.reduceAdd, Nat.reduceLT, Nat.reduceBEq, reduceIte, reduceCtorEq, Int.reduceToNat]); exact rfl) ?_ ?_ ?_
      | refine aw_ret ?_
      | refine aw_skip ?_
      | refine aw_block ?_
      | refine aw_exit ?_
      | refine tq_ret ?_
      | refine tq_exit ?_
      | refine bq_ret ?_
      | refine bq_normal ?_
      | refine bq_exit ?_
      | refine bq_out (by decide) ?_
      | refine tq_normal ?_
      | exact nop
      | (refine fun (hc : (_ : Bool) = _) => ?_; first | assumption | exact hc | (simp only [Bool.not_eq_true', Bool.not_eq_false', decide_eq_true_eq, decide_eq_false_iff_not, Bool.and_eq_true, Bool.or_eq_true, Bool.or_eq_false_iff, Bool.and_eq_false_imp, Int.not_lt, Int.not_le, Classical.not_not, ne_eq, reduceCtorEq, gt_iff_lt, ge_iff_le, Bool.true_eq_false, Bool.false_eq_true, eq_self, not_true, not_false_eq_true] at hc; first | done | (exfalso; omega) | skip) | skip)
      | simp only [List.mem_cons, List.not_mem_nil, forall_eq_or_imp, false_implies, implies_true, and_true, true_and, or_false, forall_eq]
      | refine fin_data (.inl rfl) (by (simp only [go_sem, GT, Nat.reduceEqDiff, Nat.reduceSub, Nat.reduceMul, Nat.reduceLeDiff, Nat.reduceAdd, Nat.reduceLT, Nat.reduceBEq, reduceIte, reduceCtorEq, Int.reduceToNat]); exact rfl) ?_ ?_
      | refine fin_pure (.inl rfl) (by (simp only [go_sem, GT, Nat.reduceEqDiff, Nat.reduceSub, Nat.reduceMul, Nat.reduceLeDiff, Nat.reduceAdd, Nat.reduceLT, Nat.reduceBEq, reduceIte, reduceCtorEq, Int.reduceToNat]); exact rfl) ?_ (tup_congr ?_)
      | refine cons_congr (data_congr ?_) ?_
      | exact trivial
      | assumption
      | exact fun h => h
      | refine And.intro ?_ ?_
      | rfl
      | omega
      | (refine fits_i64 ?_ ?_ <;> omega)
      | (show (_ : Bool) = true; simp only [Bool.not_eq_true', Bool.not_eq_false', decide_eq_true_eq, decide_eq_false_iff_not, Bool.and_eq_true, Bool.or_eq_true, Bool.or_eq_false_iff, Bool.and_eq_false_imp, Int.not_lt, Int.not_le, Classical.not_not, ne_eq, reduceCtorEq, gt_iff_lt, ge_iff_le, Bool.true_eq_false, Bool.false_eq_true, eq_self, not_true, not_false_eq_true]; first | omega | (refine And.intro ?_ ?_ <;> first | assumption | omega))
      | (simp only [Bool.not_eq_true', Bool.not_eq_false', decide_eq_true_eq, decide_eq_false_iff_not, Bool.and_eq_true, Bool.or_eq_true, Bool.or_eq_false_iff, Bool.and_eq_false_imp, Int.not_lt, Int.not_le, Classical.not_not, ne_eq, reduceCtorEq, gt_iff_lt, ge_iff_le, Bool.true_eq_false, Bool.false_eq_true, eq_self, not_true, not_false_eq_true]; omega))
    · rw [← hs, allFrom_step (by omega), if_pos (by simp only [letB, Bool.not_eq_true', Bool.not_eq_false', decide_eq_true_eq, decide_eq_false_iff_not, Bool.and_eq_true, Bool.or_eq_true, Bool.or_eq_false_iff, Bool.and_eq_false_imp, Int.not_lt, Int.not_le, Classical.not_not, ne_eq, reduceCtorEq, gt_iff_lt, ge_iff_le, Bool.true_eq_false, Bool.false_eq_true, eq_self, not_true, not_false_eq_true]; exact hc)]
    · exact ⟨⟨i + 1, by omega, by rw [← hs, allFrom_step (i := i) (by omega), if_neg (by simp only [letB, chr, Bool.not_eq_true', Bool.not_eq_false', decide_eq_true_eq, decide_eq_false_iff_not, Bool.and_eq_true, Bool.or_eq_true, Bool.or_eq_false_iff, Bool.and_eq_false_imp, Int.not_lt, Int.not_le, Classical.not_not, ne_eq, reduceCtorEq, gt_iff_lt, ge_iff_le, Bool.true_eq_false, Bool.false_eq_true, eq_self, not_true, not_false_eq_true]; intro h; omega)]⟩, Le.drop (by simp [Abs.get]) (by simp) rfl, by simp only; omega⟩
    · rw [← hs, show s.size - i = 0 by omega]
      rfl
@[reducible] def zset (s : tSet.Den) : Bool := (Ty.st [Ty.int IntKind.u64, Ty.int IntKind.u64, Ty.int IntKind.u64, Ty.int IntKind.u64]).eqb s (Ty.dflts [Ty.int IntKind.u64, Ty.int IntKind.u64, Ty.int IntKind.u64, Ty.int IntKind.u64])
/-- The fields of a node are as its kind asks for. -/
def fieldB (op n : Int) (text : ByteArray) (set : tSet.Den) : Bool :=
  if (!decide (op = 5) && !zset set) = true then false
  else if ((decide (n < 0) || decide (n > 50)) || (decide (n > 0) && !countedB op)) = true then false
  else if op = 4 then !decide (text = ⟨#[]⟩) && decide ((text.size : Int) ≤ 255)
  else if op = 6 then nameB text
  else if op = 19 then decide (text = ⟨#[]⟩) || nameB text
  else if op = 22 then tmplB text
  else decide (text = ⟨#[]⟩)
section
variable {op n : Int} {text : ByteArray} {set : tSet.Den}
theorem fieldB_bad1 (h : ¬op = 5 ∧ zset set = false) : false = fieldB op n text set := by
  unfold fieldB
  rw [if_pos (by simp [h.1, h.2])]
theorem fieldB_bad2 (h : (n < 0 ∨ 50 < n) ∨ 0 < n ∧ countedB op = false) : false = fieldB op n text set := by
  unfold fieldB
  split
  · rfl
  · rw [if_pos (by simp only [Bool.not_eq_true', Bool.not_eq_false', decide_eq_true_eq, decide_eq_false_iff_not, Bool.and_eq_true, Bool.or_eq_true, Bool.or_eq_false_iff, Bool.and_eq_false_imp, Int.not_lt, Int.not_le, Classical.not_not, ne_eq, reduceCtorEq, gt_iff_lt, ge_iff_le, Bool.true_eq_false, Bool.false_eq_true, eq_self, not_true, not_false_eq_true]; exact h)]
theorem fieldB_ok (h1 : ¬op = 5 → zset set = true) (h2 : (0 ≤ n ∧ n ≤ 50) ∧ (0 < n → countedB op = true)) : fieldB op n text set =
    if op = 4 then !decide (text = ⟨#[]⟩) && decide ((text.size : Int) ≤ 255)
    else if op = 6 then nameB text
    else if op = 19 then decide (text = ⟨#[]⟩) || nameB text
    else if op = 22 then tmplB text
    else decide (text = ⟨#[]⟩) := by
  unfold fieldB
  rw [if_neg (by simp only [Bool.not_eq_true', Bool.not_eq_false', decide_eq_true_eq, decide_eq_false_iff_not, Bool.and_eq_true, Bool.or_eq_true, Bool.or_eq_false_iff, Bool.and_eq_false_imp, Int.not_lt, Int.not_le, Classical.not_not, ne_eq, reduceCtorEq, gt_iff_lt, ge_iff_le, Bool.true_eq_false, Bool.false_eq_true, eq_self, not_true, not_false_eq_true]; intro h; rw [h1 h.1] at h; cases h.2), if_neg (by simp only [Bool.not_eq_true', Bool.not_eq_false', decide_eq_true_eq, decide_eq_false_iff_not, Bool.and_eq_true, Bool.or_eq_true, Bool.or_eq_false_iff, Bool.and_eq_false_imp, Int.not_lt, Int.not_le, Classical.not_not, ne_eq, reduceCtorEq, gt_iff_lt, ge_iff_le, Bool.true_eq_false, Bool.false_eq_true, eq_self, not_true, not_false_eq_true]; intro h; rcases h with (h | h) | h; omega; omega; rw [h2.2 h.1] at h; cases h.2)]
theorem counted_iff : countedB op = true ↔ ((op = 14 ∨ op = 15) ∨ op = 16) ∨ op = 23 := by
  simp only [countedB, Bool.not_eq_true', Bool.not_eq_false', decide_eq_true_eq, decide_eq_false_iff_not, Bool.and_eq_true, Bool.or_eq_true, Bool.or_eq_false_iff, Bool.and_eq_false_imp, Int.not_lt, Int.not_le, Classical.not_not, ne_eq, reduceCtorEq, gt_iff_lt, ge_iff_le, Bool.true_eq_false, Bool.false_eq_true, eq_self, not_true, not_false_eq_true]
  omega
theorem counted_not : countedB op = false ↔ ((¬op = 14 ∧ ¬op = 15) ∧ ¬op = 16) ∧ ¬op = 23 := by
  rw [← Bool.not_eq_true, counted_iff]
  omega
theorem text_ge : (decide ((text.size : Int) ≥ 1)) = !decide (text = ⟨#[]⟩) := by
  by_cases h : text = ⟨#[]⟩
  · subst h; rfl
  · have := size_pos h
    simp [h]
    omega
end
noncomputable def Φ2 : Fns := [(58, dspec [.int .i64] fun x => some ([], .data .bool (countedB x.1), none)), (59, dspec [.str] fun x => some ([], .data .bool (nameB x.1), none)), (60, dspec [.str] fun x => some ([], .data .bool (tmplB x.1), none)), (61, dspec [.str] fun x => some ([], .data .bool (nameB x.1), none)), (62, dspec [.str] fun x => some ([], .data .bool (tmplB x.1), none))]
theorem Φ2_ok : FnsOk GT.P Φ2 := fns_cons f58_ok (by kernel_rfl) (fns_cons f59_ok (by kernel_rfl) (fns_cons f60_ok (by kernel_rfl) (fns_cons f61_ok (by kernel_rfl) (fns_cons f62_ok (by kernel_rfl) fns_nil))))
set_option maxHeartbeats 1000000 in
theorem f53_ok : FnOk Try.prog 53 (dspec [tNode] fun x => some ([], .data .bool (fieldB x.1.1 x.1.2.1 x.1.2.2.1 x.1.2.2.2.1), none)) := by
  have hΦ := Φ2_ok
  refine fn_data (Γ := GT) (rs := [.tmp 2]) Try.func53 rfl rfl Try.ntmps53 (by decide) ?_
  rintro S0 w0 ⟨⟨(op : Int), (n : Int), (text : ByteArray), set, ⟨⟩⟩, ⟨⟩⟩ ps r ob h _ hw
  simp only [Option.some.injEq, Prod.mk.injEq] at h
  obtain ⟨rfl, rfl, rfl⟩ := h
  simp only [dataArgs]
  repeat' (first
    | refine aw_seq ?_
    | refine aw_region GT_ok hΦ rfl (by (simp only [go_sem, GT, Nat.reduceEqDiff, Nat.reduceSub, Nat.reduceMul, Nat.reduceLeDiff, Nat.reduceAdd, Nat.reduceLT, Nat.reduceBEq, reduceIte, reduceCtorEq, Int.reduceToNat, Φ2]); exact rfl) ?_ ?_
    | refine aw_draw GT_ok hΦ rfl (by kernel_rfl) (by (simp only [go_sem, GT, Nat.reduceEqDiff, Nat.reduceSub, Nat.reduceMul, Nat.reduceLeDiff, Nat.reduceAdd, Nat.reduceLT, Nat.reduceBEq, reduceIte, reduceCtorEq, Int.reduceToNat, Φ2]); exact rfl) ?_ ?_
    | refine aw_cond (by (simp only [go_sem, GT, Nat.reduceEqDiff, Nat.reduceSub, Nat.reduceMul, Nat.reduceLeDiff, Nat.reduceAdd, Nat.reduceLT, Nat.reduceBEq, reduceIte, reduceCtorEq, Int.reduceToNat, Φ2]); exact rfl) ?_ ?_ ?_
    | refine aw_ret ?_
    | refine aw_skip ?_
    | refine aw_block ?_
    | refine aw_exit ?_
    | refine tq_ret ?_
    | refine tq_exit ?_
    | refine bq_ret ?_
    | refine bq_normal ?_
    | refine bq_exit ?_
    | refine bq_out (by decide) ?_
    | refine tq_normal ?_
    | exact nop
    | (refine fun (hc : (_ : Bool) = _) => ?_; first | assumption | exact hc | (simp only [Bool.not_eq_true', Bool.not_eq_false', decide_eq_true_eq, decide_eq_false_iff_not, Bool.and_eq_true, Bool.or_eq_true, Bool.or_eq_false_iff, Bool.and_eq_false_imp, Int.not_lt, Int.not_le, Classical.not_not, ne_eq, reduceCtorEq, gt_iff_lt, ge_iff_le, Bool.true_eq_false, Bool.false_eq_true, eq_self, not_true, not_false_eq_true] at hc; first | done | (exfalso; omega) | skip) | skip)
    | simp only [List.mem_cons, List.not_mem_nil, forall_eq_or_imp, false_implies, implies_true, and_true, true_and, or_false, forall_eq]
    | refine fin_data (.inl rfl) (by (simp only [go_sem, GT, Nat.reduceEqDiff, Nat.reduceSub, Nat.reduceMul, Nat.reduceLeDiff, Nat.reduceAdd, Nat.reduceLT, Nat.reduceBEq, reduceIte, reduceCtorEq, Int.reduceToNat, Φ2]); exact rfl) ?_ ?_
    | refine fin_pure (.inl rfl) (by (simp only [go_sem, GT, Nat.reduceEqDiff, Nat.reduceSub, Nat.reduceMul, Nat.reduceLeDiff, Nat.reduceAdd, Nat.reduceLT, Nat.reduceBEq, reduceIte, reduceCtorEq, Int.reduceToNat, Φ2]); exact rfl) ?_ (tup_congr ?_)
    | refine cons_congr (data_congr ?_) ?_
    | exact trivial
    | assumption
    | exact fun h => h
    | refine And.intro ?_ ?_
    | rfl
    | omega
    | (refine fits_i64 ?_ ?_ <;> omega)
    | (show (_ : Bool) = true; simp only [Bool.not_eq_true', Bool.not_eq_false', decide_eq_true_eq, decide_eq_false_iff_not, Bool.and_eq_true, Bool.or_eq_true, Bool.or_eq_false_iff, Bool.and_eq_false_imp, Int.not_lt, Int.not_le, Classical.not_not, ne_eq, reduceCtorEq, gt_iff_lt, ge_iff_le, Bool.true_eq_false, Bool.false_eq_true, eq_self, not_true, not_false_eq_true]; first | omega | (refine And.intro ?_ ?_ <;> first | assumption | omega))
    | (simp only [Bool.not_eq_true', Bool.not_eq_false', decide_eq_true_eq, decide_eq_false_iff_not, Bool.and_eq_true, Bool.or_eq_true, Bool.or_eq_false_iff, Bool.and_eq_false_imp, Int.not_lt, Int.not_le, Classical.not_not, ne_eq, reduceCtorEq, gt_iff_lt, ge_iff_le, Bool.true_eq_false, Bool.false_eq_true, eq_self, not_true, not_false_eq_true]; omega))
  · exact fieldB_bad1 hc
  · exact fieldB_bad2 hc
  · rw [fieldB_ok (by assumption) (by assumption), if_pos (by assumption)]
  · rw [fieldB_ok (by assumption) (by assumption), if_neg (by assumption), if_pos (by assumption)]
  · rw [fieldB_ok (by assumption) (by assumption), if_neg (by assumption), if_neg (by assumption), if_pos (by assumption)]
  · rw [fieldB_ok (by assumption) (by assumption), if_neg (by assumption), if_neg (by assumption), if_neg (by assumption), if_pos (by assumption)]
  · rw [fieldB_ok (by assumption) (by assumption), if_neg (by assumption), if_neg (by assumption), if_neg (by assumption), if_neg (by assumption)]
set_option maxHeartbeats 1000000 in
theorem f54_ok : FnOk Try.prog 54 (dspec [tNode] fun x => some ([], .data .bool (fieldB x.1.1 x.1.2.1 x.1.2.2.1 x.1.2.2.2.1), none)) := by
  have hΦ := Φ2_ok
  refine fn_data (Γ := GT) (rs := [.tmp 2]) Try.func54 rfl rfl Try.ntmps54 (by decide) ?_
  rintro S0 w0 ⟨⟨(op : Int), (n : Int), (text : ByteArray), set, ⟨⟩⟩, ⟨⟩⟩ ps r ob h _ hw
  simp only [Option.some.injEq, Prod.mk.injEq] at h
  obtain ⟨rfl, rfl, rfl⟩ := h
  simp only [dataArgs]
  have key : ((0 ≤ n ∧ n ≤ 50) ∧ (((¬op = 14 ∧ ¬op = 15) ∧ ¬op = 16) ∧ ¬op = 23 → n = 0)) → (0 ≤ n ∧ n ≤ 50) ∧ (0 < n → countedB op = true) := fun h => ⟨h.1, fun hn => by
    rw [counted_iff]
    have := h.2
    omega⟩
  repeat' (first
    | refine aw_seq ?_
    | refine aw_region GT_ok hΦ rfl (by (simp only [go_sem, GT, Nat.reduceEqDiff, Nat.reduceSub, Nat.reduceMul, Nat.reduceLeDiff, Nat.reduceAdd, Nat.reduceLT, Nat.reduceBEq, reduceIte, reduceCtorEq, Int.reduceToNat, Φ2]); exact rfl) ?_ ?_
    | refine aw_draw GT_ok hΦ rfl (by kernel_rfl) (by (simp only [go_sem, GT, Nat.reduceEqDiff, Nat.reduceSub, Nat.reduceMul, Nat.reduceLeDiff, Nat.reduceAdd, Nat.reduceLT, Nat.reduceBEq, reduceIte, reduceCtorEq, Int.reduceToNat, Φ2]); exact rfl) ?_ ?_
    | refine aw_cond (by (simp only [go_sem, GT, Nat.reduceEqDiff, Nat.reduceSub, Nat.reduceMul, Nat.reduceLeDiff, Nat.reduceAdd, Nat.reduceLT, Nat.reduceBEq, reduceIte, reduceCtorEq, Int.reduceToNat, Φ2]); exact rfl) ?_ ?_ ?_
    | refine aw_ret ?_
    | refine aw_skip ?_
    | refine aw_block ?_
    | refine aw_exit ?_
    | refine tq_ret ?_
    | refine tq_exit ?_
    | refine bq_ret ?_
    | refine bq_normal ?_
    | refine bq_exit ?_
    | refine bq_out (by decide) ?_
    | refine tq_normal ?_
    | exact nop
    | (refine fun (hc : (_ : Bool) = _) => ?_; first | assumption | exact hc | (simp only [Bool.not_eq_true', Bool.not_eq_false', decide_eq_true_eq, decide_eq_false_iff_not, Bool.and_eq_true, Bool.or_eq_true, Bool.or_eq_false_iff, Bool.and_eq_false_imp, Int.not_lt, Int.not_le, Classical.not_not, ne_eq, reduceCtorEq, gt_iff_lt, ge_iff_le, Bool.true_eq_false, Bool.false_eq_true, eq_self, not_true, not_false_eq_true] at hc; first | done | (exfalso; omega) | skip) | skip)
    | simp only [List.mem_cons, List.not_mem_nil, forall_eq_or_imp, false_implies, implies_true, and_true, true_and, or_false, forall_eq]
    | refine fin_data (.inl rfl) (by (simp only [go_sem, GT, Nat.reduceEqDiff, Nat.reduceSub, Nat.reduceMul, Nat.reduceLeDiff, Nat.reduceAdd, Nat.reduceLT, Nat.reduceBEq, reduceIte, reduceCtorEq, Int.reduceToNat, Φ2]); exact rfl) ?_ ?_
    | refine fin_pure (.inl rfl) (by (simp only [go_sem, GT, Nat.reduceEqDiff, Nat.reduceSub, Nat.reduceMul, Nat.reduceLeDiff, Nat.reduceAdd, Nat.reduceLT, Nat.reduceBEq, reduceIte, reduceCtorEq, Int.reduceToNat, Φ2]); exact rfl) ?_ (tup_congr ?_)
    | refine cons_congr (data_congr ?_) ?_
    | exact trivial
    | assumption
    | exact fun h => h
    | refine And.intro ?_ ?_
    | rfl
    | omega
    | (refine fits_i64 ?_ ?_ <;> omega)
    | (show (_ : Bool) = true; simp only [Bool.not_eq_true', Bool.not_eq_false', decide_eq_true_eq, decide_eq_false_iff_not, Bool.and_eq_true, Bool.or_eq_true, Bool.or_eq_false_iff, Bool.and_eq_false_imp, Int.not_lt, Int.not_le, Classical.not_not, ne_eq, reduceCtorEq, gt_iff_lt, ge_iff_le, Bool.true_eq_false, Bool.false_eq_true, eq_self, not_true, not_false_eq_true]; first | omega | (refine And.intro ?_ ?_ <;> first | assumption | omega))
    | (simp only [Bool.not_eq_true', Bool.not_eq_false', decide_eq_true_eq, decide_eq_false_iff_not, Bool.and_eq_true, Bool.or_eq_true, Bool.or_eq_false_iff, Bool.and_eq_false_imp, Int.not_lt, Int.not_le, Classical.not_not, ne_eq, reduceCtorEq, gt_iff_lt, ge_iff_le, Bool.true_eq_false, Bool.false_eq_true, eq_self, not_true, not_false_eq_true]; omega))
  · exact fieldB_bad1 hc
  · by_cases hn : n < 0
    · exact fieldB_bad2 (.inl (.inl hn))
    · exact fieldB_bad2 (hc.imp id fun h => ⟨by have := h.2; omega, counted_not.2 h.1⟩)
  · rw [fieldB_ok (by assumption) (key (by assumption)), if_pos (by assumption), text_ge]
  · rw [fieldB_ok (by assumption) (key (by assumption)), if_neg (by assumption), if_pos (by assumption)]
  · rw [fieldB_ok (by assumption) (key (by assumption)), if_neg (by assumption), if_neg (by assumption), if_pos (by assumption)]
  · rw [fieldB_ok (by assumption) (key (by assumption)), if_neg (by assumption), if_neg (by assumption), if_neg (by assumption), if_pos (by assumption)]
  · rw [fieldB_ok (by assumption) (key (by assumption)), if_neg (by assumption), if_neg (by assumption), if_neg (by assumption), if_neg (by assumption)]
end Go.Proofs
