/- Part of the proof of the law's row: YtlelhklalainfaaWD. -/
import Derived.Test.YtlelhklalainfaaWC
set_option linter.all false
set_option linter.unusedVariables false
set_option linter.unusedSimpArgs false
namespace Go.Proofs
open Go.Abs
attribute [local irreducible] AW Abs.Fin thenQ blockQ Le
set_option maxHeartbeats 1000000 in
theorem f40_ok : FnOk Try.prog 40 (dspec [.int .i64, tShape] fun x => some ([], .tup [], none)) := by
  have hΦ : FnsOk GT.P [] := fns_nil
  refine fn_data (Γ := GT) (rs := []) Try.func40 rfl rfl Try.ntmps40 (by decide) ?_
  rintro S0 w0 ⟨a, s, ⟨⟩⟩ ps r ob h _ hw
  simp only [Option.some.injEq, Prod.mk.injEq] at h
  obtain ⟨rfl, rfl, rfl⟩ := h
  simp only [dataArgs]
  repeat' (first
    | refine aw_seq ?_
    | refine aw_region GT_ok hΦ rfl (by (simp only [go_sem, GT, Nat.reduceEqDiff, Nat.reduceSub, Nat.reduceMul, Nat.reduceLeDiff, Nat.reduceAdd, Nat.reduceLT, Nat.reduceBEq, reduceIte, reduceCtorEq, Int.reduceToNat]); exact rfl) ?_ ?_
    | refine aw_draw GT_ok hΦ rfl (by kernel_rfl) (by (simp only [go_sem, GT, Nat.reduceEqDiff, Nat.reduceSub, Nat.reduceMul, Nat.reduceLeDiff, Nat.reduceAdd, Nat.reduceLT, Nat.reduceBEq, reduceIte, reduceCtorEq, Int.reduceToNat]); exact rfl) ?_ ?_
    | refine aw_cond (by (simp only [go_sem, GT, Nat.reduceEqDiff, Nat.reduceSub, Nat.reduceMul, Nat.reduceLeDiff, Nat.reduceAdd, Nat.reduceLT, Nat.reduceBEq, reduceIte, reduceCtorEq, Int.reduceToNat]); exact rfl) ?_ ?_ ?_
    | refine aw_ret ?_
    | refine aw_skip ?_
    | refine aw_block ?_
    | refine aw_exit ?_
    | refine tq_ret ?_
    | refine tq_exit ?_
    | refine bq_ret ?_
    | refine bq_normal ?_
    | refine bq_exit ?_
    | refine bq_out (by decide) ?_
    | refine tq_normal ?_
    | exact nop
    | (refine fun (hc : (_ : Bool) = _) => ?_; first | assumption | exact hc | (simp only [Bool.not_eq_true', Bool.not_eq_false', decide_eq_true_eq, decide_eq_false_iff_not, Bool.and_eq_true, Bool.or_eq_true, Bool.or_eq_false_iff, Bool.and_eq_false_imp, Int.not_lt, Int.not_le, Classical.not_not, ne_eq, reduceCtorEq, gt_iff_lt, ge_iff_le, Bool.true_eq_false, Bool.false_eq_true, eq_self, not_true, not_false_eq_true] at hc; first | done | (exfalso; omega) | skip) | skip)
    | simp only [List.mem_cons, List.not_mem_nil, forall_eq_or_imp, false_implies, implies_true, and_true, true_and, or_false, forall_eq]
    | refine fin_data (.inl rfl) (by (simp only [go_sem, GT, Nat.reduceEqDiff, Nat.reduceSub, Nat.reduceMul, Nat.reduceLeDiff, Nat.reduceAdd, Nat.reduceLT, Nat.reduceBEq, reduceIte, reduceCtorEq, Int.reduceToNat]); exact rfl) ?_ ?_
    | refine fin_pure (.inl rfl) (by (simp only [go_sem, GT, Nat.reduceEqDiff, Nat.reduceSub, Nat.reduceMul, Nat.reduceLeDiff, Nat.reduceAdd, Nat.reduceLT, Nat.reduceBEq, reduceIte, reduceCtorEq, Int.reduceToNat]); exact rfl) ?_ (tup_congr ?_)
    | refine fin_pure (.inr rfl) (by (simp only [go_sem, GT, Nat.reduceEqDiff, Nat.reduceSub, Nat.reduceMul, Nat.reduceLeDiff, Nat.reduceAdd, Nat.reduceLT, Nat.reduceBEq, reduceIte, reduceCtorEq, Int.reduceToNat]); exact rfl) ?_ (tup_congr ?_)
    | refine cons_congr (data_congr ?_) ?_
    | exact trivial
    | assumption
    | exact fun h => h
    | refine And.intro ?_ ?_
    | rfl
    | omega
    | (show (_ : Int) ≤ _; omega)
    | (show (_ : Int) < _; omega)
    | (refine fits_i64 ?_ ?_ <;> omega)
    | (show (_ : Bool) = true; simp only [Bool.not_eq_true', Bool.not_eq_false', decide_eq_true_eq, decide_eq_false_iff_not, Bool.and_eq_true, Bool.or_eq_true, Bool.or_eq_false_iff, Bool.and_eq_false_imp, Int.not_lt, Int.not_le, Classical.not_not, ne_eq, reduceCtorEq, gt_iff_lt, ge_iff_le, Bool.true_eq_false, Bool.false_eq_true, eq_self, not_true, not_false_eq_true]; first | omega | (refine And.intro ?_ ?_ <;> first | assumption | omega))
    | (simp only [Bool.not_eq_true', Bool.not_eq_false', decide_eq_true_eq, decide_eq_false_iff_not, Bool.and_eq_true, Bool.or_eq_true, Bool.or_eq_false_iff, Bool.and_eq_false_imp, Int.not_lt, Int.not_le, Classical.not_not, ne_eq, reduceCtorEq, gt_iff_lt, ge_iff_le, Bool.true_eq_false, Bool.false_eq_true, eq_self, not_true, not_false_eq_true]; omega))
abbrev Nd := Int × Int × ByteArray × (Int × Int × Int × Int × Unit) × Unit
abbrev Shp := Int × Int × Unit
def nth (p : List Nd) (i : Int) : Nd := List.getD p i.toNat tNode.dflt
def sth (p : List Shp) (i : Int) : Shp := List.getD p i.toNat tShape.dflt
def less (p : List Nd) (op a b : Int) (r : Nat) : Bool := (r == 0) && (decide (a = 2) && decide ((nth p (b - 1)).1 = op))
/-- A node's parts, from the last one: where they begin, how high they are. -/
def inner (p : List Nd) (sh : List Shp) (op a : Int) : Nat → Int → Int → Option (Int × Int)
  | 0, b, h => some (b, h)
  | r + 1, b, h => if b = 0 then none else
      inner p sh op a r (sth sh (b - 1)).1 (max h (if less p op a b r = true then (sth sh (b - 1)).2.1 - 1 else (sth sh (b - 1)).2.1))
def scan (p : List Nd) : List Nd → List Shp → (Int × Int) × List Shp
  | [], sh => ((0, 0), sh)
  | n :: ns, sh =>
    if arity n.1 < 0 then (((sh.length : Int), 40), sh)
    else if (!fieldB n.1 n.2.1 n.2.2.1 n.2.2.2.1) = true then (((sh.length : Int), 41), sh)
    else match inner p sh n.1 (arity n.1) (arity n.1).toNat (sh.length : Int) 0 with
      | none => (((sh.length : Int), 42), sh)
      | some (b, h) => if h + 1 > 60 then (((sh.length : Int), 4), sh) else scan p ns (sh ++ [(b, h + 1, ())])
def eachP (p : List Nd) : Int × Int :=
  let x := scan p p []
  if x.1.2 ≠ 0 then x.1
  else if (decide ((p.length : Int) = 0) || !decide ((sth x.2 ((p.length : Int) - 1)).1 = 0)) = true then ((p.length : Int), 42)
  else (0, 0)
/-- The shapes so far are as they may be. -/
def ShOk (sh : List Shp) : Prop := ∀ (i : Nat) (x : Shp), sh[i]? = some x → 0 ≤ x.1 ∧ x.1 ≤ (i : Int) ∧ 0 ≤ x.2.1 ∧ x.2.1 ≤ 60
theorem arity_le (op : Int) : arity op ≤ 2 := by
  unfold arity
  repeat' split
  all_goals omega
theorem scan_at {p : List Nd} {sh : List Shp} {i : Nat} (hi : i < p.length) : scan p (List.drop i p) sh =
    if arity (List.getD p i tNode.dflt).1 < 0 then (((sh.length : Int), 40), sh)
    else if (!fieldB (List.getD p i tNode.dflt).1 (List.getD p i tNode.dflt).2.1 (List.getD p i tNode.dflt).2.2.1 (List.getD p i tNode.dflt).2.2.2.1) = true then (((sh.length : Int), 41), sh)
    else match inner p sh (List.getD p i tNode.dflt).1 (arity (List.getD p i tNode.dflt).1) (arity (List.getD p i tNode.dflt).1).toNat (sh.length : Int) 0 with
      | none => (((sh.length : Int), 42), sh)
      | some (b, h) => if h + 1 > 60 then (((sh.length : Int), 4), sh) else scan p (List.drop (i + 1) p) (sh ++ [(b, h + 1, ())]) := by
  rw [List.drop_eq_getElem_cons hi, scan, List.getD_eq_getElem?_getD, List.getElem?_eq_getElem hi]
  rfl
theorem eachP_err {p : List Nd} {a e : Int} {sh : List Shp} (h : scan p p [] = ((a, e), sh)) (he : e ≠ 0) : eachP p = (a, e) := by
  unfold eachP
  simp only [h]
  rw [if_pos he]
theorem eachP_end {p : List Nd} {sh : List Shp} (h : scan p p [] = ((0, 0), sh)) : eachP p = if (decide ((p.length : Int) = 0) || !decide ((sth sh ((p.length : Int) - 1)).1 = 0)) = true then ((p.length : Int), 42) else (0, 0) := by
  unfold eachP
  simp only [h]
  rw [if_neg (by simp)]
theorem inner_step {p : List Nd} {sh : List Shp} {op a b h : Int} {r : Nat} (hb : b ≠ 0) : inner p sh op a (r + 1) b h = inner p sh op a r (sth sh (b - 1)).1 (max h (if less p op a b r = true then (sth sh (b - 1)).2.1 - 1 else (sth sh (b - 1)).2.1)) := by
  rw [inner, if_neg hb]
theorem ShOk.push {sh : List Shp} (hok : ShOk sh) {b h : Int} (h1 : 0 ≤ b) (h2 : b ≤ (sh.length : Int)) (h3 : 0 ≤ h) (h4 : h ≤ 60) : ShOk (sh ++ [(b, h, ())]) := by
  intro i x hx
  rw [List.getElem?_append] at hx
  split at hx
  · exact hok i x hx
  · rename_i hlt
    have : i = sh.length := by
      have := (List.getElem?_eq_some_iff.1 hx).1
      simp at this
      omega
    subst this
    simp at hx
    subst hx
    exact ⟨h1, h2, h3, h4⟩
theorem sth_ok {sh : List Shp} (hok : ShOk sh) {b : Int} (h0 : 0 < b) (h1 : b ≤ (sh.length : Int)) :
    0 ≤ (List.getD sh (b - 1).toNat tShape.dflt).1 ∧ (List.getD sh (b - 1).toNat tShape.dflt).1 ≤ b - 1 ∧ 0 ≤ (List.getD sh (b - 1).toNat tShape.dflt).2.1 ∧ (List.getD sh (b - 1).toNat tShape.dflt).2.1 ≤ 60 := by
  have hlt : (b - 1).toNat < sh.length := by omega
  have := hok (b - 1).toNat _ (List.getElem?_eq_getElem hlt)
  rw [List.getD_eq_getElem?_getD, List.getElem?_eq_getElem hlt]
  simp only [Option.getD_some]
  refine ⟨this.1, ?_, this.2.2.1, this.2.2.2⟩
  have := this.2.1
  omega
theorem less_true {p : List Nd} {op a b : Int} {j : Nat} (ha : 0 ≤ a) (ha2 : a ≤ 2) (hj : (j : Int) < a) (h : (j : Int) = 1 ∧ (List.getD p (b - 1).toNat tNode.dflt).1 = op) : less p op a b (a.toNat - (j + 1)) = true := by
  unfold less nth
  rw [h.2]
  simp
  omega
theorem less_false {p : List Nd} {op a b : Int} {j : Nat} (ha : 0 ≤ a) (ha2 : a ≤ 2) (hj : (j : Int) < a) (h : (j : Int) = 1 → ¬(List.getD p (b - 1).toNat tNode.dflt).1 = op) : less p op a b (a.toNat - (j + 1)) = false := by
  unfold less nth
  by_cases h1 : (j : Int) = 1
  · have := h h1
    simp only [this]
    simp
  · have : ¬ (a.toNat - (j + 1) = 0 ∧ a = 2) := by omega
    by_cases h2 : a = 2
    · have h3 : ¬ (a.toNat - (j + 1) = 0) := fun e => this ⟨e, h2⟩
      have h4 : (a.toNat - (j + 1) == 0) = false := by simpa using h3
      rw [h4]
      rfl
    · simp [h2]
noncomputable def Φ3 : Fns := [(15, dspec [.int .i64] fun x => some ([], .data (.int .i64) (arity x.1), none)), (53, dspec [tNode] fun x => some ([], .data .bool (fieldB x.1.1 x.1.2.1 x.1.2.2.1 x.1.2.2.2.1), none)), (40, dspec [.int .i64, tShape] fun x => some ([], .tup [], none))]
theorem Φ3_ok : FnsOk GT.P Φ3 := fns_cons f15_ok (by kernel_rfl) (fns_cons f53_ok (by kernel_rfl) (fns_cons f40_ok (by kernel_rfl) fns_nil))
set_option maxHeartbeats 4000000 in
theorem f39_ok : FnOk Try.prog 39 (dspecF [.sl 48 tNode] 40 fun x => some ([List.length x.1 ≤ 2048], .tup [.data (.int .i64) (eachP x.1).1, .data (.int .i64) (eachP x.1).2], none)) := by
  have hΦ := Φ3_ok
  refine fn_dataF (Γ := GT) (rs := [.tmp 4, .tmp 5]) Try.func39 rfl rfl Try.ntmps39 (by decide) ?_
  rintro S0 w0 ⟨p, ⟨⟩⟩ ps r ob h hps
  simp only [Option.some.injEq, Prod.mk.injEq] at h
  obtain ⟨rfl, rfl, rfl⟩ := h
  have hp : List.length p ≤ 2048 := hps _ (List.mem_cons_self ..)
  simp only [dataArgs, List.cons_append, List.nil_append]
  repeat' (first
    | refine aw_seq ?_
    | refine aw_region GT_ok hΦ rfl (by (simp only [go_sem, GT, Nat.reduceEqDiff, Nat.reduceSub, Nat.reduceMul, Nat.reduceLeDiff, Nat.reduceAdd, Nat.reduceLT, Nat.reduceBEq, reduceIte, reduceCtorEq, Int.reduceToNat, Φ3]); exact rfl) ?_ ?_
    | refine aw_draw GT_ok hΦ rfl (by kernel_rfl) (by (simp only [go_sem, GT, Nat.reduceEqDiff, Nat.reduceSub, Nat.reduceMul, Nat.reduceLeDiff, Nat.reduceAdd, Nat.reduceLT, Nat.reduceBEq, reduceIte, reduceCtorEq, Int.reduceToNat, Φ3]); exact rfl) ?_ ?_
    | refine aw_cond (by (simp only [go_sem, GT, Nat.reduceEqDiff, Nat.reduceSub, Nat.reduceMul, Nat.reduceLeDiff, Nat.reduceAdd, Nat.reduceLT, Nat.reduceBEq, reduceIte, reduceCtorEq, Int.reduceToNat, Φ3]); exact rfl) ?_ ?_ ?_
    | refine aw_ret ?_
    | refine aw_skip ?_
    | refine aw_block ?_
    | refine aw_exit ?_
    | refine tq_ret ?_
    | refine tq_exit ?_
    | refine bq_ret ?_
    | refine bq_normal ?_
    | refine bq_exit ?_
    | refine bq_out (by decide) ?_
    | refine tq_normal ?_
    | exact nop
    | (refine fun (hc : (_ : Bool) = _) => ?_; first | assumption | exact hc | (simp only [Bool.not_eq_true', Bool.not_eq_false', decide_eq_true_eq, decide_eq_false_iff_not, Bool.and_eq_true, Bool.or_eq_true, Bool.or_eq_false_iff, Bool.and_eq_false_imp, Int.not_lt, Int.not_le, Classical.not_not, ne_eq, reduceCtorEq, gt_iff_lt, ge_iff_le, Bool.true_eq_false, Bool.false_eq_true, eq_self, not_true, not_false_eq_true] at hc; first | done | (exfalso; omega) | skip) | skip)
    | simp only [List.mem_cons, List.not_mem_nil, forall_eq_or_imp, false_implies, implies_true, and_true, true_and, or_false, forall_eq]
    | refine fin_data (.inl rfl) (by (simp only [go_sem, GT, Nat.reduceEqDiff, Nat.reduceSub, Nat.reduceMul, Nat.reduceLeDiff, Nat.reduceAdd, Nat.reduceLT, Nat.reduceBEq, reduceIte, reduceCtorEq, Int.reduceToNat, Φ3]); exact rfl) ?_ ?_
    | refine fin_pure (.inl rfl) (by (simp only [go_sem, GT, Nat.reduceEqDiff, Nat.reduceSub, Nat.reduceMul, Nat.reduceLeDiff, Nat.reduceAdd, Nat.reduceLT, Nat.reduceBEq, reduceIte, reduceCtorEq, Int.reduceToNat, Φ3]); exact rfl) ?_ (tup_congr ?_)
    | refine fin_pure (.inr rfl) (by (simp only [go_sem, GT, Nat.reduceEqDiff, Nat.reduceSub, Nat.reduceMul, Nat.reduceLeDiff, Nat.reduceAdd, Nat.reduceLT, Nat.reduceBEq, reduceIte, reduceCtorEq, Int.reduceToNat, Φ3]); exact rfl) ?_ (tup_congr ?_)
    | refine cons_congr (data_congr ?_) ?_
    | exact trivial
    | assumption
    | exact fun h => h
    | refine And.intro ?_ ?_
    | rfl
    | omega
    | (show (_ : Int) ≤ _; omega)
    | (show (_ : Int) < _; omega)
    | (refine fits_i64 ?_ ?_ <;> omega)
    | (show (_ : Bool) = true; simp only [Bool.not_eq_true', Bool.not_eq_false', decide_eq_true_eq, decide_eq_false_iff_not, Bool.and_eq_true, Bool.or_eq_true, Bool.or_eq_false_iff, Bool.and_eq_false_imp, Int.not_lt, Int.not_le, Classical.not_not, ne_eq, reduceCtorEq, gt_iff_lt, ge_iff_le, Bool.true_eq_false, Bool.false_eq_true, eq_self, not_true, not_false_eq_true]; first | omega | (refine And.intro ?_ ?_ <;> first | assumption | omega))
    | (simp only [Bool.not_eq_true', Bool.not_eq_false', decide_eq_true_eq, decide_eq_false_iff_not, Bool.and_eq_true, Bool.or_eq_true, Bool.or_eq_false_iff, Bool.and_eq_false_imp, Int.not_lt, Int.not_le, Classical.not_not, ne_eq, reduceCtorEq, gt_iff_lt, ge_iff_le, Bool.true_eq_false, Bool.false_eq_true, eq_self, not_true, not_false_eq_true]; omega))
  refine aw_loop (σ := {x : Nat × List Shp // x.1 ≤ List.length p ∧ x.2.length = x.1 ∧ ShOk x.2 ∧ scan p (List.drop x.1 p) x.2 = scan p p []}) (fun x => ⟨[(18, .data (.int .i64) (x.1.1 : Int)), (17, .data (.int .i64) (List.length p : Int)), (16, .data (.sl 48 tNode) p), (6, .own 6 tShape 0 (List.length x.1.2)), (0, .data (.sl 48 tNode) p), (1, .fn 40 [])], [(6, .row 59 tShape x.1.2 false)], 108⟩) (fun x => List.length p - x.1.1) ⟨(0, []), by simp, rfl, by intro i x h; simp at h, rfl⟩ (Le.drop (by simp [Abs.get]) (by simp [Abs.get]) rfl) ?_
  rintro ⟨⟨i, sh⟩, hi, hl, hok, hs⟩
  simp only at hi hl hok hs
  repeat' (first
    | refine aw_seq ?_
    | refine aw_region GT_ok hΦ rfl (by (simp only [go_sem, GT, Nat.reduceEqDiff, Nat.reduceSub, Nat.reduceMul, Nat.reduceLeDiff, Nat.reduceAdd, Nat.reduceLT, Nat.reduceBEq, reduceIte, reduceCtorEq, Int.reduceToNat, Φ3]); exact rfl) ?_ ?_
    | refine aw_draw GT_ok hΦ rfl (by kernel_rfl) (by (simp only [go_sem, GT, Nat.reduceEqDiff, Nat.reduceSub, Nat.reduceMul, Nat.reduceLeDiff, Nat.reduceAdd, Nat.reduceLT, Nat.reduceBEq, reduceIte, reduceCtorEq, Int.reduceToNat, Φ3]); exact rfl) ?_ ?_
    | refine aw_cond (by (simp only [go_sem, GT, Nat.reduceEqDiff, Nat.reduceSub, Nat.reduceMul, Nat.reduceLeDiff, Nat.reduceAdd, Nat.reduceLT, Nat.reduceBEq, reduceIte, reduceCtorEq, Int.reduceToNat, Φ3]); exact rfl) ?_ ?_ ?_
    | refine aw_ret ?_
    | refine aw_skip ?_
    | refine aw_block ?_
    | refine aw_exit ?_
    | refine tq_ret ?_
    | refine tq_exit ?_
    | refine bq_ret ?_
    | refine bq_normal ?_
    | refine bq_exit ?_
    | refine bq_out (by decide) ?_
    | refine tq_normal ?_
    | exact nop
    | (refine fun (hc : (_ : Bool) = _) => ?_; first | assumption | exact hc | (simp only [Bool.not_eq_true', Bool.not_eq_false', decide_eq_true_eq, decide_eq_false_iff_not, Bool.and_eq_true, Bool.or_eq_true, Bool.or_eq_false_iff, Bool.and_eq_false_imp, Int.not_lt, Int.not_le, Classical.not_not, ne_eq, reduceCtorEq, gt_iff_lt, ge_iff_le, Bool.true_eq_false, Bool.false_eq_true, eq_self, not_true, not_false_eq_true] at hc; first | done | (exfalso; omega) | skip) | skip)
    | simp only [List.mem_cons, List.not_mem_nil, forall_eq_or_imp, false_implies, implies_true, and_true, true_and, or_false, forall_eq]
    | refine fin_data (.inl rfl) (by (simp only [go_sem, GT, Nat.reduceEqDiff, Nat.reduceSub, Nat.reduceMul, Nat.reduceLeDiff, Nat.reduceAdd, Nat.reduceLT, Nat.reduceBEq, reduceIte, reduceCtorEq, Int.reduceToNat, Φ3]); exact rfl) ?_ ?_
    | refine fin_pure (.inl rfl) (by (simp only [go_sem, GT, Nat.reduceEqDiff, Nat.reduceSub, Nat.reduceMul, Nat.reduceLeDiff, Nat.reduceAdd, Nat.reduceLT, Nat.reduceBEq, reduceIte, reduceCtorEq, Int.reduceToNat, Φ3]); exact rfl) ?_ (tup_congr ?_)
    | refine fin_pure (.inr rfl) (by (simp only [go_sem, GT, Nat.reduceEqDiff, Nat.reduceSub, Nat.reduceMul, Nat.reduceLeDiff, Nat.reduceAdd, Nat.reduceLT, Nat.reduceBEq, reduceIte, reduceCtorEq, Int.reduceToNat, Φ3]); exact rfl) ?_ (tup_congr ?_)
    | refine cons_congr (data_congr ?_) ?_
    | exact trivial
    | assumption
    | exact fun h => h
    | refine And.intro ?_ ?_
    | rfl
    | omega
    | (show (_ : Int) ≤ _; omega)
    | (show (_ : Int) < _; omega)
    | (refine fits_i64 ?_ ?_ <;> omega)
    | (show (_ : Bool) = true; simp only [Bool.not_eq_true', Bool.not_eq_false', decide_eq_true_eq, decide_eq_false_iff_not, Bool.and_eq_true, Bool.or_eq_true, Bool.or_eq_false_iff, Bool.and_eq_false_imp, Int.not_lt, Int.not_le, Classical.not_not, ne_eq, reduceCtorEq, gt_iff_lt, ge_iff_le, Bool.true_eq_false, Bool.false_eq_true, eq_self, not_true, not_false_eq_true]; first | omega | (refine And.intro ?_ ?_ <;> first | assumption | omega))
    | (simp only [Bool.not_eq_true', Bool.not_eq_false', decide_eq_true_eq, decide_eq_false_iff_not, Bool.and_eq_true, Bool.or_eq_true, Bool.or_eq_false_iff, Bool.and_eq_false_imp, Int.not_lt, Int.not_le, Classical.not_not, ne_eq, reduceCtorEq, gt_iff_lt, ge_iff_le, Bool.true_eq_false, Bool.false_eq_true, eq_self, not_true, not_false_eq_true]; omega))
  · have e := eachP_err (p := p) (by rw [← hs, scan_at (by omega), if_pos (by assumption), hl]) (by decide)
    rw [e]
  · have e := eachP_err (p := p) (by rw [← hs, scan_at (by omega), if_pos (by assumption), hl]) (by decide)
    rw [e]
  · have e := eachP_err (p := p) (by rw [← hs, scan_at (by omega), if_neg (by omega), if_pos (by rw [hc]; rfl), hl]) (by decide)
    rw [e]
  · have e := eachP_err (p := p) (by rw [← hs, scan_at (by omega), if_neg (by omega), if_pos (by rw [hc]; rfl), hl]) (by decide)
    rw [e]
  · have hfld := hc
    rename_i ha
    rw [scan_at (by omega), if_neg (by omega), if_neg (by rw [hfld]; simp)] at hs
    have ha2 := arity_le (List.getD p i tNode.dflt).1
    generalize hn : List.getD p i tNode.dflt = n at *
    refine aw_loop (σ := {x : Nat × Int × Int // x.1 ≤ (arity n.1).toNat ∧ 0 ≤ x.2.1 ∧ x.2.1 ≤ (i : Int) ∧ 0 ≤ x.2.2 ∧ x.2.2 ≤ 60 ∧ inner p sh n.1 (arity n.1) ((arity n.1).toNat - x.1) x.2.1 x.2.2 = inner p sh n.1 (arity n.1) (arity n.1).toNat (sh.length : Int) 0}) (fun x => ⟨[(36, .data (.int .i64) (x.1.1 : Int)), (35, .data (.int .i64) (arity n.1)), (10, .optr 10 tShape 0 []), (8, .optr 8 tNode 0 []), (7, .data (.int .i64) (i : Int)), (18, .data (.int .i64) (i : Int)), (17, .data (.int .i64) (List.length p : Int)), (16, .data (.sl 48 tNode) p), (6, .own 6 tShape 0 (List.length sh)), (0, .data (.sl 48 tNode) p), (1, .fn 40 [])], [(10, .row 59 tShape [(x.1.2.1, x.1.2.2, ())] false), (8, .row 48 tNode [n] false), (6, .row 59 tShape sh false)], 108⟩) (fun x => (arity n.1).toNat - x.1.1) ⟨(0, (i : Int), 0), by simp, by simp only; omega, by simp only; omega, by simp only; omega, by simp only; omega, by rw [hl]; rfl⟩ (Le.drop (by simp [Abs.get]) (by simp [Abs.get, Ty.dflts, Ty.dflt]) rfl) ?_
    rintro ⟨⟨j, b, h⟩, hj, hb0, hb1, hh0, hh1, hin⟩
    simp only at hj hb0 hb1 hh0 hh1 hin
    repeat' (first
      | refine aw_seq ?_
      | refine aw_region GT_ok hΦ rfl (by (simp only [go_sem, GT, Nat.reduceEqDiff, Nat.reduceSub, Nat.reduceMul, Nat.reduceLeDiff, Nat.reduceAdd, Nat.reduceLT, Nat.reduceBEq, reduceIte, reduceCtorEq, Int.reduceToNat, Φ3]); exact rfl) ?_ ?_
      | refine aw_draw GT_ok hΦ rfl (by kernel_rfl) (by (simp only [go_sem, GT, Nat.reduceEqDiff, Nat.reduceSub, Nat.reduceMul, Nat.reduceLeDiff, Nat.reduceAdd, Nat.reduceLT, Nat.reduceBEq, reduceIte, reduceCtorEq, Int.reduceToNat, Φ3]); exact rfl) ?_ ?_
      | refine aw_cond (by (simp only [go_sem, GT, Nat.reduceEqDiff, Nat.reduceSub, Nat.reduceMul, Nat.reduceLeDiff, Nat.reduceAdd, Nat.reduceLT, Nat.reduceBEq, reduceIte, reduceCtorEq, Int.reduceToNat, Φ3]); exact rfl) ?_ ?_ ?_
      | refine aw_ret ?_
      | refine aw_skip ?_
      | refine aw_block ?_
      | refine aw_exit ?_
      | refine tq_ret ?_
      | refine tq_exit ?_
      | refine bq_ret ?_
      | refine bq_normal ?_
      | refine bq_exit ?_
      | refine bq_out (by decide) ?_
      | refine tq_normal ?_
      | exact nop
      | (refine fun (hc : (_ : Bool) = _) => ?_; first | assumption | exact hc | (simp only [Bool.not_eq_true', Bool.not_eq_false', decide_eq_true_eq, decide_eq_false_iff_not, Bool.and_eq_true, Bool.or_eq_true, Bool.or_eq_false_iff, Bool.and_eq_false_imp, Int.not_lt, Int.not_le, Classical.not_not, ne_eq, reduceCtorEq, gt_iff_lt, ge_iff_le, Bool.true_eq_false, Bool.false_eq_true, eq_self, not_true, not_false_eq_true] at hc; first | done | (exfalso; omega) | skip) | skip)
      | simp only [List.mem_cons, List.not_mem_nil, forall_eq_or_imp, false_implies, implies_true, and_true, true_and, or_false, forall_eq]
      | refine fin_data (.inl rfl) (by (simp only [go_sem, GT, Nat.reduceEqDiff, Nat.reduceSub, Nat.reduceMul, Nat.reduceLeDiff, Nat.reduceAdd, Nat.reduceLT, Nat.reduceBEq, reduceIte, reduceCtorEq, Int.reduceToNat, Φ3]); exact rfl) ?_ ?_
      | refine fin_pure (.inl rfl) (by (simp only [go_sem, GT, Nat.reduceEqDiff, Nat.reduceSub, Nat.reduceMul, Nat.reduceLeDiff, Nat.reduceAdd, Nat.reduceLT, Nat.reduceBEq, reduceIte, reduceCtorEq, Int.reduceToNat, Φ3]); exact rfl) ?_ (tup_congr ?_)
      | refine fin_pure (.inr rfl) (by (simp only [go_sem, GT, Nat.reduceEqDiff, Nat.reduceSub, Nat.reduceMul, Nat.reduceLeDiff, Nat.reduceAdd, Nat.reduceLT, Nat.reduceBEq, reduceIte, reduceCtorEq, Int.reduceToNat, Φ3]); exact rfl) ?_ (tup_congr ?_)
      | refine cons_congr (data_congr ?_) ?_
      | exact trivial
      | assumption
      | exact fun h => h
      | refine And.intro ?_ ?_
      | rfl
      | omega
      | (show (_ : Int) ≤ _; omega)
      | (show (_ : Int) < _; omega)
      | (refine fits_i64 ?_ ?_ <;> omega)
      | (show (_ : Bool) = true; simp only [Bool.not_eq_true', Bool.not_eq_false', decide_eq_true_eq, decide_eq_false_iff_not, Bool.and_eq_true, Bool.or_eq_true, Bool.or_eq_false_iff, Bool.and_eq_false_imp, Int.not_lt, Int.not_le, Classical.not_not, ne_eq, reduceCtorEq, gt_iff_lt, ge_iff_le, Bool.true_eq_false, Bool.false_eq_true, eq_self, not_true, not_false_eq_true]; first | omega | (refine And.intro ?_ ?_ <;> first | assumption | omega))
      | (simp only [Bool.not_eq_true', Bool.not_eq_false', decide_eq_true_eq, decide_eq_false_iff_not, Bool.and_eq_true, Bool.or_eq_true, Bool.or_eq_false_iff, Bool.and_eq_false_imp, Int.not_lt, Int.not_le, Classical.not_not, ne_eq, reduceCtorEq, gt_iff_lt, ge_iff_le, Bool.true_eq_false, Bool.false_eq_true, eq_self, not_true, not_false_eq_true]; omega))
    · rw [show (arity n.1).toNat - j = ((arity n.1).toNat - j - 1) + 1 by omega, inner, if_pos (by assumption)] at hin
      rw [← hin] at hs
      rw [eachP_err hs.symm (by decide), hl]
    · rw [show (arity n.1).toNat - j = ((arity n.1).toNat - j - 1) + 1 by omega, inner, if_pos (by assumption)] at hin
      rw [← hin] at hs
      rw [eachP_err hs.symm (by decide)]
    · have hx := sth_ok hok (b := b) (by omega) (by omega)
      refine fits_i64 ?_ ?_ <;> omega
    · have hx := sth_ok hok (b := b) (by omega) (by omega)
      refine ⟨⟨(j + 1, (List.getD sh (b - 1).toNat tShape.dflt).1, max h ((List.getD sh (b - 1).toNat tShape.dflt).2.1 - 1)), by simp only; omega, by simp only; omega, by simp only; omega, by simp only; omega, by simp only; omega, ?_⟩, Le.drop (by simp [Abs.get]) (by simp [Abs.get, Ty.dflts, Ty.dflt]) rfl, by simp only; omega⟩
      rw [← hin, show (arity n.1).toNat - j = ((arity n.1).toNat - (j + 1)) + 1 by omega, inner_step (by assumption), less_true ha ha2 (by assumption) hc]
      rfl
    · have hx := sth_ok hok (b := b) (by omega) (by omega)
      refine ⟨⟨(j + 1, (List.getD sh (b - 1).toNat tShape.dflt).1, max h (List.getD sh (b - 1).toNat tShape.dflt).2.1), by simp only; omega, by simp only; omega, by simp only; omega, by simp only; omega, by simp only; omega, ?_⟩, Le.drop (by simp [Abs.get]) (by simp [Abs.get, Ty.dflts, Ty.dflt]) rfl, by simp only; omega⟩
      rw [← hin, show (arity n.1).toNat - j = ((arity n.1).toNat - (j + 1)) + 1 by omega, inner_step (by assumption), less_false ha ha2 (by assumption) (by assumption)]
      rfl
    · rw [show (arity n.1).toNat - j = 0 by omega, inner] at hin
      rw [← hin] at hs
      simp only at hs
      rw [if_pos (by assumption)] at hs
      rw [eachP_err hs.symm (by decide), hl]
    · rw [show (arity n.1).toNat - j = 0 by omega, inner] at hin
      rw [← hin] at hs
      simp only at hs
      rw [if_pos (by assumption)] at hs
      rw [eachP_err hs.symm (by decide)]
    · rw [show (arity n.1).toNat - j = 0 by omega, inner] at hin
      rw [← hin] at hs
      simp only at hs
      rw [if_neg (by omega)] at hs
      refine ⟨⟨(i + 1, sh ++ [(b, h + 1, ())]), by simp only; omega, by simp [hl], ?_, hs⟩, Le.drop (by simp [Abs.get]) (by simp [Abs.get]) rfl, by simp only; omega⟩
      exact hok.push (by omega) (by omega) (by omega) (by omega)
  · have hse : scan p p [] = ((0, 0), sh) := by rw [← hs, List.drop_of_length_le (by omega), scan]
    rw [eachP_end hse, if_pos (by simp only [Bool.not_eq_true', Bool.not_eq_false', decide_eq_true_eq, decide_eq_false_iff_not, Bool.and_eq_true, Bool.or_eq_true, Bool.or_eq_false_iff, Bool.and_eq_false_imp, Int.not_lt, Int.not_le, Classical.not_not, ne_eq, reduceCtorEq, gt_iff_lt, ge_iff_le, Bool.true_eq_false, Bool.false_eq_true, eq_self, not_true, not_false_eq_true]; exact hc)]
  · have hse : scan p p [] = ((0, 0), sh) := by rw [← hs, List.drop_of_length_le (by omega), scan]
    rw [eachP_end hse, if_pos (by simp only [Bool.not_eq_true', Bool.not_eq_false', decide_eq_true_eq, decide_eq_false_iff_not, Bool.and_eq_true, Bool.or_eq_true, Bool.or_eq_false_iff, Bool.and_eq_false_imp, Int.not_lt, Int.not_le, Classical.not_not, ne_eq, reduceCtorEq, gt_iff_lt, ge_iff_le, Bool.true_eq_false, Bool.false_eq_true, eq_self, not_true, not_false_eq_true]; exact hc)]
  · have hse : scan p p [] = ((0, 0), sh) := by rw [← hs, List.drop_of_length_le (by omega), scan]
    rw [eachP_end hse, if_neg (by simp only [Bool.not_eq_true', Bool.not_eq_false', decide_eq_true_eq, decide_eq_false_iff_not, Bool.and_eq_true, Bool.or_eq_true, Bool.or_eq_false_iff, Bool.and_eq_false_imp, Int.not_lt, Int.not_le, Classical.not_not, ne_eq, reduceCtorEq, gt_iff_lt, ge_iff_le, Bool.true_eq_false, Bool.false_eq_true, eq_self, not_true, not_false_eq_true]; intro h; rcases h with h | h; exact hc.1 h; exact h hc.2)]
  · have hse : scan p p [] = ((0, 0), sh) := by rw [← hs, List.drop_of_length_le (by omega), scan]
    rw [eachP_end hse, if_neg (by simp only [Bool.not_eq_true', Bool.not_eq_false', decide_eq_true_eq, decide_eq_false_iff_not, Bool.and_eq_true, Bool.or_eq_true, Bool.or_eq_false_iff, Bool.and_eq_false_imp, Int.not_lt, Int.not_le, Classical.not_not, ne_eq, reduceCtorEq, gt_iff_lt, ge_iff_le, Bool.true_eq_false, Bool.false_eq_true, eq_self, not_true, not_false_eq_true]; intro h; rcases h with h | h; exact hc.1 h; exact h hc.2)]
end Go.Proofs
