/- Part of the proof of the law's row: YtlelhklalainfaaWJ. -/
import Derived.Test.YtlelhklalainfaaWI
set_option linter.all false
set_option linter.unusedVariables false
set_option linter.unusedSimpArgs false
namespace Go.Proofs
open Go.Abs
attribute [local irreducible] AW Abs.Fin thenQ blockQ Le
theorem chk_ok {p : List Nd} (h : (chkP p).2 = 0) : p.length ≤ 2048 ∧ eachP p = chkP p := by
  unfold chkP at h ⊢
  split
  · rename_i h2
    rw [if_pos h2] at h
    cases h
  · exact ⟨by omega, rfl⟩
theorem scan_kinds {p : List Nd} : ∀ (ns : List Nd) (sh : List Shp) {sh' : List Shp}, scan p ns sh = ((0, 0), sh') → ∀ n ∈ ns, 0 ≤ arity n.1
  | [], _, _, _, n, hn => by cases hn
  | x :: ns, sh, sh', h, n, hn => by
    rw [scan] at h
    split at h
    · simp at h
    · rename_i hx
      have key : 0 ≤ arity x.1 := by omega
      split at h
      · simp at h
      · split at h
        · simp at h
        · split at h
          · simp at h
          · rcases List.mem_cons.1 hn with rfl | hn
            · exact key
            · exact scan_kinds ns _ h n hn
theorem chk_kinds {p : List Nd} (h : (chkP p).2 = 0) : ∀ n ∈ p, 0 ≤ arity n.1 := by
  rw [← (chk_ok h).2] at h
  rcases scan_cases (p := p) p [] with ⟨a, e, sh, h1, h2⟩ | ⟨sh, h1, h2⟩
  · rw [eachP_err h1 h2] at h
    exact absurd h h2
  · exact scan_kinds p [] h1
/-- How many nodes capture. -/
def capsF (f : Int → Bool) : List Nd → Int → Int
  | [], c => c
  | n :: ns, c => capsF f ns (if f n.1 = true then c + 1 else c)
theorem capsF_at {f : Int → Bool} {p : List Nd} {c : Int} {i : Nat} (hi : i < p.length) : capsF f (p.drop i) c = capsF f (p.drop (i + 1)) (if f (List.getD p i tNode.dflt).1 = true then c + 1 else c) := by
  rw [List.drop_eq_getElem_cons hi, capsF, List.getD_eq_getElem?_getD, List.getElem?_eq_getElem hi]
  rfl
def bigB (op : Int) : Bool := decide (op ≥ 17)
theorem capsF_same : ∀ {ns : List Nd} {c : Int}, (∀ n ∈ ns, 0 ≤ arity n.1) → capsF bigB ns c = capsF catchB ns c
  | [], _, _ => rfl
  | n :: ns, c, h => by
    have h1 : bigB n.1 = catchB n.1 := by
      have := h n (List.mem_cons_self ..)
      unfold arity at this
      unfold bigB catchB
      by_cases h17 : n.1 ≥ 17
      · have h23 : n.1 ≤ 23 := by
          repeat' split at this
          all_goals omega
        simp [h17, h23]
      · simp [h17]
    rw [capsF, capsF, h1]
    exact capsF_same fun m hm => h m (List.mem_cons_of_mem _ hm)
def capsP (p : List Nd) : Int × Int := if (chkP p).2 ≠ 0 then (0, (chkP p).2) else (capsF catchB p 0, 0)
@[reducible] noncomputable def s22 : Abs.Spec := dspec [.sl 48 tNode] fun x => some ([], .tup [.data (.int .i64) (capsP x.1).1, .data (.int .i64) (capsP x.1).2], none)
noncomputable def Φ13 : Fns := [(12, s12), (13, s12), (44, dspec [.int .i64] fun x => some ([], .data .bool (catchB x.1), none))]
theorem Φ13_ok : FnsOk GT.P Φ13 := fns_cons f12_ok (by kernel_rfl) (fns_cons f13_ok (by kernel_rfl) (fns_cons f44_ok (by kernel_rfl) fns_nil))
set_option maxHeartbeats 1000000 in
theorem f22_ok : FnOk Try.prog 22 s22 := by
  have hΦ := Φ13_ok
  refine fn_data (Γ := GT) (rs := [.tmp 2, .tmp 3]) Try.func22 rfl rfl Try.ntmps22 (by decide) ?_
  rintro S0 w0 ⟨p, ⟨⟩⟩ ps r ob h _ hw
  simp only [Option.some.injEq, Prod.mk.injEq] at h
  obtain ⟨rfl, rfl, rfl⟩ := h
  simp only [dataArgs]
  repeat' (first
    | refine aw_seq ?_
    | refine aw_region GT_ok hΦ rfl (by (simp only [go_sem, GT, Nat.reduceEqDiff, Nat.reduceSub, Nat.reduceMul, Nat.reduceLeDiff, Nat.reduceAdd, Nat.reduceLT, Nat.reduceBEq, reduceIte, reduceCtorEq, Int.reduceToNat, Φ13, s12]); exact rfl) ?_ ?_
    | refine aw_draw GT_ok hΦ rfl (by kernel_rfl) (by (simp only [go_sem, GT, Nat.reduceEqDiff, Nat.reduceSub, Nat.reduceMul, Nat.reduceLeDiff, Nat.reduceAdd, Nat.reduceLT, Nat.reduceBEq, reduceIte, reduceCtorEq, Int.reduceToNat, Φ13, s12]); exact rfl) ?_ ?_
    | refine aw_cond (by (simp only [go_sem, GT, Nat.reduceEqDiff, Nat.reduceSub, Nat.reduceMul, Nat.reduceLeDiff, Nat.reduceAdd, Nat.reduceLT, Nat.reduceBEq, reduceIte, reduceCtorEq, Int.reduceToNat, Φ13, s12]); exact rfl) ?_ ?_ ?_
    | refine aw_ret ?_
    | refine aw_skip ?_
    | refine aw_block ?_
    | refine aw_exit ?_
    | refine tq_ret ?_
    | refine tq_exit ?_
    | refine bq_ret ?_
    | refine bq_normal ?_
    | refine bq_exit ?_
    | refine bq_out (by decide) ?_
    | refine tq_normal ?_
    | exact nop
    | (refine fun (hc : (_ : Bool) = _) => ?_; first | assumption | exact hc | (simp only [Bool.not_eq_true', Bool.not_eq_false', decide_eq_true_eq, decide_eq_false_iff_not, Bool.and_eq_true, Bool.or_eq_true, Bool.or_eq_false_iff, Bool.and_eq_false_imp, Int.not_lt, Int.not_le, Classical.not_not, ne_eq, reduceCtorEq, gt_iff_lt, ge_iff_le, Bool.true_eq_false, Bool.false_eq_true, eq_self, not_true, not_false_eq_true] at hc; first | done | (exfalso; omega) | skip) | skip)
    | simp only [List.mem_cons, List.not_mem_nil, forall_eq_or_imp, false_implies, implies_true, and_true, true_and, or_false, forall_eq]
    | refine fin_data (.inl rfl) (by (simp only [go_sem, GT, Nat.reduceEqDiff, Nat.reduceSub, Nat.reduceMul, Nat.reduceLeDiff, Nat.reduceAdd, Nat.reduceLT, Nat.reduceBEq, reduceIte, reduceCtorEq, Int.reduceToNat, Φ13, s12]); exact rfl) ?_ ?_
    | refine fin_pure (.inl rfl) (by (simp only [go_sem, GT, Nat.reduceEqDiff, Nat.reduceSub, Nat.reduceMul, Nat.reduceLeDiff, Nat.reduceAdd, Nat.reduceLT, Nat.reduceBEq, reduceIte, reduceCtorEq, Int.reduceToNat, Φ13, s12]); exact rfl) ?_ (tup_congr ?_)
    | refine fin_pure (.inr rfl) (by (simp only [go_sem, GT, Nat.reduceEqDiff, Nat.reduceSub, Nat.reduceMul, Nat.reduceLeDiff, Nat.reduceAdd, Nat.reduceLT, Nat.reduceBEq, reduceIte, reduceCtorEq, Int.reduceToNat, Φ13, s12]); exact rfl) ?_ (tup_congr ?_)
    | refine fin_own (.inl rfl) (by (simp only [go_sem, GT, Nat.reduceEqDiff, Nat.reduceSub, Nat.reduceMul, Nat.reduceLeDiff, Nat.reduceAdd, Nat.reduceLT, Nat.reduceBEq, reduceIte, reduceCtorEq, Int.reduceToNat, Φ13, s12]); exact rfl) ?_ ?_
    | exact trivial
    | assumption
    | exact fun h => h
    | refine And.intro ?_ ?_
    | rfl
    | omega
    | (show (_ : Int) ≤ _; omega)
    | (show (_ : Int) < _; omega)
    | (refine fits_i64 ?_ ?_ <;> omega)
    | (show (_ : Bool) = true; simp only [Bool.not_eq_true', Bool.not_eq_false', decide_eq_true_eq, decide_eq_false_iff_not, Bool.and_eq_true, Bool.or_eq_true, Bool.or_eq_false_iff, Bool.and_eq_false_imp, Int.not_lt, Int.not_le, Classical.not_not, ne_eq, reduceCtorEq, gt_iff_lt, ge_iff_le, Bool.true_eq_false, Bool.false_eq_true, eq_self, not_true, not_false_eq_true]; first | omega | (refine And.intro ?_ ?_ <;> first | assumption | omega))
    | (simp only [Bool.not_eq_true', Bool.not_eq_false', decide_eq_true_eq, decide_eq_false_iff_not, Bool.and_eq_true, Bool.or_eq_true, Bool.or_eq_false_iff, Bool.and_eq_false_imp, Int.not_lt, Int.not_le, Classical.not_not, ne_eq, reduceCtorEq, gt_iff_lt, ge_iff_le, Bool.true_eq_false, Bool.false_eq_true, eq_self, not_true, not_false_eq_true]; omega))
  · unfold capsP
    rw [if_pos hc]
  · have hck := hc
    have hlen := (chk_ok hck).1
    have hbig := capsF_same (c := 0) (chk_kinds hck)
    refine aw_loop (σ := {x : Nat × Int // x.1 ≤ List.length p ∧ 0 ≤ x.2 ∧ x.2 ≤ (x.1 : Int) ∧ capsF bigB (List.drop x.1 p) x.2 = capsF bigB p 0}) (fun x => ⟨[(19, .data (.int .i64) (x.1.1 : Int)), (18, .data (.int .i64) (List.length p : Int)), (17, .data (.sl 48 tNode) p), (6, .data (.int .i64) x.1.2), (0, .data (.sl 48 tNode) p)], [], 30⟩) (fun x => List.length p - x.1.1) ⟨(0, 0), by simp, by simp, by simp, rfl⟩ (Le.drop (by simp [Abs.get]) (by simp) rfl) ?_
    rintro ⟨⟨i, c⟩, hi, hc0, hci, hs⟩
    simp only at hi hc0 hci hs
    repeat' (first
      | refine aw_seq ?_
      | refine aw_region GT_ok hΦ rfl (by (simp only [go_sem, GT, Nat.reduceEqDiff, Nat.reduceSub, Nat.reduceMul, Nat.reduceLeDiff, Nat.reduceAdd, Nat.reduceLT, Nat.reduceBEq, reduceIte, reduceCtorEq, Int.reduceToNat, Φ13, s12]); exact rfl) ?_ ?_
      | refine aw_draw GT_ok hΦ rfl (by kernel_rfl) (by (simp only [go_sem, GT, Nat.reduceEqDiff, Nat.reduceSub, Nat.reduceMul, Nat.reduceLeDiff, Nat.reduceAdd, Nat.reduceLT, Nat.reduceBEq, reduceIte, reduceCtorEq, Int.reduceToNat, Φ13, s12]); exact rfl) ?_ ?_
      | refine aw_cond (by (simp only [go_sem, GT, Nat.reduceEqDiff, Nat.reduceSub, Nat.reduceMul, Nat.reduceLeDiff, Nat.reduceAdd, Nat.reduceLT, Nat.reduceBEq, reduceIte, reduceCtorEq, Int.reduceToNat, Φ13, s12]); exact rfl) ?_ ?_ ?_
      | refine aw_ret ?_
      | refine aw_skip ?_
      | refine aw_block ?_
      | refine aw_exit ?_
      | refine tq_ret ?_
      | refine tq_exit ?_
      | refine bq_ret ?_
      | refine bq_normal ?_
      | refine bq_exit ?_
      | refine bq_out (by decide) ?_
      | refine tq_normal ?_
      | exact nop
      | (refine fun (hc : (_ : Bool) = _) => ?_; first | assumption | exact hc | (simp only [Bool.not_eq_true', Bool.not_eq_false', decide_eq_true_eq, decide_eq_false_iff_not, Bool.and_eq_true, Bool.or_eq_true, Bool.or_eq_false_iff, Bool.and_eq_false_imp, Int.not_lt, Int.not_le, Classical.not_not, ne_eq, reduceCtorEq, gt_iff_lt, ge_iff_le, Bool.true_eq_false, Bool.false_eq_true, eq_self, not_true, not_false_eq_true] at hc; first | done | (exfalso; omega) | skip) | skip)
      | simp only [List.mem_cons, List.not_mem_nil, forall_eq_or_imp, false_implies, implies_true, and_true, true_and, or_false, forall_eq]
      | refine fin_data (.inl rfl) (by (simp only [go_sem, GT, Nat.reduceEqDiff, Nat.reduceSub, Nat.reduceMul, Nat.reduceLeDiff, Nat.reduceAdd, Nat.reduceLT, Nat.reduceBEq, reduceIte, reduceCtorEq, Int.reduceToNat, Φ13, s12]); exact rfl) ?_ ?_
      | refine fin_pure (.inl rfl) (by (simp only [go_sem, GT, Nat.reduceEqDiff, Nat.reduceSub, Nat.reduceMul, Nat.reduceLeDiff, Nat.reduceAdd, Nat.reduceLT, Nat.reduceBEq, reduceIte, reduceCtorEq, Int.reduceToNat, Φ13, s12]); exact rfl) ?_ (tup_congr ?_)
      | refine fin_pure (.inr rfl) (by (simp only [go_sem, GT, Nat.reduceEqDiff, Nat.reduceSub, Nat.reduceMul, Nat.reduceLeDiff, Nat.reduceAdd, Nat.reduceLT, Nat.reduceBEq, reduceIte, reduceCtorEq, Int.reduceToNat, Φ13, s12]); exact rfl) ?_ (tup_congr ?_)
      | refine fin_own (.inl rfl) (by (simp only [go_sem, GT, Nat.reduceEqDiff, Nat.reduceSub, Nat.reduceMul, Nat.reduceLeDiff, Nat.reduceAdd, Nat.reduceLT, Nat.reduceBEq, reduceIte, reduceCtorEq, Int.reduceToNat, Φ13, s12]); exact rfl) ?_ ?_
      | exact trivial
      | assumption
      | exact fun h => h
      | refine And.intro ?_ ?_
      | rfl
      | omega
      | (show (_ : Int) ≤ _; omega)
      | (show (_ : Int) < _; omega)
      | (refine fits_i64 ?_ ?_ <;> omega)
      | (show (_ : Bool) = true; simp only [Bool.not_eq_true', Bool.not_eq_false', decide_eq_true_eq, decide_eq_false_iff_not, Bool.and_eq_true, Bool.or_eq_true, Bool.or_eq_false_iff, Bool.and_eq_false_imp, Int.not_lt, Int.not_le, Classical.not_not, ne_eq, reduceCtorEq, gt_iff_lt, ge_iff_le, Bool.true_eq_false, Bool.false_eq_true, eq_self, not_true, not_false_eq_true]; first | omega | (refine And.intro ?_ ?_ <;> first | assumption | omega))
      | (simp only [Bool.not_eq_true', Bool.not_eq_false', decide_eq_true_eq, decide_eq_false_iff_not, Bool.and_eq_true, Bool.or_eq_true, Bool.or_eq_false_iff, Bool.and_eq_false_imp, Int.not_lt, Int.not_le, Classical.not_not, ne_eq, reduceCtorEq, gt_iff_lt, ge_iff_le, Bool.true_eq_false, Bool.false_eq_true, eq_self, not_true, not_false_eq_true]; omega))
    · refine ⟨⟨(i + 1, c + 1), by simp only; omega, by simp only; omega, by simp only; omega, ?_⟩, Le.drop (by simp [Abs.get]) (by simp) rfl, by simp only; omega⟩
      rw [← hs, capsF_at (i := i) (by omega), if_pos (by simp only [bigB, Bool.not_eq_true', Bool.not_eq_false', decide_eq_true_eq, decide_eq_false_iff_not, Bool.and_eq_true, Bool.or_eq_true, Bool.or_eq_false_iff, Bool.and_eq_false_imp, Int.not_lt, Int.not_le, Classical.not_not, ne_eq, reduceCtorEq, gt_iff_lt, ge_iff_le, Bool.true_eq_false, Bool.false_eq_true, eq_self, not_true, not_false_eq_true]; exact hc)]
    · refine ⟨⟨(i + 1, c), by simp only; omega, by simp only; omega, by simp only; omega, ?_⟩, Le.drop (by simp [Abs.get]) (by simp) rfl, by simp only; omega⟩
      rw [← hs, capsF_at (i := i) (by omega), if_neg (by simp only [bigB, Bool.not_eq_true', Bool.not_eq_false', decide_eq_true_eq, decide_eq_false_iff_not, Bool.and_eq_true, Bool.or_eq_true, Bool.or_eq_false_iff, Bool.and_eq_false_imp, Int.not_lt, Int.not_le, Classical.not_not, ne_eq, reduceCtorEq, gt_iff_lt, ge_iff_le, Bool.true_eq_false, Bool.false_eq_true, eq_self, not_true, not_false_eq_true]; omega)]
    · rw [List.drop_of_length_le (by omega), capsF] at hs
      unfold capsP
      rw [if_neg (fun h => h hck), hs]
      rw [hbig]
set_option maxHeartbeats 1000000 in
theorem f23_ok : FnOk Try.prog 23 s22 := by
  have hΦ := Φ13_ok
  refine fn_data (Γ := GT) (rs := [.tmp 2, .tmp 3]) Try.func23 rfl rfl Try.ntmps23 (by decide) ?_
  rintro S0 w0 ⟨p, ⟨⟩⟩ ps r ob h _ hw
  simp only [Option.some.injEq, Prod.mk.injEq] at h
  obtain ⟨rfl, rfl, rfl⟩ := h
  simp only [dataArgs]
  repeat' (first
    | refine aw_seq ?_
    | refine aw_region GT_ok hΦ rfl (by (simp only [go_sem, GT, Nat.reduceEqDiff, Nat.reduceSub, Nat.reduceMul, Nat.reduceLeDiff, Nat.reduceAdd, Nat.reduceLT, Nat.reduceBEq, reduceIte, reduceCtorEq, Int.reduceToNat, Φ13, s12]); exact rfl) ?_ ?_
    | refine aw_draw GT_ok hΦ rfl (by kernel_rfl) (by (simp only [go_sem, GT, Nat.reduceEqDiff, Nat.reduceSub, Nat.reduceMul, Nat.reduceLeDiff, Nat.reduceAdd, Nat.reduceLT, Nat.reduceBEq, reduceIte, reduceCtorEq, Int.reduceToNat, Φ13, s12]); exact rfl) ?_ ?_
    | refine aw_cond (by (simp only [go_sem, GT, Nat.reduceEqDiff, Nat.reduceSub, Nat.reduceMul, Nat.reduceLeDiff, Nat.reduceAdd, Nat.reduceLT, Nat.reduceBEq, reduceIte, reduceCtorEq, Int.reduceToNat, Φ13, s12]); exact rfl) ?_ ?_ ?_
    | refine aw_ret ?_
    | refine aw_skip ?_
    | refine aw_block ?_
    | refine aw_exit ?_
    | refine tq_ret ?_
    | refine tq_exit ?_
    | refine bq_ret ?_
    | refine bq_normal ?_
    | refine bq_exit ?_
    | refine bq_out (by decide) ?_
    | refine tq_normal ?_
    | exact nop
    | (refine fun (hc : (_ : Bool) = _) => ?_; first | assumption | exact hc | (simp only [Bool.not_eq_true', Bool.not_eq_false', decide_eq_true_eq, decide_eq_false_iff_not, Bool.and_eq_true, Bool.or_eq_true, Bool.or_eq_false_iff, Bool.and_eq_false_imp, Int.not_lt, Int.not_le, Classical.not_not, ne_eq, reduceCtorEq, gt_iff_lt, ge_iff_le, Bool.true_eq_false, Bool.false_eq_true, eq_self, not_true, not_false_eq_true] at hc; first | done | (exfalso; omega) | skip) | skip)
    | simp only [List.mem_cons, List.not_mem_nil, forall_eq_or_imp, false_implies, implies_true, and_true, true_and, or_false, forall_eq]
    | refine fin_data (.inl rfl) (by (simp only [go_sem, GT, Nat.reduceEqDiff, Nat.reduceSub, Nat.reduceMul, Nat.reduceLeDiff, Nat.reduceAdd, Nat.reduceLT, Nat.reduceBEq, reduceIte, reduceCtorEq, Int.reduceToNat, Φ13, s12]); exact rfl) ?_ ?_
    | refine fin_pure (.inl rfl) (by (simp only [go_sem, GT, Nat.reduceEqDiff, Nat.reduceSub, Nat.reduceMul, Nat.reduceLeDiff, Nat.reduceAdd, Nat.reduceLT, Nat.reduceBEq, reduceIte, reduceCtorEq, Int.reduceToNat, Φ13, s12]); exact rfl) ?_ (tup_congr ?_)
    | refine fin_pure (.inr rfl) (by (simp only [go_sem, GT, Nat.reduceEqDiff, Nat.reduceSub, Nat.reduceMul, Nat.reduceLeDiff, Nat.reduceAdd, Nat.reduceLT, Nat.reduceBEq, reduceIte, reduceCtorEq, Int.reduceToNat, Φ13, s12]); exact rfl) ?_ (tup_congr ?_)
    | refine fin_own (.inl rfl) (by (simp only [go_sem, GT, Nat.reduceEqDiff, Nat.reduceSub, Nat.reduceMul, Nat.reduceLeDiff, Nat.reduceAdd, Nat.reduceLT, Nat.reduceBEq, reduceIte, reduceCtorEq, Int.reduceToNat, Φ13, s12]); exact rfl) ?_ ?_
    | exact trivial
    | assumption
    | exact fun h => h
    | refine And.intro ?_ ?_
    | rfl
    | omega
    | (show (_ : Int) ≤ _; omega)
    | (show (_ : Int) < _; omega)
    | (refine fits_i64 ?_ ?_ <;> omega)
    | (show (_ : Bool) = true; simp only [Bool.not_eq_true', Bool.not_eq_false', decide_eq_true_eq, decide_eq_false_iff_not, Bool.and_eq_true, Bool.or_eq_true, Bool.or_eq_false_iff, Bool.and_eq_false_imp, Int.not_lt, Int.not_le, Classical.not_not, ne_eq, reduceCtorEq, gt_iff_lt, ge_iff_le, Bool.true_eq_false, Bool.false_eq_true, eq_self, not_true, not_false_eq_true]; first | omega | (refine And.intro ?_ ?_ <;> first | assumption | omega))
    | (simp only [Bool.not_eq_true', Bool.not_eq_false', decide_eq_true_eq, decide_eq_false_iff_not, Bool.and_eq_true, Bool.or_eq_true, Bool.or_eq_false_iff, Bool.and_eq_false_imp, Int.not_lt, Int.not_le, Classical.not_not, ne_eq, reduceCtorEq, gt_iff_lt, ge_iff_le, Bool.true_eq_false, Bool.false_eq_true, eq_self, not_true, not_false_eq_true]; omega))
  · unfold capsP
    rw [if_pos hc]
  · have hck := hc
    have hlen := (chk_ok hck).1
    refine aw_loop (σ := {x : Nat × Int // x.1 ≤ List.length p ∧ 0 ≤ x.2 ∧ x.2 ≤ (x.1 : Int) ∧ capsF catchB (List.drop x.1 p) x.2 = capsF catchB p 0}) (fun x => ⟨[(7, .data (.int .i64) (x.1.1 : Int)), (6, .data (.int .i64) x.1.2), (0, .data (.sl 48 tNode) p)], [], 31⟩) (fun x => List.length p - x.1.1) ⟨(0, 0), by simp, by simp, by simp, rfl⟩ (Le.drop (by simp [Abs.get]) (by simp) rfl) ?_
    rintro ⟨⟨i, c⟩, hi, hc0, hci, hs⟩
    simp only at hi hc0 hci hs
    repeat' (first
      | refine aw_seq ?_
      | refine aw_region GT_ok hΦ rfl (by (simp only [go_sem, GT, Nat.reduceEqDiff, Nat.reduceSub, Nat.reduceMul, Nat.reduceLeDiff, Nat.reduceAdd, Nat.reduceLT, Nat.reduceBEq, reduceIte, reduceCtorEq, Int.reduceToNat, Φ13, s12]); exact rfl) ?_ ?_
      | refine aw_draw GT_ok hΦ rfl (by kernel_rfl) (by (simp only [go_sem, GT, Nat.reduceEqDiff, Nat.reduceSub, Nat.reduceMul, Nat.reduceLeDiff, Nat.reduceAdd, Nat.reduceLT, Nat.reduceBEq, reduceIte, reduceCtorEq, Int.reduceToNat, Φ13, s12]); exact rfl) ?_ ?_
      | refine aw_cond (by (simp only [go_sem, GT, Nat.reduceEqDiff, Nat.reduceSub, Nat.reduceMul, Nat.reduceLeDiff, Nat.reduceAdd, Nat.reduceLT, Nat.reduceBEq, reduceIte, reduceCtorEq, Int.reduceToNat, Φ13, s12]); exact rfl) ?_ ?_ ?_
      | refine aw_ret ?_
      | refine aw_skip ?_
      | refine aw_block ?_
      | refine aw_exit ?_
      | refine tq_ret ?_
      | refine tq_exit ?_
      | refine bq_ret ?_
      | refine bq_normal ?_
      | refine bq_exit ?_
      | refine bq_out (by decide) ?_
      | refine tq_normal ?_
      | exact nop
      | (refine fun (hc : (_ : Bool) = _) => ?_; first | assumption | exact hc | (simp only [Bool.not_eq_true', Bool.not_eq_false', decide_eq_true_eq, decide_eq_false_iff_not, Bool.and_eq_true, Bool.or_eq_true, Bool.or_eq_false_iff, Bool.and_eq_false_imp, Int.not_lt, Int.not_le, Classical.not_not, ne_eq, reduceCtorEq, gt_iff_lt, ge_iff_le, Bool.true_eq_false, Bool.false_eq_true, eq_self, not_true, not_false_eq_true] at hc; first | done | (exfalso; omega) | skip) | skip)
      | simp only [List.mem_cons, List.not_mem_nil, forall_eq_or_imp, false_implies, implies_true, and_true, true_and, or_false, forall_eq]
      | refine fin_data (.inl rfl) (by (simp only [go_sem, GT, Nat.reduceEqDiff, Nat.reduceSub, Nat.reduceMul, Nat.reduceLeDiff, Nat.reduceAdd, Nat.reduceLT, Nat.reduceBEq, reduceIte, reduceCtorEq, Int.reduceToNat, Φ13, s12]); exact rfl) ?_ ?_
      | refine fin_pure (.inl rfl) (by (simp only [go_sem, GT, Nat.reduceEqDiff, Nat.reduceSub, Nat.reduceMul, Nat.reduceLeDiff, Nat.reduceAdd, Nat.reduceLT, Nat.reduceBEq, reduceIte, reduceCtorEq, Int.reduceToNat, Φ13, s12]); exact rfl) ?_ (tup_congr ?_)
      | refine fin_pure (.inr rfl) (by (simp only [go_sem, GT, Nat.reduceEqDiff, Nat.reduceSub, Nat.reduceMul, Nat.reduceLeDiff, Nat.reduceAdd, Nat.reduceLT, Nat.reduceBEq, reduceIte, reduceCtorEq, Int.reduceToNat, Φ13, s12]); exact rfl) ?_ (tup_congr ?_)
      | refine fin_own (.inl rfl) (by (simp only [go_sem, GT, Nat.reduceEqDiff, Nat.reduceSub, Nat.reduceMul, Nat.reduceLeDiff, Nat.reduceAdd, Nat.reduceLT, Nat.reduceBEq, reduceIte, reduceCtorEq, Int.reduceToNat, Φ13, s12]); exact rfl) ?_ ?_
      | exact trivial
      | assumption
      | exact fun h => h
      | refine And.intro ?_ ?_
      | rfl
      | omega
      | (show (_ : Int) ≤ _; omega)
      | (show (_ : Int) < _; omega)
      | (refine fits_i64 ?_ ?_ <;> omega)
      | (show (_ : Bool) = true; simp only [Bool.not_eq_true', Bool.not_eq_false', decide_eq_true_eq, decide_eq_false_iff_not, Bool.and_eq_true, Bool.or_eq_true, Bool.or_eq_false_iff, Bool.and_eq_false_imp, Int.not_lt, Int.not_le, Classical.not_not, ne_eq, reduceCtorEq, gt_iff_lt, ge_iff_le, Bool.true_eq_false, Bool.false_eq_true, eq_self, not_true, not_false_eq_true]; first | omega | (refine And.intro ?_ ?_ <;> first | assumption | omega))
      | (simp only [Bool.not_eq_true', Bool.not_eq_false', decide_eq_true_eq, decide_eq_false_iff_not, Bool.and_eq_true, Bool.or_eq_true, Bool.or_eq_false_iff, Bool.and_eq_false_imp, Int.not_lt, Int.not_le, Classical.not_not, ne_eq, reduceCtorEq, gt_iff_lt, ge_iff_le, Bool.true_eq_false, Bool.false_eq_true, eq_self, not_true, not_false_eq_true]; omega))
    · refine ⟨⟨(i + 1, c + 1), by simp only; omega, by simp only; omega, by simp only; omega, ?_⟩, Le.drop (by simp [Abs.get]) (by simp) rfl, by simp only; omega⟩
      rw [← hs, capsF_at (i := i) (by omega), if_pos hc]
    · refine ⟨⟨(i + 1, c), by simp only; omega, by simp only; omega, by simp only; omega, ?_⟩, Le.drop (by simp [Abs.get]) (by simp) rfl, by simp only; omega⟩
      rw [← hs, capsF_at (i := i) (by omega), if_neg (by rw [hc]; decide)]
    · rw [List.drop_of_length_le (by omega), capsF] at hs
      unfold capsP
      rw [if_neg (fun h => h hck), hs]
end Go.Proofs
