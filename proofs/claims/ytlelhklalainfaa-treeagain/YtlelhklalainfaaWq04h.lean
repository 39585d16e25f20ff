/- Part of the proof of the law's row: YtlelhklalainfaaWq04h. -/
import Derived.Test.YtlelhklalainfaaWq04g
set_option linter.all false
set_option linter.unusedVariables false
set_option linter.unusedSimpArgs false
/-! Chapter 4: what is put is there. -/
namespace Go.Proofs
open Go Go.Abs
theorem part_flat {p : List NodeD} {i : Int} (h : lookP p i = 0) : ((partsP p i).map (partP p)).flatten ++ [nth p i] = partP p i := by
  obtain ⟨g1, g2, g3⟩ := lookP_zero h
  obtain ⟨n0, n1, n2, n3, n4⟩ := node_ok h
  have hb := begin_le h
  have := arity_le (nth p i).1
  have h3 : arity (nth p i).1 = 0 ∨ arity (nth p i).1 = 1 ∨ arity (nth p i).1 = 2 := by omega
  conv => rhs; unfold partP
  rw [drop_take_succ hb.1 hb.2.1 g3]
  congr 1
  rcases h3 with ha | ha | ha
  · have e : partsP p i = [] := by unfold partsP; rw [if_neg (by omega), if_neg (by omega)]
    rw [e, (n2 ha).1, List.drop_eq_nil_of_le (by rw [List.length_take]; omega)]
    rfl
  · have e : partsP p i = [i - 1] := by unfold partsP; rw [if_pos ha]
    obtain ⟨m0, m1, m2⟩ := n3 ha
    rw [e, m1]
    simp [partP]
  · have e : partsP p i = [beginP p (i - 1) - 1, i - 1] := by unfold partsP; rw [if_neg (by omega), if_pos ha]
    obtain ⟨m0, m1, m2, m3⟩ := n4 ha
    have hl := lookP_of (p := p) (i := i - 1) g1 (by omega) (by omega)
    have hb1 := begin_le hl
    generalize hm : beginP p (i - 1) = m at *
    have hl2 := lookP_of (p := p) (i := m - 1) g1 (by omega) (by omega)
    have hb2 := begin_le hl2
    rw [e, m2, drop_take_mid (b := (beginP p (m - 1)).toNat) (m := m.toNat) (i := i.toNat) (by omega) (by omega) (by omega)]
    simp only [List.map_cons, List.map_nil, List.flatten_cons, List.flatten_nil, List.append_nil, partP, hm]
    rw [show m - 1 + 1 = m by omega, show i - 1 + 1 = i by omega]
theorem joinL_all : ∀ {ps : List (List NodeD)} {acc : List NodeD}, (∀ q ∈ ps, (chkP q).2 = 0) → joinL ps acc = .inr (acc ++ ps.flatten)
  | [], acc, _ => by simp [joinL]
  | q :: ps, acc, h => by
    rw [joinL, if_neg (by simp [h q (List.mem_cons_self ..)]), joinL_all (fun q' hq => h q' (List.mem_cons_of_mem _ hq))]
    simp
theorem getD_mem {l : List Int} {k : Int} (h : k ∈ l) : ∃ j, j < l.length ∧ List.getD l j 0 = k := by
  obtain ⟨j, hj, e⟩ := List.getElem_of_mem h
  exact ⟨j, hj, by rw [List.getD_eq_getElem?_getD, List.getElem?_eq_getElem hj, e]; rfl⟩
theorem join_parts {p : List NodeD} {i : Int} (h : lookP p i = 0) : joinP (nth p i) ((partsP p i).map (partP p)) = (0, partP p i) := by
  obtain ⟨n0, n1, _⟩ := node_ok h
  obtain ⟨t1, t2, t3⟩ := tiles_ok h
  unfold joinP
  rw [if_neg (by omega), if_neg (by simp [n1]), if_neg (by simp [← t1]), joinL_all ?_]
  · simp only [joinE, List.nil_append, part_flat h]
    rw [if_neg (by simp [(part_ok h).1])]
  · intro q hq
    obtain ⟨k, hk, rfl⟩ := List.mem_map.1 hq
    obtain ⟨j, hj, rfl⟩ := getD_mem hk
    exact (part_ok (t3 j hj).1).1
theorem put_part {p : List NodeD} {i : Int} (h : lookP p i = 0) : putP p i (partP p i) = (0, p) := by
  obtain ⟨g1, g2, g3⟩ := lookP_zero h
  have hb := begin_le h
  have e : putL p i (partP p i) = p := by
    unfold putL partP
    have : List.take (beginP p i).toNat p ++ List.drop (beginP p i).toNat (List.take (i + 1).toNat p) = List.take (i + 1).toNat p := by
      conv => rhs; rw [← List.take_append_drop (beginP p i).toNat (List.take (i + 1).toNat p)]
      rw [List.take_take, Nat.min_eq_left (by omega)]
    rw [this, List.take_append_drop]
  unfold putP
  rw [e, if_neg (by simp [h]), if_neg (by simp [(part_ok h).1]), if_neg (by simp [g1])]
theorem stepE_frame {n : NodeD} {S T U : List En} (h : stepE n S = .inr T) : stepE n (S ++ U) = .inr (T ++ U) := by
  unfold stepE at h ⊢
  split at h
  · cases h
  rename_i ha
  rw [if_neg ha]
  split at h
  · cases h
  rename_i hf
  rw [if_neg hf]
  split at h
  · rename_i h0
    simp only [Sum.inr.injEq] at h
    subst h
    rw [if_pos h0]
    rfl
  rename_i h0
  rw [if_neg h0]
  split at h
  · rename_i h1
    rw [if_pos h1]
    rcases S with _ | ⟨e, S'⟩
    · cases h
    · simp only [List.cons_append] at h ⊢
      split at h
      · cases h
      · rename_i h60
        simp only [Sum.inr.injEq] at h
        subst h
        rw [if_neg h60]
        rfl
  · rename_i h1
    rw [if_neg h1]
    rcases S with _ | ⟨e1, _ | ⟨e0, S'⟩⟩
    · cases h
    · cases h
    · simp only [List.cons_append] at h ⊢
      generalize (if e0.op = n.1 then e0.h - 1 else e0.h) = x at h ⊢
      by_cases h60 : max e1.h x + 1 > 60
      · rw [if_pos h60] at h; cases h
      · rw [if_neg h60] at h ⊢
        simp only [Sum.inr.injEq] at h
        subst h
        rfl
theorem run_frame : ∀ {xs : List NodeD} {S T U : List En}, run xs S = .inr T → run xs (S ++ U) = .inr (T ++ U)
  | [], S, T, U, h => by
    simp only [run, Sum.inr.injEq] at h
    subst h
    rfl
  | n :: ns, S, T, U, h => by
    simp only [run] at h ⊢
    split at h
    · cases h
    · rename_i S' hs
      rw [stepE_frame hs]
      exact run_frame h
theorem stepE_alike {n : NodeD} {S S2 T : List En} (hl : S.length = S2.length) (h : stepE n S = .inr T) : (∃ T2, stepE n S2 = .inr T2 ∧ T.length = T2.length) ∨ stepE n S2 = .inl 4 := by
  unfold stepE at h ⊢
  split at h
  · cases h
  rename_i ha
  rw [if_neg ha]
  split at h
  · cases h
  rename_i hf
  rw [if_neg hf]
  split at h
  · rename_i h0
    simp only [Sum.inr.injEq] at h
    subst h
    rw [if_pos h0]
    exact .inl ⟨_, rfl, by simp [hl]⟩
  rename_i h0
  rw [if_neg h0]
  split at h
  · rename_i h1
    rw [if_pos h1]
    rcases S with _ | ⟨e, S'⟩
    · cases h
    · rcases S2 with _ | ⟨e', S2'⟩
      · simp at hl
      · simp only [List.length_cons] at h hl ⊢
        split at h
        · cases h
        · simp only [Sum.inr.injEq] at h
          subst h
          by_cases h60 : e'.h + 1 > 60
          · rw [if_pos h60]; exact .inr rfl
          · rw [if_neg h60]; exact .inl ⟨_, rfl, by simp; omega⟩
  · rename_i h1
    rw [if_neg h1]
    rcases S with _ | ⟨e1, _ | ⟨e0, S'⟩⟩
    · cases h
    · cases h
    · rcases S2 with _ | ⟨f1, _ | ⟨f0, S2'⟩⟩
      · simp at hl
      · simp at hl
      · simp only at h ⊢
        generalize (if e0.op = n.1 then e0.h - 1 else e0.h) = x at h
        generalize (if f0.op = n.1 then f0.h - 1 else f0.h) = y
        by_cases h60 : max e1.h x + 1 > 60
        · rw [if_pos h60] at h; cases h
        · rw [if_neg h60] at h
          simp only [Sum.inr.injEq] at h
          subst h
          by_cases h61 : max f1.h y + 1 > 60
          · rw [if_pos h61]; exact .inr rfl
          · rw [if_neg h61]; exact .inl ⟨_, rfl, by simp at hl ⊢; omega⟩
theorem run_alike : ∀ {xs : List NodeD} {S S2 T : List En}, S.length = S2.length → run xs S = .inr T → (∃ T2, run xs S2 = .inr T2 ∧ T.length = T2.length) ∨ run xs S2 = .inl 4
  | [], S, S2, T, hl, h => by
    simp only [run, Sum.inr.injEq] at h
    subst h
    exact .inl ⟨S2, rfl, hl⟩
  | n :: ns, S, S2, T, hl, h => by
    simp only [run] at h ⊢
    split at h
    · cases h
    · rename_i S' hs
      rcases stepE_alike hl hs with ⟨T2, h1, h2⟩ | h1
      · rw [h1]
        exact run_alike h2 h
      · rw [h1]
        exact .inr rfl
theorem chk_err {p : List NodeD} {c : Int} (hl : (p.length : Int) ≤ 2048) (h : run p [] = .inl c) : (chkP p).2 = c := by
  have hs := scan_run (p := p) (n := p.length) (k := 0) (sh := []) (S := []) (by omega) rfl (by omega) shOk_nil .nil
  rw [List.drop_zero, h] at hs
  obtain ⟨a, s, h1, h2⟩ := hs
  unfold chkP
  rw [if_neg (by omega)]
  unfold eachP endP
  rw [h1]
  simp only [if_pos h2]
/-- A right pattern's own entry: as long as it is. -/
theorem run_width {q : List NodeD} (hq : (chkP q).2 = 0) : ∃ h op, run q [] = .inr [⟨(q.length : Int), h, op⟩] := by
  have hl := chk_len hq
  obtain ⟨S, h1, h2⟩ := run_take hq q.length (Nat.le_refl _)
  rw [List.take_length] at h1
  rcases h2.inv with ⟨h3, _⟩ | ⟨_, S', h3, h4⟩
  · omega
  · rw [hl.2.2.2.2] at h3 h4
    rcases h4.inv with ⟨_, rfl⟩ | ⟨h5, _⟩
    · rw [h3] at h1
      exact ⟨_, _, h1.trans (by rw [Int.sub_zero])⟩
    · omega
theorem put_run {p q : List NodeD} {i : Int} (h : lookP p i = 0) (hq : (chkP q).2 = 0) : ∃ S hh op, run (List.take (beginP p i).toNat p) [] = .inr S ∧ run q S = .inr (⟨(q.length : Int), hh, op⟩ :: S) ∧
    ((∃ e, run (putL p i q) [] = .inr [e]) ∨ run (putL p i q) [] = .inl 4) := by
  obtain ⟨g1, g2, g3⟩ := lookP_zero h
  have hb := begin_le h
  have hp := chk_len g1
  obtain ⟨S, h1, _⟩ := run_take g1 (beginP p i).toNat (by omega)
  obtain ⟨hh, op, h2⟩ := run_width hq
  have h3 := run_frame (U := S) h2
  refine ⟨S, hh, op, h1, h3, ?_⟩
  have h4 := part_one (Nat.le_refl _) h S
  obtain ⟨_, e, h5⟩ := chk_run.1 g1
  have e1 : p = List.take (beginP p i).toNat p ++ partP p i ++ List.drop (i + 1).toNat p := by
    unfold partP
    have : List.take (beginP p i).toNat p ++ List.drop (beginP p i).toNat (List.take (i + 1).toNat p) = List.take (i + 1).toNat p := by
      conv => rhs; rw [← List.take_append_drop (beginP p i).toNat (List.take (i + 1).toNat p)]
      rw [List.take_take, Nat.min_eq_left (by omega)]
    rw [this, List.take_append_drop]
  have h6 : run p [] = run (List.drop (i + 1).toNat p) (⟨i + 1 - beginP p i, highP p i, (nth p i).1⟩ :: S) := by
    conv => lhs; rw [e1]
    rw [List.append_assoc, run_append, h1]
    simp only
    rw [run_append, h4]
  rw [h5] at h6
  unfold putL
  rw [List.append_assoc, run_append, h1]
  simp only
  rw [run_append]
  simp only [List.nil_append] at h3
  rw [h3]
  rcases run_alike (S2 := [⟨(q.length : Int), hh, op⟩] ++ S) (by simp) h6.symm with ⟨T2, h7, h8⟩ | h7
  · refine .inl ?_
    rcases T2 with _ | ⟨e', _ | ⟨e2, T2⟩⟩
    · simp at h8
    · exact ⟨e', h7⟩
    · simp at h8
  · exact .inr h7
/-- What may go wrong where a right pattern is put. -/
theorem put_code {p q : List NodeD} {i : Int} (h : lookP p i = 0) (hc : (putP p i q).1 ≠ 0) : (chkP q).2 ≠ 0 ∨ (putP p i q).1 = 2 ∨ (putP p i q).1 = 4 := by
  by_cases hq : (chkP q).2 = 0
  · right
    unfold putP at hc ⊢
    rw [if_neg (by simp [h]), if_neg (by simp [hq])] at hc ⊢
    by_cases hr : (chkP (putL p i q)).2 = 0
    · rw [if_neg (by simp [hr])] at hc
      simp at hc
    · rw [if_pos hr]
      by_cases hl : ((putL p i q).length : Int) ≤ 2048
      · obtain ⟨S, hh, op, h1, h2, h3⟩ := put_run h hq
        rcases h3 with ⟨e, h3⟩ | h3
        · exact absurd (chk_run.2 ⟨hl, e, h3⟩) hr
        · exact .inr (chk_err hl h3)
      · left
        simp only
        unfold chkP
        rw [if_pos (by omega)]
  · exact .inl hq
theorem put_there {p q : List NodeD} {i : Int} (h : lookP p i = 0) (hc : (putP p i q).1 = 0) : (chkP q).2 = 0 ∧ (putP p i q).2 = putL p i q ∧ lookP (putL p i q) (beginP p i + (q.length : Int) - 1) = 0 ∧ partP (putL p i q) (beginP p i + (q.length : Int) - 1) = q ∧
    ((putL p i q).length : Int) = (p.length : Int) - ((partP p i).length : Int) + (q.length : Int) := by
  obtain ⟨g1, g2, g3⟩ := lookP_zero h
  have hb := begin_le h
  have hp := chk_len g1
  have hpl := partP_length h
  unfold putP at hc
  rw [if_neg (by simp [h])] at hc
  split at hc
  · rename_i hq; exact absurd hc hq
  rename_i hq
  have hq : (chkP q).2 = 0 := by simpa using hq
  split at hc
  · rename_i hr; exact absurd hc hr
  rename_i hr
  have hr : (chkP (putL p i q)).2 = 0 := by simpa using hr
  have hlq := chk_len hq
  have hlen : ((putL p i q).length : Int) = (p.length : Int) - ((partP p i).length : Int) + (q.length : Int) := by
    unfold putL
    rw [List.length_append, List.length_append, List.length_take, List.length_drop]
    omega
  refine ⟨hq, ?_, lookP_of hr (by omega) (by omega), ?_, hlen⟩
  · unfold putP
    rw [if_neg (by simp [h]), if_neg (by simp [hq]), if_neg (by simp [hr])]
  · obtain ⟨S, hh, op, h1, h2, h3⟩ := put_run h hq
    obtain ⟨S2, h4, h5⟩ := run_take hr ((beginP p i).toNat + q.length) (by omega)
    have e1 : List.take ((beginP p i).toNat + q.length) (putL p i q) = List.take (beginP p i).toNat p ++ q := by
      unfold putL
      rw [List.take_append_of_le_length (by rw [List.length_append, List.length_take]; omega), List.take_of_length_le (by rw [List.length_append, List.length_take]; omega)]
    rw [e1, run_append, h1] at h4
    simp only at h4
    rw [h2] at h4
    simp only [Sum.inr.injEq] at h4
    subst h4
    rcases h5.inv with ⟨h6, _⟩ | ⟨_, S', h6, _⟩
    · omega
    · injection h6 with h6 _
      injection h6 with h6 _ _
      have e2 : (((beginP p i).toNat + q.length : Nat) : Int) - 1 = beginP p i + (q.length : Int) - 1 := by omega
      rw [e2] at h6
      have hbg : beginP (putL p i q) (beginP p i + (q.length : Int) - 1) = beginP p i := by
        have h7 : (q.length : Int) = (((beginP p i).toNat + q.length : Nat) : Int) - beginP (putL p i q) (beginP p i + (q.length : Int) - 1) := h6
        omega
      unfold partP
      rw [hbg, show (beginP p i + (q.length : Int) - 1 + 1).toNat = (beginP p i).toNat + q.length by omega, e1, List.drop_append_of_le_length (by rw [List.length_take]; omega), List.drop_eq_nil_of_le (by rw [List.length_take]; omega), List.nil_append]
theorem q_sameT (p : List NodeD) (h : p.length * 64 ≤ 140737488355328) : F_tree_Same (p, p, ()) = some (true, ()) := by
  unfold F_tree_Same
  have : F_slices_Equal_Pattern_Node (p, p, ()) = some (true, ()) := q_same p h
  rw [this]
  rfl
theorem law_TreeAgain (p : List NodeD) (i : Int) (q : List NodeD) : F_law04_TreeAgain ((p, i, q, ()), ()) = some (true, ()) := by
  unfold F_law04_TreeAgain
  simp only
  rw [q_part, bind_t]
  by_cases h : lookP p i = 0
  · obtain ⟨g1, g2, g3⟩ := lookP_zero h
    have hp := chk_len g1
    have hb := begin_le h
    have hpl := partP_length h
    obtain ⟨t1, t2, t3⟩ := tiles_ok h
    have ha2 := arity_le (nth p i).1
    simp only [h, if_true, decide_true, Bool.not_true, sel_f, q_parts, bind_t]
    have d1 : decide (((partsP p i).length : Int) > 2) = false := by simp; omega
    simp only [d1, sel_f, bind_t]
    refine (loopC_gh (γ := Nat) (σ := (Int × Bool × Unit) × List (List NodeD) × List Int × List NodeD × ChangeD × Unit) (ρ := Bool × Unit) (I := fun k s => s.1.1 = (k : Int) ∧ k ≤ (partsP p i).length ∧ s.2.1 = (List.take k (partsP p i)).map (partP p) ∧ s.2.2.1 = partsP p i ∧ s.2.2.2.1 = partP p i ∧ s.2.2.2.2.1 = (p, i, q, ())) (μ := fun k => (partsP p i).length - k)
      (F := fun _ => (true, ())) ?_ 0 _ ⟨rfl, by omega, rfl, rfl, rfl, rfl⟩)
    rintro k ⟨⟨k', b, ⟨⟩⟩, ps, l, own, x, ⟨⟩⟩ ⟨e1, hk, e2, e3, e4, e5⟩
    simp only at e1 hk e2 e3 e4 e5 ⊢
    subst e1 e2 e3 e4 e5
    by_cases hlt : k < (partsP p i).length
    · obtain ⟨j1, j2, j3⟩ := t3 k hlt
      simp only [Int.toNat_natCast, Nat.zero_add]
      simp (disch := omega) only [sel_pos, need_pos]
      have e : (List.take (k + 1) (partsP p i)).map (partP p) = (List.take k (partsP p i)).map (partP p) ++ [partP p (List.getD (partsP p i) k 0)] := by
        rw [List.take_succ_eq_append_getElem hlt, List.map_append, List.getD_eq_getElem?_getD, List.getElem?_eq_getElem hlt]
        rfl
      generalize List.getD (partsP p i) k 0 = j at *
      simp only [q_part, j1, if_true, bind_t, decide_true, Bool.not_true, sel_f]
      have hll : ((List.take k (partsP p i)).map (partP p)).length ≤ 2 := by
        rw [List.length_map, List.length_take]
        omega
      simp (disch := omega) only [need_pos, need64]
      exact .inl ⟨k + 1, (((k : Int) + 1, b, ()), (List.take k (partsP p i)).map (partP p) ++ [partP p j], partsP p i, partP p i, (p, i, q, ()), ()), rfl, ⟨by simp, by omega, e.symm, rfl, rfl, rfl⟩, by omega, by trivial⟩
    · have hke : k = (partsP p i).length := by omega
      rw [sel_neg (by omega), hke, List.take_length]
      have en : List.getD p i.toNat zNode = nth p i := rfl
      simp (disch := omega) only [need_pos]
      simp only [en, q_join, q_put, bind_t, join_parts h, put_part h, decide_true, Bool.not_true, sel_f]
      rw [q_sameT (partP p i) (by omega)]
      simp only [bind_t, Bool.not_true, sel_f]
      rw [q_sameT p (by omega)]
      simp only [bind_t, Bool.not_true, sel_f]
      refine .inr ?_
      by_cases hc : (putP p i q).1 = 0
      · obtain ⟨c1, c2, c3, c4, c5⟩ := put_there h hc
        have hq := chk_len c1
        simp only [hc, c2, decide_true, Bool.not_true, sel_f, q_begin, h, if_true, bind_t, q_part, c3, c4]
        simp (disch := omega) only [need_pos, need64, bind_t, sel_t]
        rw [q_sameT q (by omega)]
        simp only [bind_t, sel_t, q_lives]
        have d2 : decide (((putL p i q).length : Int) = (p.length : Int) - ((partP p i).length : Int) + (q.length : Int)) = true := by simpa using c5
        rw [d2]
        rfl
      · simp only [hc, decide_false, Bool.not_false, sel_t, q_check, bind_t, sel_or]
        have := put_code h hc
        have d3 : (!decide ((chkP q).2 = 0) || decide ((putP p i q).1 = 2) || decide ((putP p i q).1 = 4)) = true := by
          simp
          rcases this with h1 | h1 | h1
          · exact .inl (.inl h1)
          · exact .inl (.inr h1)
          · exact .inr h1
        rw [d3]
  · simp [h, sel, q_lives]
end Go.Proofs
