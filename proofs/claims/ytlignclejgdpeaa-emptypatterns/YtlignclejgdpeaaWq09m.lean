/- Part of the proof of the law's row: YtlignclejgdpeaaWq09m. -/
import Derived.Test.YtlignclejgdpeaaWq09k
set_option linter.all false
set_option linter.unusedVariables false
set_option linter.unusedSimpArgs false
/-! Chapter 9: patterns' names, Of. -/
namespace Go.Proofs
open Go Go.Abs
set_option linter.unusedSimpArgs false
theorem q_containsS (l : List ByteArray) (x : ByteArray) (h : l.length ≤ 1000000) : F_slices_Contains_string_string (l, x, ()) = some (pb (x ∈ l), ()) := by
  unfold F_slices_Contains_string_string
  have key : ∃ r, F_slices_Index_string_string (l, x, ()) = some r ∧ (r.1 ≥ 0 ↔ x ∈ l) := by
    unfold F_slices_Index_string_string
    simp only [toPb]
    refine loopC_ends (σ := shapeD × Unit) (fun s => ∃ i : Nat, i ≤ l.length ∧ (∀ j, j < i → List.getD l j zStr ≠ x) ∧ s = (((i : Int), 0, ()), ())) (fun s => l.length - s.1.1.toNat) _ ?_ _ ⟨0, Nat.zero_le _, by intro j hj; omega, rfl⟩
    rintro s ⟨i, hi, hno, rfl⟩
    dsimp only
    by_cases hl : i < l.length
    · rw [pos (by omega), need_pos (by omega), Int.toNat_natCast]
      by_cases he : x = List.getD l i zStr
      · refine .inr ⟨_, by rw [pos he], ?_⟩
        exact ⟨fun _ => he ▸ getD_in hl, fun _ => by show (i : Int) ≥ 0; omega⟩
      · refine .inl ⟨_, by rw [neg he, need64 (by omega) (by omega)], ⟨i + 1, by omega, fun j hj => ?_, by rw [cast_succ]⟩, by show l.length - Int.toNat ((i : Int) + 1) < l.length - Int.toNat (i : Int); omega⟩
        by_cases e : j = i
        · subst e; exact fun h => he h.symm
        · exact hno j (by omega)
    · refine .inr ⟨_, by rw [neg (by omega)], ?_⟩
      constructor
      · intro h; exact absurd h (by decide)
      · intro hx
        obtain ⟨k, hk, e⟩ := in_getD zStr hx
        exact absurd e (hno k (by omega))
  obtain ⟨r, h1, h2⟩ := key
  simp only [toPb]
  rw [h1, bind_t, pb_congr h2]
/-- The names a pattern calls, each once. -/
noncomputable def namesN (p : List NodeD) : Nat → List ByteArray
  | 0 => []
  | k + 1 => if (List.getD p k zNode).1 = 6 ∧ pb ((List.getD p k zNode).2.2.1 ∈ namesN p k) = false then namesN p k ++ [(List.getD p k zNode).2.2.1] else namesN p k
theorem namesN_len {p : List NodeD} : ∀ k, (namesN p k).length ≤ k
  | 0 => Nat.le_refl _
  | k + 1 => by
    have := namesN_len (p := p) k
    unfold namesN
    split
    · simp; omega
    · omega
theorem namesN_mem {p : List NodeD} {x : ByteArray} : ∀ k, x ∈ namesN p k ↔ ∃ i, i < k ∧ (List.getD p i zNode).1 = 6 ∧ (List.getD p i zNode).2.2.1 = x
  | 0 => by simp [namesN]
  | k + 1 => by
    have ih := namesN_mem (p := p) (x := x) k
    have hh : (∃ i, i < k + 1 ∧ (List.getD p i zNode).1 = 6 ∧ (List.getD p i zNode).2.2.1 = x) ↔ (∃ i, i < k ∧ (List.getD p i zNode).1 = 6 ∧ (List.getD p i zNode).2.2.1 = x) ∨ ((List.getD p k zNode).1 = 6 ∧ (List.getD p k zNode).2.2.1 = x) := by
      constructor
      · rintro ⟨i, h1, h2⟩
        by_cases e : i = k
        · subst e; exact .inr h2
        · exact .inl ⟨i, by omega, h2⟩
      · rintro (⟨i, h1, h2⟩ | h)
        · exact ⟨i, by omega, h2⟩
        · exact ⟨k, by omega, h⟩
    rw [hh, ← ih, namesN]
    split
    · rename_i h
      rw [List.mem_append, List.mem_singleton]
      exact ⟨fun h2 => h2.elim .inl fun e => .inr ⟨h.1, e.symm⟩, fun h2 => h2.elim .inl fun e => .inr e.2.symm⟩
    · rename_i h
      refine ⟨.inl, fun h2 => h2.elim id fun e => ?_⟩
      have h3 : ¬ pb ((List.getD p k zNode).2.2.1 ∈ namesN p k) = false := fun h4 => h ⟨e.1, h4⟩
      have h4 : (List.getD p k zNode).2.2.1 ∈ namesN p k := by
        rw [pb_iff_f] at h3
        exact Classical.not_not.1 h3
      exact e.2 ▸ h4
theorem q_namesT (p : List NodeD) : F_tree_Names (p, ()) = some ((chkP p).2, (if (chkP p).2 = 0 then namesN p p.length else []), ()) := by
  unfold F_tree_Names
  simp only [toPb]
  rw [q_check, bind_t]
  dsimp only
  by_cases h : (chkP p).2 = 0
  · obtain ⟨hlen, _⟩ := chk_len h
    rw [npos h, if_pos h, h]
    refine loop_up (σ := (Int × Unit) × List ByteArray × List ByteArray × Unit) p.length (fun i => (((i : Int), ()), namesN p i, [], ())) rfl ?_ ?_
    · intro i hi
      have hnl := namesN_len (p := p) i
      dsimp only
      rw [pos (by omega), need_pos (by omega), Int.toNat_natCast, q_containsS _ _ (by omega)]
      simp only [bind_t]
      by_cases h6 : (List.getD p i zNode).1 = 6
      · rw [pos h6, bind_t]
        cases hc : pb ((List.getD p i zNode).2.2.1 ∈ namesN p i) with
        | false =>
          rw [Bool.not_false, sel_t, need_pos (by omega), need64 (by omega) (by omega), cast_succ]
          conv => rhs; unfold namesN
          rw [if_pos ⟨h6, hc⟩]
        | true =>
          rw [Bool.not_true, sel_f, need64 (by omega) (by omega), cast_succ]
          conv => rhs; unfold namesN
          rw [if_neg (fun h => by rw [hc] at h; exact absurd h.2 (by decide))]
      · rw [neg h6, bind_t, sel_f, need64 (by omega) (by omega), cast_succ]
        conv => rhs; unfold namesN
        rw [if_neg (fun h => h6 h.1)]
    · dsimp only
      rw [neg (by omega)]
  · rw [nneg h, if_neg h]
/-- A pattern calls what is no rule. -/
def UnkP (g : G) (p : List NodeD) : Prop := ∃ i, i < p.length ∧ (List.getD p i zNode).1 = 6 ∧ findR g (List.getD p i zNode).2.2.1 = none
open Classical in
noncomputable def lookV (g : G) (p : List NodeD) : Int := if (chkP p).2 ≠ 0 then (chkP p).2 else if UnkP g p then 81 else 0
theorem lookV_bad {g : G} {p : List NodeD} (h : (chkP p).2 ≠ 0) : lookV g p = (chkP p).2 := by unfold lookV; rw [if_pos h]
theorem lookV_unk {g : G} {p : List NodeD} (h : (chkP p).2 = 0) (h2 : UnkP g p) : lookV g p = 81 := by unfold lookV; rw [if_neg (fun h3 => h3 h), if_pos h2]
theorem lookV_ok {g : G} {p : List NodeD} (h : (chkP p).2 = 0) (h2 : ¬ UnkP g p) : lookV g p = 0 := by unfold lookV; rw [if_neg (fun h3 => h3 h), if_neg h2]
theorem q_look9 {g : G} (hg : RG g) (p : List NodeD) : F_empty_look ((g, ()), p, ()) = some (lookV g p, ()) := by
  unfold F_empty_look
  simp only [toPb]
  rw [q_namesT, bind_t]
  dsimp only
  by_cases h : (chkP p).2 = 0
  · obtain ⟨hlen, _⟩ := chk_len h
    rw [npos h, if_pos h, q_gnums hg, bind_t]
    have hnl := namesN_len (p := p) p.length
    generalize hN : namesN p p.length = N at hnl ⊢
    have hu : UnkP g p ↔ ¬ ∀ i, i < N.length → findR g (List.getD N i zStr) ≠ none := by
      constructor
      · rintro ⟨i, h1, h2, h3⟩ hh
        have : (List.getD p i zNode).2.2.1 ∈ N := by rw [← hN]; exact (namesN_mem _).2 ⟨i, h1, h2, rfl⟩
        obtain ⟨k, k1, k2⟩ := in_getD zStr this
        exact hh k k1 (by rw [k2]; exact h3)
      · intro hh
        obtain ⟨i, h1⟩ := Classical.not_forall.1 hh
        obtain ⟨h1, h2⟩ := Classical.not_imp.1 h1
        have hm : List.getD N i zStr ∈ namesN p p.length := by rw [hN]; exact getD_in h1
        obtain ⟨k, k1, k2, k3⟩ := (namesN_mem _).1 hm
        exact ⟨k, k1, k2, by rw [k3]; exact Classical.not_not.1 h2⟩
    have key := loop_all (σ := (Int × Unit) × List ByteArray × Unit) (ρ := Int × Unit) N.length (fun i => (((i : Int), ()), N, ())) (fun i => findR g (List.getD N i zStr) ≠ none) (s0 := (((0 : Int), ()), N, ())) (bad := ((81 : Int), ())) (fin := ((0 : Int), ())) rfl (B := fun (s : (Int × Unit) × List ByteArray × Unit) => sel (pb (s.1.1 < (↑(List.length N) : Int))) (need ((0 : Int) ≤ s.1.1 ∧ s.1.1 < (↑(List.length s.2.1) : Int)) (need ((0 : Nat) + Int.toNat s.1.1 < List.length s.2.1) (sel (!Option.isSome (mfind eqS (nums g) (List.getD s.2.1 ((0 : Nat) + Int.toNat s.1.1) zStr))) (some (Sum.inr ((81 : Int), ()))) (need (Fits Go.IntKind.i64 (s.1.1 + (1 : Int))) (some (Sum.inl ((s.1.1 + (1 : Int), ()), s.2.1, ()))))))) (some (Sum.inr ((0 : Int), ())))) ?_ ?_
    · rw [key]
      by_cases h2 : ∀ i, i < N.length → findR g (List.getD N i zStr) ≠ none
      · rw [pb_t h2, lookV_ok h (fun h => hu.1 h h2)]; rfl
      · rw [pb_f h2, lookV_unk h (hu.2 h2)]; rfl
    · intro i hi
      dsimp only
      rw [pos (by omega), need_pos (by omega), Int.toNat_natCast, Nat.zero_add, need_pos (by omega), need64 (by omega) (by omega), cast_succ, nums_find]
      cases hf : findR g (List.getD N i zStr) with
      | none => rw [if_neg (by rw [pb_f (by simp)]; simp)]; rfl
      | some q => rw [if_pos (pb_t (by simp))]; rfl
    · dsimp only
      rw [neg (by omega)]
  · rw [nneg h, lookV_bad h]
open Classical in
noncomputable def ofC (g : G) (p : List NodeD) : Int := if (chkG g).2 ≠ 0 then (chkG g).2 else lookV g p
noncomputable def valG (g : G) (p : List NodeD) : Em := List.getD (partsV g p) (p.length - 1) zEmptiness
open Classical in
noncomputable def ofV (g : G) (p : List NodeD) : Em := if ofC g p = 0 then valG g p else (false, false, 0, 0, ())
theorem ofC_ok {g : G} {p : List NodeD} (h : (chkG g).2 = 0) : ofC g p = lookV g p := by unfold ofC; rw [if_neg (fun h3 => h3 h)]
theorem ofC_bad {g : G} {p : List NodeD} (h : (chkG g).2 ≠ 0) : ofC g p = (chkG g).2 := by unfold ofC; rw [if_pos h]
theorem ofV_ok {g : G} {p : List NodeD} (h : ofC g p = 0) : ofV g p = valG g p := by unfold ofV; rw [if_pos h]
theorem ofV_bad {g : G} {p : List NodeD} (h : ofC g p ≠ 0) : ofV g p = (false, false, 0, 0, ()) := by unfold ofV; rw [if_neg h]
theorem look_zero {g : G} {p : List NodeD} (h : lookV g p = 0) : (chkP p).2 = 0 ∧ ∀ k, k < p.length → (nth p k).1 = 6 → ∃ q, findR g (nth p k).2.2.1 = some q := by
  by_cases h1 : (chkP p).2 = 0
  · refine ⟨h1, fun k hk h6 => ?_⟩
    by_cases hu : UnkP g p
    · rw [lookV_unk h1 hu] at h; exact absurd h (by decide)
    · have e : nth p k = List.getD p k zNode := by simp [nth]
      rw [e] at h6 ⊢
      cases hf : findR g (List.getD p k zNode).2.2.1 with
      | some q => exact ⟨q, rfl⟩
      | none => exact absurd ⟨k, hk, h6, hf⟩ hu
  · rw [lookV_bad h1] at h; exact absurd h h1
theorem lengths_of {g : G} (hg : RG g) {p : List NodeD} (h : lookV g p = 0) : F_gist_Lengths_em (p, fixE g, nums g, ()) = some (partsV g p, fixE g, nums g, ()) ∧ F_ref09_parts ((g, ()), p, fixE g, ()) = some (partsV g p, ()) := by
  obtain ⟨h1, h2⟩ := look_zero h
  have hF := fix_rg hg
  refine ⟨q_lengths h1 (fun k hk h6 => ?_) (fun k hk h6 => ?_), q_partsE h1 hg.len hF.1 hF.2 h2⟩
  · obtain ⟨q, hq⟩ := h2 k hk h6
    exact callAt hF.1 hq
  · obtain ⟨q, hq, e⟩ := call_in hg (nth p k)
    rw [e]
    exact hF.2 q hq
theorem partsV_len {g : G} {p : List NodeD} : (partsV g p).length = p.length := valsOf_len _ _ _ _
theorem q_eOf (g : G) (p : List NodeD) : F_empty_Of ((g, ()), p, ()) = some (ofV g p, ofC g p, ()) := by
  unfold F_empty_Of
  simp only [toPb, q_checkG, bind_t]
  dsimp only [outE]
  by_cases h : (chkG g).2 = 0
  · have hg := rg_of h
    have ho := ofC_ok (p := p) h
    rw [npos h, q_look9 hg, bind_t]
    dsimp only
    by_cases hl : lookV g p = 0
    · obtain ⟨h1, _⟩ := look_zero hl
      obtain ⟨hlen, _, _, hp0, _⟩ := chk_len h1
      rw [npos hl, q_gEmpt hg, bind_t]
      dsimp only
      rw [(lengths_of hg hl).1, bind_t]
      dsimp only
      rw [partsV_len, need64 (by omega) (by omega), need_pos (by omega), need_pos (by omega), ofV_ok (by rw [ho, hl]), ho, hl, Nat.zero_add, show Int.toNat ((p.length : Int) - 1) = p.length - 1 by omega]
      rfl
    · rw [nneg hl, ofV_bad (by rw [ho]; exact hl), ho]
  · rw [nneg h, ofV_bad (by rw [ofC_bad h]; exact h), ofC_bad h]
theorem q_rOf (g : G) (p : List NodeD) : F_ref09_Of ((g, ()), p, ()) = some (ofV g p, ofC g p, ()) := by
  unfold F_ref09_Of
  simp only [toPb, q_checkR8, bind_t]
  dsimp only [outE]
  by_cases h : (chkG g).2 = 0
  · have hg := rg_of h
    have hn := hg.len
    have ho := ofC_ok (p := p) h
    rw [npos h, q_checkR, bind_t]
    dsimp only
    by_cases hp : (chkP p).2 = 0
    · obtain ⟨hlen, _, _, hp0, _⟩ := chk_len hp
      rw [npos hp]
      have hbody : ∀ i, i < p.length → sel (pb ((List.getD p i zNode).1 = 6)) (need ((0 : Int) ≤ (i : Int) ∧ (i : Int) < (↑(List.length p) : Int)) (Option.bind (F_ref09_Find ((g, ()), (List.getD p i zNode).2.2.1, ())) (fun (y2 : Int × Unit) => some (pb (y2.1 < (0 : Int)))))) (some false) = some (pb ((List.getD p i zNode).1 = 6 ∧ findR g (List.getD p i zNode).2.2.1 = none)) := by
        intro i hi
        rw [q_FindR g _ (by omega), bind_t, need_pos (by omega)]
        by_cases h6 : (List.getD p i zNode).1 = 6
        · rw [pos h6]
          unfold numR
          cases hf : findR g (List.getD p i zNode).2.2.1 with
          | none => rw [pb_t (show ((-1 : Int) < 0) by decide), pb_t ⟨h6, rfl⟩]
          | some q => rw [pb_f (show ¬ ((q : Int) < 0) by omega), pb_f (fun h => by cases h.2)]
        · rw [neg h6, pb_f (fun h => h6 h.1)]
      have hfin : lookV g p = 0 → Option.bind (Option.bind (F_ref09_All ((g, ()), p, ())) (fun (y3 : List EmptinessD × Unit) => need (Fits Go.IntKind.i64 ((↑(List.length p) : Int) - (1 : Int))) (need ((0 : Int) ≤ (↑(List.length p) : Int) - (1 : Int) ∧ (↑(List.length p) : Int) - (1 : Int) < (↑(List.length y3.1) : Int)) (need ((0 : Nat) + Int.toNat ((↑(List.length p) : Int) - (1 : Int)) < List.length y3.1) (some (List.getD y3.1 ((0 : Nat) + Int.toNat ((↑(List.length p) : Int) - (1 : Int))) zEmptiness, (0 : Int), ())))))) (fun (val : Em × Int × Unit) => some (Sum.inr val : ((Int × Unit) × EmptinessD × GrammarD × Unit) ⊕ (Em × Int × Unit))) = some (Sum.inr (valG g p, 0, ())) := by
        intro hl
        unfold F_ref09_All
        dsimp only
        rw [q_Known9 hg, bind_t]
        dsimp only
        rw [(lengths_of hg hl).2, bind_t]
        dsimp only
        rw [bind_t]
        dsimp only
        rw [partsV_len, need64 (by omega) (by omega), need_pos (by omega), need_pos (by omega), Nat.zero_add, show Int.toNat ((p.length : Int) - 1) = p.length - 1 by omega]
        rfl
      by_cases hu : UnkP g p
      · have hl := lookV_unk hp hu
        rw [ofV_bad (by rw [ho, hl]; decide), ho, hl]
        obtain ⟨m, m1, m2⟩ := hu
        refine loop_to (σ := (Int × Unit) × EmptinessD × GrammarD × Unit) m (fun i => (((i : Int), ()), zEmptiness, (g, ()), ())) rfl ?_ ?_
        · intro i hi
          dsimp only
          simp only [Int.toNat_natCast]
          rw [pos (by omega), need_pos (by omega), hbody i (by omega), bind_t]
          by_cases hx : (List.getD p i zNode).1 = 6 ∧ findR g (List.getD p i zNode).2.2.1 = none
          · exact .inr (by rw [pos hx])
          · exact .inl (by rw [neg hx, need64 (by omega) (by omega), cast_succ])
        · dsimp only
          simp only [Int.toNat_natCast]
          rw [pos (by omega), need_pos (by omega), hbody m m1, bind_t, pos m2]
      · have hl := lookV_ok hp hu
        rw [ofV_ok (by rw [ho, hl]), ho, hl]
        refine loop_up (σ := (Int × Unit) × EmptinessD × GrammarD × Unit) p.length (fun i => (((i : Int), ()), zEmptiness, (g, ()), ())) rfl ?_ ?_
        · intro i hi
          dsimp only
          simp only [Int.toNat_natCast]
          rw [pos (by omega), need_pos (by omega), hbody i hi, bind_t, neg (fun hx => hu ⟨i, hi, hx⟩), need64 (by omega) (by omega), cast_succ]
        · dsimp only
          rw [neg (by omega)]
          exact hfin hl
    · have hl := lookV_bad (g := g) hp
      rw [nneg hp, ofV_bad (by rw [ho, hl]; exact hp), ho, hl]
  · rw [nneg h, ofV_bad (by rw [ofC_bad h]; exact h), ofC_bad h]
end Go.Proofs

/-! Chapter 9: the laws. -/
namespace Go.Proofs
open Go Go.Abs
set_option linter.unusedSimpArgs false
theorem wk_E0 : E wkG 0 0 := ⟨List.getD wk0 1 zNode, getD_in (by decide), rfl, wk_find⟩
theorem wk_ag0 : Ag (E wkG) 0 := ⟨0, wk_E0, Rt.refl 0⟩
theorem wk_ag1 : ¬ Ag (E wkG) 1 := by
  rintro ⟨q, ⟨n, h1, h2, _⟩, _⟩
  have h1 : n ∈ wk1 := h1
  simp only [wk1, List.mem_cons, List.not_mem_nil, or_false] at h1
  rcases h1 with rfl | rfl | rfl | rfl | rfl <;> exact absurd h2 (by decide)
theorem wk_last0 (now : List Em) : lastE wkG now 0 = val9 (fun _ => List.getD now 0 zEmptiness) wk0 4 := by
  refine val_ind2 (p := wk0) (by rw [wk_c0]) (fun a b => a = b) rfl (fun k hk a b a' b' ha hb => ?_) 4 (by decide)
  subst ha hb
  by_cases h6 : (nth wk0 k).1 = 6
  · have hk : k < 5 := hk
    have : k = 1 := by
      rcases (show k = 0 ∨ k = 1 ∨ k = 2 ∨ k = 3 ∨ k = 4 by omega) with rfl | rfl | rfl | rfl | rfl <;> first | rfl | exact absurd h6 (by decide)
    subst this
    have e : callE wkG now (nth wk0 ((1 : Nat) : Int)) = List.getD now 0 zEmptiness := by
      unfold callE
      rw [show findR wkG (nth wk0 ((1 : Nat) : Int)).2.2.1 = some 0 from wk_find]
      rfl
    rw [e]
  · unfold nodeE
    rw [if_neg h6, if_neg h6]
theorem wk_last1 (now : List Em) : lastE wkG now 1 = (false, true, 4, 5, ()) := by
  rw [← wk_c]
  refine val_ind2 (p := wk1) (by rw [wk_c1]) (fun a b => a = b) rfl (fun k hk a b a' b' ha hb => ?_) 4 (by decide)
  subst ha hb
  have h6 : ¬ (nth wk1 k).1 = 6 := by
    have hk : k < 5 := hk
    rcases (show k = 0 ∨ k = 1 ∨ k = 2 ∨ k = 3 ∨ k = 4 by omega) with rfl | rfl | rfl | rfl | rfl <;> decide
  unfold nodeE
  rw [if_neg h6, if_neg h6]
theorem wk_round (now : List Em) : roundE wkG now = [loopE true (val9 (fun _ => List.getD now 0 zEmptiness) wk0 4), (false, true, 4, 5, ())] := by
  have e0 : stepE wkG now 0 = loopE true (val9 (fun _ => List.getD now 0 zEmptiness) wk0 4) := by unfold stepE; rw [pb_t wk_ag0, wk_last0]
  have e1 : stepE wkG now 1 = (false, true, 4, 5, ()) := by unfold stepE; rw [pb_f wk_ag1, wk_last1]; rfl
  show [stepE wkG now 0, stepE wkG now 1] = _
  rw [e0, e1]
theorem wk_fix : fixG wkG = [(true, false, 0, -1, ()), (false, true, 4, 5, ())] := by
  have e1 : itE wkG 1 = [(true, false, 0, -1, ()), (false, true, 4, 5, ())] := by
    show roundE wkG (botL 2) = _
    rw [wk_round, ← wk_a]
    rfl
  have e2 : itE wkG 2 = itE wkG 1 := by
    show roundE wkG (itE wkG 1) = _
    rw [e1, wk_round, ← wk_b]
    rfl
  unfold fixG
  rw [if_pos wk_chk, fix_is e2, e1]
theorem q_works9 : F_law09_works () = some (true, ()) := by
  unfold F_law09_works
  have e := q_eRules wkG
  rw [wk_fix, wk_chk] at e
  simp only [toPb, eqbE]
  refine (congrArg (fun o => Option.bind o _) e).trans ?_
  rw [bind_t]
  dsimp only
  rw [pos rfl]
  simp [pb_true, need_pos, sel_t, bind_t]
theorem law_EmptyPatterns (g : G) (p : List NodeD) (h : SzG g) (hp : (p.length + 1) * 64 ≤ 140737488355328) : F_law09_EmptyPatterns ((g, ()), p, ()) = some (true, ()) := by
  unfold F_law09_EmptyPatterns
  dsimp only
  rw [show (fun (y : RuleD) => ((y.1, (y.2.1, List.length y.2.1), ()) : RuleLD)) = liftR from rfl, show (fun (y : RuleLD) => ((y.1, List.take y.2.1.2 y.2.1.1, ()) : RuleD)) = plainR from rfl, q_lendG g h, bind_t, q_lend p hp, bind_t]
  dsimp only
  simp only [toPb, eqbE, List.drop_zero, lent_take]
  rw [plain_lent, plain_lift, q_eOf, q_rOf]
  have hk := q_kept p hp
  rw [List.drop_zero] at hk
  have ht : List.take p.length (p ++ [markN]) = p := List.take_left' rfl
  rw [need_pos (by simp), ht, bind_t, bind_t]
  dsimp only
  rw [pos rfl, pb_t rfl, bind_t, sel_t, q_keptG g h, bind_t, bind_t, sel_t, need_pos (by simp), hk, bind_t, bind_t, sel_t, q_works9]
  rfl
end Go.Proofs
