/- Part of the proof of the law's row: YtnncmcdogmleiaaWq11d. -/
import Derived.Test.YtnncmcdogmleiaaWq09k
import Derived.Test.YtnncmcdogmleiaaWpC11
set_option linter.all false
set_option linter.unusedVariables false
set_option linter.unusedSimpArgs false
/-! Chapter 9: patterns' names, Of. -/
namespace Go.Proofs
open Go Go.Abs
set_option linter.unusedSimpArgs false
theorem q_containsS (l : List ByteArray) (x : ByteArray) (h : l.length ≤ 1000000) : F_slices_Contains_string_string (l, x, ()) = some (pb (x ∈ l), ()) := by
 unfold F_slices_Contains_string_string
 have key : ∃ r, F_slices_Index_string_string (l, x, ()) = some r ∧ (r.1 ≥ 0 ↔ x ∈ l) := by
  unfold F_slices_Index_string_string
  simp only [toPb]
  refine loopC_ends (σ := shapeD × Unit) (fun s => ∃ i : Nat, i ≤ l.length ∧ (∀ j, j < i → List.getD l j zStr ≠ x) ∧ s = (((i : Int), 0, ()), ())) (fun s => l.length - s.1.1.toNat) _ ?_ _ ⟨0, Nat.zero_le _, by intro j hj; omega, rfl⟩
  rintro s ⟨i, hi, hno, rfl⟩
  dsimp only
  by_cases hl : i < l.length
  ·rw [pos (by omega), need_pos (by omega), Int.toNat_natCast]
   by_cases he : x = List.getD l i zStr
   ·refine .inr ⟨_, by rw [pos he], ?_⟩
    exact ⟨fun _ => he ▸ getD_in hl, fun _ => by show (i : Int) ≥ 0; omega⟩
   ·refine .inl ⟨_, by rw [neg he, need64 (by omega) (by omega)], ⟨i + 1, by omega, fun j hj => ?_, by rw [cast_succ]⟩, by show l.length - Int.toNat ((i : Int) + 1) < l.length - Int.toNat (i : Int); omega⟩
    by_cases e : j = i
    ·subst e; exact fun h => he h.symm
    ·exact hno j (by omega)
  ·refine .inr ⟨_, by rw [neg (by omega)], ?_⟩
   constructor
   ·intro h; exact absurd h (by decide)
   ·intro hx
    obtain ⟨k, hk, e⟩ := in_getD zStr hx
    exact absurd e (hno k (by omega))
 obtain ⟨r, h1, h2⟩ := key
 simp only [toPb]
 rw [h1, bind_t, pb_congr h2]
noncomputable def namesN (p : List NodeD) : Nat → List ByteArray
 | 0 => []
 | k + 1 => if (List.getD p k zNode).1 = 6 ∧ pb ((List.getD p k zNode).2.2.1 ∈ namesN p k) = false then namesN p k ++ [(List.getD p k zNode).2.2.1] else namesN p k
theorem namesN_len {p : List NodeD} : ∀ k, (namesN p k).length ≤ k
 | 0 => Nat.le_refl _
 | k + 1 => by
   have := namesN_len (p := p) k
   unfold namesN
   split
   ·simp; omega
   ·omega
theorem namesN_mem {p : List NodeD} {x : ByteArray} : ∀ k, x ∈ namesN p k ↔ ∃ i, i < k ∧ (List.getD p i zNode).1 = 6 ∧ (List.getD p i zNode).2.2.1 = x
 | 0 => by simp [namesN]
 | k + 1 => by
   have ih := namesN_mem (p := p) (x := x) k
   have hh : (∃ i, i < k + 1 ∧ (List.getD p i zNode).1 = 6 ∧ (List.getD p i zNode).2.2.1 = x) ↔ (∃ i, i < k ∧ (List.getD p i zNode).1 = 6 ∧ (List.getD p i zNode).2.2.1 = x) ∨ ((List.getD p k zNode).1 = 6 ∧ (List.getD p k zNode).2.2.1 = x) := by
    constructor
    ·rintro ⟨i, h1, h2⟩
     by_cases e : i = k
     ·subst e; exact .inr h2
     ·exact .inl ⟨i, by omega, h2⟩
    ·rintro (⟨i, h1, h2⟩ | h)
     ·exact ⟨i, by omega, h2⟩
     ·exact ⟨k, by omega, h⟩
   rw [hh, ← ih, namesN]
   split
   ·rename_i h
    rw [List.mem_append, List.mem_singleton]
    exact ⟨fun h2 => h2.elim .inl fun e => .inr ⟨h.1, e.symm⟩, fun h2 => h2.elim .inl fun e => .inr e.2.symm⟩
   ·rename_i h
    refine ⟨.inl, fun h2 => h2.elim id fun e => ?_⟩
    have h3 : ¬ pb ((List.getD p k zNode).2.2.1 ∈ namesN p k) = false := fun h4 => h ⟨e.1, h4⟩
    have h4 : (List.getD p k zNode).2.2.1 ∈ namesN p k := by
     rw [pb_iff_f] at h3
     exact Classical.not_not.1 h3
    exact e.2 ▸ h4
theorem q_namesT (p : List NodeD) : F_tree_Names (p, ()) = some ((chkP p).2, (if (chkP p).2 = 0 then namesN p p.length else []), ()) := by
 unfold F_tree_Names
 simp only [toPb]
 rw [q_check, bind_t]
 dsimp only
 by_cases h : (chkP p).2 = 0
 ·obtain ⟨hlen, _⟩ := chk_len h
  rw [npos h, if_pos h, h]
  refine loop_up (σ := (Int × Unit) × List ByteArray × List ByteArray × Unit) p.length (fun i => (((i : Int), ()), namesN p i, [], ())) rfl ?_ ?_
  ·intro i hi
   have hnl := namesN_len (p := p) i
   dsimp only
   rw [pos (by omega), need_pos (by omega), Int.toNat_natCast, q_containsS _ _ (by omega)]
   simp only [bind_t]
   by_cases h6 : (List.getD p i zNode).1 = 6
   ·rw [pos h6, bind_t]
    cases hc : pb ((List.getD p i zNode).2.2.1 ∈ namesN p i) with
    | false =>
      rw [Bool.not_false, sel_t, need_pos (by omega), need64 (by omega) (by omega), cast_succ]
      conv => rhs; unfold namesN
      rw [if_pos ⟨h6, hc⟩]
    | true =>
      rw [Bool.not_true, sel_f, need64 (by omega) (by omega), cast_succ]
      conv => rhs; unfold namesN
      rw [if_neg (fun h => by rw [hc] at h; exact absurd h.2 (by decide))]
   ·rw [neg h6, bind_t, sel_f, need64 (by omega) (by omega), cast_succ]
    conv => rhs; unfold namesN
    rw [if_neg (fun h => h6 h.1)]
  ·dsimp only
   rw [neg (by omega)]
 ·rw [nneg h, if_neg h]
def UnkP (g : G) (p : List NodeD) : Prop := ∃ i, i < p.length ∧ (List.getD p i zNode).1 = 6 ∧ findR g (List.getD p i zNode).2.2.1 = none
open Classical in
noncomputable def lookV (g : G) (p : List NodeD) : Int := if (chkP p).2 ≠ 0 then (chkP p).2 else if UnkP g p then 81 else 0
theorem lookV_bad {g : G} {p : List NodeD} (h : (chkP p).2 ≠ 0) : lookV g p = (chkP p).2 := by unfold lookV; rw [if_pos h]
theorem lookV_unk {g : G} {p : List NodeD} (h : (chkP p).2 = 0) (h2 : UnkP g p) : lookV g p = 81 := by unfold lookV; rw [if_neg (fun h3 => h3 h), if_pos h2]
theorem lookV_ok {g : G} {p : List NodeD} (h : (chkP p).2 = 0) (h2 : ¬ UnkP g p) : lookV g p = 0 := by unfold lookV; rw [if_neg (fun h3 => h3 h), if_neg h2]
theorem q_look9 {g : G} (hg : RG g) (p : List NodeD) : F_empty_look ((g, ()), p, ()) = some (lookV g p, ()) := by
 unfold F_empty_look
 simp only [toPb]
 rw [q_namesT, bind_t]
 dsimp only
 by_cases h : (chkP p).2 = 0
 ·obtain ⟨hlen, _⟩ := chk_len h
  rw [npos h, if_pos h, q_gnums hg, bind_t]
  have hnl := namesN_len (p := p) p.length
  generalize hN : namesN p p.length = N at hnl ⊢
  have hu : UnkP g p ↔ ¬ ∀ i, i < N.length → findR g (List.getD N i zStr) ≠ none := by
   constructor
   ·rintro ⟨i, h1, h2, h3⟩ hh
    have : (List.getD p i zNode).2.2.1 ∈ N := by rw [← hN]; exact (namesN_mem _).2 ⟨i, h1, h2, rfl⟩
    obtain ⟨k, k1, k2⟩ := in_getD zStr this
    exact hh k k1 (by rw [k2]; exact h3)
   ·intro hh
    obtain ⟨i, h1⟩ := Classical.not_forall.1 hh
    obtain ⟨h1, h2⟩ := Classical.not_imp.1 h1
    have hm : List.getD N i zStr ∈ namesN p p.length := by rw [hN]; exact getD_in h1
    obtain ⟨k, k1, k2, k3⟩ := (namesN_mem _).1 hm
    exact ⟨k, k1, k2, by rw [k3]; exact Classical.not_not.1 h2⟩
  have key := loop_all (σ := (Int × Unit) × List ByteArray × Unit) (ρ := Int × Unit) N.length (fun i => (((i : Int), ()), N, ())) (fun i => findR g (List.getD N i zStr) ≠ none) (s0 := (((0 : Int), ()), N, ())) (bad := ((81 : Int), ())) (fin := ((0 : Int), ())) rfl (B := fun (s : (Int × Unit) × List ByteArray × Unit) => sel (pb (s.1.1 < (↑(List.length N) : Int))) (need ((0 : Int) ≤ s.1.1 ∧ s.1.1 < (↑(List.length s.2.1) : Int)) (need ((0 : Nat) + Int.toNat s.1.1 < List.length s.2.1) (sel (!Option.isSome (mfind eqS (nums g) (List.getD s.2.1 ((0 : Nat) + Int.toNat s.1.1) zStr))) (some (Sum.inr ((81 : Int), ()))) (need (Fits Go.IntKind.i64 (s.1.1 + (1 : Int))) (some (Sum.inl ((s.1.1 + (1 : Int), ()), s.2.1, ()))))))) (some (Sum.inr ((0 : Int), ())))) ?_ ?_
  ·rw [key]
   by_cases h2 : ∀ i, i < N.length → findR g (List.getD N i zStr) ≠ none
   ·rw [pb_t h2, lookV_ok h (fun h => hu.1 h h2)]; rfl
   ·rw [pb_f h2, lookV_unk h (hu.2 h2)]; rfl
  ·intro i hi
   dsimp only
   rw [pos (by omega), need_pos (by omega), Int.toNat_natCast, Nat.zero_add, need_pos (by omega), need64 (by omega) (by omega), cast_succ, nums_find]
   cases hf : findR g (List.getD N i zStr) with
   | none => rw [if_neg (by rw [pb_f (by simp)]; simp)]; rfl
   | some q => rw [if_pos (pb_t (by simp))]; rfl
  ·dsimp only
   rw [neg (by omega)]
 ·rw [nneg h, lookV_bad h]
open Classical in
noncomputable def ofC (g : G) (p : List NodeD) : Int := if (chkG g).2 ≠ 0 then (chkG g).2 else lookV g p
noncomputable def valG (g : G) (p : List NodeD) : Em := List.getD (partsV g p) (p.length - 1) zEmptiness
open Classical in
noncomputable def ofV (g : G) (p : List NodeD) : Em := if ofC g p = 0 then valG g p else (false, false, 0, 0, ())
theorem ofC_ok {g : G} {p : List NodeD} (h : (chkG g).2 = 0) : ofC g p = lookV g p := by unfold ofC; rw [if_neg (fun h3 => h3 h)]
theorem ofC_bad {g : G} {p : List NodeD} (h : (chkG g).2 ≠ 0) : ofC g p = (chkG g).2 := by unfold ofC; rw [if_pos h]
theorem ofV_ok {g : G} {p : List NodeD} (h : ofC g p = 0) : ofV g p = valG g p := by unfold ofV; rw [if_pos h]
theorem ofV_bad {g : G} {p : List NodeD} (h : ofC g p ≠ 0) : ofV g p = (false, false, 0, 0, ()) := by unfold ofV; rw [if_neg h]
theorem look_zero {g : G} {p : List NodeD} (h : lookV g p = 0) : (chkP p).2 = 0 ∧ ∀ k, k < p.length → (nth p k).1 = 6 → ∃ q, findR g (nth p k).2.2.1 = some q := by
 by_cases h1 : (chkP p).2 = 0
 ·refine ⟨h1, fun k hk h6 => ?_⟩
  by_cases hu : UnkP g p
  ·rw [lookV_unk h1 hu] at h; exact absurd h (by decide)
  ·have e : nth p k = List.getD p k zNode := by simp [nth]
   rw [e] at h6 ⊢
   cases hf : findR g (List.getD p k zNode).2.2.1 with
   | some q => exact ⟨q, rfl⟩
   | none => exact absurd ⟨k, hk, h6, hf⟩ hu
 ·rw [lookV_bad h1] at h; exact absurd h h1
theorem lengths_of {g : G} (hg : RG g) {p : List NodeD} (h : lookV g p = 0) : F_gist_Lengths_em (p, fixE g, nums g, ()) = some (partsV g p, fixE g, nums g, ()) ∧ F_ref09_parts ((g, ()), p, fixE g, ()) = some (partsV g p, ()) := by
 obtain ⟨h1, h2⟩ := look_zero h
 have hF := fix_rg hg
 refine ⟨q_lengths h1 (fun k hk h6 => ?_) (fun k hk h6 => ?_), q_partsE h1 hg.len hF.1 hF.2 h2⟩
 ·obtain ⟨q, hq⟩ := h2 k hk h6
  exact callAt hF.1 hq
 ·obtain ⟨q, hq, e⟩ := call_in hg (nth p k)
  rw [e]
  exact hF.2 q hq
theorem partsV_len {g : G} {p : List NodeD} : (partsV g p).length = p.length := valsOf_len _ _ _ _
theorem q_rOf (g : G) (p : List NodeD) : F_ref09_Of ((g, ()), p, ()) = some (ofV g p, ofC g p, ()) := by
 unfold F_ref09_Of
 simp only [toPb, q_checkR8, bind_t]
 dsimp only [outE]
 by_cases h : (chkG g).2 = 0
 ·have hg := rg_of h
  have hn := hg.len
  have ho := ofC_ok (p := p) h
  rw [npos h, q_checkR, bind_t]
  dsimp only
  by_cases hp : (chkP p).2 = 0
  ·obtain ⟨hlen, _, _, hp0, _⟩ := chk_len hp
   rw [npos hp]
   have hbody : ∀ i, i < p.length → sel (pb ((List.getD p i zNode).1 = 6)) (need ((0 : Int) ≤ (i : Int) ∧ (i : Int) < (↑(List.length p) : Int)) (Option.bind (F_ref09_Find ((g, ()), (List.getD p i zNode).2.2.1, ())) (fun (y2 : Int × Unit) => some (pb (y2.1 < (0 : Int)))))) (some false) = some (pb ((List.getD p i zNode).1 = 6 ∧ findR g (List.getD p i zNode).2.2.1 = none)) := by
    intro i hi
    rw [q_FindR g _ (by omega), bind_t, need_pos (by omega)]
    by_cases h6 : (List.getD p i zNode).1 = 6
    ·rw [pos h6]
     unfold numR
     cases hf : findR g (List.getD p i zNode).2.2.1 with
     | none => rw [pb_t (show ((-1 : Int) < 0) by decide), pb_t ⟨h6, rfl⟩]
     | some q => rw [pb_f (show ¬ ((q : Int) < 0) by omega), pb_f (fun h => by cases h.2)]
    ·rw [neg h6, pb_f (fun h => h6 h.1)]
   have hfin : lookV g p = 0 → Option.bind (Option.bind (F_ref09_All ((g, ()), p, ())) (fun (y3 : List EmptinessD × Unit) => need (Fits Go.IntKind.i64 ((↑(List.length p) : Int) - (1 : Int))) (need ((0 : Int) ≤ (↑(List.length p) : Int) - (1 : Int) ∧ (↑(List.length p) : Int) - (1 : Int) < (↑(List.length y3.1) : Int)) (need ((0 : Nat) + Int.toNat ((↑(List.length p) : Int) - (1 : Int)) < List.length y3.1) (some (List.getD y3.1 ((0 : Nat) + Int.toNat ((↑(List.length p) : Int) - (1 : Int))) zEmptiness, (0 : Int), ())))))) (fun (val : Em × Int × Unit) => some (Sum.inr val : ((Int × Unit) × EmptinessD × GrammarD × Unit) ⊕ (Em × Int × Unit))) = some (Sum.inr (valG g p, 0, ())) := by
    intro hl
    unfold F_ref09_All
    dsimp only
    rw [q_Known9 hg, bind_t]
    dsimp only
    rw [(lengths_of hg hl).2, bind_t]
    dsimp only
    rw [bind_t]
    dsimp only
    rw [partsV_len, need64 (by omega) (by omega), need_pos (by omega), need_pos (by omega), Nat.zero_add, show Int.toNat ((p.length : Int) - 1) = p.length - 1 by omega]
    rfl
   by_cases hu : UnkP g p
   ·have hl := lookV_unk hp hu
    rw [ofV_bad (by rw [ho, hl]; decide), ho, hl]
    obtain ⟨m, m1, m2⟩ := hu
    refine loop_to (σ := (Int × Unit) × EmptinessD × GrammarD × Unit) m (fun i => (((i : Int), ()), zEmptiness, (g, ()), ())) rfl ?_ ?_
    ·intro i hi
     dsimp only
     simp only [Int.toNat_natCast]
     rw [pos (by omega), need_pos (by omega), hbody i (by omega), bind_t]
     by_cases hx : (List.getD p i zNode).1 = 6 ∧ findR g (List.getD p i zNode).2.2.1 = none
     ·exact .inr (by rw [pos hx])
     ·exact .inl (by rw [neg hx, need64 (by omega) (by omega), cast_succ])
    ·dsimp only
     simp only [Int.toNat_natCast]
     rw [pos (by omega), need_pos (by omega), hbody m m1, bind_t, pos m2]
   ·have hl := lookV_ok hp hu
    rw [ofV_ok (by rw [ho, hl]), ho, hl]
    refine loop_up (σ := (Int × Unit) × EmptinessD × GrammarD × Unit) p.length (fun i => (((i : Int), ()), zEmptiness, (g, ()), ())) rfl ?_ ?_
    ·intro i hi
     dsimp only
     simp only [Int.toNat_natCast]
     rw [pos (by omega), need_pos (by omega), hbody i hi, bind_t, neg (fun hx => hu ⟨i, hi, hx⟩), need64 (by omega) (by omega), cast_succ]
    ·dsimp only
     rw [neg (by omega)]
     exact hfin hl
  ·have hl := lookV_bad (g := g) hp
   rw [nneg hp, ofV_bad (by rw [ho, hl]; exact hp), ho, hl]
 ·rw [nneg h, ofV_bad (by rw [ofC_bad h]; exact h), ofC_bad h]
end Go.Proofs
/-! Chapter 11: sets of bytes, bit by bit. -/
namespace Go.Proofs
open Go Go.Abs
set_option linter.unusedSimpArgs false
def natOf (f : Nat → Bool) : Nat → Nat
 | 0 => 0
 | n + 1 => natOf f n + (if f n then 2 ^ n else 0)
theorem natOf_lt (f : Nat → Bool) : ∀ n, natOf f n < 2 ^ n
 | 0 => by simp [natOf]
 | n + 1 => by
   have := natOf_lt f n
   rw [natOf, Nat.pow_succ]
   split <;> omega
theorem natOf_bit (f : Nat → Bool) : ∀ n i, (natOf f n).testBit i = (decide (i < n) && f i)
 | 0, i => by simp [natOf]
 | n + 1, i => by
   have h := natOf_lt f n
   rw [natOf]
   by_cases hf : f n = true
   ·have e1 := Nat.two_pow_add_eq_or_of_lt h 1
    rw [Nat.mul_one] at e1
    rw [if_pos hf, Nat.add_comm, e1, Nat.testBit_or, Nat.testBit_two_pow, natOf_bit f n i]
    by_cases e : i = n
    ·subst e; simp [hf]
    ·have : decide (n = i) = false := by simp; omega
     rw [this, Bool.false_or]
     congr 1
     simp; omega
   ·rw [if_neg hf, Nat.add_zero, natOf_bit f n i]
    by_cases e : i = n
    ·subst e; simp [hf]
    ·congr 1
     simp; omega
def wdB (x : Int) (i : Nat) : Bool := x.toNat.testBit i
def wds (s : SetD) : List Int := [s.1, s.2.1, s.2.2.1, s.2.2.2.1]
def bitS (s : SetD) (b : Nat) : Bool := wdB (List.getD (wds s) (b / 64) 0) (b % 64)
def W64 (x : Int) : Prop := 0 ≤ x ∧ x ≤ 18446744073709551615
def CanS (s : SetD) : Prop := W64 s.1 ∧ W64 s.2.1 ∧ W64 s.2.2.1 ∧ W64 s.2.2.2.1
theorem CanS.at {s : SetD} (h : CanS s) (k : Nat) : W64 (List.getD (wds s) k 0) := by
 obtain ⟨h0, h1, h2, h3⟩ := h
 match k with
 | 0 => exact h0
 | 1 => exact h1
 | 2 => exact h2
 | 3 => exact h3
 | k + 4 => exact ⟨by simp [wds], by simp [wds]⟩
def mkS (f : Nat → Bool) : SetD := ((natOf (fun i => f i) 64 : Nat), (natOf (fun i => f (64 + i)) 64 : Nat), (natOf (fun i => f (128 + i)) 64 : Nat), (natOf (fun i => f (192 + i)) 64 : Nat), ())
theorem w64_nat (f : Nat → Bool) : W64 ((natOf f 64 : Nat) : Int) := by
 have := natOf_lt f 64
 unfold W64
 omega
theorem can_mk (f : Nat → Bool) : CanS (mkS f) := ⟨w64_nat _, w64_nat _, w64_nat _, w64_nat _⟩
theorem wd_ext {x y : Int} (hx : W64 x) (hy : W64 y) (h : ∀ i, i < 64 → wdB x i = wdB y i) : x = y := by
 obtain ⟨n, rfl⟩ := Int.eq_ofNat_of_zero_le hx.1
 obtain ⟨m, rfl⟩ := Int.eq_ofNat_of_zero_le hy.1
 congr 1
 apply Nat.eq_of_testBit_eq
 intro i
 by_cases hi : i < 64
 ·exact h i hi
 ·have h1 : n < 2 ^ i := Nat.lt_of_lt_of_le (show n < 2 ^ 64 by have := hx.2; omega) (Nat.pow_le_pow_right (by omega) (by omega))
  have h2 : m < 2 ^ i := Nat.lt_of_lt_of_le (show m < 2 ^ 64 by have := hy.2; omega) (Nat.pow_le_pow_right (by omega) (by omega))
  rw [Nat.testBit_lt_two_pow h1, Nat.testBit_lt_two_pow h2]
theorem bit_word (s : SetD) (k i : Nat) (hi : i < 64) : bitS s (64 * k + i) = wdB (List.getD (wds s) k 0) i := by
 unfold bitS
 rw [show (64 * k + i) / 64 = k by omega, show (64 * k + i) % 64 = i by omega]
theorem setS_ext {s t : SetD} (hs : CanS s) (ht : CanS t) (h : ∀ b, b < 256 → bitS s b = bitS t b) : s = t := by
 have key : ∀ k, k < 4 → List.getD (wds s) k 0 = List.getD (wds t) k 0 := fun k hk =>
  wd_ext (hs.at k) (ht.at k) fun i hi => by rw [← bit_word s k i hi, ← bit_word t k i hi]; exact h _ (by omega)
 obtain ⟨s0, s1, s2, s3, _⟩ := s
 obtain ⟨t0, t1, t2, t3, _⟩ := t
 have e0 : s0 = t0 := key 0 (by omega)
 have e1 : s1 = t1 := key 1 (by omega)
 have e2 : s2 = t2 := key 2 (by omega)
 have e3 : s3 = t3 := key 3 (by omega)
 rw [e0, e1, e2, e3]
theorem wds_mk (f : Nat → Bool) {k : Nat} (hk : k < 4) : List.getD (wds (mkS f)) k 0 = ((natOf (fun i => f (64 * k + i)) 64 : Nat) : Int) := by
 match k, hk with
 | 0, _ => simp [wds, mkS]
 | 1, _ => rfl
 | 2, _ => rfl
 | 3, _ => rfl
theorem bit_mk (f : Nat → Bool) {b : Nat} (hb : b < 256) : bitS (mkS f) b = f b := by
 unfold bitS
 rw [wds_mk f (show b / 64 < 4 by omega)]
 unfold wdB
 rw [Int.toNat_natCast, natOf_bit, show 64 * (b / 64) + b % 64 = b by omega, show decide (b % 64 < 64) = true by simp; omega, Bool.true_and]
theorem mkS_congr {f g : Nat → Bool} (h : ∀ b, b < 256 → f b = g b) : mkS f = mkS g := setS_ext (can_mk f) (can_mk g) fun b hb => by rw [bit_mk f hb, bit_mk g hb, h b hb]
theorem can_zero : CanS zSet := by simp [CanS, W64, zSet]
theorem bit_zero (b : Nat) : bitS zSet b = false := by
 have key : ∀ k, List.getD (wds zSet) k 0 = 0 := fun k => match k with
  | 0 => rfl
  | 1 => rfl
  | 2 => rfl
  | 3 => rfl
  | k + 4 => rfl
 unfold bitS
 rw [key]
 simp [wdB]
theorem mk_zero : mkS (fun _ => false) = zSet := setS_ext (can_mk _) can_zero fun b hb => by rw [bit_mk _ hb, bit_zero]
/-! ### Words -/
theorem wrap64 {n : Nat} (h : n < 2 ^ 64) : IntKind.wrap .u64 (n : Int) = n := by
 unfold IntKind.wrap
 simp only [IntKind.bits, IntKind.signed]
 simp
 omega
theorem ofInt_nat (n : Nat) : BitVec.ofInt 64 (n : Int) = BitVec.ofNat 64 n := by simp
theorem bitv_or {x y : Nat} (hx : x < 2 ^ 64) (hy : y < 2 ^ 64) : bitv .or .u64 (x : Int) (y : Int) = ((x ||| y : Nat) : Int) := by
 have e : bitv .or .u64 (x : Int) (y : Int) = IntKind.wrap .u64 (((BitVec.ofInt 64 (x : Int) ||| BitVec.ofInt 64 (y : Int)).toNat : Nat) : Int) := rfl
 rw [e, ofInt_nat, ofInt_nat, BitVec.toNat_or, BitVec.toNat_ofNat, BitVec.toNat_ofNat, Nat.mod_eq_of_lt hx, Nat.mod_eq_of_lt hy, wrap64 (Nat.or_lt_two_pow hx hy)]
theorem bitv_and {x y : Nat} (hx : x < 2 ^ 64) (hy : y < 2 ^ 64) : bitv .and .u64 (x : Int) (y : Int) = ((x &&& y : Nat) : Int) := by
 have e : bitv .and .u64 (x : Int) (y : Int) = IntKind.wrap .u64 (((BitVec.ofInt 64 (x : Int) &&& BitVec.ofInt 64 (y : Int)).toNat : Nat) : Int) := rfl
 rw [e, ofInt_nat, ofInt_nat, BitVec.toNat_and, BitVec.toNat_ofNat, BitVec.toNat_ofNat, Nat.mod_eq_of_lt hx, Nat.mod_eq_of_lt hy, wrap64 (Nat.and_lt_two_pow _ hy)]
theorem bitv_xor {x y : Nat} (hx : x < 2 ^ 64) (hy : y < 2 ^ 64) : bitv .xor .u64 (x : Int) (y : Int) = ((x ^^^ y : Nat) : Int) := by
 have e : bitv .xor .u64 (x : Int) (y : Int) = IntKind.wrap .u64 (((BitVec.ofInt 64 (x : Int) ^^^ BitVec.ofInt 64 (y : Int)).toNat : Nat) : Int) := rfl
 rw [e, ofInt_nat, ofInt_nat, BitVec.toNat_xor, BitVec.toNat_ofNat, BitVec.toNat_ofNat, Nat.mod_eq_of_lt hx, Nat.mod_eq_of_lt hy, wrap64 (Nat.xor_lt_two_pow hx hy)]
theorem W64.nat {x : Int} (h : W64 x) : ∃ n : Nat, x = (n : Int) ∧ n < 2 ^ 64 := ⟨x.toNat, by have := h.1; omega, by have := h.2; omega⟩
theorem w64_of {n : Nat} (h : n < 2 ^ 64) : W64 (n : Int) := ⟨by omega, by omega⟩
theorem or_word {x y : Int} (hx : W64 x) (hy : W64 y) : W64 (bitv .or .u64 x y) ∧ ∀ i, wdB (bitv .or .u64 x y) i = (wdB x i || wdB y i) := by
 obtain ⟨n, rfl, hn⟩ := hx.nat
 obtain ⟨m, rfl, hm⟩ := hy.nat
 rw [bitv_or hn hm]
 exact ⟨w64_of (Nat.or_lt_two_pow hn hm), fun i => by simp [wdB, Nat.testBit_or]⟩
theorem and_word {x y : Int} (hx : W64 x) (hy : W64 y) : W64 (bitv .and .u64 x y) ∧ ∀ i, wdB (bitv .and .u64 x y) i = (wdB x i && wdB y i) := by
 obtain ⟨n, rfl, hn⟩ := hx.nat
 obtain ⟨m, rfl, hm⟩ := hy.nat
 rw [bitv_and hn hm]
 exact ⟨w64_of (Nat.and_lt_two_pow _ hm), fun i => by simp [wdB, Nat.testBit_and]⟩
theorem not_word {x : Int} (hx : W64 x) : W64 (bitv .xor .u64 (IntKind.max .u64) x) ∧ ∀ i, i < 64 → wdB (bitv .xor .u64 (IntKind.max .u64) x) i = !wdB x i := by
 obtain ⟨n, rfl, hn⟩ := hx.nat
 have e : IntKind.max .u64 = ((2 ^ 64 - 1 : Nat) : Int) := by decide
 rw [e, bitv_xor (by omega) hn]
 refine ⟨w64_of (Nat.xor_lt_two_pow (by omega) hn), fun i hi => ?_⟩
 simp only [wdB, Int.toNat_natCast, Nat.testBit_xor, Nat.testBit_two_pow_sub_one]
 simp [hi]
end Go.Proofs
/-! Chapter 11: what is done with sets of bytes. -/
namespace Go.Proofs
open Go Go.Abs
set_option linter.unusedSimpArgs false
theorem getD_set {α : Type} (l : List α) (k j : Nat) (v d : α) : List.getD (List.set l k v) j d = if k = j ∧ k < l.length then v else List.getD l j d := by
 rw [List.getD_eq_getElem?_getD, List.getD_eq_getElem?_getD, List.getElem?_set]
 by_cases h : k = j
 ·subst h
  by_cases h2 : k < l.length
  ·rw [if_pos rfl, if_pos h2, if_pos ⟨rfl, h2⟩]; rfl
  ·rw [if_pos rfl, if_neg h2, if_neg (fun h => h2 h.2), List.getElem?_eq_none (by omega)]
 ·rw [if_neg h, if_neg (fun h2 => h h2.1)]
def setOf (l : List Int) : SetD := (List.getD l 0 0, List.getD l 1 0, List.getD l 2 0, List.getD l 3 0, ())
theorem wds_of (l : List Int) {k : Nat} (hk : k < 4) : List.getD (wds (setOf l)) k 0 = List.getD l k 0 := by
 match k, hk with
 | 0, _ => rfl
 | 1, _ => rfl
 | 2, _ => rfl
 | 3, _ => rfl
theorem setOf_is {l : List Int} {f : Nat → Bool} (hw : ∀ k, k < 4 → W64 (List.getD l k 0)) (hb : ∀ k i, k < 4 → i < 64 → wdB (List.getD l k 0) i = f (64 * k + i)) : setOf l = mkS f := by
 refine setS_ext ⟨hw 0 (by omega), hw 1 (by omega), hw 2 (by omega), hw 3 (by omega)⟩ (can_mk f) fun b hb' => ?_
 rw [bit_mk f hb']
 unfold bitS
 rw [wds_of l (by omega), hb _ _ (by omega) (by omega), show 64 * (b / 64) + b % 64 = b by omega]
theorem pow_word {m : Nat} (hm : m < 64) : IntKind.wrap .u64 ((1 : Int) * (2 : Int) ^ Min.min m (64 : Nat)) = ((2 ^ m : Nat) : Int) := by
 rw [show Min.min m 64 = m by omega, Int.one_mul]
 have : ((2 : Int) ^ m) = ((2 ^ m : Nat) : Int) := by simp
 rw [this]
 exact wrap64 (Nat.pow_lt_pow_right (by omega) hm)
theorem w64_pow {m : Nat} (hm : m < 64) : W64 ((2 ^ m : Nat) : Int) := w64_of (Nat.pow_lt_pow_right (by omega) hm)
theorem withL {s : SetD} (hs : CanS s) {b : Nat} (hb : b < 256) : setOf (List.set (wds s) (b / 64) (bitv .or .u64 (List.getD (wds s) (b / 64) 0) ((2 ^ (b % 64) : Nat) : Int))) = mkS (fun i => bitS s i || decide (i = b)) := by
 obtain ⟨h1, h2⟩ := or_word (hs.at (b / 64)) (w64_pow (m := b % 64) (by omega))
 have hl : (wds s).length = 4 := rfl
 refine setOf_is (fun k hk => ?_) (fun k i hk hi => ?_)
 ·rw [getD_set]
  split
  ·exact h1
  ·exact hs.at k
 ·rw [getD_set, bit_word s k i hi]
  split
  ·rename_i e
   rw [h2, ← e.1]
   congr 1
   simp only [wdB, Int.toNat_natCast, Nat.testBit_two_pow]
   apply decide_eq_decide.2
   omega
  ·rename_i e
   rw [show decide (64 * k + i = b) = false by simp; omega, Bool.or_false]
theorem q_With {s : SetD} (hs : CanS s) {b : Nat} (hb : b < 256) : F_ref01_With (s, (b : Int), ()) = some (mkS (fun i => bitS s i || decide (i = b)), ()) := by
 unfold F_ref01_With
 dsimp only
 have e1 : Int.toNat ((b : Int) / 64) = b / 64 := by omega
 have e2 : Int.toNat ((b : Int) % 64) = b % 64 := by omega
 rw [need_pos ⟨by omega, by omega, fits64 (by omega) (by omega)⟩, need_pos (by omega), need_pos (by omega), need_pos (by omega), need_pos (by omega), need_pos (by omega), need_pos (by omega), e1, e2, pow_word (by omega)]
 rw [← withL hs hb]
 rfl
theorem q_with {s : SetD} (hs : CanS s) {b : Nat} (hb : b < 256) : F_charset_with (s, (b : Int), ()) = some (mkS (fun i => bitS s i || decide (i = b)), ()) := by
 rw [← q_With hs hb]
 rfl
theorem q_Has {s : SetD} (hs : CanS s) {b : Nat} (hb : b < 256) : F_ref01_Has (s, (b : Int), ()) = some (bitS s b, ()) := by
 unfold F_ref01_Has
 simp only [toPb]
 have e1 : Int.toNat ((b : Int) / 64) = b / 64 := by omega
 have e2 : Int.toNat ((b : Int) % 64) = b % 64 := by omega
 rw [pos (by omega), pb_t (by omega), bind_t, sel_t, need_pos ⟨by omega, by omega, fits64 (by omega) (by omega)⟩, need_pos (by omega), need_pos (by omega), need_pos (by omega), need_pos (by omega), e1, e2, bind_t]
 show some (pb (bitv .and .u64 (Int.fdiv (List.getD (wds s) (b / 64) 0) (2 ^ Min.min (b % 64) 64)) 1 = 1), ()) = _
 obtain ⟨n, hn, hl⟩ := (hs.at (b / 64)).nat
 unfold bitS wdB
 rw [hn, show Min.min (b % 64) 64 = b % 64 by omega, Int.toNat_natCast]
 have e3 : Int.fdiv (n : Int) (2 ^ (b % 64)) = ((n / 2 ^ (b % 64) : Nat) : Int) := by
  rw [Int.fdiv_eq_ediv_of_nonneg _ (Int.pow_nonneg (by omega))]
  simp
 have h3 : n / 2 ^ (b % 64) < 2 ^ 64 := Nat.lt_of_le_of_lt (Nat.div_le_self _ _) hl
 rw [e3, show (1 : Int) = ((1 : Nat) : Int) from rfl, bitv_and h3 (by omega)]
 congr 2
 rw [Nat.testBit, Nat.shiftRight_eq_div_pow, Nat.and_comm]
 by_cases h : 1 &&& (n / 2 ^ (b % 64)) = 1
 ·rw [pb_t (by rw [h]), h]; rfl
 ·rw [pb_f (fun e => h (by omega))]
  have : 1 &&& (n / 2 ^ (b % 64)) = 0 := by
   have := Nat.one_and_eq_mod_two (n / 2 ^ (b % 64))
   omega
  rw [this]; rfl
def mixB (w : Int) (x y : Bool) : Bool := if w = 0 then x || y else if w = 1 then x && y else if w = 2 then x && !y else if w = 3 then !x else false
theorem q_Mix {w : Int} (hw : w = 0 ∨ w = 1 ∨ w = 2 ∨ w = 3) {a b : SetD} (ha : CanS a) (hb : CanS b) : F_ref01_Mix (w, a, b, ()) = some (mkS (fun i => mixB w (bitS a i) (bitS b i)), ()) := by
 unfold F_ref01_Mix
 simp only [toPb]
 refine loop_up (σ := (Int × Unit) × SetD × SetD × SetD × SetD × Unit) 256 (fun i => (((i : Int), ()), mkS (fun j => decide (j < i) && mixB w (bitS a j) (bitS b j)), zSet, b, a, ())) ?_ (fun i hi => ?_) ?_
 ·rw [show (fun j => decide (j < 0) && mixB w (bitS a j) (bitS b j)) = fun _ => false from funext fun j => by simp, mk_zero]
  rfl
 ·dsimp only
  rw [pos (by omega), q_Has ha hi, bind_t, q_Has hb hi, bind_t]
  dsimp only
  have hstep : ∀ c, mixB w (bitS a i) (bitS b i) = c → sel c (Option.bind (F_ref01_With (mkS (fun j => decide (j < i) && mixB w (bitS a j) (bitS b j)), (i : Int), ())) (fun (y2 : SetD × Unit) => need (Fits Go.IntKind.i64 ((i : Int) + (1 : Int))) (some (Sum.inl ((((i : Int) + (1 : Int), ()), y2.1, zSet, b, a, ()) : (Int × Unit) × SetD × SetD × SetD × SetD × Unit))))) (need (Fits Go.IntKind.i64 ((i : Int) + (1 : Int))) (some (Sum.inl ((((i : Int) + (1 : Int), ()), mkS (fun j => decide (j < i) && mixB w (bitS a j) (bitS b j)), zSet, b, a, ()) : (Int × Unit) × SetD × SetD × SetD × SetD × Unit)))) = some (Sum.inl (((((i + 1 : Nat) : Int), ()), mkS (fun j => decide (j < i + 1) && mixB w (bitS a j) (bitS b j)), zSet, b, a, ()) : (Int × Unit) × SetD × SetD × SetD × SetD × Unit) : _ ⊕ (SetD × Unit)) := by
   intro c hc
   cases c with
   | true =>
     rw [sel_t, q_With (can_mk _) hi, bind_t]
     dsimp only
     rw [need64 (by omega) (by omega), cast_succ, mkS_congr (g := fun j => decide (j < i + 1) && mixB w (bitS a j) (bitS b j)) fun j hj => ?_]
     rw [bit_mk _ hj]
     by_cases e : j = i
     ·subst e; simp [hc]
     ·rw [show decide (j < i + 1) = decide (j < i) by apply decide_eq_decide.2; omega, show decide (j = i) = false by simp [e], Bool.or_false]
   | false =>
     rw [sel_f, need64 (by omega) (by omega), cast_succ, mkS_congr (g := fun j => decide (j < i + 1) && mixB w (bitS a j) (bitS b j)) fun j hj => ?_]
     by_cases e : j = i
     ·subst e; simp [hc]
     ·rw [show decide (j < i + 1) = decide (j < i) by apply decide_eq_decide.2; omega]
  generalize hx : bitS a i = x at hstep ⊢
  generalize hy : bitS b i = y at hstep ⊢
  rcases hw with rfl | rfl | rfl | rfl <;> cases x <;> cases y <;> (simp only [pb_true, show pb ((0 : Int) = 0) = true from pb_t rfl, show pb ((1 : Int) = 0) = false from pb_f (by decide), show pb ((2 : Int) = 0) = false from pb_f (by decide), show pb ((3 : Int) = 0) = false from pb_f (by decide), show pb ((1 : Int) = 1) = true from pb_t rfl, show pb ((0 : Int) = 1) = false from pb_f (by decide), show pb ((2 : Int) = 1) = false from pb_f (by decide), show pb ((3 : Int) = 1) = false from pb_f (by decide), show pb ((2 : Int) = 2) = true from pb_t rfl, show pb ((0 : Int) = 2) = false from pb_f (by decide), show pb ((1 : Int) = 2) = false from pb_f (by decide), show pb ((3 : Int) = 2) = false from pb_f (by decide), show pb ((3 : Int) = 3) = true from pb_t rfl, show pb ((0 : Int) = 3) = false from pb_f (by decide), show pb ((1 : Int) = 3) = false from pb_f (by decide), show pb ((2 : Int) = 3) = false from pb_f (by decide), sel_t, sel_f, bind_t, Bool.not_true, Bool.not_false]; exact hstep _ rfl)
 ·dsimp only
  rw [neg (by omega), mkS_congr (g := fun j => mixB w (bitS a j) (bitS b j)) fun j hj => by rw [show decide (j < 256) = true by simp [hj], Bool.true_and]]
def unionS (a b : SetD) : SetD := mkS (fun i => bitS a i || bitS b i)
def meetS (a b : SetD) : SetD := mkS (fun i => bitS a i && bitS b i)
theorem q_UnionR {a b : SetD} (ha : CanS a) (hb : CanS b) : F_ref01_Union (a, b, ()) = some (unionS a b, ()) := by
 unfold F_ref01_Union
 dsimp only
 rw [q_Mix (.inl rfl) ha hb]
 rfl
theorem q_MeetR {a b : SetD} (ha : CanS a) (hb : CanS b) : F_ref01_Meet (a, b, ()) = some (meetS a b, ()) := by
 unfold F_ref01_Meet
 dsimp only
 rw [q_Mix (.inr (.inl rfl)) ha hb]
 rfl
def spanF (lo hi i : Nat) : Bool := decide (lo ≤ i) && decide (i ≤ hi)
theorem q_FromTo {lo hi : Nat} (h1 : lo ≤ hi) (h2 : hi < 256) : F_ref01_FromTo ((lo : Int), (hi : Int), ()) = some (mkS (spanF lo hi), ()) := by
 unfold F_ref01_FromTo
 simp only [toPb]
 refine loop_up (σ := (Int × Unit) × SetD × SetD × Unit) (hi + 1 - lo) (fun k => ((((lo + k : Nat) : Int), ()), mkS (fun j => spanF lo hi j && decide (j < lo + k)), zSet, ())) ?_ (fun k hk => ?_) ?_
 ·rw [show (fun j => spanF lo hi j && decide (j < lo + 0)) = fun _ => false from funext fun j => by unfold spanF; simp; omega, mk_zero]
  rfl
 ·dsimp only
  rw [pos (by omega), q_With (can_mk _) (by omega), bind_t]
  dsimp only
  rw [need64 (by omega) (by omega), show ((lo + k : Nat) : Int) + 1 = ((lo + (k + 1) : Nat) : Int) by omega, mkS_congr (g := fun j => spanF lo hi j && decide (j < lo + (k + 1))) fun j hj => ?_]
  rw [bit_mk _ hj]
  by_cases e : j = lo + k
  ·subst e
   have : spanF lo hi (lo + k) = true := by unfold spanF; simp; omega
   simp [this]
  ·rw [show decide (j < lo + (k + 1)) = decide (j < lo + k) by apply decide_eq_decide.2; omega, show decide (j = lo + k) = false by simp [e], Bool.or_false]
 ·dsimp only
  rw [neg (by omega), mkS_congr (g := spanF lo hi) fun j hj => ?_]
  unfold spanF
  by_cases e : j ≤ hi
  ·rw [show decide (j < lo + (hi + 1 - lo)) = true by simp; omega, Bool.and_true]
  ·rw [show decide (j ≤ hi) = false by simp [e], Bool.and_false, Bool.false_and]
/-! ### By the program -/
theorem gone4 {f : Nat → Int} {l : List Int} (h : l.length = 4) : gone l f 4 = genR 4 f := by
 have := @gone_all _ l f
 rwa [h] at this
theorem q_union {a b : SetD} (ha : CanS a) (hb : CanS b) : F_charset_Union (a, b, ()) = some (unionS a b, ()) := by
 unfold F_charset_Union
 simp only [toPb]
 have hf : ∀ k, W64 (bitv .or .u64 (List.getD (wds a) k 0) (List.getD (wds b) k 0)) ∧ ∀ i, wdB (bitv .or .u64 (List.getD (wds a) k 0) (List.getD (wds b) k 0)) i = (wdB (List.getD (wds a) k 0) i || wdB (List.getD (wds b) k 0) i) := fun k => or_word (ha.at k) (hb.at k)
 refine loop_up (σ := (Int × Unit) × List Int × List Int × List Int × Unit) 4 (fun k => (((k : Int), ()), _, wds b, gone (wds a) (fun k => bitv .or .u64 (List.getD (wds a) k 0) (List.getD (wds b) k 0)) k, ())) rfl (fun k hk => ?_) ?_
 ·dsimp only
  simp only [Int.toNat_natCast, gone_at]
  rw [pos (by omega), need_pos (by omega), need_pos hk, need_pos (by omega), need_pos hk, need_pos (by omega), need_pos hk, need64 (by omega) (by omega), cast_succ, gone_set (f := fun k => bitv .or .u64 (List.getD (wds a) k 0) (List.getD (wds b) k 0)) (show k < (wds a).length from hk)]
 ·dsimp only
  rw [neg (by omega), gone4 rfl]
  show some (Sum.inr (setOf (genR 4 _), ())) = _
  rw [setOf_is (f := fun i => bitS a i || bitS b i) (fun k hk => by rw [genR_get hk]; exact (hf k).1) (fun k i hk hi => by rw [genR_get hk, (hf k).2, bit_word a k i hi, bit_word b k i hi])]
  rfl
theorem q_meet {a b : SetD} (ha : CanS a) (hb : CanS b) : F_charset_Meet (a, b, ()) = some (meetS a b, ()) := by
 unfold F_charset_Meet
 simp only [toPb]
 have hf : ∀ k, W64 (bitv .and .u64 (List.getD (wds a) k 0) (List.getD (wds b) k 0)) ∧ ∀ i, wdB (bitv .and .u64 (List.getD (wds a) k 0) (List.getD (wds b) k 0)) i = (wdB (List.getD (wds a) k 0) i && wdB (List.getD (wds b) k 0) i) := fun k => and_word (ha.at k) (hb.at k)
 refine loop_up (σ := (Int × Unit) × List Int × List Int × List Int × Unit) 4 (fun k => (((k : Int), ()), _, wds b, gone (wds a) (fun k => bitv .and .u64 (List.getD (wds a) k 0) (List.getD (wds b) k 0)) k, ())) rfl (fun k hk => ?_) ?_
 ·dsimp only
  simp only [Int.toNat_natCast, gone_at]
  rw [pos (by omega), need_pos (by omega), need_pos hk, need_pos (by omega), need_pos hk, need_pos (by omega), need_pos hk, need64 (by omega) (by omega), cast_succ, gone_set (f := fun k => bitv .and .u64 (List.getD (wds a) k 0) (List.getD (wds b) k 0)) (show k < (wds a).length from hk)]
 ·dsimp only
  rw [neg (by omega), gone4 rfl]
  show some (Sum.inr (setOf (genR 4 _), ())) = _
  rw [setOf_is (f := fun i => bitS a i && bitS b i) (fun k hk => by rw [genR_get hk]; exact (hf k).1) (fun k i hk hi => by rw [genR_get hk, (hf k).2, bit_word a k i hi, bit_word b k i hi])]
  rfl
theorem q_not {a : SetD} (ha : CanS a) : F_charset_Not (a, ()) = some (mkS (fun i => !bitS a i), ()) := by
 unfold F_charset_Not
 simp only [toPb]
 have hf : ∀ k, W64 (bitv .xor .u64 (IntKind.max .u64) (List.getD (wds a) k 0)) ∧ ∀ i, i < 64 → wdB (bitv .xor .u64 (IntKind.max .u64) (List.getD (wds a) k 0)) i = !wdB (List.getD (wds a) k 0) i := fun k => not_word (ha.at k)
 refine loop_up (σ := (Int × Unit) × List Int × List Int × Unit) 4 (fun k => (((k : Int), ()), _, gone (wds a) (fun k => bitv .xor .u64 (IntKind.max .u64) (List.getD (wds a) k 0)) k, ())) rfl (fun k hk => ?_) ?_
 ·dsimp only
  simp only [Int.toNat_natCast, gone_at]
  rw [pos (by omega), need_pos (by omega), need_pos hk, need_pos (by omega), need_pos hk, need64 (by omega) (by omega), cast_succ, gone_set (f := fun k => bitv .xor .u64 (IntKind.max .u64) (List.getD (wds a) k 0)) (show k < (wds a).length from hk)]
 ·dsimp only
  rw [neg (by omega), gone4 rfl]
  show some (Sum.inr (setOf (genR 4 _), ())) = _
  rw [setOf_is (f := fun i => !bitS a i) (fun k hk => by rw [genR_get hk]; exact (hf k).1) (fun k i hk hi => by rw [genR_get hk, (hf k).2 i hi, bit_word a k i hi])]
def hasC (s : ByteArray) (n i : Nat) : Bool := (List.range n).any fun j => decide (chr s j = (i : Int))
theorem hasC_succ (s : ByteArray) (n i : Nat) : hasC s (n + 1) i = (hasC s n i || decide (chr s n = (i : Int))) := by simp [hasC, List.range_succ]
theorem chr_lt (s : ByteArray) (i : Nat) : ∃ n : Nat, chr s i = (n : Int) ∧ n < 256 := ⟨_, rfl, UInt8.toNat_lt _⟩
theorem q_setOf (s : ByteArray) (h : (s.size : Int) ≤ 9223372036854775807) : F_charset_Of (s, ()) = some (mkS (hasC s s.size), ()) := by
 unfold F_charset_Of
 simp only [toPb]
 refine loop_up (σ := (Int × Unit) × SetD × SetD × Unit) s.size (fun k => (((k : Int), ()), mkS (hasC s k), zSet, ())) ?_ (fun k hk => ?_) ?_
 ·rw [show hasC s 0 = fun _ => false from funext fun j => rfl, mk_zero]
  rfl
 ·obtain ⟨n, hn, hl⟩ := chr_lt s k
  dsimp only
  rw [pos (by omega), need_pos (by omega), Int.toNat_natCast, hn, need64 (by omega) (by omega), q_with (can_mk _) hl, bind_t]
  dsimp only
  rw [need64 (by omega) (by omega), cast_succ, mkS_congr (g := hasC s (k + 1)) fun j hj => ?_]
  rw [bit_mk _ hj, hasC_succ, hn]
  congr 1
  apply decide_eq_decide.2
  omega
 ·dsimp only
  rw [neg (by omega)]
/-! ### Sets apart -/
theorem zero_iff {s : SetD} (h : CanS s) : s = zSet ↔ ∀ b, b < 256 → bitS s b = false := ⟨fun e b _ => by rw [e, bit_zero], fun hh => setS_ext h can_zero fun b hb => by rw [hh b hb, bit_zero]⟩
theorem eqbS (x y : SetD) : Ty.eqb (Ty.st [Ty.int Go.IntKind.u64, Ty.int Go.IntKind.u64, Ty.int Go.IntKind.u64, Ty.int Go.IntKind.u64]) x y = pb (x = y) := by
 by_cases h : x = y
 ·subst h
  rw [pb_t rfl]
  exact eqb_refl (t := Ty.st [Ty.int Go.IntKind.u64, Ty.int Go.IntKind.u64, Ty.int Go.IntKind.u64, Ty.int Go.IntKind.u64]) x rfl
 ·rw [pb_f h]
  cases e : Ty.eqb (Ty.st [Ty.int Go.IntKind.u64, Ty.int Go.IntKind.u64, Ty.int Go.IntKind.u64, Ty.int Go.IntKind.u64]) x y with
  | false => rfl
  | true => exact absurd (eqb_eq e) h
theorem q_apart {a b : SetD} (ha : CanS a) (hb : CanS b) : F_charset_Apart (a, b, ()) = some (pb (meetS a b = zSet), ()) := by
 unfold F_charset_Apart
 dsimp only
 rw [q_meet ha hb, bind_t]
 dsimp only
 rw [eqbS]
theorem q_Bytes {s : SetD} (h : CanS s) : F_ref01_Bytes (s, ()) = some (ofNums (((List.range 256).filter (bitS s)).map fun x : Nat => (x : Int)), ()) := by
 unfold F_ref01_Bytes
 simp only [toPb]
 refine loop_up (σ := (Int × Unit) × List Int × SetD × Unit) 256 (fun k => (((k : Int), ()), ((List.range k).filter (bitS s)).map (fun x : Nat => (x : Int)), s, ())) rfl (fun k hk => ?_) ?_
 ·have hl : (((List.range k).filter (bitS s)).map (fun x : Nat => (x : Int))).length ≤ k := by
   rw [List.length_map]
   exact Nat.le_trans (List.length_filter_le _ _) (by simp)
  dsimp only
  rw [pos (by omega), q_Has h hk, bind_t]
  dsimp only
  have hf : Fits .u8 (k : Int) := by
   unfold Fits IntKind.wrap
   simp only [IntKind.bits, IntKind.signed]
   simp
   omega
  rw [List.range_succ, List.filter_append, List.map_append]
  cases hb : bitS s k with
  | true =>
    rw [sel_t, need_pos hf, need_pos (by omega), need64 (by omega) (by omega), cast_succ]
    simp [hb]
  | false =>
    rw [sel_f, need64 (by omega) (by omega), cast_succ]
    simp [hb]
 ·dsimp only
  rw [neg (by omega)]
theorem ofNums_size (l : List Int) : (ofNums l).size = l.length := by simp [ofNums, ByteArray.size]
theorem q_Count {s : SetD} (h : CanS s) : F_ref01_Count (s, ()) = some ((((List.range 256).filter (bitS s)).length : Int), ()) := by
 unfold F_ref01_Count
 dsimp only
 rw [q_Bytes h, bind_t]
 dsimp only
 rw [ofNums_size, List.length_map]
theorem count_zero {s : SetD} (h : CanS s) : (((List.range 256).filter (bitS s)).length : Int) = 0 ↔ s = zSet := by
 rw [zero_iff h]
 constructor
 ·intro e b hb
  have e : (List.range 256).filter (bitS s) = [] := List.length_eq_zero_iff.1 (by omega)
  have := List.filter_eq_nil_iff.1 e b (List.mem_range.2 hb)
  simpa using this
 ·intro hh
  rw [List.filter_eq_nil_iff.2 fun b hb => by rw [hh b (List.mem_range.1 hb)]; simp]
  rfl
end Go.Proofs
/-! Chapter 11: what is known of a node's beginning. -/
namespace Go.Proofs
open Go Go.Abs
set_option linter.unusedSimpArgs false
abbrev Fi := FirstsD
def mkF (s : SetD) (e h : Bool) : Fi := (s, e, h, ())
def firstC (s : ByteArray) : Nat := (chr s 0).toNat
noncomputable def nodeF (n : NodeD) (c a b : Fi) (fails : Bool) : Fi :=
 if n.1 = 1 ∨ n.1 = 17 ∨ n.1 = 13 then mkF zSet true false
 else if n.1 = 2 then mkF zSet false true
 else if n.1 = 3 then mkF (mkS fun _ => true) false true
 else if n.1 = 4 then mkF (mkS (spanF (firstC n.2.2.1) (firstC n.2.2.1))) false (pb ((n.2.2.1.size : Int) = 1))
 else if n.1 = 5 then mkF n.2.2.2.1 false true
 else if n.1 = 6 then c
 else if n.1 = 7 then mkF (if a.2.1 = true then unionS a.1 b.1 else a.1) (a.2.1 && b.2.1) (a.2.2.1 && !fails)
 else if n.1 = 8 then mkF (unionS a.1 b.1) (a.2.1 || b.2.1) (a.2.2.1 && b.2.2.1)
 else if n.1 = 9 ∨ n.1 = 11 then mkF a.1 true false
 else if n.1 = 16 then (if n.2.1 = 0 then mkF zSet true false else mkF a.1 true false)
 else if n.1 = 14 then (if n.2.1 = 0 then mkF zSet true false else mkF a.1 a.2.1 (a.2.2.1 && pb (n.2.1 = 1)))
 else if n.1 = 15 then (if n.2.1 = 0 then mkF a.1 true false else mkF a.1 a.2.1 (a.2.2.1 && pb (n.2.1 = 1)))
 else a
theorem nodeF_fails {n : NodeD} (h : n.1 ≠ 7) {c a b : Fi} (f f' : Bool) : nodeF n c a b f = nodeF n c a b f' := by
 unfold nodeF
 simp only [if_neg h]
theorem first_lt (s : ByteArray) : chr s 0 = (firstC s : Int) ∧ firstC s < 256 := by
 obtain ⟨k, h1, h2⟩ := chr_lt s 0
 unfold firstC
 omega
theorem chr_extract (s : ByteArray) (h : 1 ≤ s.size) : chr (s.extract 0 1) 0 = chr s 0 := by
 unfold chr
 congr 2
 have h1 : (s.extract 0 1).data = s.data.extract 0 1 := by simp
 rw [h1]
 have h3 : s.data.size = s.size := rfl
 rw [Array.getD_eq_getD_getElem?, Array.getD_eq_getD_getElem?, Array.getElem?_extract]
 rw [if_pos (by omega)]
theorem hasC_first (s : ByteArray) (h : 1 ≤ s.size) : mkS (hasC (s.extract 0 1) (s.extract 0 1).size) = mkS (spanF (firstC s) (firstC s)) := by
 apply mkS_congr
 intro b _
 have h1 : (s.extract 0 1).size = 1 := by simp; omega
 rw [h1]
 unfold hasC
 simp only [List.range_one, List.any_cons, List.any_nil, Bool.or_false]
 rw [chr_extract s h, (first_lt s).1]
 unfold spanF
 by_cases e : firstC s = b
 ·subst e; simp
 ·rw [show decide (((firstC s : Nat) : Int) = (b : Int)) = false by simp; omega]
  symm
  rw [Bool.and_eq_false_iff]
  simp; omega
theorem not_zero : mkS (fun i => !bitS zSet i) = mkS fun _ => true := mkS_congr fun b _ => by rw [bit_zero]; rfl
theorem span_full : mkS (spanF 0 255) = mkS fun _ => true := mkS_congr fun b hb => by unfold spanF; simp; omega
theorem q_notZ : F_charset_Not (((0 : Int), (0 : Int), (0 : Int), (0 : Int), ()), ()) = some (mkS fun _ => true, ()) := by
 have := q_not can_zero
 rw [not_zero] at this
 exact this
theorem q_full : F_ref01_FromTo ((0 : Int), (255 : Int), ()) = some (mkS fun _ => true, ()) := by
 have := q_FromTo (lo := 0) (hi := 255) (by omega) (by omega)
 rw [span_full] at this
 exact this
theorem q_ext1 {s : ByteArray} (h : 1 ≤ s.size) : F_charset_Of (ByteArray.extract s (0 : Nat) (1 : Nat), ()) = some (mkS (spanF (firstC s) (firstC s)), ()) := by
 have h1 : (s.extract 0 1).size = 1 := by simp; omega
 rw [q_setOf _ (by rw [h1]; omega), hasC_first s h]
theorem q_nodeF {n : NodeD} {a b : Fi} {fails : Bool} {m : List (ByteArray × Fi)} (ho : op23 n.1) (ht : n.1 = 4 → 1 ≤ (n.2.2.1.size : Int) ∧ (n.2.2.1.size : Int) ≤ 255) (ha : CanS a.1) (hb : CanS b.1) :
  F_gist_node_fi (n, a, b, fails, m, ()) = some (nodeF n (Option.getD (mfind eqS m n.2.2.1) zFirsts) a b fails, m, ()) := by
 obtain ⟨a0, ae, ah, _⟩ := a
 obtain ⟨b0, be, bh, _⟩ := b
 unfold F_gist_node_fi
 by_cases h4 : n.1 = 4
 ·obtain ⟨t1, t2⟩ := ht h4
  by_cases h0 : n.2.1 = 0 <;> (simp [toPb, h4, h0, pb_true, pb_false, sel_t, sel_f, bind_t, nodeF, mkF]; rw [need_pos (by omega), q_ext1 (by omega)]; rfl)
 ·have hu := q_union ha hb
  dsimp only at hu
  rcases ho with h | h | h | h | h | h | h | h | h | h | h | h | h | h | h | h | h | h | h | h | h | h | h <;> first | (exact absurd h h4) | (by_cases h0 : n.2.1 = 0 <;> cases ae <;> cases ah <;> simp [toPb, h, h0, pb_true, pb_false, sel_t, sel_f, bind_t, nodeF, mkF, hu, q_notZ, F_gist_Firsts_1])
def kidsF (n : NodeD) (a b : Fi) : List Fi := if arity n.1 = 1 then [a] else if arity n.1 = 2 then [a, b] else []
theorem q_seqF {a b : Fi} {f : Bool} (ha : CanS a.1) (hb : CanS b.1) : F_ref11_seq (a, b, f, ()) = some (mkF (if a.2.1 = true then unionS a.1 b.1 else a.1) (a.2.1 && b.2.1) (a.2.2.1 && !f), ()) := by
 obtain ⟨a0, ae, ah, _⟩ := a
 obtain ⟨b0, be, bh, _⟩ := b
 have hu := q_UnionR ha hb
 dsimp only at hu
 unfold F_ref11_seq
 cases ae <;> cases ah <;> simp [sel_t, sel_f, bind_t, mkF, hu]
theorem fit_chr (s : ByteArray) {R : Type} {k : Option R} : need (Fits Go.IntKind.i64 (chr s 0)) k = k := by
 obtain ⟨h1, h2⟩ := first_lt s
 rw [h1]
 exact need64 (by omega) (by omega)
theorem q_from1 (s : ByteArray) : F_ref01_FromTo (chr s 0, chr s 0, ()) = some (mkS (spanF (firstC s) (firstC s)), ()) := by
 obtain ⟨h1, h2⟩ := first_lt s
 rw [h1]
 exact q_FromTo (by omega) h2
theorem q_rnodeF {g : G} {n : NodeD} {a b : Fi} {fails : Bool} {rules : List Fi} (ho : op23 n.1) (ht : n.1 = 4 → 1 ≤ (n.2.2.1.size : Int) ∧ (n.2.2.1.size : Int) ≤ 255) (ha : CanS a.1) (hb : CanS b.1) (hz : arity n.1 = 0 → a = zFirsts) (hg : g.length < 9223372036854775807) (hl : rules.length = g.length) {q : Nat} (hq : n.1 = 6 → findR g n.2.2.1 = some q) :
  F_ref11_node ((g, ()), n, kidsF n a b, fails, rules, ()) = some (nodeF n (List.getD rules q zFirsts) a b fails, ()) := by
 have ha' := ha
 unfold F_ref11_node
 rcases ho with h | h | h | h | h | h | h | h | h | h | h | h | h | h | h | h | h | h | h | h | h | h | h
 case inr.inr.inr.inl =>
  have hz := hz (by rw [h]; rfl)
  subst hz
  obtain ⟨t1, t2⟩ := ht h
  simp only [kidsF, toPb, h, show arity 4 = 0 from rfl]
  simp [pb_true, pb_false, sel_t, sel_f, bind_t, nodeF, h, mkF]
  rw [need_pos (by omega), fit_chr, need_pos (by omega), fit_chr, q_from1]
  rfl
 case inr.inr.inr.inr.inr.inl =>
  have e := hq h
  have hlt := (findR_at e).1
  have e2 : numR g n.2.2.1 = (q : Int) := by unfold numR; rw [e]
  have hz := hz (by rw [h]; rfl)
  subst hz
  simp only [kidsF, toPb, h, show arity 6 = 0 from rfl]
  simp [pb_true, pb_false, sel_t, sel_f, bind_t, nodeF, h, q_FindR g _ hg, e2]
  rw [need_pos (by omega)]
 case inr.inr.inr.inr.inr.inr.inl =>
  simp only [kidsF, toPb, h, show arity 7 = 2 from rfl]
  simp [pb_true, pb_false, sel_t, sel_f, bind_t, nodeF, h, need_pos, q_seqF ha hb]
 case inr.inr.inr.inr.inr.inr.inr.inl =>
  obtain ⟨a0, ae, ah, _⟩ := a
  obtain ⟨b0, be, bh, _⟩ := b
  have hu := q_UnionR ha hb
  dsimp only at hu
  simp only [kidsF, toPb, h, show arity 8 = 2 from rfl]
  cases ae <;> cases ah <;> simp [pb_true, pb_false, sel_t, sel_f, bind_t, nodeF, h, need_pos, hu, mkF]
 all_goals first
  | (have hz := hz (by rw [h]; rfl); subst hz; simp only [kidsF, toPb, h]; simp [arity, pb_true, pb_false, sel_t, sel_f, bind_t, nodeF, h, mkF, q_full]; done)
  | (obtain ⟨a0, ae, ah, _⟩ := a; by_cases h0 : n.2.1 = 0 <;> cases ah <;> (simp only [kidsF, toPb, h]; simp [arity, pb_true, pb_false, sel_t, sel_f, bind_t, nodeF, h, h0, mkF, need_pos]; done))
end Go.Proofs
/-! Chapter 11: what is known of the beginnings of a pattern's parts. -/
namespace Go.Proofs
open Go Go.Abs
set_option linter.unusedSimpArgs false
theorem arity_cases {p : List NodeD} (hp : (chkP p).2 = 0) {k : Nat} (hk : k < p.length) : arity (nth p k).1 = 0 ∨ arity (nth p k).1 = 1 ∨ arity (nth p k).1 = 2 := by
 have h1 := (node_ok (look_of hp hk)).1
 have h2 := arity_le (nth p k).1
 omega
theorem gen_ind2 {β γ : Type} {z : β} {z' : γ} {f : NodeD → β → β → β} {f' : NodeD → γ → γ → γ} {p : List NodeD} (hp : (chkP p).2 = 0) (I : β → γ → Prop) (h0 : I z z') (h : ∀ k, k < p.length → ∀ a b a' b', I a a' → I b b' → I (f (nth p k) a b) (f' (nth p k) a' b')) : ∀ k, k < p.length → I (valOf z f p k) (valOf z' f' p k) := by
 intro k
 induction k using Nat.strongRecOn with
 | _ k ih =>
   intro hk
   rw [valOf_is z f p k, valOf_is z' f' p k]
   rcases arity_cases hp hk with h1 | h1 | h1
   ·refine h k hk _ _ _ _ ?_ ?_
    ·rw [(kid_zero _ _ h1 _).1, (kid_zero _ _ h1 _).1]; exact h0
    ·rw [(kid_zero _ _ h1 _).2, (kid_zero _ _ h1 _).2]; exact h0
   ·obtain ⟨m1, _⟩ := (ends_kids hp hk).2.1 h1
    refine h k hk _ _ _ _ ?_ ?_
    ·rw [kidA_one _ _ _ h1 m1, kidA_one _ _ _ h1 m1]
     exact ih _ (by omega) (by omega)
    ·unfold kidB
     rw [if_neg (by omega), if_neg (by omega)]
     exact h0
   ·obtain ⟨m1, m2, m3, _⟩ := (ends_kids hp hk).2.2 h1
    refine h k hk _ _ _ _ ?_ ?_
    ·rw [kidA_two _ _ _ h1 m2 m3, kidA_two _ _ _ h1 m2 m3]
     exact ih _ (by omega) (by omega)
    ·rw [kidB_two _ _ _ h1 m1, kidB_two _ _ _ h1 m1]
     exact ih _ (by omega) (by omega)
theorem gen_ind {β : Type} {z : β} {f : NodeD → β → β → β} {p : List NodeD} (hp : (chkP p).2 = 0) (I : β → Prop) (h0 : I z) (h : ∀ k, k < p.length → ∀ a b, I a → I b → I (f (nth p k) a b)) : ∀ k, k < p.length → I (valOf z f p k) :=
 gen_ind2 (z' := ()) (f' := fun _ _ _ => ()) hp (fun a _ => I a) h0 (fun k hk a b _ _ ha hb => h k hk a b ha hb)
theorem kidA_is {β : Type} (z : β) (f : NodeD → β → β → β) {p : List NodeD} (hp : (chkP p).2 = 0) {k : Nat} (hk : k < p.length) : kidA z p k (valsOf z f p k) = if arity (nth p k).1 = 1 then valOf z f p (k - 1) else if arity (nth p k).1 = 2 then valOf z f p (beginP p ((k : Int) - 1) - 1).toNat else z := by
 rcases arity_cases hp hk with h | h | h
 ·rw [(kid_zero _ _ h _).1, if_neg (by omega), if_neg (by omega)]
 ·rw [kidA_one _ _ _ h ((ends_kids hp hk).2.1 h).1, if_pos h]
 ·obtain ⟨m1, m2, m3, _⟩ := (ends_kids hp hk).2.2 h
  rw [kidA_two _ _ _ h m2 m3, if_neg (by omega), if_pos h]
abbrev PE := Em × Fi
abbrev zP : PE := (zEmptiness, zFirsts)
noncomputable def nodeP (cE : NodeD → Em) (cF : NodeD → Fi) (n : NodeD) (x y : PE) : PE := (nodeE n (cE n) x.1 y.1, nodeF n (cF n) x.2 y.2 y.1.2.1)
noncomputable abbrev valsP (cE : NodeD → Em) (cF : NodeD → Fi) (p : List NodeD) (k : Nat) : List PE := valsOf zP (nodeP cE cF) p k
noncomputable abbrev valP (cE : NodeD → Em) (cF : NodeD → Fi) (p : List NodeD) (k : Nat) : PE := valOf zP (nodeP cE cF) p k
section
variable {cE : NodeD → Em} {cF : NodeD → Fi} {p : List NodeD}
theorem valP_fst (hp : (chkP p).2 = 0) : ∀ k, k < p.length → (valP cE cF p k).1 = val9 cE p k :=
 gen_ind2 hp (fun (a : PE) (b : Em) => a.1 = b) rfl fun k _ a b a' b' ha hb => by subst ha hb; rfl
noncomputable def valF (cE : NodeD → Em) (cF : NodeD → Fi) (p : List NodeD) (k : Nat) : Fi := (valP cE cF p k).2
noncomputable def valsF (cE : NodeD → Em) (cF : NodeD → Fi) (p : List NodeD) (k : Nat) : List Fi := genR k (valF cE cF p)
theorem valsF_len {k : Nat} : (valsF cE cF p k).length = k := genR_len
theorem valsF_at {k i : Nat} (h : i < k) : List.getD (valsF cE cF p k) i zFirsts = valF cE cF p i := genR_get h
noncomputable def leftF (cE : NodeD → Em) (cF : NodeD → Fi) (p : List NodeD) (k : Nat) : Fi := if arity (nth p k).1 = 1 then valF cE cF p (k - 1) else if arity (nth p k).1 = 2 then valF cE cF p (beginP p ((k : Int) - 1) - 1).toNat else zFirsts
noncomputable def rightF (cE : NodeD → Em) (cF : NodeD → Fi) (p : List NodeD) (k : Nat) : Fi := if arity (nth p k).1 = 2 then valF cE cF p (k - 1) else zFirsts
theorem valF_is (hp : (chkP p).2 = 0) {k : Nat} (hk : k < p.length) {f : Bool} (hf : arity (nth p k).1 = 2 → f = (val9 cE p (k - 1)).2.1) : valF cE cF p k = nodeF (nth p k) (cF (nth p k)) (leftF cE cF p k) (rightF cE cF p k) f := by
 unfold valF
 rw [show valP cE cF p k = _ from valOf_is _ _ _ _]
 show nodeF _ _ (kidA zP p k (valsP cE cF p k)).2 (kidB zP p k (valsP cE cF p k)).2 (kidB zP p k (valsP cE cF p k)).1.2.1 = _
 have e1 : (kidA zP p k (valsP cE cF p k)).2 = leftF cE cF p k := by
  rw [kidA_is _ _ hp hk]
  unfold leftF
  split
  ·rfl
  ·split <;> rfl
 have e2 : (kidB zP p k (valsP cE cF p k)).2 = rightF cE cF p k := by
  unfold rightF
  rcases arity_cases hp hk with h | h | h
  ·rw [(kid_zero _ _ h _).2, if_neg (by omega)]
  ·rw [if_neg (by omega)]
   unfold kidB
   rw [if_neg (by omega)]
  ·rw [kidB_two _ _ _ h ((ends_kids hp hk).2.2 h).1, if_pos h]
   rfl
 rw [e1, e2]
 by_cases h7 : (nth p k).1 = 7
 ·have h : arity (nth p k).1 = 2 := by rw [h7]; rfl
  have h1 := ((ends_kids hp hk).2.2 h).1
  rw [hf h, kidB_two _ _ _ h h1, valP_fst hp _ (by omega)]
 ·exact nodeF_fails h7 _ _
/-! ### Sets are sets -/
theorem can_node {n : NodeD} {c a b : Fi} {f : Bool} (hn : CanS n.2.2.2.1) (hc : CanS c.1) (ha : CanS a.1) (hb : CanS b.1) : CanS (nodeF n c a b f).1 := by
 have h7 : CanS (if a.2.1 = true then unionS a.1 b.1 else a.1) := by
  split
  ·exact can_mk _
  ·exact ha
 generalize hu : (if a.2.1 = true then unionS a.1 b.1 else a.1) = u at h7
 unfold nodeF
 rw [hu]
 by_cases g0 : n.1 = 1 ∨ n.1 = 17 ∨ n.1 = 13
 ·rw [if_pos g0]; exact can_zero
 rw [if_neg g0]
 by_cases g1 : n.1 = 2
 ·rw [if_pos g1]; exact can_zero
 rw [if_neg g1]
 by_cases g2 : n.1 = 3
 ·rw [if_pos g2]; exact can_mk _
 rw [if_neg g2]
 by_cases g3 : n.1 = 4
 ·rw [if_pos g3]; exact can_mk _
 rw [if_neg g3]
 by_cases g4 : n.1 = 5
 ·rw [if_pos g4]; exact hn
 rw [if_neg g4]
 by_cases g5 : n.1 = 6
 ·rw [if_pos g5]; exact hc
 rw [if_neg g5]
 by_cases g6 : n.1 = 7
 ·rw [if_pos g6]; exact h7
 rw [if_neg g6]
 by_cases g7 : n.1 = 8
 ·rw [if_pos g7]; exact can_mk _
 rw [if_neg g7]
 by_cases g8 : n.1 = 9 ∨ n.1 = 11
 ·rw [if_pos g8]; exact ha
 rw [if_neg g8]
 by_cases e1 : n.1 = 16
 ·rw [if_pos e1]
  by_cases h0 : n.2.1 = 0
  ·rw [if_pos h0]; exact can_zero
  ·rw [if_neg h0]; exact ha
 rw [if_neg e1]
 by_cases e2 : n.1 = 14
 ·rw [if_pos e2]
  by_cases h0 : n.2.1 = 0
  ·rw [if_pos h0]; exact can_zero
  ·rw [if_neg h0]; exact ha
 rw [if_neg e2]
 by_cases e3 : n.1 = 15
 ·rw [if_pos e3]
  by_cases h0 : n.2.1 = 0
  ·rw [if_pos h0]; exact ha
  ·rw [if_neg h0]; exact ha
 rw [if_neg e3]
 exact ha
def CanP (p : List NodeD) : Prop := ∀ n, n ∈ p → CanS n.2.2.2.1
theorem can_nth {p : List NodeD} (h : CanP p) {k : Nat} (hk : k < p.length) : CanS (nth p k).2.2.2.1 := by
 refine h _ ?_
 rw [show nth p k = List.getD p k zNode by simp [nth]]
 exact getD_in hk
theorem can_val (hp : (chkP p).2 = 0) (hc : CanP p) (hF : ∀ k, k < p.length → CanS (cF (nth p k)).1) : ∀ k, k < p.length → CanS (valF cE cF p k).1 :=
 gen_ind hp (fun x : PE => CanS x.2.1) can_zero fun k hk a b ha hb => can_node (can_nth hc hk) (hF k hk) ha hb
theorem can_left (hp : (chkP p).2 = 0) (hc : CanP p) (hF : ∀ k, k < p.length → CanS (cF (nth p k)).1) {k : Nat} (hk : k < p.length) : CanS (leftF cE cF p k).1 := by
 unfold leftF
 split
 ·exact can_val hp hc hF _ (by omega)
 ·split
  ·rename_i h
   obtain ⟨m1, m2, m3, _⟩ := (ends_kids hp hk).2.2 h
   exact can_val hp hc hF _ (by omega)
  ·exact can_zero
theorem can_right (hp : (chkP p).2 = 0) (hc : CanP p) (hF : ∀ k, k < p.length → CanS (cF (nth p k)).1) {k : Nat} (hk : k < p.length) : CanS (rightF cE cF p k).1 := by
 unfold rightF
 split
 ·exact can_val hp hc hF _ (by omega)
 ·exact can_zero
end
/-! ### The last nodes of parts -/
theorem ends_parts {p : List NodeD} (hp : (chkP p).2 = 0) {k : Nat} (hk : k < p.length) : ∃ B Q : List Nat, endsI p k = B ++ Q ∧ endsI p (k + 1) = B ++ [k] ∧ castL Q = partsP p (k : Int) ∧ (Q.length : Int) = arity (nth p k).1 := by
 obtain ⟨h0, h1, h2⟩ := ends_kids hp hk
 refine ⟨endsI p (beginP p (k : Int)).toNat, ?_⟩
 rw [ends_succ hp hk]
 unfold partsP
 rcases arity_cases hp hk with h | h | h
 ·refine ⟨[], ?_, rfl, ?_, by rw [h]; rfl⟩
  ·rw [h0 h, Int.toNat_natCast, List.append_nil]
  ·rw [if_neg (by omega), if_neg (by omega)]; rfl
 ·obtain ⟨m1, m2⟩ := h1 h
  refine ⟨[k - 1], m2, rfl, ?_, by rw [h]; rfl⟩
  rw [if_pos h]
  simp [castL]; omega
 ·obtain ⟨m1, m2, m3, m4⟩ := h2 h
  refine ⟨_, m4, rfl, ?_, by rw [h]; rfl⟩
  rw [if_neg (by omega), if_pos h]
  simp [castL]; omega
theorem castL_app (a b : List Nat) : castL (a ++ b) = castL a ++ castL b := List.map_append
theorem q_gKids {p : List NodeD} (hp : (chkP p).2 = 0) : F_gist_Kids (p, ()) = some (genR p.length (fun k => partsP p (k : Int)), ()) := by
 obtain ⟨hlen, _⟩ := chk_len hp
 unfold F_gist_Kids
 simp only [toPb]
 refine loop_up (σ := (Int × Unit) × List Int × List (List Int) × Unit) p.length (fun k => (((k : Int), ()), castL (endsI p k), genR k (fun k => partsP p (k : Int)), ())) ?_ (fun k hk => ?_) ?_
 ·rw [ends_zero]; rfl
 ·obtain ⟨B, Q, e1, e2, e3, e4⟩ := ends_parts hp hk
  have hl := ends_len hp (show k ≤ p.length by omega)
  have hnth : List.getD p k zNode = nth p (k : Int) := by simp [nth]
  have hBl : (castL B).length = B.length := castL_len B
  have hQl : (castL Q).length = Q.length := castL_len Q
  rw [e1, List.length_append] at hl
  dsimp only
  simp only [Int.toNat_natCast, hnth, Nat.zero_add]
  rw [e2, e1, castL_app, castL_app]
  have h1 : ((castL B ++ castL Q).length : Int) - arity (nth p k).1 = (B.length : Int) := by rw [List.length_append, hBl, hQl]; omega
  have hL : (castL B ++ castL Q).length = B.length + Q.length := by rw [List.length_append, hBl, hQl]
  have d1 : List.drop B.length (castL B ++ castL Q) = castL Q := by rw [← hBl]; exact List.drop_left
  have t1 : List.take B.length (castL B ++ castL Q) = castL B := by rw [← hBl]; exact List.take_left
  rw [pos (by omega), need_pos (by omega), q_arity, bind_t]
  dsimp only
  rw [h1, hL]
  simp only [Int.toNat_natCast, d1, t1, genR_len]
  rw [need64 (by omega) (by omega), need_pos (by omega), need_pos ⟨by omega, by rw [List.length_take]; omega⟩, need_pos (by omega), need_pos (by omega), need_pos (by omega), need64 (by omega) (by omega), cast_succ, List.nil_append, List.take_of_length_le (by omega), e3, genR_succ]
  rfl
 ·dsimp only
  rw [neg (by omega)]
theorem gone_lt {α : Type} {p : List α} {f : Nat → α} {i j : Nat} {d : α} (h : j < i) : List.getD (gone p f i) j d = f j := by
 unfold gone
 rw [List.getD_eq_getElem?_getD, List.getElem?_append_left (by rw [genR_len]; exact h), ← List.getD_eq_getElem?_getD, genR_get h]
theorem q_begF {p : List NodeD} (hp : (chkP p).2 = 0) (hc : CanP p) {cE : NodeD → Em} {cF : NodeD → Fi} {m : List (ByteArray × Fi)} (hm : ∀ k, k < p.length → (nth p k).1 = 6 → Option.getD (mfind eqS m (nth p k).2.2.1) zFirsts = cF (nth p k)) (hF : ∀ k, k < p.length → CanS (cF (nth p k)).1) :
  F_gist_Beginnings_fi (p, vals9 cE p p.length, m, ()) = some (valsF cE cF p p.length, m, ()) := by
 obtain ⟨hlen, _⟩ := chk_len hp
 have hl9 : (vals9 cE p p.length).length = p.length := valsOf_len _ _ _ _
 unfold F_gist_Beginnings_fi
 simp only [toPb]
 rw [q_gKids hp, bind_t]
 dsimp only
 rw [need_pos (by omega)]
 have hR : (List.replicate p.length zFirsts).length = p.length := List.length_replicate
 refine loop_up (σ := (Int × Unit) × List FirstsD × List (List Int) × List (ByteArray × FirstsD) × Unit) p.length (fun i => (((i : Int), ()), gone (List.replicate p.length zFirsts) (valF cE cF p) i, genR p.length (fun k => partsP p (k : Int)), m, ())) ?_ (fun i hi => ?_) ?_
 ·rw [Int.toNat_natCast]; rfl
 ·have hG : (gone (List.replicate p.length zFirsts) (valF cE cF p) i).length = p.length := by rw [gone_len (by omega), hR]
  have hnth : List.getD p i zNode = nth p (i : Int) := by simp [nth]
  have hK : List.getD (genR p.length (fun k => partsP p (k : Int))) i [] = partsP p (i : Int) := genR_get hi
  dsimp only
  simp only [Int.toNat_natCast, Nat.zero_add, hK, hnth, genR_len, hG]
  rw [pos (by omega), need_pos (by omega), need_pos (by omega), need_pos (by omega)]
  have hset := gone_set (p := List.replicate p.length zFirsts) (f := valF cE cF p) (i := i) (by omega)
  have hno := nodeOk_of hp hi
  have fin : ∀ (b a : Fi) (f : Bool), valF cE cF p i = nodeF (nth p i) (cF (nth p i)) a b f → CanS a.1 → CanS b.1 →
    Option.bind (F_gist_node_fi (nth p i, a, b, f, m, ())) (fun (y1 : FirstsD × List (ByteArray × FirstsD) × Unit) => need ((0 : Int) ≤ (i : Int) ∧ (i : Int) < (p.length : Int)) (need (i < p.length) (need (Fits Go.IntKind.i64 ((i : Int) + (1 : Int))) (some (Sum.inl ((((i : Int) + (1 : Int), ()), List.set (gone (List.replicate p.length zFirsts) (valF cE cF p) i) i y1.1, genR p.length (fun k => partsP p (k : Int)), y1.2.1, ()) : (Int × Unit) × List FirstsD × List (List Int) × List (ByteArray × FirstsD) × Unit) : _ ⊕ (List FirstsD × List (ByteArray × FirstsD) × Unit)))))) =
     some (Sum.inl ((((i + 1 : Nat) : Int), ()), gone (List.replicate p.length zFirsts) (valF cE cF p) (i + 1), genR p.length (fun k => partsP p (k : Int)), m, ())) := by
   intro b a f hv ha hb
   rw [q_nodeF hno.op hno.txt ha hb, bind_t]
   dsimp only
   have e : nodeF (nth p i) (Option.getD (mfind eqS m (nth p i).2.2.1) zFirsts) a b f = valF cE cF p i := by
    rw [hv]
    by_cases h6 : (nth p i).1 = 6
    ·rw [hm i hi h6]
    ·unfold nodeF
     simp only [if_neg h6]
   rw [need_pos (by omega), need_pos hi, need64 (by omega) (by omega), cast_succ, ← hset, e]
  have hL : leftF cE cF p i = leftF cE cF p i := rfl
  rcases arity_cases hp hi with h | h | h
  ·have e : partsP p (i : Int) = [] := by unfold partsP; rw [if_neg (by omega), if_neg (by omega)]
   rw [e, neg (by simp), neg (by simp), bind_t, bind_t]
   dsimp only
   simp only [hG]
   exact fin zFirsts zFirsts false (by rw [valF_is hp hi (f := false) (fun h2 => by omega)]; unfold leftF rightF; rw [if_neg (by omega), if_neg (by omega), if_neg (by omega)]) can_zero can_zero
  ·have e : partsP p (i : Int) = [(i : Int) - 1] := by unfold partsP; rw [if_pos h]
   obtain ⟨m1, _⟩ := (ends_kids hp hi).2.1 h
   have e1 : Int.toNat ((i : Int) - 1) = i - 1 := by omega
   have g1 : List.getD (gone (List.replicate p.length zFirsts) (valF cE cF p) i) (i - 1) zFirsts = valF cE cF p (i - 1) := gone_lt (by omega)
   rw [e, neg (by simp), pos (by simp), bind_t]
   dsimp only
   simp only [List.getD_cons_zero, e1, hG, g1]
   rw [need_pos (by simp), need_pos (by omega), need_pos (by omega), bind_t]
   dsimp only
   simp only [hG]
   refine fin zFirsts (valF cE cF p (i - 1)) false ?_ (can_val hp hc hF _ (by omega)) can_zero
   rw [valF_is hp hi (f := false) (fun h2 => by omega)]
   unfold leftF rightF
   rw [if_pos h, if_neg (by omega)]
  ·obtain ⟨m1, m2, m3, _⟩ := (ends_kids hp hi).2.2 h
   have e : partsP p (i : Int) = [beginP p ((i : Int) - 1) - 1, (i : Int) - 1] := by unfold partsP; rw [if_neg (by omega), if_pos h]
   obtain ⟨x, hx⟩ : ∃ x : Nat, beginP p ((i : Int) - 1) - 1 = (x : Int) := ⟨(beginP p ((i : Int) - 1) - 1).toNat, by omega⟩
   have e1 : Int.toNat ((i : Int) - 1) = i - 1 := by omega
   have g1 : List.getD (gone (List.replicate p.length zFirsts) (valF cE cF p) i) (i - 1) zFirsts = valF cE cF p (i - 1) := gone_lt (by omega)
   have g2 : List.getD (gone (List.replicate p.length zFirsts) (valF cE cF p) i) x zFirsts = valF cE cF p x := gone_lt (by omega)
   have g3 : List.getD (vals9 cE p p.length) (i - 1) zEmptiness = val9 cE p (i - 1) := valsOf_at _ _ _ (by omega)
   rw [e, hx, pos (by simp), need_pos (by simp)]
   simp only [List.getD_cons_zero, List.getD_cons_succ, e1, hG, g1, hl9, g3]
   rw [need_pos (by omega), need_pos (by omega), need_pos (by simp), need_pos (by omega), bind_t]
   dsimp only
   simp only [List.getD_cons_zero, Int.toNat_natCast, hG, g2]
   rw [need_pos (by simp), need_pos (by omega), need_pos (by omega), bind_t]
   dsimp only
   simp only [hG]
   refine fin (valF cE cF p (i - 1)) (valF cE cF p x) (val9 cE p (i - 1)).2.1 ?_ (can_val hp hc hF _ (by omega)) (can_val hp hc hF _ (by omega))
   rw [valF_is hp hi (f := (val9 cE p (i - 1)).2.1) (fun _ => rfl)]
   unfold leftF rightF
   rw [if_neg (by omega), if_pos h, if_pos h, hx]
   rfl
 ·dsimp only
  rw [neg (by omega), gone_same]
  rfl
end Go.Proofs
