/- Part of the proof of the law's row: YtaghpbhnclclaaaDoorWq20e. -/
import Derived.Test.YtaghpbhnclclaaaDoorWpC20
import Derived.Test.YtaghpbhnclclaaaDoorWq18o
import Derived.Test.YtaghpbhnclclaaaDoorWqKit2
set_option linter.all false
set_option linter.unusedVariables false
set_option linter.unusedSimpArgs false
/-! Chapter 20: calls ahead of returns. -/
namespace Go.Proofs
open Go Go.Abs
theorem q_pgoes (op : Int) : F_peep_goes (op, ()) = some (goesB op, ()) := q_goes op
theorem q_cloneI (p : List InstrD) (h : p.length * 80 ≤ 140737488355328) : F_slices_Clone_Instr_Instr (p, ()) = some (p, ()) := by
  unfold F_slices_Clone_Instr_Instr
  refine nilK_same ?_ ?_
  · rw [sel_f]
    dsimp only
    rw [need_pos (by omega)]; rfl
  · intro h0
    have h0 : p.length = 0 := h0
    obtain rfl := List.eq_nil_of_length_eq_zero h0
    rfl
/-- What is known of right code. -/
structure OkP (p : List InstrD) : Prop where
  len : p.length ≤ 8192
  pos : 0 < p.length
  is_ : ∀ i, i < p.length → isB (ith p i).1 = true
  fits : ∀ i, i < p.length → fitsB (ith p i) = true
  aim : ∀ i, i < p.length → goesB (ith p i).1 = true → 0 ≤ (i : Int) + (ith p i).2.1 ∧ (i : Int) + (ith p i).2.1 < (p.length : Int)
  last : onB (ith p (p.length - 1)).1 = false
theorem okP {p : List InstrD} (h : (checkI p).2 = 0) : OkP p := by
  obtain ⟨h1, h2, h3⟩ := check_right h
  refine ⟨h1, h2, fun i hi => (h3 i hi).1, fun i hi => (h3 i hi).2.1, fun i hi => (h3 i hi).2.2, ?_⟩
  unfold checkI at h
  rw [if_neg (by omega), if_neg (by omega)] at h
  cases hc : ckG (p.length : Int) p 0 with
  | some r => rw [hc] at h; exact absurd h (ckG_bad hc)
  | none =>
    rw [hc] at h
    simp only at h
    split at h
    · cases h
    · rename_i h4; simpa using h4
theorem ckG_none {N : Int} : ∀ {p : List InstrD} {k : Int}, (∀ i, i < p.length → isB (ith p i).1 = true ∧ fitsB (ith p i) = true ∧ (goesB (ith p i).1 = true → 0 - (k + (i : Int)) ≤ (ith p i).2.1 ∧ (ith p i).2.1 < N - (k + (i : Int)))) → ckG N p k = none
  | [], _, _ => rfl
  | x :: r, k, h => by
    obtain ⟨a, b, c⟩ := h 0 (by simp)
    have a : isB x.1 = true := a
    have b : fitsB x = true := b
    rw [ckG, a, b, if_neg (by simp), if_neg (by simp), if_neg]
    · refine ckG_none fun i hi => ?_
      obtain ⟨a, b, c⟩ := h (i + 1) (by simp; omega)
      refine ⟨a, b, fun hg => ?_⟩
      have c : 0 - (k + ((i + 1 : Nat) : Int)) ≤ (ith r i).2.1 ∧ (ith r i).2.1 < N - (k + ((i + 1 : Nat) : Int)) := c hg
      omega
    · intro hh
      rw [Bool.and_eq_true, Bool.or_eq_true, decide_eq_true_eq, decide_eq_true_eq] at hh
      have c : 0 - (k + ((0 : Nat) : Int)) ≤ x.2.1 ∧ x.2.1 < N - (k + ((0 : Nat) : Int)) := c hh.1
      omega
theorem okP_check {p : List InstrD} (h : OkP p) : (checkI p).2 = 0 := by
  unfold checkI
  have h1 := h.len
  have h2 := h.pos
  rw [if_neg (by omega), if_neg (by omega), ckG_none fun i hi => ⟨h.is_ i hi, h.fits i hi, fun hg => by have := h.aim i hi hg; omega⟩]
  simp only
  rw [h.last]
  rfl
theorem on_call : onB 15 = true := by decide
theorem call_next {p : List InstrD} (h : OkP p) {i : Nat} (hi : i < p.length) (ho : onB (ith p i).1 = true) : i + 1 < p.length := by
  rcases Nat.lt_or_ge (i + 1) p.length with h1 | h1
  · exact h1
  · exfalso
    have := h.last
    rw [show p.length - 1 = i by omega, ho] at this
    cases this
/-! ### Tails -/
def tailC (p : List InstrD) (i : Nat) : Prop := (ith p i).1 = 15 ∧ (ith p (i + 1)).1 = 16
instance (p : List InstrD) (i : Nat) : Decidable (tailC p i) := by unfold tailC; infer_instance
def tailX (p : List InstrD) (i : Nat) : InstrD := if tailC p i then (14, (ith p i).2) else ith p i
def tailsL (p : List InstrD) : List InstrD := genR p.length (tailX p)
theorem q_tailsP {p : List InstrD} (h : OkP p) : F_peep_tails (p, ()) = some (tailsL p, ()) := by
  have hlen := h.len
  unfold F_peep_tails
  simp only [toPb]
  rw [q_cloneI p (by omega), bind_t]
  refine loop_up p.length (fun i => (((i : Int), ()), gone p (tailX p) i, ())) rfl (fun i hi => ?_) ?_
  · dsimp only
    rw [pos (by omega), need_pos ⟨by omega, by omega⟩]
    simp only [Int.toNat_natCast, getD_ith]
    have hul := gone_len (f := tailX p) (Nat.le_of_lt hi)
    have e1 : (sel (pb ((ith p i).1 = 15)) (need (Fits IntKind.i64 ((i : Int) + 1)) (need (0 ≤ (i : Int) + 1 ∧ (i : Int) + 1 < (p.length : Int)) (some (pb ((ith p (Int.toNat ((i : Int) + 1))).1 = 16))))) (some false)) = some (pb (tailC p i)) := by
      by_cases h15 : (ith p i).1 = 15
      · have hn := call_next h hi (by rw [h15]; exact on_call)
        rw [pos h15, need64 (by omega) (by omega), need_pos ⟨by omega, by omega⟩, show Int.toNat ((i : Int) + 1) = i + 1 by omega]
        congr 1
        rw [Bool.eq_iff_iff, pb_iff, pb_iff]
        exact ⟨fun h => ⟨h15, h⟩, fun h => h.2⟩
      · rw [neg h15, pb_f (fun h => h15 h.1)]
    rw [e1, bind_t, Nat.zero_add]
    by_cases hc : tailC p i
    · rw [pos hc, need_pos ⟨by omega, by omega⟩, need_pos (by omega), need64 (by omega) (by omega)]
      have e2 : ith (gone p (tailX p) i) i = ith p i := gone_at
      have e3 : tailX p i = (14, (ith p i).2) := by unfold tailX; rw [if_pos hc]
      rw [e2, ← e3, gone_set hi]
      rfl
    · rw [neg hc, need64 (by omega) (by omega), gone_keep (f := tailX p) (d := zInstr) hi (by unfold tailX; rw [if_neg hc]; rfl)]
      rfl
  · dsimp only
    rw [neg (by omega), gone_all]
    rfl
end Go.Proofs

/-! Chapter 20: ends of jumps. -/
namespace Go.Proofs
open Go Go.Abs
/-- The end of the jump from a place. -/
def endF (p : List InstrD) : Nat → Nat → Option Nat
  | 0, a => if (ith p a).1 = 14 then none else some a
  | f + 1, a => if (ith p a).1 = 14 then endF p f (aimP p a) else some a
def endO (o : Option Nat) : Int × Bool × Unit := match o with
  | some t => ((t : Int), true, ())
  | none => (0, false, ())
theorem goes_jump : goesB 14 = true := by decide
theorem aim_lt {p : List InstrD} (h : OkP p) {i : Nat} (hi : i < p.length) (hg : goesB (ith p i).1 = true) : aimP p i < p.length ∧ ((aimP p i : Nat) : Int) = (i : Int) + (ith p i).2.1 := by
  have := h.aim i hi hg
  unfold aimP
  omega
theorem end_lt {p : List InstrD} (h : OkP p) : ∀ {f a t}, a < p.length → endF p f a = some t → t < p.length ∧ (ith p t).1 ≠ 14
  | 0, a, t, ha, e => by
    unfold endF at e
    split at e
    · cases e
    · rename_i h1
      cases e
      exact ⟨ha, h1⟩
  | f + 1, a, t, ha, e => by
    unfold endF at e
    split at e
    · rename_i h1
      exact end_lt h (aim_lt h ha (by rw [h1]; exact goes_jump)).1 e
    · rename_i h1
      cases e
      exact ⟨ha, h1⟩
theorem q_endP {p : List InstrD} (h : OkP p) {i : Nat} (hi : i < p.length) (hg : goesB (ith p i).1 = true) : F_peep_end (p, (i : Int), ()) = some (endO (endF p (p.length + 1) (aimP p i))) := by
  have hlen := h.len
  have haim := h.aim i hi hg
  obtain ⟨ha, he⟩ := aim_lt h hi hg
  unfold F_peep_end
  simp only [toPb]
  simp only [Int.toNat_natCast, getD_ith]
  rw [need_pos ⟨by omega, by omega⟩, need64 (by omega) (by omega), ← he]
  refine loopC_gh (γ := Nat × Nat) (I := fun g s => g.1 ≤ p.length + 1 ∧ g.2 < p.length ∧ s = ((((p.length + 1 - g.1 : Nat) : Int), (g.2 : Int), ()), ())) (μ := fun g => g.1) (F := fun g => endO (endF p g.1 g.2)) ?_ (p.length + 1, aimP p i) _ ⟨Nat.le_refl _, ha, by simp⟩
  rintro ⟨f, a⟩ s ⟨hf, ha, rfl⟩
  dsimp only at hf ha ⊢
  rw [need_pos ⟨by omega, by omega⟩]
  simp only [Int.toNat_natCast, getD_ith]
  by_cases h14 : (ith p a).1 = 14
  · rw [pos h14]
    have hj := h.aim a ha (by rw [h14]; exact goes_jump)
    obtain ⟨g1, g2⟩ := aim_lt h ha (by rw [h14]; exact goes_jump)
    cases f with
    | zero =>
      right
      rw [pos (by omega)]
      unfold endF
      rw [if_pos h14]
      rfl
    | succ f =>
      left
      rw [neg (by omega), need_pos ⟨by omega, by omega⟩, need64 (by omega) (by omega), need64 (by omega) (by omega), ← g2]
      refine ⟨(f, aimP p a), _, rfl, ⟨by dsimp only; omega, g1, ?_⟩, by dsimp only; omega, ?_⟩
      · dsimp only
        rw [show ((p.length + 1 - (f + 1) : Nat) : Int) + 1 = ((p.length + 1 - f : Nat) : Int) by omega]
      · dsimp only
        rw [endF, if_pos h14]
  · rw [neg h14]
    right
    have : endF p f a = some a := by cases f <;> (unfold endF; rw [if_neg h14])
    rw [this]
    rfl
/-! ### Threads -/
def stopB (op : Int) : Prop := op = 16 ∨ op = 17 ∨ op = 13 ∨ op = 12
instance (op : Int) : Decidable (stopB op) := by unfold stopB; infer_instance
def bareI (op : Int) : InstrD := (op, (0 : Int), (0 : Int), (0 : Int), zStr, ((0 : Int), (0 : Int), (0 : Int), (0 : Int), ()), ())
theorem stop_bare {x : InstrD} (hf : fitsB x = true) (hs : stopB x.1) : x = bareI x.1 := by
  unfold fitsB at hf
  rw [Bool.and_eq_true] at hf
  have e := eqI_iff.1 hf.1
  obtain ⟨op, a, b, n, t, s, ⟨⟩⟩ := x
  rcases hs with h | h | h | h <;> (simp only at h; subst h; exact e.trans (by kernel_rfl))
def thrX (p : List InstrD) (i : Nat) : InstrD := if goesB (ith p i).1 = true then (match endF p (p.length + 1) (aimP p i) with
  | none => ith p i
  | some t => if (ith p i).1 = 14 ∧ stopB (ith p t).1 then bareI (ith p t).1 else ((ith p i).1, (t : Int) - (i : Int), (ith p i).2.2)) else ith p i
def thrL (p : List InstrD) : List InstrD := genR p.length (thrX p)
theorem q_thrP {p : List InstrD} (h : OkP p) : F_peep_threads (p, ()) = some (thrL p, ()) := by
  have hlen := h.len
  unfold F_peep_threads
  simp only [toPb]
  rw [q_cloneI p (by omega), bind_t]
  refine loop_up p.length (fun i => (((i : Int), ()), gone p (thrX p) i, ())) rfl (fun i hi => ?_) ?_
  · dsimp only
    rw [pos (by omega), need_pos ⟨by omega, by omega⟩]
    simp only [Int.toNat_natCast, getD_ith, Nat.zero_add]
    have hul := gone_len (f := thrX p) (Nat.le_of_lt hi)
    have e2 : ith (gone p (thrX p) i) i = ith p i := gone_at
    rw [q_pgoes, bind_t]
    dsimp only
    by_cases hg : goesB (ith p i).1 = true
    · rw [hg, Bool.not_true, sel_f, q_endP h hi hg, bind_t]
      cases he : endF p (p.length + 1) (aimP p i) with
      | none =>
        dsimp only [endO]
        rw [Bool.not_false, sel_t, need64 (by omega) (by omega), gone_keep (f := thrX p) (d := zInstr) hi (by unfold thrX; rw [if_pos hg, he]; rfl)]
        rfl
      | some t =>
        obtain ⟨ht, hn⟩ := end_lt h (aim_lt h hi hg).1 he
        dsimp only [endO]
        rw [Bool.not_true, sel_f, need64 (by omega) (by omega), need_pos ⟨by omega, by omega⟩, need_pos (by omega), need_pos ⟨by omega, by omega⟩, e2, Int.toNat_natCast]
        have hX : thrX p i = if (ith p i).1 = 14 ∧ stopB (ith p t).1 then bareI (ith p t).1 else ((ith p i).1, (t : Int) - (i : Int), (ith p i).2.2) := by
          unfold thrX
          rw [if_pos hg, he]
        have hfin : ∀ (b : Bool), (b = true ↔ stopB (ith p t).1) → sel b (sel (pb ((ith p i).1 = 14)) (need (0 ≤ (t : Int) ∧ (t : Int) < (p.length : Int)) (need (0 ≤ (i : Int) ∧ (i : Int) < ((List.set (gone p (thrX p) i) i ((ith p i).1, (t : Int) - (i : Int), (ith p i).2.2)).length : Int)) (need (i < (List.set (gone p (thrX p) i) i ((ith p i).1, (t : Int) - (i : Int), (ith p i).2.2)).length) (need (Fits IntKind.i64 ((i : Int) + 1)) (some (Sum.inl (((i : Int) + 1, ()), List.set (List.set (gone p (thrX p) i) i ((ith p i).1, (t : Int) - (i : Int), (ith p i).2.2)) i (ith p t), ())))))))
            (need (Fits IntKind.i64 ((i : Int) + 1)) (some (Sum.inl (((i : Int) + 1, ()), List.set (gone p (thrX p) i) i ((ith p i).1, (t : Int) - (i : Int), (ith p i).2.2), ())))))
            (need (Fits IntKind.i64 ((i : Int) + 1)) (some (Sum.inl (((i : Int) + 1, ()), List.set (gone p (thrX p) i) i ((ith p i).1, (t : Int) - (i : Int), (ith p i).2.2), ())))) = (some (Sum.inl ((((i + 1 : Nat) : Int), ()), gone p (thrX p) (i + 1), ())) : Option (((Int × Unit) × List InstrD × Unit) ⊕ (List InstrD × Unit))) := by
          intro b hb
          rw [List.length_set, need64 (by omega) (by omega), need_pos ⟨by omega, by omega⟩, need_pos ⟨by omega, by omega⟩, need_pos (by omega), List.set_set, ← gone_set hi, hX]
          by_cases hs : stopB (ith p t).1
          · rw [hb.2 hs, sel_t]
            by_cases h14 : (ith p i).1 = 14
            · rw [pos h14, if_pos ⟨h14, hs⟩, ← stop_bare (h.fits t ht) hs]
              rfl
            · rw [neg h14, need64 (by omega) (by omega), if_neg (fun hh => h14 hh.1)]
              rfl
          · have : b = false := by
              cases b
              · rfl
              · exact absurd (hb.1 rfl) hs
            rw [this, sel_f, need64 (by omega) (by omega), if_neg (fun hh => hs hh.2)]
            rfl
        by_cases h16 : (ith p t).1 = 16
        · rw [pos h16, bind_t]
          exact hfin _ (by rw [pb_iff]; exact ⟨fun h => .inl h, fun _ => h16⟩)
        rw [neg h16]
        by_cases h17 : (ith p t).1 = 17
        · rw [pos h17, bind_t]
          exact hfin _ (by rw [pb_iff]; exact ⟨fun h => .inr (.inl h), fun _ => h17⟩)
        rw [neg h17]
        by_cases h13 : (ith p t).1 = 13
        · rw [pos h13, bind_t]
          exact hfin _ (by rw [pb_iff]; exact ⟨fun h => .inr (.inr (.inl h)), fun _ => h13⟩)
        rw [neg h13, bind_t]
        exact hfin _ (by rw [pb_iff]; exact ⟨fun h => .inr (.inr (.inr h)), fun h => by rcases h with h | h | h | h <;> omega⟩)
    · rw [Bool.not_eq_true] at hg
      rw [hg, Bool.not_false, sel_t, need64 (by omega) (by omega), gone_keep (f := thrX p) (d := zInstr) hi (by unfold thrX; rw [if_neg (by rw [hg]; simp)]; rfl)]
      rfl
  · dsimp only
    rw [neg (by omega), gone_all]
    rfl
end Go.Proofs

/-! Chapter 20: instructions taken away. -/
namespace Go.Proofs
open Go Go.Abs
/-- How many stay ahead of a place. -/
def stayN (g : List Bool) : Nat → Nat
  | 0 => 0
  | i + 1 => stayN g i + (if List.getD g i false = true then 0 else 1)
theorem stayN_le {g : List Bool} : ∀ i, stayN g i ≤ i
  | 0 => Nat.le_refl _
  | i + 1 => by
    have := stayN_le (g := g) i
    unfold stayN
    split <;> omega
def woX (p : List InstrD) (g : List Bool) (i : Nat) : InstrD := if goesB (ith p i).1 = true then ((ith p i).1, (stayN g (aimP p i) : Int) - (stayN g i : Int), (ith p i).2.2) else ith p i
def woL (p : List InstrD) (g : List Bool) : Nat → List InstrD
  | 0 => []
  | i + 1 => woL p g i ++ (if List.getD g i false = true then [] else [woX p g i])
def woR (p : List InstrD) (g : List Bool) : List InstrD := woL p g p.length
theorem woL_len {p : List InstrD} {g : List Bool} : ∀ i, (woL p g i).length = stayN g i
  | 0 => rfl
  | i + 1 => by
    show (woL p g i ++ _).length = stayN g i + _
    rw [List.length_append, woL_len i]
    split <;> simp
theorem gone_lt {α : Type} {p : List α} {f : Nat → α} {i j : Nat} {d : α} (h : j < i) : List.getD (gone p f i) j d = f j := by
  unfold gone
  rw [List.getD_eq_getElem?_getD, List.getElem?_append_left (by rw [genR_len]; exact h), ← List.getD_eq_getElem?_getD, genR_get h]
/-- The numbers of those that stay. -/
def stays (g : List Bool) (n i : Nat) : List Int := gone (List.replicate (n + 1) (0 : Int)) (fun j => (stayN g j : Int)) (i + 1)
theorem stays_zero {g : List Bool} {n : Nat} : stays g n 0 = List.replicate (n + 1) 0 := by
  unfold stays
  have := gone_keep (p := List.replicate (n + 1) (0 : Int)) (f := fun j => (stayN g j : Int)) (i := 0) (d := 0) (by simp) (by simp [stayN])
  rw [← this, gone_zero]
theorem stays_len {g : List Bool} {n i : Nat} (h : i ≤ n) : (stays g n i).length = n + 1 := by
  unfold stays
  rw [gone_len (by simp; omega)]
  simp
theorem stays_get {g : List Bool} {n i j : Nat} (h : j ≤ i) : List.getD (stays g n i) j 0 = (stayN g j : Int) := gone_lt (by omega)
theorem stays_set {g : List Bool} {n i : Nat} (h : i < n) : List.set (stays g n i) (i + 1) ((stayN g (i + 1) : Nat) : Int) = stays g n (i + 1) := by
  unfold stays
  exact gone_set (f := fun j => (stayN g j : Int)) (by simp; omega)
theorem getD_set_self {α : Type} {l : List α} {i : Nat} {v d : α} (h : i < l.length) : List.getD (List.set l i v) i d = v := by
  rw [List.getD_eq_getElem?_getD, List.getElem?_set_self h]
  rfl
/-- The first loop of both. -/
theorem stay_step {g : List Bool} {n i : Nat} (hi : i < n) (hn : n ≤ 8192) (hg : g.length = n) {R : Type} {k : Bool} (hk : k = List.getD g i false) :
    need (Fits IntKind.i64 ((i : Int) + 1)) (need (0 ≤ (i : Int) ∧ (i : Int) < ((stays g n i).length : Int)) (need (i < (stays g n i).length) (need (0 ≤ (i : Int) + 1 ∧ (i : Int) + 1 < ((stays g n i).length : Int)) (need (Int.toNat ((i : Int) + 1) < (stays g n i).length) (need (0 ≤ (i : Int) ∧ (i : Int) < (g.length : Int)) (sel (!k)
      (need (Fits IntKind.i64 ((i : Int) + 1)) (need (0 ≤ (i : Int) + 1 ∧ (i : Int) + 1 < ((List.set (stays g n i) (Int.toNat ((i : Int) + 1)) (List.getD (stays g n i) i 0)).length : Int)) (need (Int.toNat ((i : Int) + 1) < (List.set (stays g n i) (Int.toNat ((i : Int) + 1)) (List.getD (stays g n i) i 0)).length) (need (Fits IntKind.i64 (List.getD (List.set (stays g n i) (Int.toNat ((i : Int) + 1)) (List.getD (stays g n i) i 0)) (Int.toNat ((i : Int) + 1)) 0 + 1)) (need (0 ≤ (i : Int) + 1 ∧ (i : Int) + 1 < ((List.set (stays g n i) (Int.toNat ((i : Int) + 1)) (List.getD (stays g n i) i 0)).length : Int)) (need (Int.toNat ((i : Int) + 1) < (List.set (stays g n i) (Int.toNat ((i : Int) + 1)) (List.getD (stays g n i) i 0)).length) (need (Fits IntKind.i64 ((i : Int) + 1))
        (some (Sum.inl (((i : Int) + 1, ()), List.set (List.set (stays g n i) (Int.toNat ((i : Int) + 1)) (List.getD (stays g n i) i 0)) (Int.toNat ((i : Int) + 1)) (List.getD (List.set (stays g n i) (Int.toNat ((i : Int) + 1)) (List.getD (stays g n i) i 0)) (Int.toNat ((i : Int) + 1)) 0 + 1), ()))))))))))
      (need (Fits IntKind.i64 ((i : Int) + 1)) (some (Sum.inl (((i : Int) + 1, ()), List.set (stays g n i) (Int.toNat ((i : Int) + 1)) (List.getD (stays g n i) i 0), ()))))))))))
    = (some (Sum.inl ((((i + 1 : Nat) : Int), ()), stays g n (i + 1), ())) : Option (((Int × Unit) × List Int × Unit) ⊕ R)) := by
  have hl := stays_len (g := g) (n := n) (Nat.le_of_lt hi)
  have e : Int.toNat ((i : Int) + 1) = i + 1 := by omega
  have hs := stayN_le (g := g) i
  rw [e, need64 (by omega) (by omega), need_pos ⟨by omega, by omega⟩, need_pos (by omega), need_pos ⟨by omega, by omega⟩, need_pos (by omega), need_pos ⟨by omega, by omega⟩, stays_get (Nat.le_refl _)]
  have hv : stayN g (i + 1) = stayN g i + (if List.getD g i false = true then 0 else 1) := rfl
  cases hgi : List.getD g i false with
  | true =>
    rw [hgi] at hk hv
    subst hk
    rw [Bool.not_true, sel_f]
    have hv : stayN g (i + 1) = stayN g i := hv
    rw [← hv, stays_set hi, need64 (by omega) (by omega)]
    rfl
  | false =>
    rw [hgi] at hk hv
    subst hk
    rw [Bool.not_false, sel_t, List.length_set, getD_set_self (by omega), List.set_set]
    have hv : stayN g (i + 1) = stayN g i + 1 := hv
    have : ((stayN g i : Nat) : Int) + 1 = ((stayN g (i + 1) : Nat) : Int) := by rw [hv]; rfl
    rw [need64 (by omega) (by omega), need_pos ⟨by omega, by omega⟩, need_pos (by omega), need64 (by omega) (by omega), need_pos ⟨by omega, by omega⟩, need_pos (by omega), this, stays_set hi, need64 (by omega) (by omega)]
    rfl
theorem wo_step {p : List InstrD} {g : List Bool} (h : OkP p) (hg : g.length = p.length) {i : Nat} (hi : i < p.length) {R : Type} {m : Option (Bool × Unit)} (hm : m = some (goesB (ith p i).1, ())) :
    (Option.bind m (fun (y : Bool × Unit) => sel y.1 (need (Fits Go.IntKind.i64 ((i : Int) + (ith p i).2.1)) (need ((0 : Int) ≤ (i : Int) + (ith p i).2.1 ∧ (i : Int) + (ith p i).2.1 < (↑(List.length (stays g p.length p.length)) : Int)) (need (Int.toNat ((i : Int) + (ith p i).2.1) < List.length (stays g p.length p.length)) (need ((0 : Int) ≤ (i : Int) ∧ (i : Int) < (↑(List.length (stays g p.length p.length)) : Int)) (need (i < List.length (stays g p.length p.length)) (need (Fits Go.IntKind.i64 (List.getD (stays g p.length p.length) (Int.toNat ((i : Int) + (ith p i).2.1)) (0 : Int) - List.getD (stays g p.length p.length) i (0 : Int))) (some (Sum.inl ((), ((ith p i).1, List.getD (stays g p.length p.length) (Int.toNat ((i : Int) + (ith p i).2.1)) (0 : Int) - List.getD (stays g p.length p.length) i (0 : Int), (ith p i).2.2), woL p g i, stays g p.length p.length, ()))))))))) (some (Sum.inl ((), ith p i, woL p g i, stays g p.length p.length, ()))))
      : Option ((Unit × InstrD × List InstrD × List Int × Unit) ⊕ R)) = some (Sum.inl ((), woX p g i, woL p g i, stays g p.length p.length, ())) := by
  have hlen := h.len
  have hs := stayN_le (g := g) i
  have hl := stays_len (g := g) (n := p.length) (Nat.le_refl _)
  subst hm
  rw [bind_t]
  dsimp only
  cases hgo : goesB (ith p i).1 with
  | true =>
    have ha := h.aim i hi hgo
    obtain ⟨h1, h2⟩ := aim_lt h hi hgo
    have hs2 := stayN_le (g := g) (aimP p i)
    have e : Int.toNat ((i : Int) + (ith p i).2.1) = aimP p i := rfl
    rw [sel_t, e, need64 (by omega) (by omega), need_pos ⟨by omega, by omega⟩, need_pos (by omega), need_pos ⟨by omega, by omega⟩, need_pos (by omega), stays_get (by omega), stays_get (by omega), need64 (by omega) (by omega)]
    unfold woX
    rw [if_pos hgo]
  | false =>
    rw [sel_f]
    unfold woX
    rw [if_neg (by rw [hgo]; simp)]
theorem wo_succ {p : List InstrD} {g : List Bool} {i : Nat} : woL p g (i + 1) = woL p g i ++ (if List.getD g i false = true then [] else [woX p g i]) := rfl
theorem q_woP {p : List InstrD} {g : List Bool} (h : OkP p) (hg : g.length = p.length) : F_peep_without (p, g, ()) = some (woR p g, ()) := by
  have hlen := h.len
  unfold F_peep_without
  simp only [toPb]
  have hl := stays_len (g := g) (n := p.length) (Nat.le_refl _)
  have hs := stayN_le (g := g) p.length
  rw [need64 (by omega) (by omega), need_pos ⟨by omega, by omega, by omega, by omega⟩, show Int.toNat ((p.length : Int) + 1) = p.length + 1 by omega]
  refine loop_up p.length (fun i => (((i : Int), ()), stays g p.length i, ())) (by rw [stays_zero]; rfl) (fun i hi => ?_) ?_
  · dsimp only
    simp only [Int.toNat_natCast, Nat.zero_add]
    rw [pos (by omega)]
    exact stay_step hi hlen hg rfl
  · dsimp only
    simp only [Int.toNat_natCast, Nat.zero_add, getD_ith]
    rw [neg (by omega), stays_get (Nat.le_refl _), need_pos ⟨by omega, by omega⟩, need_pos (by omega), need_pos ⟨by omega, by omega, by omega, by omega⟩]
    rw [bind_id_some]
    refine map_inr ?_
    refine loop_up p.length (fun i => (((i : Int), ()), woL p g i, stays g p.length p.length, ())) rfl (fun i hi => ?_) ?_
    · dsimp only
      simp only [Int.toNat_natCast, Nat.zero_add, getD_ith]
      have hwl := woL_len (p := p) (g := g) i
      have hsi := stayN_le (g := g) i
      rw [pos (by omega), need_pos ⟨by omega, by omega⟩, need_pos ⟨by omega, by omega⟩]
      cases hgi : List.getD g i false with
      | true =>
        rw [sel_t, need64 (by omega) (by omega), wo_succ, hgi, if_pos rfl, List.append_nil]
        rfl
      | false =>
        rw [sel_f, wo_succ, hgi, if_neg (by simp)]
        rw [wo_step h hg hi (q_pgoes _), bind_t]
        dsimp only
        rw [need_pos ⟨Nat.le_refl _, by omega⟩, need64 (by omega) (by omega)]
        rfl
    · dsimp only
      rw [neg (by omega)]
      rfl
end Go.Proofs

/-! Chapter 16: where an instruction goes on. -/
namespace Go.Proofs
open Go Go.Abs
def waysL (p : List InstrD) (i : Nat) : List Int :=
  (if goesB (ith p i).1 = true ∧ (ith p i).2.1 < 1 then [(i : Int) + (ith p i).2.1] else []) ++
  ((if onB (ith p i).1 = true then [(i : Int) + 1] else []) ++
  (if goesB (ith p i).1 = true ∧ ((ith p i).2.1 > 1 ∨ ((ith p i).2.1 = 1 ∧ onB (ith p i).1 = false)) then [(i : Int) + (ith p i).2.1] else []))
theorem ways_len {p : List InstrD} {i : Nat} : (waysL p i).length ≤ 2 := by
  unfold waysL
  simp only [List.length_append]
  by_cases h1 : goesB (ith p i).1 = true ∧ (ith p i).2.1 < 1
  · rw [if_pos h1, if_neg (c := goesB (ith p i).1 = true ∧ _) (fun hc => by have := h1.2; rcases hc.2 with h | ⟨h, _⟩ <;> omega)]
    split <;> simp
  · rw [if_neg h1]
    split <;> split <;> simp
theorem ways_mem {p : List InstrD} (h : OkP p) {i : Nat} (hi : i < p.length) {k : Int} (hk : k ∈ waysL p i) : 0 ≤ k ∧ k < (p.length : Int) := by
  unfold waysL at hk
  rw [List.mem_append, List.mem_append] at hk
  rcases hk with hk | hk | hk
  · split at hk
    · rename_i hc
      have := h.aim i hi hc.1
      obtain rfl := List.mem_singleton.1 hk
      exact this
    · cases hk
  · split at hk
    · rename_i hc
      have := call_next h hi hc
      obtain rfl := List.mem_singleton.1 hk
      omega
    · cases hk
  · split at hk
    · rename_i hc
      have := h.aim i hi hc.1
      obtain rfl := List.mem_singleton.1 hk
      exact this
    · cases hk
theorem sort_two (a b : Int) : [a, b].mergeSort (fun x y => decide (x ≤ y)) = if a ≤ b then [a, b] else [b, a] := by
  by_cases h : a ≤ b
  · rw [if_pos h]
    exact List.mergeSort_of_pairwise (by simp [h])
  · rw [if_neg h]
    have h1 : [a, b].mergeSort (fun x y => decide (x ≤ y)) = [b, a].mergeSort (fun x y => decide (x ≤ y)) := by
      refine List.Perm.eq_of_pairwise (le := fun x y : Int => x ≤ y) (fun x y _ _ h1 h2 => Int.le_antisymm h1 h2) ?_ ?_ ?_
      · have := List.pairwise_mergeSort (le := fun x y : Int => decide (x ≤ y)) (fun x y z h1 h2 => by simp at *; omega) (fun x y => by simp; omega) [a, b]
        simpa using this
      · have := List.pairwise_mergeSort (le := fun x y : Int => decide (x ≤ y)) (fun x y z h1 h2 => by simp at *; omega) (fun x y => by simp; omega) [b, a]
        simpa using this
      · exact (List.mergeSort_perm _ _).trans ((List.Perm.swap b a []).trans (List.mergeSort_perm _ _).symm)
    rw [h1]
    exact List.mergeSort_of_pairwise (by simp; omega)
theorem q_goesI {p : List InstrD} (h : OkP p) {i : Nat} (hi : i < p.length) : F_instr_goes (p, (i : Int), ()) = some (waysL p i, ()) := by
  have hlen := h.len
  have hb := h.is_ i hi
  have hop := isB_of hb
  unfold F_instr_goes
  simp only [toPb]
  simp only [Int.toNat_natCast, getD_ith]
  rw [need_pos ⟨by omega, by omega⟩, q_has _ 64 (by omega) (by omega), has64 hb, bind_t]
  dsimp only
  unfold F_slices_Sort_int_int waysL
  cases hon : onB (ith p i).1 with
  | true =>
    have hn := call_next h hi hon
    rw [sel_t, need64 (by omega) (by omega), need_pos (by decide), bind_t]
    dsimp only
    rw [q_has _ 32 (by omega) (by omega), has32 hb, bind_t]
    dsimp only
    rw [q_has _ 64 (by omega) (by omega), has64 hb, hon, bind_t]
    dsimp only
    simp only [Bool.not_true, sel_f]
    cases hg : goesB (ith p i).1 with
    | true =>
      have ha := h.aim i hi hg
      rw [sel_t, bind_t, bind_t]
      by_cases h1 : (ith p i).2.1 = 1
      · rw [pb_t h1, Bool.not_true, sel_f, bind_t]
        dsimp only
        rw [need_pos (by simp), bind_t, List.mergeSort_singleton, if_neg (by omega), if_pos trivial, if_neg (by rintro ⟨_, h | ⟨_, h⟩⟩ <;> first | omega | cases h)]
        rfl
      · rw [pb_f h1, Bool.not_false, sel_t, need64 (by omega) (by omega), need_pos (by simp), bind_t]
        dsimp only
        rw [need_pos (by simp), bind_t]
        dsimp only
        show some (([(i : Int) + 1, (i : Int) + (ith p i).2.1].mergeSort fun a b => decide (a ≤ b)), ()) = _
        rw [sort_two]
        by_cases h2 : (ith p i).2.1 < 1
        · rw [if_neg (by omega), if_pos ⟨rfl, h2⟩, if_pos trivial, if_neg (by omega)]
          rfl
        · rw [if_pos (by omega), if_neg (by omega), if_pos trivial, if_pos ⟨rfl, .inl (by omega)⟩]
          rfl
    | false =>
      rw [sel_f, bind_t, sel_f, bind_t]
      dsimp only
      rw [need_pos (by simp), bind_t, List.mergeSort_singleton, if_neg (by simp), if_pos trivial, if_neg (by simp)]
      rfl
  | false =>
    rw [sel_f, bind_t]
    dsimp only
    rw [q_has _ 32 (by omega) (by omega), has32 hb, bind_t]
    dsimp only
    rw [q_has _ 64 (by omega) (by omega), has64 hb, hon, bind_t]
    dsimp only
    simp only [Bool.not_false, sel_t]
    cases hg : goesB (ith p i).1 with
    | true =>
      have ha := h.aim i hi hg
      rw [sel_t, bind_t, bind_t, sel_t, need64 (by omega) (by omega), need_pos (by simp), bind_t]
      dsimp only
      rw [need_pos (by simp), bind_t]
      dsimp only
      rw [List.nil_append, List.mergeSort_singleton]
      by_cases h2 : (ith p i).2.1 < 1
      · rw [if_pos ⟨rfl, h2⟩, if_neg (by simp), if_neg (by omega)]
        rfl
      · rw [if_neg (by omega), if_neg (by simp), if_pos ⟨rfl, by by_cases h : (ith p i).2.1 > 1; exact .inl h; exact .inr ⟨by omega, trivial⟩⟩]
        rfl
    | false =>
      rw [sel_f, bind_t, sel_f, bind_t]
      dsimp only
      rw [need_pos (by simp), bind_t, List.mergeSort_nil, if_neg (by simp), if_neg (by simp), if_neg (by simp)]
      rfl
end Go.Proofs

/-! Chapter 16: what can be come to. -/
namespace Go.Proofs
open Go Go.Abs
inductive Reach (p : List InstrD) : Nat → Prop
  | zero : Reach p 0
  | step {i k : Nat} : Reach p i → i < p.length → (k : Int) ∈ waysL p i → Reach p k
noncomputable def liveL (p : List InstrD) : List Bool := genR p.length fun j => pb (Reach p j)
def cntF : List Bool → Nat
  | [] => 0
  | b :: r => (if b = true then 0 else 1) + cntF r
theorem cntF_rep : ∀ n, cntF (List.replicate n false) = n
  | 0 => rfl
  | n + 1 => by
    rw [List.replicate_succ]
    show 1 + cntF (List.replicate n false) = n + 1
    rw [cntF_rep n]
    omega
theorem cntF_set : ∀ {l : List Bool} {i : Nat}, i < l.length → List.getD l i false = false → cntF (List.set l i true) + 1 = cntF l
  | b :: r, 0, _, h => by
    have h : b = false := h
    subst h
    show 0 + cntF r + 1 = 1 + cntF r
    omega
  | b :: r, i + 1, hi, h => by
    have ih := cntF_set (l := r) (i := i) (by simpa using hi) h
    show (if b = true then 0 else 1) + cntF (List.set r i true) + 1 = (if b = true then 0 else 1) + cntF r
    omega
theorem live_ext {p : List InstrD} {out : List Bool} (hl : out.length = p.length) (h : ∀ j, j < p.length → (List.getD out j false = true ↔ Reach p j)) : out = liveL p := by
  rw [← genR_self (p := out) (d := false), hl]
  refine genR_ext fun i hi => ?_
  rw [Bool.eq_iff_iff, pb_iff]
  exact h i hi
theorem closed_live {p : List InstrD} (hp : OkP p) {out : List Bool} (hl : out.length = p.length) (ha : ∀ j, j < p.length → List.getD out j false = true → Reach p j) (h0 : List.getD out 0 false = true) (hc : ∀ j, j < p.length → List.getD out j false = true → ∀ k ∈ waysL p j, List.getD out k.toNat false = true) : out = liveL p := by
  refine live_ext hl fun j hj => ⟨ha j hj, fun hr => ?_⟩
  clear hj
  induction hr with
  | zero => exact h0
  | step h1 h2 h3 ih =>
    have := hc _ h2 ih _ h3
    rwa [Int.toNat_natCast] at this
theorem take_top {W : List Int} {m : Nat} (h : m + 1 ≤ W.length) : List.take (m + 1) W = List.take m W ++ [List.getD W m 0] := by
  rw [List.take_succ_eq_append_getElem (by omega), List.getD_eq_getElem?_getD, List.getElem?_eq_getElem (by omega)]
  rfl
theorem q_liveP {p : List InstrD} (h : OkP p) : F_instr_Live (p, ()) = some (0, liveL p, ()) := by
  have hlen := h.len
  have hpos := h.pos
  unfold F_instr_Live
  simp only [toPb]
  rw [q_icheck, bind_t]
  dsimp only
  rw [okP_check h, npos rfl, need_pos ⟨by omega, by omega, by omega, by omega⟩]
  refine loopC_run (I := fun s => s.1.1.1 = 0 ∧ s.1.1.2 ≤ s.2.1.length ∧ s.2.2.1.length = p.length ∧ s.1.1.2 + 3 * cntF s.2.2.1 ≤ 3 * p.length + 1 ∧ (∀ j, j < p.length → List.getD s.2.2.1 j false = true → Reach p j) ∧ (∀ k ∈ List.take s.1.1.2 s.2.1, 0 ≤ k ∧ k < (p.length : Int) ∧ Reach p k.toNat) ∧ (List.getD s.2.2.1 0 false = true ∨ (0 : Int) ∈ List.take s.1.1.2 s.2.1) ∧ (∀ j, j < p.length → List.getD s.2.2.1 j false = true → ∀ k ∈ waysL p j, List.getD s.2.2.1 k.toNat false = true ∨ k ∈ List.take s.1.1.2 s.2.1))
    (μ := fun s => s.1.1.2 + 3 * cntF s.2.2.1) (F := fun _ => (0, liveL p, ())) ?_ _ ?_
  · rintro ⟨⟨⟨o, n⟩, ⟨⟩⟩, W, out, ⟨⟩⟩ ⟨ho, hn, hl, hcnt, ha, hb, h0, hc⟩
    dsimp only at ho hn hl hcnt ha hb h0 hc ⊢
    subst ho
    cases n with
    | zero =>
      right
      rw [neg (by simp)]
      rw [closed_live h hl ha (h0.resolve_right (by simp)) fun j hj ho k hk => (hc j hj ho k hk).resolve_right (by simp)]
    | succ m =>
      left
      have e : ((m + 1 : Nat) : Int) - 1 = (m : Int) := by omega
      simp only [e, Int.toNat_natCast, Nat.zero_add, dropZ_eq, addZ_eq, List.drop_zero, List.take_length]
      have htop : List.getD W m 0 ∈ List.take (m + 1) W := by rw [take_top hn]; simp
      obtain ⟨hb0, hb1, hb2⟩ := hb _ htop
      rw [pos (by omega), need64 (by omega) (by omega), need_pos ⟨by omega, by omega⟩, need_pos (by omega), need64 (by omega) (by omega), need_pos ⟨by omega, by omega, by omega⟩, need_pos ⟨by omega, by omega⟩, need_pos (by omega)]
      rw [take_top hn] at hb h0 hc
      generalize hT : List.getD W m 0 = T at *
      have hTn : ((T.toNat : Nat) : Int) = T := by omega
      have htl : (List.take m W).length = m := by rw [List.length_take]; omega
      cases hob : List.getD out T.toNat false with
      | true =>
        rw [Bool.not_true, sel_f]
        refine ⟨_, rfl, ⟨rfl, by dsimp only; omega, hl, by dsimp only; omega, ha, fun k hk => hb k (List.mem_append_left _ hk), ?_, ?_⟩, by dsimp only; omega, by trivial⟩
        · rcases h0 with h0 | h0
          · exact .inl h0
          · rcases List.mem_append.1 h0 with h0 | h0
            · exact .inr h0
            · left
              have : T = 0 := (List.mem_singleton.1 h0).symm
              rw [this] at hob
              exact hob
        · intro j hj ho k hk
          rcases hc j hj ho k hk with h1 | h1
          · exact .inl h1
          · rcases List.mem_append.1 h1 with h1 | h1
            · exact .inr h1
            · left
              rw [List.mem_singleton.1 h1]
              exact hob
      | false =>
        have hTl : T.toNat < p.length := by omega
        have hw := ways_len (p := p) (i := T.toNat)
        have hcs := cntF_set (l := out) (i := T.toNat) (by omega) hob
        rw [Bool.not_false, sel_t, need_pos ⟨by omega, by omega⟩, need_pos (by omega), show F_instr_goes (p, T, ()) = some (waysL p T.toNat, ()) by rw [← hTn]; exact q_goesI h hTl, bind_t]
        dsimp only
        rw [need_pos ⟨by omega, by omega, by omega⟩]
        refine ⟨_, rfl, ⟨rfl, Nat.le_refl _, by simpa using hl, ?_, ?_, ?_, ?_, ?_⟩, ?_, by trivial⟩
        · dsimp only
          rw [List.length_append, htl]
          omega
        · intro j hj
          dsimp only
          rw [getD_set (by omega)]
          split
          · rename_i e1
            intro _
            rw [← e1]
            exact hb2
          · exact ha j hj
        · dsimp only
          rw [List.take_length]
          intro k hk
          rcases List.mem_append.1 hk with hk | hk
          · exact hb k (List.mem_append_left _ hk)
          · have := ways_mem h hTl hk
            refine ⟨this.1, this.2, ?_⟩
            refine Reach.step hb2 hTl ?_
            rwa [show ((k.toNat : Nat) : Int) = k by omega]
        · dsimp only
          rw [List.take_length, getD_set (by omega)]
          rcases h0 with h0 | h0
          · left
            split
            · rfl
            · exact h0
          · rcases List.mem_append.1 h0 with h0 | h0
            · exact .inr (List.mem_append_left _ h0)
            · left
              have : T = 0 := (List.mem_singleton.1 h0).symm
              rw [if_pos (by rw [this]; rfl)]
        · dsimp only
          rw [List.take_length]
          intro j hj ho k hk
          rw [getD_set (by omega)] at ho
          rw [getD_set (by omega)]
          by_cases hjT : T.toNat = j
          · right
            rw [← hjT] at hk
            exact List.mem_append_right _ hk
          · rw [if_neg hjT] at ho
            rcases hc j hj ho k hk with h1 | h1
            · left
              split
              · rfl
              · exact h1
            · rcases List.mem_append.1 h1 with h1 | h1
              · exact .inr (List.mem_append_left _ h1)
              · left
                rw [List.mem_singleton.1 h1, if_pos rfl]
        · dsimp only
          rw [List.length_append, htl]
          omega
  · dsimp only
    have hrep : ∀ j, List.getD (List.replicate p.length false) j false = false := by
      intro j
      rw [List.getD_eq_getElem?_getD, List.getElem?_replicate]
      split <;> rfl
    rw [Int.toNat_natCast]
    refine ⟨rfl, Nat.le_refl _, List.length_replicate .., ?_, ?_, ?_, .inr (by simp), ?_⟩
    · rw [cntF_rep]; omega
    · intro j hj ho
      rw [hrep] at ho
      cases ho
    · intro k hk
      have : k = 0 := by simpa using hk
      subst this
      exact ⟨by omega, by omega, Reach.zero⟩
    · intro j hj ho
      rw [hrep] at ho
      cases ho
end Go.Proofs
