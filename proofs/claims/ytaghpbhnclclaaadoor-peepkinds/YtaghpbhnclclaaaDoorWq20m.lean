/- Part of the proof of the law's row: YtaghpbhnclclaaaDoorWq20m. -/
import Derived.Test.YtaghpbhnclclaaaDoorWq20e
set_option linter.all false
set_option linter.unusedVariables false
set_option linter.unusedSimpArgs false
/-! Chapter 16: what can be come to, by the book. -/
namespace Go.Proofs
open Go Go.Abs
structure LvI (p : List InstrD) (o n : Nat) (W : List Int) (out : List Bool) (b : Nat) (T : Option Nat) : Prop where
  len : o + n ≤ W.length
  outl : out.length = p.length
  cnt : n + cntF out + b ≤ p.length
  a : ∀ j, j < p.length → List.getD out j false = true → Reach p j
  w : ∀ k ∈ List.take n (List.drop o W), 0 ≤ k ∧ k < (p.length : Int) ∧ List.getD out k.toNat false = true
  z : List.getD out 0 false = true
  c : ∀ j, j < p.length → List.getD out j false = true → T = some j ∨ (j : Int) ∈ List.take n (List.drop o W) ∨ ∀ k ∈ waysL p j, List.getD out k.toNat false = true
end Go.Proofs

/-! Chapter 20: the passes; the laws of one pass. -/
namespace Go.Proofs
open Go Go.Abs
noncomputable def deadG (p : List InstrD) : List Bool := genR p.length fun j => !List.getD (liveL p) j false
noncomputable def deadL (p : List InstrD) : List InstrD := woR p (deadG p)
def hopC (p : List InstrD) (j : Nat) : Prop := (ith p j).1 = 14 ∧ (ith p j).2.1 = 1
noncomputable def hopG (p : List InstrD) : List Bool := genR p.length fun j => pb (hopC p j)
noncomputable def hopsL (p : List InstrD) : List InstrD := woR p (hopG p)
theorem live_len {p : List InstrD} : (liveL p).length = p.length := genR_len
theorem q_deadP {p : List InstrD} (h : OkP p) : F_peep_dead (p, ()) = some (deadL p, ()) := by
  have hlen := h.len
  have hl := live_len (p := p)
  unfold F_peep_dead
  simp only [toPb]
  rw [q_liveP h, bind_t]
  dsimp only
  rw [need_pos ⟨by omega, by omega, by omega, by omega⟩, Int.toNat_natCast]
  simp only [List.length_replicate]
  refine loop_up p.length (fun i => (((i : Int), ()), gone (List.replicate p.length false) (fun j => !List.getD (liveL p) j false) i, liveL p, ())) rfl (fun i hi => ?_) ?_
  · have hg := gone_len (p := List.replicate p.length false) (f := fun j => !List.getD (liveL p) j false) (i := i) (by simp; omega)
    rw [List.length_replicate] at hg
    dsimp only
    simp only [Int.toNat_natCast, Nat.zero_add]
    rw [pos (by omega), need_pos ⟨by omega, by omega⟩, need_pos (by omega), need_pos ⟨by omega, by omega⟩, need_pos (by omega), need64 (by omega) (by omega), ← gone_set (by simpa using hi)]
    rfl
  · dsimp only
    have hall := gone_all (p := List.replicate p.length false) (f := fun j => !List.getD (liveL p) j false)
    rw [List.length_replicate] at hall
    rw [neg (by omega), hall, bind_id_some]
    refine map_inr ?_
    have := q_woP (g := deadG p) h genR_len
    unfold deadG at this
    rw [this]
    rfl
theorem hop_bool {p : List InstrD} {i : Nat} : (sel (pb ((ith p i).1 = 14)) (some (pb ((ith p i).2.1 = 1))) (some false)) = some (pb (hopC p i)) := by
  by_cases h14 : (ith p i).1 = 14
  · rw [pos h14]
    congr 1
    rw [Bool.eq_iff_iff, pb_iff, pb_iff]
    exact ⟨fun h => ⟨h14, h⟩, fun h => h.2⟩
  · rw [neg h14, pb_f (fun h => h14 h.1)]
theorem q_hopsP {p : List InstrD} (h : OkP p) : F_peep_hops (p, ()) = some (hopsL p, ()) := by
  have hlen := h.len
  unfold F_peep_hops
  simp only [toPb]
  rw [need_pos ⟨by omega, by omega, by omega, by omega⟩, Int.toNat_natCast]
  refine loop_up p.length (fun i => (((i : Int), ()), gone (List.replicate p.length false) (fun j => pb (hopC p j)) i, ())) rfl (fun i hi => ?_) ?_
  · have hg := gone_len (p := List.replicate p.length false) (f := fun j => pb (hopC p j)) (i := i) (by simp; omega)
    rw [List.length_replicate] at hg
    dsimp only
    simp only [Int.toNat_natCast, Nat.zero_add, getD_ith]
    rw [pos (by omega), need_pos ⟨by omega, by omega⟩, hop_bool, bind_t, need_pos ⟨by omega, by omega⟩, need_pos (by omega), need64 (by omega) (by omega), ← gone_set (by simpa using hi)]
    rfl
  · dsimp only
    have hall := gone_all (p := List.replicate p.length false) (f := fun j => pb (hopC p j))
    rw [List.length_replicate] at hall
    rw [neg (by omega), hall, bind_id_some]
    refine map_inr ?_
    have := q_woP (g := hopG p) h genR_len
    unfold hopG at this
    rw [this]
    rfl
/-- What a pass over code tells. -/
def onR (p q : List InstrD) : Int × List InstrD × Unit := if (checkI p).2 = 0 then (0, q, ()) else ((checkI p).2, [], ())
theorem on_bind {p q : List InstrD} {m : Option (List InstrD × Unit)} (hm : OkP p → m = some (q, ())) :
    Option.bind (some ((checkI p).1, (checkI p).2, ())) (fun (y : shapeD) => sel (!pb (y.2.1 = (0 : Int))) (some (y.2.1, [], ())) (Option.bind m (fun (y1 : List InstrD × Unit) => some ((0 : Int), y1.1, ())))) = some (onR p q) := by
  rw [bind_t]
  dsimp only
  unfold onR
  by_cases h0 : (checkI p).2 = 0
  · rw [npos h0, hm (okP h0), if_pos h0]
    rfl
  · rw [nneg h0, if_neg h0]
theorem q_Tails (p : List InstrD) : F_peep_Tails (p, ()) = some (onR p (tailsL p)) := by
  unfold F_peep_Tails F_peep_on_tails
  simp only [toPb]
  rw [q_icheck, on_bind (q_tailsP ·)]
  rfl
theorem q_Threads (p : List InstrD) : F_peep_Threads (p, ()) = some (onR p (thrL p)) := by
  unfold F_peep_Threads F_peep_on_threads
  simp only [toPb]
  rw [q_icheck, on_bind (q_thrP ·)]
  rfl
theorem q_Dead (p : List InstrD) : F_peep_Dead (p, ()) = some (onR p (deadL p)) := by
  unfold F_peep_Dead F_peep_on_dead
  simp only [toPb]
  rw [q_icheck, on_bind (q_deadP ·)]
  rfl
theorem q_Hops (p : List InstrD) : F_peep_Hops (p, ()) = some (onR p (hopsL p)) := by
  unfold F_peep_Hops F_peep_on_hops
  simp only [toPb]
  rw [q_icheck, on_bind (q_hopsP ·)]
  rfl
/-! ### How long -/
def liveP20 : List InstrD := [bareI 17, bareI 16]
theorem lives_reach {k : Nat} (h : Reach liveP20 k) : k = 0 := by
  induction h with
  | zero => rfl
  | step h1 h2 h3 ih =>
    subst ih
    have : waysL liveP20 0 = [] := by decide
    rw [this] at h3
    cases h3
theorem lives_dead : deadL liveP20 = [bareI 17] := by
  have : deadG liveP20 = [false, true] := by
    have h0 : liveL liveP20 = [true, false] := by
      show [pb (Reach liveP20 0), pb (Reach liveP20 1)] = _
      rw [pb_t Reach.zero, pb_f (fun h => by have := lives_reach h; omega)]
    unfold deadG
    rw [h0]
    rfl
  unfold deadL
  rw [this]
  rfl
theorem lives_check : (checkI liveP20).2 = 0 := by decide +kernel
theorem q_lives20 : F_law20_lives () = some (true, ()) := by
  unfold F_law20_lives
  simp only [toPb]
  rw [show [((17 : Int), (0 : Int), (0 : Int), (0 : Int), zStr, ((0 : Int), (0 : Int), (0 : Int), (0 : Int), ()), ()), ((16 : Int), (0 : Int), (0 : Int), (0 : Int), zStr, ((0 : Int), (0 : Int), (0 : Int), (0 : Int), ()), ())] = liveP20 from rfl, q_Dead, bind_t, lives_dead]
  unfold onR
  rw [if_pos lives_check]
  dsimp only
  rw [pos rfl, bind_t, pos (by decide), need_pos (by decide), need_pos (by decide), bind_t, pb_t (by decide)]
end Go.Proofs

/-! Chapter 20: the law PeepKinds. -/
namespace Go.Proofs
open Go Go.Abs
theorem rec_need {p : Prop} {k : Option Bool} : Decidable.rec (motive := fun _ => Option Bool) (fun _ => none) (fun _ => k) (Classical.propDecidable p) = need p k := by
  unfold need
  cases h : Classical.propDecidable p with
  | isTrue hp => rw [if_pos hp]
  | isFalse hp => rw [if_neg hp]
theorem woL_get {p : List InstrD} {g : List Bool} {i : Nat} (hg : List.getD g i false = false) : ∀ d, List.getD (woL p g (i + 1 + d)) (stayN g i) zInstr = woX p g i ∧ stayN g i < (woL p g (i + 1 + d)).length
  | 0 => by
    rw [Nat.add_zero, wo_succ, hg, if_neg (by simp), List.getD_eq_getElem?_getD, List.getElem?_append_right (by rw [woL_len]; exact Nat.le_refl _), woL_len, Nat.sub_self]
    exact ⟨rfl, by rw [List.length_append, woL_len]; simp⟩
  | d + 1 => by
    obtain ⟨h1, h2⟩ := woL_get hg d
    rw [← Nat.add_assoc, wo_succ, List.getD_eq_getElem?_getD, List.getElem?_append_left h2, ← List.getD_eq_getElem?_getD]
    exact ⟨h1, by rw [List.length_append]; omega⟩
theorem woR_get {p : List InstrD} {g : List Bool} {i : Nat} (hi : i < p.length) (hg : List.getD g i false = false) : List.getD (woR p g) (stayN g i) zInstr = woX p g i ∧ stayN g i < (woR p g).length := by
  have := woL_get (p := p) hg (p.length - (i + 1))
  rw [show i + 1 + (p.length - (i + 1)) = p.length by omega] at this
  exact this
theorem woX_same {p : List InstrD} {g : List Bool} {i : Nat} : (woX p g i).1 = (ith p i).1 ∧ (woX p g i).2.2 = (ith p i).2.2 := by
  unfold woX
  split <;> exact ⟨rfl, rfl⟩
theorem stay_next {g : List Bool} {i : Nat} : stayN g (i + 1) = stayN g i + (if List.getD g i false = true then 0 else 1) := rfl
theorem kinds_one {p : List InstrD} (h : OkP p) {k : Nat} (hk : k < p.length) : ((need ((0 : Int) ≤ ((k : Nat) : Int) ∧ ((k : Nat) : Int) < (↑(List.length (liveL p)) : Int)) (need ((0 : Nat) + Int.toNat ((k : Nat) : Int) < List.length (liveL p)) (sel (List.getD (liveL p) ((0 : Nat) + Int.toNat ((k : Nat) : Int)) false) (Option.bind (sel (pb (((stayN (deadG p) k : Nat) : Int) ≥ (↑(List.length (deadL p)) : Int))) (some true) (need ((0 : Int) ≤ ((stayN (deadG p) k : Nat) : Int) ∧ ((stayN (deadG p) k : Nat) : Int) < (↑(List.length (deadL p)) : Int)) (need ((0 : Nat) + Int.toNat ((stayN (deadG p) k : Nat) : Int) < List.length (deadL p)) (need ((0 : Int) ≤ ((k : Nat) : Int) ∧ ((k : Nat) : Int) < (↑(List.length p) : Int)) (some (!pb ((List.getD (deadL p) ((0 : Nat) + Int.toNat ((stayN (deadG p) k : Nat) : Int)) zInstr).1 = (List.getD p (Int.toNat ((k : Nat) : Int)) zInstr).1))))))) (fun (v10 : Bool) => Option.bind (sel v10 (some true) (need ((0 : Int) ≤ ((stayN (deadG p) k : Nat) : Int) ∧ ((stayN (deadG p) k : Nat) : Int) < (↑(List.length (deadL p)) : Int)) (need ((0 : Nat) + Int.toNat ((stayN (deadG p) k : Nat) : Int) < List.length (deadL p)) (need ((0 : Int) ≤ ((k : Nat) : Int) ∧ ((k : Nat) : Int) < (↑(List.length p) : Int)) (some (!Ty.eqb (Ty.st [Ty.int Go.IntKind.u64, Ty.int Go.IntKind.u64, Ty.int Go.IntKind.u64, Ty.int Go.IntKind.u64]) (List.getD (deadL p) ((0 : Nat) + Int.toNat ((stayN (deadG p) k : Nat) : Int)) zInstr).2.2.2.2.2.1 (List.getD p (Int.toNat ((k : Nat) : Int)) zInstr).2.2.2.2.2.1)))))) (fun (v11 : Bool) => Option.bind (sel v11 (some true) (need ((0 : Int) ≤ ((stayN (deadG p) k : Nat) : Int) ∧ ((stayN (deadG p) k : Nat) : Int) < (↑(List.length (deadL p)) : Int)) (need ((0 : Nat) + Int.toNat ((stayN (deadG p) k : Nat) : Int) < List.length (deadL p)) (need ((0 : Int) ≤ ((k : Nat) : Int) ∧ ((k : Nat) : Int) < (↑(List.length p) : Int)) (some (!pb ((List.getD (deadL p) ((0 : Nat) + Int.toNat ((stayN (deadG p) k : Nat) : Int)) zInstr).2.2.2.2.1 = (List.getD p (Int.toNat ((k : Nat) : Int)) zInstr).2.2.2.2.1))))))) (fun (v12 : Bool) => sel v12 (some (Sum.inr (Sum.inr (false, ())))) (need (Fits Go.IntKind.i64 (((stayN (deadG p) k : Nat) : Int) + (1 : Int))) (some (Sum.inl ((((stayN (deadG p) k : Nat) : Int) + (1 : Int), ()), (liveL p), (hopsL p), (deadL p), (tailsL p), ())))))))) (some (Sum.inl ((((stayN (deadG p) k : Nat) : Int), ()), (liveL p), (hopsL p), (deadL p), (tailsL p), ())))))) : Option (((Int × Unit) × List Bool × List InstrD × List InstrD × List InstrD × Unit) ⊕ (((Int × shapeD) × List Bool × List InstrD × List InstrD × List InstrD × Unit) ⊕ (Bool × Unit)))) = some (Sum.inl ((((stayN (deadG p) (k + 1) : Nat) : Int), ()), liveL p, hopsL p, deadL p, tailsL p, ())) := by
  have hn := h.len
  have hll := @live_len p
  have hst := stayN_le (g := deadG p) k
  simp only [Int.toNat_natCast, Nat.zero_add]
  rw [need_pos ⟨by omega, by omega⟩, need_pos (by omega), stay_next]
  have hdk : List.getD (deadG p) k false = !List.getD (liveL p) k false := genR_get hk
  rw [hdk]
  cases hlv : List.getD (liveL p) k false with
  | false =>
    rw [sel_f]
    rfl
  | true =>
    rw [hlv] at hdk
    obtain ⟨e1, e2⟩ := woR_get hk (g := deadG p) hdk
    obtain ⟨w1, w2⟩ := woX_same (p := p) (g := deadG p) (i := k)
    have e1 : List.getD (deadL p) (stayN (deadG p) k) zInstr = woX p (deadG p) k := e1
    have e2 : stayN (deadG p) k < (deadL p).length := e2
    have w1 : (woX p (deadG p) k).1 = (List.getD p k zInstr).1 := w1
    have w2 : (woX p (deadG p) k).2.2 = (List.getD p k zInstr).2.2 := w2
    rw [sel_t, neg (by omega), need_pos ⟨by omega, by omega⟩, need_pos e2, need_pos ⟨by omega, by omega⟩, e1, w1, w2, pb_t rfl, bind_t]
    simp only [Bool.not_true, sel_f]
    rw [need_pos ⟨by omega, by omega⟩, need_pos e2, need_pos ⟨by omega, by omega⟩, eqb_refl _ rfl, bind_t]
    simp only [Bool.not_true, sel_f]
    rw [need_pos ⟨by omega, by omega⟩, need_pos e2, need_pos ⟨by omega, by omega⟩]
    first | rw [pb_t rfl, bind_t] | rw [pb_t trivial, bind_t]
    simp only [Bool.not_true, sel_f]
    rw [need64 (by omega) (by omega)]
    rfl
theorem kinds_two {p : List InstrD} (h : OkP p) {k : Nat} (hk : k < p.length) : ((need ((0 : Int) ≤ ((k : Nat) : Int) ∧ ((k : Nat) : Int) < (↑(List.length p) : Int)) (Option.bind (sel (!pb ((List.getD p (Int.toNat ((k : Nat) : Int)) zInstr).1 = (14 : Int))) (some true) (need ((0 : Int) ≤ ((k : Nat) : Int) ∧ ((k : Nat) : Int) < (↑(List.length p) : Int)) (some (!pb ((List.getD p (Int.toNat ((k : Nat) : Int)) zInstr).2.1 = (1 : Int)))))) (fun (v13 : Bool) => sel v13 (Option.bind (sel (pb (((stayN (hopG p) k : Nat) : Int) ≥ (↑(List.length (hopsL p)) : Int))) (some true) (need ((0 : Int) ≤ ((stayN (hopG p) k : Nat) : Int) ∧ ((stayN (hopG p) k : Nat) : Int) < (↑(List.length (hopsL p)) : Int)) (need ((0 : Nat) + Int.toNat ((stayN (hopG p) k : Nat) : Int) < List.length (hopsL p)) (need ((0 : Int) ≤ ((k : Nat) : Int) ∧ ((k : Nat) : Int) < (↑(List.length p) : Int)) (some (!pb ((List.getD (hopsL p) ((0 : Nat) + Int.toNat ((stayN (hopG p) k : Nat) : Int)) zInstr).1 = (List.getD p (Int.toNat ((k : Nat) : Int)) zInstr).1))))))) (fun (v14 : Bool) => Option.bind (sel v14 (some true) (need ((0 : Int) ≤ ((stayN (hopG p) k : Nat) : Int) ∧ ((stayN (hopG p) k : Nat) : Int) < (↑(List.length (hopsL p)) : Int)) (need ((0 : Nat) + Int.toNat ((stayN (hopG p) k : Nat) : Int) < List.length (hopsL p)) (need ((0 : Int) ≤ ((k : Nat) : Int) ∧ ((k : Nat) : Int) < (↑(List.length p) : Int)) (some (!pb ((List.getD (hopsL p) ((0 : Nat) + Int.toNat ((stayN (hopG p) k : Nat) : Int)) zInstr).2.2.1 = (List.getD p (Int.toNat ((k : Nat) : Int)) zInstr).2.2.1))))))) (fun (v15 : Bool) => Option.bind (sel v15 (some true) (need ((0 : Int) ≤ ((stayN (hopG p) k : Nat) : Int) ∧ ((stayN (hopG p) k : Nat) : Int) < (↑(List.length (hopsL p)) : Int)) (need ((0 : Nat) + Int.toNat ((stayN (hopG p) k : Nat) : Int) < List.length (hopsL p)) (need ((0 : Int) ≤ ((k : Nat) : Int) ∧ ((k : Nat) : Int) < (↑(List.length p) : Int)) (some (!pb ((List.getD (hopsL p) ((0 : Nat) + Int.toNat ((stayN (hopG p) k : Nat) : Int)) zInstr).2.2.2.1 = (List.getD p (Int.toNat ((k : Nat) : Int)) zInstr).2.2.2.1))))))) (fun (v16 : Bool) => sel v16 (some (Sum.inr (Sum.inr (false, ())))) (need (Fits Go.IntKind.i64 (((stayN (hopG p) k : Nat) : Int) + (1 : Int))) (some (Sum.inl ((((stayN (hopG p) k : Nat) : Int) + (1 : Int), ()), (liveL p), (hopsL p), (deadL p), (tailsL p), ())))))))) (some (Sum.inl ((((stayN (hopG p) k : Nat) : Int), ()), (liveL p), (hopsL p), (deadL p), (tailsL p), ())))))) : Option (((Int × Unit) × List Bool × List InstrD × List InstrD × List InstrD × Unit) ⊕ (((Int × shapeD) × List Bool × List InstrD × List InstrD × List InstrD × Unit) ⊕ (Bool × Unit)))) = some (Sum.inl ((((stayN (hopG p) (k + 1) : Nat) : Int), ()), liveL p, hopsL p, deadL p, tailsL p, ())) := by
  have hn := h.len
  have hst := stayN_le (g := hopG p) k
  simp only [Int.toNat_natCast, Nat.zero_add]
  have hdk : List.getD (hopG p) k false = pb (hopC p k) := genR_get hk
  rw [need_pos ⟨by omega, by omega⟩, stay_next, hdk]
  have hv : Option.bind (sel (!pb ((List.getD p k zInstr).1 = (14 : Int))) (some true) (need ((0 : Int) ≤ (k : Int) ∧ (k : Int) < (p.length : Int)) (some (!pb ((List.getD p k zInstr).2.1 = (1 : Int)))))) (fun v : Bool => some v) = some (!pb (hopC p k)) := by
    by_cases a : (List.getD p k zInstr).1 = (14 : Int)
    · rw [npos a, need_pos ⟨by omega, by omega⟩, bind_t]
      by_cases b : (List.getD p k zInstr).2.1 = (1 : Int)
      · rw [pb_t b, pb_t (show hopC p k from ⟨a, b⟩)]
      · rw [pb_f b, pb_f (show ¬ hopC p k from fun c => b c.2)]
    · rw [nneg a, bind_t, pb_f (show ¬ hopC p k from fun c => a c.1)]
      rfl
  rw [bind_id] at hv
  rw [hv, bind_t]
  cases hlv : pb (hopC p k) with
  | true =>
    simp only [Bool.not_true, sel_f]
    rfl
  | false =>
    rw [hlv] at hdk
    simp only [Bool.not_false, sel_t]
    obtain ⟨e1, e2⟩ := woR_get hk (g := hopG p) hdk
    obtain ⟨w1, w2⟩ := woX_same (p := p) (g := hopG p) (i := k)
    have e1 : List.getD (hopsL p) (stayN (hopG p) k) zInstr = woX p (hopG p) k := e1
    have e2 : stayN (hopG p) k < (hopsL p).length := e2
    have w1 : (woX p (hopG p) k).1 = (List.getD p k zInstr).1 := w1
    have w2 : (woX p (hopG p) k).2.2 = (List.getD p k zInstr).2.2 := w2
    have hT : pb True = true := pb_t trivial
    rw [neg (by omega), need_pos ⟨by omega, by omega⟩, need_pos e2, need_pos ⟨by omega, by omega⟩, e1, w1, w2]
    simp only [hT, Bool.not_true, bind_t, sel_f]
    rw [need64 (by omega) (by omega), need_pos ⟨by omega, by omega⟩, need_pos e2, need_pos ⟨by omega, by omega⟩]
    rfl
theorem cast20 (i : Nat) : ((i + 1 : Nat) : Int) = (i : Int) + 1 := by omega
theorem law_PeepKinds (p : List InstrD) : F_law20_PeepKinds (p, ()) = some (true, ()) := by
  unfold F_law20_PeepKinds
  simp only [rec_need, toPb]
  rw [q_Tails, q_Threads, q_Dead, q_Hops]
  unfold onR
  by_cases h0 : (checkI p).2 = 0
  case neg =>
    have hT : pb True = true := pb_t trivial
    simp only [if_neg h0, bind_t]
    rw [nneg h0, q_lives20, bind_t]
    dsimp only
    rw [sel_t, bind_t, hT, sel_t, bind_t, sel_t, bind_t, sel_t]
    rw [need64 (by simp) (by simp), need64 (by simp) (by simp), need64 (by simp) (by simp), bind_t, pb_t (by simp)]
  have h : OkP p := okP h0
  have hn := h.len
  have hll := @live_len p
  have htl : (tailsL p).length = p.length := genR_len
  have hrl : (thrL p).length = p.length := genR_len
  simp only [if_pos h0, bind_t]
  have hT : pb True = true := pb_t trivial
  simp only [hT, Bool.not_true, sel_f]
  rw [q_liveP h, bind_t]
  simp only [hT, Bool.not_true, sel_f, bind_t, htl, hrl, hll]
  refine loop_up (σ := (Int × shapeD) × List Bool × List InstrD × List InstrD × List InstrD × Unit) (ρ := Bool × Unit) p.length (fun k => (((k : Int), ((stayN (hopG p) k : Nat) : Int), ((stayN (deadG p) k : Nat) : Int), ()), liveL p, hopsL p, deadL p, tailsL p, ())) rfl ?_ ?_
  · intro k hk
    dsimp only
    rw [pos (by omega), kinds_one h hk, bind_t]
    dsimp only
    rw [kinds_two h hk, bind_t]
    dsimp only
    simp only [Int.toNat_natCast, Nat.zero_add, htl]
    rw [need_pos ⟨by omega, by omega⟩, need_pos (by omega), need_pos ⟨by omega, by omega⟩]
    have ht : List.getD (tailsL p) k zInstr = tailX p k := genR_get hk
    rw [ht]
    by_cases hc : tailC p k
    · have e : tailX p k = (14, (List.getD p k zInstr).2) := if_pos hc
      have c15 : (List.getD p k zInstr).1 = 15 := hc.1
      have h14 : pb ((14 : Int) = 15) = false := pb_f (by omega)
      rw [e]
      dsimp only
      rw [c15, h14]
      have hkk : (0 : Int) ≤ (k : Int) ∧ (k : Int) < (p.length : Int) := ⟨by omega, by omega⟩
      simp only [hT, Bool.not_false, Bool.not_true, sel_t, sel_f, bind_t, need_pos hkk, need_pos hk]
      rw [need64 (by omega) (by omega), cast20]
    · have e : tailX p k = List.getD p k zInstr := if_neg hc
      rw [e]
      simp only [hT, Bool.not_true, sel_f, bind_t]
      rw [need64 (by omega) (by omega), cast20]
  · dsimp only
    have e1 : (deadL p).length = stayN (deadG p) p.length := woL_len _
    have e2 : (hopsL p).length = stayN (hopG p) p.length := woL_len _
    rw [neg (by omega), e1, e2]
    simp only [hT, sel_t, bind_t]
    rw [q_lives20]
    rfl
end Go.Proofs
