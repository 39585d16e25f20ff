/- Part of the proof of the law's row: YtnoeomlanbdjeaaWq08e. -/
import Derived.Test.YtnoeomlanbdjeaaWq09c
set_option linter.all false
set_option linter.unusedVariables false
set_option linter.unusedSimpArgs false
/-! Chapter 8: rising lists, walks over maps, what calls what. -/
namespace Go.Abs
end Go.Abs
namespace Go.Proofs
open Go Go.Abs
/-! ### Rising lists -/
/-- The numbers below 'n' of which something holds, rising. -/
noncomputable def listP (n : Nat) (p : Nat → Prop) : List Int := ((List.range n).filter fun i => pb (p i)).map fun (i : Nat) => (i : Int)
theorem mem_listP {n : Nat} {p : Nat → Prop} {k : Int} : k ∈ listP n p ↔ ∃ i : Nat, k = (i : Int) ∧ i < n ∧ p i := by
 unfold listP
 simp only [List.mem_map, List.mem_filter, List.mem_range, pb_iff]
 exact ⟨fun ⟨i, ⟨h1, h2⟩, h3⟩ => ⟨i, h3.symm, h1, h2⟩, fun ⟨i, h1, h2, h3⟩ => ⟨i, ⟨h2, h3⟩, h1.symm⟩⟩
theorem listP_rising (n : Nat) (p : Nat → Prop) : (listP n p).Pairwise (· < ·) := by
 unfold listP
 rw [List.pairwise_map]
 exact (List.pairwise_lt_range.filter _).imp fun h => by omega
theorem rising_nodup {l : List Int} (h : l.Pairwise (· < ·)) : l.Nodup := h.imp fun h => by omega
theorem listP_len {n : Nat} {p : Nat → Prop} : (listP n p).length ≤ n := by
 unfold listP
 rw [List.length_map]
 have := List.length_filter_le (fun i => pb (p i)) (List.range n)
 simpa using this
def sortI (l : List Int) : List Int := l.mergeSort (fun a b => decide (a ≤ b))
theorem sortI_perm (l : List Int) : (sortI l).Perm l := List.mergeSort_perm _ _
theorem sortI_sorted (l : List Int) : (sortI l).Pairwise (· ≤ ·) := by
 have := List.pairwise_mergeSort (le := fun a b : Int => decide (a ≤ b)) (fun a b c h1 h2 => by simp only [decide_eq_true_eq] at *; omega) (fun a b => by simp only [Bool.or_eq_true, decide_eq_true_eq]; omega) l
 exact this.imp fun h => by simpa using h
theorem sortI_listP {l : List Int} {n : Nat} {p : Nat → Prop} (hn : l.Nodup) (h : ∀ k, k ∈ l ↔ ∃ i : Nat, k = (i : Int) ∧ i < n ∧ p i) : sortI l = listP n p := by
 refine List.Perm.eq_of_pairwise (le := (· ≤ ·)) (fun x y _ _ h1 h2 => by omega) (sortI_sorted l) ((listP_rising n p).imp fun h => by omega) ?_
 exact (sortI_perm l).trans ((List.perm_ext_iff_of_nodup hn (rising_nodup (listP_rising n p))).2 fun k => by rw [h k, mem_listP])
/-! ### What calls what -/
/-- A right grammar. -/
def RightG (g : G) : Prop := (chkG g).2 = 0
theorem unkN_none {g : G} : ∀ {l : List NodeD} {k : Nat}, unkN g l k = none → ∀ n ∈ l, n.1 = 6 → ∃ j, findR g n.2.2.1 = some j
 | [], _, _, n, hn, _ => by simp at hn
 | n0 :: l, k, h, n, hn, h6 => by
   unfold unkN at h
   split at h
   ·cases h
   ·rename_i hc
    rcases List.mem_cons.1 hn with rfl | hn
    ·cases hf : findR g n.2.2.1 with
     | some j => exact ⟨j, rfl⟩
     | none => exact absurd ⟨h6, hf⟩ hc
    ·exact unkN_none h n hn h6
theorem unkG_none {g : G} : ∀ {l : List RuleD} {i : Nat}, unkG g l i = none → ∀ r ∈ l, ∀ n ∈ (r.2.1 : List NodeD), n.1 = 6 → ∃ j, findR g n.2.2.1 = some j
 | [], _, _, r, hr => by simp at hr
 | r0 :: l, i, h, r, hr => by
   unfold unkG at h
   split at h
   ·cases h
   ·rename_i hu
    rcases List.mem_cons.1 hr with rfl | hr
    ·exact unkN_none hu
    ·exact unkG_none h r hr
theorem scan_err {g : G} : ∀ {k i : Nat} {n : Int} {e : SpotD × Int}, scanG g k i n = some e → e.2 ≠ 0
 | 0, _, _, _, h => by simp [scanG] at h
 | k + 1, i, n, e, h => by
   unfold scanG at h
   split at h
   ·simp only [Option.some.injEq] at h; subst h; simp
   split at h
   ·simp only [Option.some.injEq] at h; subst h; simp
   split at h
   ·rename_i h5
    simp only [Option.some.injEq] at h; subst h; exact h5
   split at h
   ·simp only [Option.some.injEq] at h; subst h; simp
   ·exact scan_err h
structure RG (g : G) : Prop where
 pos : 0 < g.length
 len : g.length ≤ 200
 good : ∀ j, j < g.length → goodR g j
 calls : ∀ r ∈ g, ∀ n ∈ (r.2.1 : List NodeD), n.1 = 6 → ∃ j, findR g n.2.2.1 = some j
theorem rg_of {g : G} (h : RightG g) : RG g := by
 unfold RightG chkG at h
 split at h
 ·simp at h
 split at h
 ·simp at h
 rename_i h0 h2
 cases hs : scanG g g.length 0 0 with
 | some e => rw [hs] at h; exact absurd h (scan_err hs)
 | none =>
   rw [hs] at h
   have h : (spotE (unkG g g 0)).2 = 0 := h
   cases hu : unkG g g 0 with
   | some p => rw [hu] at h; simp [spotE] at h
   | none => exact ⟨by omega, by omega, fun j hj => scan_good hs j (Nat.zero_le _) (by omega), unkG_none hu⟩
/-- A rule calls a rule. -/
def E (g : G) (r q : Nat) : Prop := ∃ n ∈ ((rth g r).2.1 : List NodeD), n.1 = 6 ∧ findR g n.2.2.1 = some q
theorem E_lt {g : G} {r q : Nat} (h : E g r q) : q < g.length := by
 obtain ⟨n, _, _, h⟩ := h
 exact (findR_at h).1
end Go.Proofs

/-! Chapter 9: what is known of a pattern's parts, by the program and by the book. -/
namespace Go.Proofs
open Go Go.Abs
set_option linter.unusedSimpArgs false
section
variable {α : Type}
/-- The last nodes of what lies on the stack ahead of a node. -/
def endsI (p : List NodeD) (k : Nat) : List Nat := if h : 0 < k ∧ (beginP p ((k : Int) - 1)).toNat < k then endsI p (beginP p ((k : Int) - 1)).toNat ++ [k - 1] else []
termination_by k
decreasing_by exact h.2
theorem look_of {p : List NodeD} (hp : (chkP p).2 = 0) {k : Nat} (hk : k < p.length) : lookP p (k : Int) = 0 := lookP_of hp (by omega) (by omega)
theorem ends_succ {p : List NodeD} (hp : (chkP p).2 = 0) {k : Nat} (hk : k < p.length) : endsI p (k + 1) = endsI p (beginP p (k : Int)).toNat ++ [k] := by
 obtain ⟨h1, h2, _⟩ := begin_le (look_of hp hk)
 rw [endsI]
 have e : ((k + 1 : Nat) : Int) - 1 = (k : Int) := by omega
 rw [e, dif_pos ⟨by omega, by omega⟩]
 rfl
theorem ends_zero {p : List NodeD} : endsI p 0 = [] := by rw [endsI, dif_neg (by omega)]
/-- The stack ahead of a node ends with its parts. -/
theorem ends_kids {p : List NodeD} (hp : (chkP p).2 = 0) {k : Nat} (hk : k < p.length) :
  (arity (nth p k).1 = 0 → beginP p (k : Int) = k) ∧
  (arity (nth p k).1 = 1 → 1 ≤ k ∧ endsI p k = endsI p (beginP p (k : Int)).toNat ++ [k - 1]) ∧
  (arity (nth p k).1 = 2 → 1 ≤ k ∧ 1 ≤ beginP p ((k : Int) - 1) ∧ beginP p ((k : Int) - 1) ≤ (k : Int) - 1 ∧ endsI p k = endsI p (beginP p (k : Int)).toNat ++ [(beginP p ((k : Int) - 1) - 1).toNat, k - 1]) := by
 obtain ⟨_, _, n0, n1, n2⟩ := node_ok (look_of hp hk)
 refine ⟨fun h => (n0 h).1, fun h => ?_, fun h => ?_⟩
 ·obtain ⟨m1, m2, _⟩ := n1 h
  obtain ⟨j, rfl⟩ : ∃ j, k = j + 1 := ⟨k - 1, by omega⟩
  refine ⟨by omega, ?_⟩
  rw [ends_succ hp (by omega), m2, show ((j + 1 : Nat) : Int) - 1 = (j : Int) by omega]
  rfl
 ·obtain ⟨m1, m2, m3, _⟩ := n2 h
  obtain ⟨j, rfl⟩ : ∃ j, k = j + 1 := ⟨k - 1, by omega⟩
  have ej : ((j + 1 : Nat) : Int) - 1 = (j : Int) := by omega
  rw [ej] at m2 m3 ⊢
  obtain ⟨b1, b2, _⟩ := begin_le (look_of hp (show j < p.length by omega))
  refine ⟨by omega, m2, b2, ?_⟩
  rw [ends_succ hp (by omega)]
  obtain ⟨i, hi⟩ : ∃ i : Nat, beginP p (j : Int) = (i : Int) + 1 := ⟨(beginP p (j : Int) - 1).toNat, by omega⟩
  rw [hi] at m3 ⊢
  have e2 : ((i : Int) + 1).toNat = i + 1 := by omega
  rw [e2, ends_succ hp (by omega), m3, show (i : Int) + 1 - 1 = (i : Int) by omega, List.append_assoc]
  simp
theorem ends_lt {p : List NodeD} (hp : (chkP p).2 = 0) : ∀ {k : Nat}, k ≤ p.length → ∀ i ∈ endsI p k, i < k := by
 intro k
 induction k using Nat.strongRecOn with
 | _ k ih =>
   intro hk i hi
   cases k with
   | zero => rw [ends_zero] at hi; cases hi
   | succ k =>
     obtain ⟨b1, b2, _⟩ := begin_le (look_of hp (show k < p.length by omega))
     rw [ends_succ hp (by omega)] at hi
     rcases List.mem_append.1 hi with hi | hi
     ·have := ih _ (by omega) (by omega) i hi
      omega
     ·have : i = k := by simpa using hi
      omega
theorem ends_len {p : List NodeD} (hp : (chkP p).2 = 0) : ∀ {k : Nat}, k ≤ p.length → (endsI p k).length ≤ k := by
 intro k
 induction k using Nat.strongRecOn with
 | _ k ih =>
   intro hk
   cases k with
   | zero => rw [ends_zero]; simp
   | succ k =>
     obtain ⟨b1, b2, _⟩ := begin_le (look_of hp (show k < p.length by omega))
     rw [ends_succ hp (by omega), List.length_append]
     have := ih (beginP p (k : Int)).toNat (by omega) (by omega)
     simp
     omega
end
/-! ### Values of parts, node by node: 'f' gives a node's by its parts' -/
section
variable {β : Type} (z : β) (f : NodeD → β → β → β) (p : List NodeD)
def kidA (k : Nat) (l : List β) : β := if arity (nth p k).1 = 1 then l.getD (k - 1) z else if arity (nth p k).1 = 2 then l.getD (beginP p ((k : Int) - 1) - 1).toNat z else z
def kidB (k : Nat) (l : List β) : β := if arity (nth p k).1 = 2 then l.getD (k - 1) z else z
def valsOf : Nat → List β
 | 0 => []
 | k + 1 => valsOf k ++ [f (nth p k) (kidA z p k (valsOf k)) (kidB z p k (valsOf k))]
/-- A part's value. -/
def valOf (i : Nat) : β := (valsOf z f p (i + 1)).getD i z
theorem valsOf_len : ∀ k, (valsOf z f p k).length = k
 | 0 => rfl
 | k + 1 => by rw [valsOf, List.length_append, valsOf_len k]; rfl
theorem valsOf_at : ∀ {k i : Nat}, i < k → (valsOf z f p k).getD i z = valOf z f p i
 | k + 1, i, h => by
   by_cases e : i = k
   ·subst e; rfl
   ·rw [valsOf, List.getD_eq_getElem?_getD, List.getElem?_append_left (by rw [valsOf_len]; omega), ← List.getD_eq_getElem?_getD]
    exact valsOf_at (by omega)
theorem valOf_is (i : Nat) : valOf z f p i = f (nth p i) (kidA z p i (valsOf z f p i)) (kidB z p i (valsOf z f p i)) := by
 unfold valOf
 rw [valsOf, List.getD_eq_getElem?_getD, List.getElem?_append_right (by rw [valsOf_len]; exact Nat.le_refl _), valsOf_len]
 simp
theorem kidA_one {k : Nat} (h : arity (nth p k).1 = 1) (hk : 1 ≤ k) : kidA z p k (valsOf z f p k) = valOf z f p (k - 1) := by
 unfold kidA; rw [if_pos h]; exact valsOf_at z f p (by omega)
theorem kidA_two {k : Nat} (h : arity (nth p k).1 = 2) (h1 : 1 ≤ beginP p ((k : Int) - 1)) (h2 : beginP p ((k : Int) - 1) ≤ (k : Int) - 1) : kidA z p k (valsOf z f p k) = valOf z f p (beginP p ((k : Int) - 1) - 1).toNat := by
 unfold kidA; rw [if_neg (by omega), if_pos h]; exact valsOf_at z f p (by omega)
theorem kidB_two {k : Nat} (h : arity (nth p k).1 = 2) (hk : 1 ≤ k) : kidB z p k (valsOf z f p k) = valOf z f p (k - 1) := by
 unfold kidB; rw [if_pos h]; exact valsOf_at z f p (by omega)
theorem kid_zero {k : Nat} (h : arity (nth p k).1 = 0) (l : List β) : kidA z p k l = z ∧ kidB z p k l = z := by
 unfold kidA kidB
 rw [if_neg (by omega), if_neg (by omega), if_neg (by omega)]
 exact ⟨rfl, rfl⟩
/-- The stack ahead of a node. -/
def stkOf (k : Nat) : List β := (endsI p k).map (valOf z f p)
theorem stk_step (hp : (chkP p).2 = 0) {k : Nat} (hk : k < p.length) : arity (nth p k).1 ≤ (stkOf z f p k).length ∧ (stkOf z f p k).take ((stkOf z f p k).length - (arity (nth p k).1).toNat) ++ [valOf z f p k] = stkOf z f p (k + 1) ∧
  (arity (nth p k).1 = 1 → (stkOf z f p k).getD ((stkOf z f p k).length - 1) z = valOf z f p (k - 1)) ∧
  (arity (nth p k).1 = 2 → (stkOf z f p k).getD ((stkOf z f p k).length - 2) z = valOf z f p (beginP p ((k : Int) - 1) - 1).toNat ∧ (stkOf z f p k).getD ((stkOf z f p k).length - 1) z = valOf z f p (k - 1)) := by
 obtain ⟨h0, h1, h2⟩ := ends_kids hp hk
 have ha := (node_ok (look_of hp hk)).1
 have hle := arity_le (nth p k).1
 have hs : stkOf z f p (k + 1) = stkOf z f p (beginP p (k : Int)).toNat ++ [valOf z f p k] := by unfold stkOf; rw [ends_succ hp hk]; simp
 rw [hs]
 rcases (show arity (nth p k).1 = 0 ∨ arity (nth p k).1 = 1 ∨ arity (nth p k).1 = 2 by omega) with h | h | h
 ·rw [h, h0 h]
  refine ⟨by omega, ?_, fun e => by omega, fun e => by omega⟩
  simp
 ·obtain ⟨k1, k2⟩ := h1 h
  have e : stkOf z f p k = stkOf z f p (beginP p (k : Int)).toNat ++ [valOf z f p (k - 1)] := by unfold stkOf; rw [k2]; simp
  rw [h, e]
  refine ⟨by simp; omega, ?_, fun _ => ?_, fun e => by omega⟩
  ·simp
  ·simp [List.getD_eq_getElem?_getD]
 ·obtain ⟨k1, k2, k3, k4⟩ := h2 h
  have e : stkOf z f p k = stkOf z f p (beginP p (k : Int)).toNat ++ [valOf z f p (beginP p ((k : Int) - 1) - 1).toNat, valOf z f p (k - 1)] := by unfold stkOf; rw [k4]; simp
  rw [h, e]
  refine ⟨by simp; omega, ?_, fun e => by omega, fun _ => ⟨?_, ?_⟩⟩
  ·simp
  ·simp [List.getD_eq_getElem?_getD]
  ·simp [List.getD_eq_getElem?_getD, List.getElem?_append_right]
theorem stk_len (hp : (chkP p).2 = 0) {k : Nat} (hk : k ≤ p.length) : (stkOf z f p k).length ≤ k := by
 unfold stkOf; rw [List.length_map]; exact ends_len hp hk
end
theorem q_begins {p : List NodeD} (hp : (chkP p).2 = 0) : F_ref04_Begins (p, ()) = some ((shP p).map (·.1), ()) := by
 obtain ⟨h1, h2, _⟩ := chk_len hp
 unfold F_ref04_Begins
 rw [q_from p (by omega), h2]
 simp [fromP, bind_t]
theorem nodeOk_of {p : List NodeD} (hp : (chkP p).2 = 0) {k : Nat} (hk : k < p.length) : NodeOk (nth p k) := by
 obtain ⟨ha, hf, _⟩ := node_ok (look_of hp hk)
 unfold fieldB at hf
 split at hf
 ·cases hf
 split at hf
 ·cases hf
 rename_i h2
 simp only [Bool.or_eq_true, Bool.and_eq_true, decide_eq_true_eq, not_or] at h2
 refine ⟨op23_of ha, fun _ => by omega, fun h4 => ?_⟩
 rw [if_pos h4] at hf
 simp only [Bool.and_eq_true, Bool.not_eq_true', decide_eq_false_iff_not, decide_eq_true_eq] at hf
 have := size_pos hf.1
 omega
end Go.Proofs

/-! Chapter 9: Lengths, and the book's parts. -/
namespace Go.Proofs
open Go Go.Abs
set_option linter.unusedSimpArgs false
abbrev vals9 (c : NodeD → Em) (p : List NodeD) (k : Nat) : List Em := valsOf zEmptiness (fun n a b => nodeE n (c n) a b) p k
abbrev val9 (c : NodeD → Em) (p : List NodeD) (k : Nat) : Em := valOf zEmptiness (fun n a b => nodeE n (c n) a b) p k
abbrev stk9 (c : NodeD → Em) (p : List NodeD) (k : Nat) : List Em := stkOf zEmptiness (fun n a b => nodeE n (c n) a b) p k
/-- What holds of the parts holds of the node. -/
theorem val_ind {c : NodeD → Em} {p : List NodeD} (hp : (chkP p).2 = 0) (I : Em → Prop) (h : ∀ k, k < p.length → ∀ a b, (arity (nth p k).1 = 0 → a = zEmptiness ∧ b = zEmptiness) → (arity (nth p k).1 = 1 → I a ∧ b = zEmptiness) → (arity (nth p k).1 = 2 → I a ∧ I b) → I (nodeE (nth p k) (c (nth p k)) a b)) : ∀ k, k < p.length → I (val9 c p k) := by
 intro k
 induction k using Nat.strongRecOn with
 | _ k ih =>
   intro hk
   rw [show val9 c p k = _ from valOf_is _ _ _ _]
   refine h k hk _ _ (fun h0 => ?_) (fun h1 => ?_) (fun h2 => ?_)
   ·exact kid_zero _ _ h0 _
   ·obtain ⟨m1, _⟩ := (ends_kids hp hk).2.1 h1
    rw [kidA_one _ _ _ h1 m1]
    refine ⟨ih _ (by omega) (by omega), ?_⟩
    unfold kidB
    rw [if_neg (by omega)]
   ·obtain ⟨m1, m2, m3, _⟩ := (ends_kids hp hk).2.2 h2
    rw [kidA_two _ _ _ h2 m2 m3, kidB_two _ _ _ h2 m1]
    exact ⟨ih _ (by omega) (by omega), ih _ (by omega) (by omega)⟩
theorem rg_val {c : NodeD → Em} {p : List NodeD} (hp : (chkP p).2 = 0) (hc : ∀ k, k < p.length → (nth p k).1 = 6 → RgE (c (nth p k))) : ∀ k, k < p.length → RgE (val9 c p k) := by
 refine val_ind hp RgE fun k hk a b h0 h1 h2 => rg_node (nodeOk_of hp hk) (hc k hk) ?_ ?_
 ·rcases (show arity (nth p k).1 = 0 ∨ arity (nth p k).1 = 1 ∨ arity (nth p k).1 = 2 by have := (node_ok (look_of hp hk)).1; have := arity_le (nth p k).1; omega) with h | h | h
  ·rw [(h0 h).1]; exact rg_zero
  ·exact (h1 h).1
  ·exact (h2 h).1
 ·rcases (show arity (nth p k).1 = 0 ∨ arity (nth p k).1 = 1 ∨ arity (nth p k).1 = 2 by have := (node_ok (look_of hp hk)).1; have := arity_le (nth p k).1; omega) with h | h | h
  ·rw [(h0 h).2]; exact rg_zero
  ·rw [(h1 h).2]; exact rg_zero
  ·exact (h2 h).2
/-- What a called name's rule is known by. -/
def CallAt (m : List (ByteArray × Int)) (now : List Em) (c : NodeD → Em) (n : NodeD) : Prop := ∃ q : Nat, Option.getD (mfind eqS m n.2.2.1) (0 : Int) = (q : Int) ∧ q < now.length ∧ c n = List.getD now q zEmptiness
theorem q_em1 {m : List (ByteArray × Int)} {now : List Em} {c : NodeD → Em} {n : NodeD} (h : CallAt m now c n) : F_gist_Emptiness_1 (n.2.2.1, now, m, ()) = some (c n, now, m, ()) := by
 obtain ⟨q, h1, h2, h3⟩ := h
 unfold F_gist_Emptiness_1
 simp only [h1, Int.toNat_natCast, Nat.zero_add]
 rw [need_pos (by omega), need_pos h2, h3]
theorem arity_78 {k : Int} (h : arity k = 2) : k = 7 ∨ k = 8 := by
 unfold arity at h
 split at h
 ·assumption
 ·split at h
  ·omega
  ·split at h <;> omega
theorem nodeE_6 {n : NodeD} (h : n.1 = 6) {c a b : Em} : nodeE n c a b = c := by unfold nodeE; rw [if_pos h]
theorem nodeE_7 {n : NodeD} (h : n.1 = 7) {c a b : Em} : nodeE n c a b = rowE a b := by unfold nodeE; rw [if_neg (by omega), if_pos h]
theorem nodeE_8 {n : NodeD} (h : n.1 = 8) {c a b : Em} : nodeE n c a b = eitherE a b := by unfold nodeE; rw [if_neg (by omega), if_neg (by omega), if_pos h]
theorem nodeE_1 {n : NodeD} (h6 : ¬ n.1 = 6) (h7 : ¬ n.1 = 7) (h8 : ¬ n.1 = 8) {c a b : Em} : nodeE n c a b = oneE n a := by unfold nodeE; rw [if_neg h6, if_neg h7, if_neg h8]
theorem q_lengths {p : List NodeD} (hp : (chkP p).2 = 0) {now : List Em} {m : List (ByteArray × Int)} {c : NodeD → Em} (hc : ∀ k, k < p.length → (nth p k).1 = 6 → CallAt m now c (nth p k)) (hr : ∀ k, k < p.length → (nth p k).1 = 6 → RgE (c (nth p k))) :
  F_gist_Lengths_em (p, now, m, ()) = some (vals9 c p p.length, now, m, ()) := by
 obtain ⟨hlen, _⟩ := chk_len hp
 unfold F_gist_Lengths_em
 simp only [toPb]
 refine loop_up p.length (fun k => (((k : Int), ()), stk9 c p k, vals9 c p k, now, m, ())) ?_ (fun k hk => ?_) ?_
 ·simp [stkOf, ends_zero, valsOf]
 ·obtain ⟨s1, s2, s3, s4⟩ := stk_step zEmptiness (fun n a b => nodeE n (c n) a b) p hp hk
  have hsl := stk_len zEmptiness (fun n a b => nodeE n (c n) a b) p hp (show k ≤ p.length by omega)
  have hno := nodeOk_of hp hk
  have hz := kid_zero zEmptiness p (k := k)
  have ha := (node_ok (look_of hp hk)).1
  have ha2 := arity_le (nth p k).1
  have hrv := rg_val (c := c) hp hr
  have hv : val9 c p k = nodeE (nth p k) (c (nth p k)) (kidA zEmptiness p k (vals9 c p k)) (kidB zEmptiness p k (vals9 c p k)) := valOf_is _ _ _ _
  have hw : vals9 c p (k + 1) = vals9 c p k ++ [val9 c p k] := by rw [hv]; rfl
  have hwl : (vals9 c p k).length = k := valsOf_len _ _ _ _
  have hnth : List.getD p k zNode = nth p (k : Int) := by simp [nth]
  simp only [Int.toNat_natCast, hnth]
  have eL : stkOf zEmptiness (fun n a b => nodeE n (c n) a b) p k = stk9 c p k := rfl
  rw [eL] at s1 s2 s3 s4 hsl
  generalize stk9 c p k = L at s1 s2 s3 s4 hsl ⊢
  rw [pos (by omega), need_pos (by omega), q_arity, bind_t]
  dsimp only
  rw [need64 (by omega) (by omega), need_pos (by omega)]
  have fin : ∀ V, V = val9 c p k → (need ((0 : Int) ≤ (0 : Int) ∧ ((0 : Int) ≤ (↑(List.length L) : Int) - arity (nth p k).1 ∧ (0 : Int) + ((↑(List.length L) : Int) - arity (nth p k).1) ≤ (↑(List.length L) : Int))) (need ((1 : Nat) ≤ (1 : Nat) ∧ (Int.toNat ((↑(List.length L) : Int) - arity (nth p k).1) ≤ List.length L ∧ (Int.toNat ((↑(List.length L) : Int) - arity (nth p k).1) + (1 : Nat)) * (24 : Nat) ≤ (140737488355328 : Nat))) (need ((1 : Nat) ≤ (1 : Nat) ∧ (List.length (vals9 c p k) + (1 : Nat)) * (24 : Nat) ≤ (140737488355328 : Nat)) (need (Fits Go.IntKind.i64 ((k : Int) + (1 : Int))) (some (Sum.inl (((k : Int) + (1 : Int), ()), List.take (Int.toNat ((↑(List.length L) : Int) - arity (nth p k).1)) L ++ [V], vals9 c p k ++ [V], now, m, ()) : ((Int × Unit) × List Em × List Em × List Em × List (ByteArray × Int) × Unit) ⊕ (List Em × List Em × List (ByteArray × Int) × Unit))))))) =
    some (Sum.inl ((((k + 1 : Nat) : Int), ()), stkOf zEmptiness (fun n a b => nodeE n (c n) a b) p (k + 1), vals9 c p (k + 1), now, m, ())) := by
   rintro V rfl
   rw [need_pos (by omega), need_pos (by omega), need_pos (by omega), need64 (by omega) (by omega), ← s2, hw]
   have e : Int.toNat ((↑(List.length L) : Int) - arity (nth p k).1) = L.length - (arity (nth p k).1).toNat := by omega
   rw [e, Int.natCast_add]
   rfl
  by_cases h6 : (nth p k).1 = 6
  ·rw [pos h6, q_em1 (hc k hk h6)]
   simp only [bind_t]
   exact fin _ (by rw [hv, nodeE_6 h6])
  rw [neg h6]
  by_cases h7 : (nth p k).1 = 7
  ·have h2 : arity (nth p k).1 = 2 := by rw [h7]; rfl
   obtain ⟨k1, k2, k3, _⟩ := (ends_kids hp hk).2.2 h2
   obtain ⟨g1, g2⟩ := s4 h2
   have e1 : 0 + Int.toNat ((↑(List.length L) : Int) - arity (nth p k).1) = L.length - 2 := by omega
   have e2 : 0 + Int.toNat ((↑(List.length L) : Int) - arity (nth p k).1) + 1 = L.length - 1 := by omega
   rw [pos h7, need_pos (by omega), need_pos (by omega), need_pos (by omega), need_pos (by omega), e2, e1, g1, g2, q_rowE (hrv _ (by omega)) (hrv _ (by omega))]
   simp only [bind_t]
   exact fin _ (by rw [hv, kidA_two _ _ _ h2 k2 k3, kidB_two _ _ _ h2 k1]; rw [nodeE_7 h7])
  rw [neg h7]
  by_cases h8 : (nth p k).1 = 8
  ·have h2 : arity (nth p k).1 = 2 := by rw [h8]; rfl
   obtain ⟨k1, k2, k3, _⟩ := (ends_kids hp hk).2.2 h2
   obtain ⟨g1, g2⟩ := s4 h2
   have e1 : 0 + Int.toNat ((↑(List.length L) : Int) - arity (nth p k).1) = L.length - 2 := by omega
   have e2 : 0 + Int.toNat ((↑(List.length L) : Int) - arity (nth p k).1) + 1 = L.length - 1 := by omega
   rw [pos h8, need_pos (by omega), need_pos (by omega), need_pos (by omega), need_pos (by omega), e2, e1, g1, g2, q_eitherE]
   simp only [bind_t]
   exact fin _ (by rw [hv, kidA_two _ _ _ h2 k2 k3, kidB_two _ _ _ h2 k1]; rw [nodeE_8 h8])
  rw [neg h8]
  have hn2 : arity (nth p k).1 ≠ 2 := fun e => by rcases arity_78 e with e | e <;> omega
  by_cases h1 : arity (nth p k).1 = 1
  ·obtain ⟨k1, _⟩ := (ends_kids hp hk).2.1 h1
   have g1 := s3 h1
   have e1 : 0 + Int.toNat ((↑(List.length L) : Int) - arity (nth p k).1) = L.length - 1 := by omega
   rw [pos (by omega), need_pos (by omega), need_pos (by omega), e1, g1, q_oneE hno.op ⟨h6, h7, h8⟩ hno.cnt (hrv _ (by omega))]
   simp only [bind_t]
   exact fin _ (by rw [hv, kidA_one _ _ _ h1 k1]; rw [nodeE_1 h6 h7 h8])
  ·have h0 : arity (nth p k).1 = 0 := by omega
   rw [neg (by omega), show ((false, false, (0 : Int), (0 : Int), ()) : Em) = zEmptiness from rfl, q_oneE hno.op ⟨h6, h7, h8⟩ hno.cnt rg_zero]
   simp only [bind_t]
   exact fin _ (by rw [hv, (hz h0 _).1, nodeE_1 h6 h7 h8])
 ·dsimp only
  rw [neg (by omega)]
end Go.Proofs

/-! Chapter 9: the book's parts. -/
namespace Go.Proofs
open Go Go.Abs
set_option linter.unusedSimpArgs false
/-- What the rule called by a node is known by. -/
def callE (g : G) (rules : List Em) (n : NodeD) : Em := List.getD rules ((findR g n.2.2.1).getD 0) zEmptiness
theorem q_gnums {g : G} (hg : RG g) : F_gist_Numbers ((g, ()), ()) = some (nums g, ()) := by
 have hn := hg.len
 unfold F_gist_Numbers
 simp only [toPb]
 refine loop_up (σ := (Int × Unit) × List (ByteArray × Int) × Unit) (ρ := List (ByteArray × Int) × Unit) g.length (fun i => (((i : Int), ()), numsF g i, ())) (s0 := (((0 : Int), ()), [], ())) rfl ?_ ?_
 ·intro i hi
  have hf : mfind eqS (numsF g i) (List.getD g i zRule).1 = none := by
   rw [numsF_find (by omega)]
   have h2 := (hg.good i hi).2.1
   cases hf : findF (List.getD g i zRule).1 (List.take i g) 0 with
   | none => rfl
   | some k =>
     exfalso
     apply h2
     have key : ∀ s, findF s (List.take i g) 0 = some k → findR g s = some k := fun s hs => by
      unfold findR
      conv => lhs; rw [← List.take_append_drop i g]
      rw [findF_append, hs]
     have e : findR g (rth g i).1 = some k := key _ hf
     obtain ⟨_, k2, _⟩ := findF_some hf
     rw [List.length_take] at k2
     unfold numR
     rw [e]
     show (k : Int) < (i : Int)
     omega
  dsimp only
  rw [pos (by omega), need_pos (by omega), need64 (by omega) (by omega), Int.toNat_natCast, mput_new hf, ← cast_succ]
  simp only [numsF, hf, if_true]
 ·dsimp only
  rw [neg (by omega)]
  rfl
theorem callAt {g : G} {now : List Em} {n : NodeD} {q : Nat} (hl : now.length = g.length) (h : findR g n.2.2.1 = some q) : CallAt (nums g) now (callE g now) n :=
 ⟨q, by rw [nums_find, h]; rfl, by rw [hl]; exact (findR_at h).1, by unfold callE; rw [h]; rfl⟩
end Go.Proofs

/-! Chapter 8: maps of numbers; the graph of a right grammar; what is reached. -/
namespace Go.Proofs
open Go Go.Abs
/-! ### Maps of numbers -/
def keysM (m : List (Int × Int)) : List Int := m.map fun y => y.1
theorem mem_put {x v k : Int} : ∀ {m : List (Int × Int)}, k ∈ keysM (mput eqI m x v) ↔ k = x ∨ k ∈ keysM m
 | [] => by simp [mput, keysM]
 | (a, u) :: m => by
   unfold mput
   by_cases h : eqI x a = true
   ·rw [if_pos h]
    have := eqI_iff.1 h
    subst this
    simp [keysM]
   ·rw [if_neg h]
    show k ∈ a :: keysM (mput eqI m x v) ↔ k = x ∨ k ∈ a :: keysM m
    rw [List.mem_cons, List.mem_cons, mem_put]
    exact ⟨fun h => by rcases h with h | h | h <;> simp [h], fun h => by rcases h with h | h | h <;> simp [h]⟩
theorem find_val {k : Int} : ∀ {m : List (Int × Int)} {v : Int}, mfind eqI m k = some v → (k, v) ∈ m
 | (a, u) :: m, v, h => by
   unfold mfind at h
   split at h
   ·rename_i h1
    have h1 := eqI_iff.1 h1
    subst h1
    cases h
    exact List.mem_cons_self
   ·exact List.mem_cons_of_mem _ (find_val h)
theorem find_no {k : Int} : ∀ {m : List (Int × Int)}, mfind eqI m k = none → k ∉ keysM m
 | [], _ => by simp [keysM]
 | (a, u) :: m, h => by
   unfold mfind at h
   split at h
   ·cases h
   ·rename_i h1
    show k ∉ a :: keysM m
    rw [List.mem_cons]
    rintro (h2 | h2)
    ·exact h1 (eqI_iff.2 h2)
    ·exact find_no h h2
/-- A map that is used as a set. -/
structure SetM (n : Nat) (m : List (Int × Int)) (p : Nat → Prop) : Prop where
 nodup : (keysM m).Nodup
 ones : ∀ y ∈ m, y.2 = 1
 mem : ∀ k, k ∈ keysM m ↔ ∃ i : Nat, k = (i : Int) ∧ i < n ∧ p i
theorem SetM.len {n : Nat} {m : List (Int × Int)} {p : Nat → Prop} (h : SetM n m p) : m.length ≤ n := by
 have h1 := sortI_listP h.nodup h.mem
 have h2 := congrArg List.length h1
 rw [(sortI_perm _).length_eq] at h2
 have h3 := @listP_len n p
 simp only [keysM, List.length_map] at h2
 omega
theorem SetM.at {n : Nat} {m : List (Int × Int)} {p : Nat → Prop} (h : SetM n m p) (k : Nat) (hk : k < n) : Option.getD (mfind eqI m (k : Int)) (0 : Int) = if pb (p k) then 1 else 0 := by
 cases hf : mfind eqI m (k : Int) with
 | none =>
   have h1 := find_no hf
   rw [h.mem] at h1
   rw [pb_f (fun hp => h1 ⟨k, rfl, hk, hp⟩)]
   rfl
 | some v =>
   have h1 := find_val hf
   have h2 : (k : Int) ∈ keysM m := List.mem_map.2 ⟨_, h1, rfl⟩
   obtain ⟨i, h3, h4, h5⟩ := (h.mem _).1 h2
   have : k = i := by omega
   subst this
   rw [pb_t h5]
   exact h.ones _ h1
/-! ### The graph -/
def idxN (g : G) (x : NodeD) : Int := Option.getD (mfind eqS (nums g) x.2.2.1) 0
def callM (g : G) (body : List NodeD) : Nat → List (Int × Int)
 | 0 => []
 | k + 1 => if (List.getD body k zNode).1 = 6 then mput eqI (callM g body k) (idxN g (List.getD body k zNode)) (Option.getD (mfind eqI (callM g body k) (idxN g (List.getD body k zNode))) 0 + 1) else callM g body k
theorem callM_mem {g : G} {body : List NodeD} {x : Int} : ∀ k, x ∈ keysM (callM g body k) ↔ ∃ i, i < k ∧ (List.getD body i zNode).1 = 6 ∧ x = idxN g (List.getD body i zNode)
 | 0 => by simp [callM, keysM]
 | k + 1 => by
   unfold callM
   split
   ·rename_i h6
    rw [mem_put, callM_mem k]
    constructor
    ·rintro (h | ⟨i, h1, h2⟩)
     ·exact ⟨k, by omega, h6, h⟩
     ·exact ⟨i, by omega, h2⟩
    ·rintro ⟨i, h1, h2, h3⟩
     by_cases hi : i = k
     ·subst hi; exact Or.inl h3
     ·exact Or.inr ⟨i, by omega, h2, h3⟩
   ·rename_i h6
    rw [callM_mem k]
    constructor
    ·rintro ⟨i, h1, h2⟩; exact ⟨i, by omega, h2⟩
    ·rintro ⟨i, h1, h2, h3⟩
     by_cases hi : i = k
     ·subst hi; exact absurd h2 h6
     ·exact ⟨i, by omega, h2, h3⟩
theorem E_row {g : G} (hg : RG g) {r : Nat} (hr : r < g.length) (x : Int) : x ∈ keysM (callM g (rth g r).2.1 (rth g r).2.1.length) ↔ ∃ i : Nat, x = (i : Int) ∧ i < g.length ∧ E g r i := by
 rw [callM_mem]
 constructor
 ·rintro ⟨i, h1, h2, rfl⟩
  have hm : List.getD (rth g r).2.1 i zNode ∈ ((rth g r).2.1 : List NodeD) := by
   rw [List.getD_eq_getElem?_getD, List.getElem?_eq_getElem h1]
   exact List.getElem_mem h1
  obtain ⟨j, hj⟩ := hg.calls _ (getD_memR hr) _ hm h2
  refine ⟨j, ?_, (findR_at hj).1, _, hm, h2, hj⟩
  unfold idxN
  rw [nums_find, hj]
  rfl
 ·rintro ⟨i, rfl, h1, n, hn, h6, hf⟩
  obtain ⟨j, hj, rfl⟩ := List.getElem_of_mem hn
  have e : List.getD (rth g r).2.1 j zNode = (rth g r).2.1[j] := by
   rw [List.getD_eq_getElem?_getD, List.getElem?_eq_getElem hj]
   rfl
  refine ⟨j, hj, by rw [e]; exact h6, ?_⟩
  unfold idxN
  rw [e, nums_find, hf]
  rfl
end Go.Proofs
