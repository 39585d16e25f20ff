/- Part of the proof of the law's row: YtnoeomlanbdjeaaWq10j. -/
import Derived.Test.YtnoeomlanbdjeaaWq10e
set_option linter.all false
set_option linter.unusedVariables false
set_option linter.unusedSimpArgs false
/-! Chapter 10: the heads by the book. -/
namespace Go.Proofs
open Go Go.Abs
set_option linter.unusedSimpArgs false
theorem ends_rise {p : List NodeD} (hp : (chkP p).2 = 0) : ∀ {k : Nat}, k ≤ p.length → (endsI p k).Pairwise (· < ·) := by
 intro k
 induction k using Nat.strongRecOn with
 | _ k ih =>
   intro hk
   rw [endsI]
   split
   ·rename_i h
    rw [List.pairwise_append]
    refine ⟨ih _ h.2 (by omega), List.pairwise_singleton _ _, fun a ha b hb => ?_⟩
    rw [List.mem_singleton] at hb
    have := ends_lt hp (k := (beginP p ((k : Int) - 1)).toNat) (by omega) a ha
    omega
   ·exact List.Pairwise.nil
/-- Is a rule a head of a part? -/
def HD (g : G) (p : List NodeD) (k q : Nat) : Prop := List.getD (valP g p k).1 q false = true
/-- What is wanted of a node's parts. -/
noncomputable def partV (n : NodeD) (may : List Bool) (K : List Nat) (j : Nat) : Bool := pb (¬ n.1 = 7 ∨ j = 0) || List.getD may (List.getD K 0 0) false
noncomputable def wantK (n : NodeD) (may : List Bool) (K : List Nat) (W : List Bool) : Nat → List Bool
 | 0 => W
 | j + 1 => List.set (wantK n may K W j) (List.getD K j 0) (partV n may K j)
theorem wantK_len {n : NodeD} {may : List Bool} {K : List Nat} {W : List Bool} : ∀ j, (wantK n may K W j).length = W.length
 | 0 => rfl
 | j + 1 => by rw [wantK, List.length_set, wantK_len j]
theorem wantK_at {n : NodeD} {may : List Bool} {K : List Nat} {W : List Bool} (hK : K.Pairwise (· < ·)) (hb : ∀ x ∈ K, x < W.length) : ∀ m, m ≤ K.length → ∀ x, List.getD (wantK n may K W m) x false = true ↔ (∃ j, j < m ∧ List.getD K j 0 = x ∧ partV n may K j = true) ∨ ((∀ j, j < m → List.getD K j 0 ≠ x) ∧ List.getD W x false = true)
 | 0, _, x => by
   constructor
   ·exact fun h => .inr ⟨fun j hj => by omega, h⟩
   ·rintro (⟨j, hj, _⟩ | ⟨_, h⟩)
    ·omega
    ·exact h
 | m + 1, hm, x => by
   have ih := wantK_at (n := n) (may := may) hK hb m (by omega) x
   have hlt : List.getD K m 0 < (wantK n may K W m).length := by rw [wantK_len]; exact hb _ (getD_in (by omega))
   rw [wantK, setD_at hlt]
   by_cases e : List.getD K m 0 = x
   ·rw [if_pos e]
    constructor
    ·exact fun h => .inl ⟨m, by omega, e, h⟩
    ·rintro (⟨j, hj, h1, h2⟩ | ⟨h, _⟩)
     ·by_cases ej : j = m
      ·subst ej; exact h2
      ·exfalso
       have hlt2 := List.pairwise_iff_getElem.1 hK j m (by omega) (by omega) (by omega)
       have e1 : List.getD K j 0 = List.getD K m 0 := by rw [h1, e]
       rw [List.getD_eq_getElem?_getD, List.getD_eq_getElem?_getD, List.getElem?_eq_getElem (by omega), List.getElem?_eq_getElem (by omega)] at e1
       simp only [Option.getD_some] at e1
       omega
     ·exact absurd e (h m (by omega))
   ·rw [if_neg e, ih]
    constructor
    ·rintro (⟨j, hj, h⟩ | ⟨h1, h2⟩)
     ·exact .inl ⟨j, by omega, h⟩
     ·refine .inr ⟨fun j hj => ?_, h2⟩
      by_cases ej : j = m
      ·subst ej; exact e
      ·exact h1 j (by omega)
    ·rintro (⟨j, hj, h1, h2⟩ | ⟨h1, h2⟩)
     ·refine .inl ⟨j, ?_, h1, h2⟩
      by_cases ej : j = m
      ·subst ej; exact absurd h1 e
      ·omega
     ·exact .inr ⟨fun j hj => h1 j (by omega), h2⟩
/-- A part's heads, by its own parts. -/
theorem HD_step {g : G} (hg : RG g) {p : List NodeD} (hp : (chkP p).2 = 0) {may : List Bool} (hmay : ∀ j, j < p.length → List.getD may j false = valN (cN g) p j) {k : Nat} (hk : k < p.length) {K : List Nat} (hK : castL K = partsP p (k : Int)) {q : Nat} (hq : q < 200) :
  HD g p k q ↔ ((nth p k).1 = 6 ∧ q = numQ g (nth p k)) ∨ (¬ (((nth p k).1 = 14 ∨ (nth p k).1 = 16) ∧ (nth p k).2.1 = 0) ∧ ∃ j, j < K.length ∧ partV (nth p k) may K j = true ∧ HD g p (List.getD K j 0) q) := by
 have hv : valP g p k = fP g (nth p k) (kidA zpiece p k (valsOf zpiece (fP g) p k)) (kidB zpiece p k (valsOf zpiece (fP g) p k)) := valOf_is _ _ _ _
 have hn := numQ_lt hg (nth p k)
 have hlen := hg.len
 have castinj : ∀ {a b : List Nat}, castL a = castL b → a = b := fun {a b} h => by
  unfold castL at h
  exact (List.map_inj_right (fun x y h => by omega)).1 h
 unfold HD
 rw [hv]
 show List.getD (headsH (nth p k) (numQ g (nth p k)) _ _ _) q false = true ↔ _
 rcases arity_cases hp hk with h | h | h
 ·have hz := kid_zero zpiece p h (valsOf zpiece (fP g) p k)
  rw [hz.1, hz.2]
  have e0 : K = [] := by
   have : partsP p (k : Int) = [] := by unfold partsP; rw [if_neg (by omega), if_neg (by omega)]
   rw [this] at hK
   exact castinj (b := []) hK
  subst e0
  have hno : ¬ ∃ j, j < ([] : List Nat).length ∧ partV (nth p k) may [] j = true ∧ List.getD (valP g p (List.getD [] j 0)).1 q false = true := fun ⟨j, hj, _⟩ => by simp at hj
  by_cases h6 : (nth p k).1 = 6
  ·unfold headsH
   rw [if_pos h6, setD_at (by rw [noB_len]; omega)]
   constructor
   ·intro h
    split at h
    ·rename_i e; exact .inl ⟨h6, e.symm⟩
    ·rw [noB_at] at h; cases h
   ·rintro (⟨_, e⟩ | ⟨_, h⟩)
    ·rw [if_pos e.symm]
    ·exact absurd h hno
  ·have e : headsH (nth p k) (numQ g (nth p k)) zpiece.1 zpiece.1 zpiece.2.1 = noB := by
    unfold headsH
    rw [if_neg h6, if_neg (by intro e; rw [e] at h; exact absurd h (by decide)), if_neg (by intro e; rw [e] at h; exact absurd h (by decide))]
    split <;> rfl
   rw [e, noB_at]
   constructor
   ·intro h; cases h
   ·rintro (⟨h, _⟩ | ⟨_, h⟩)
    ·exact absurd h h6
    ·exact absurd h hno
 ·obtain ⟨e1, m1⟩ := kids_one h hp hk
  have e0 : K = [k - 1] := by
   rw [e1] at hK
   exact castinj (b := [k - 1]) hK
  subst e0
  rw [kidA_one _ _ _ h m1]
  have hn7 : ¬ (nth p k).1 = 6 ∧ ¬ (nth p k).1 = 7 ∧ ¬ (nth p k).1 = 8 := by rcases arity_1 h with e | e | e | e | e | e | e | e | e | e | e | e | e | e <;> omega
  unfold headsH
  rw [if_neg hn7.1, if_neg hn7.2.2, if_neg hn7.2.1]
  have hp0 : partV (nth p k) may [k - 1] 0 = true := by unfold partV; rw [pb_t (.inr rfl), Bool.true_or]
  by_cases hs : ((nth p k).1 = 14 ∨ (nth p k).1 = 16) ∧ (nth p k).2.1 = 0
  ·rw [if_pos hs, noB_at]
   constructor
   ·intro h; cases h
   ·rintro (⟨h, _⟩ | ⟨h, _⟩)
    ·exact absurd h hn7.1
    ·exact absurd hs h
  ·rw [if_neg hs]
   constructor
   ·exact fun h => .inr ⟨hs, 0, by simp, hp0, h⟩
   ·rintro (⟨h, _⟩ | ⟨_, j, hj, _, h⟩)
    ·exact absurd h hn7.1
    ·have : j = 0 := by simp at hj; exact hj
     subst this
     exact h
 ·obtain ⟨e1, m1, m2⟩ := kids_two h hp hk
  obtain ⟨_, k2, k3, _⟩ := (ends_kids hp hk).2.2 h
  rw [kidA_two _ _ _ h k2 k3, kidB_two _ _ _ h m1]
  generalize (beginP p ((k : Int) - 1) - 1).toNat = a at e1 m2 ⊢
  have e0 : K = [a, k - 1] := by
   rw [e1] at hK
   exact castinj (b := [a, k - 1]) hK
  subst e0
  have ha : (valOf zpiece (fP g) p a).2.1 = valN (cN g) p a := valP_snd hp a (by omega)
  have hp0 : partV (nth p k) may [a, k - 1] 0 = true := by unfold partV; rw [pb_t (.inr rfl), Bool.true_or]
  have hj : ∀ {P : Nat → Prop}, (∃ j, j < [a, k - 1].length ∧ P j) ↔ P 0 ∨ P 1 := fun {P} => by
   constructor
   ·rintro ⟨j, h1, h2⟩
    have : j = 0 ∨ j = 1 := by simp at h1; omega
    rcases this with rfl | rfl
    ·exact .inl h2
    ·exact .inr h2
   ·rintro (h | h)
    ·exact ⟨0, by simp, h⟩
    ·exact ⟨1, by simp, h⟩
  rw [hj]
  have hs : ¬ (((nth p k).1 = 14 ∨ (nth p k).1 = 16) ∧ (nth p k).2.1 = 0) := by rcases arity_78 h with e | e <;> omega
  have h6 : ¬ (nth p k).1 = 6 := by rcases arity_78 h with e | e <;> omega
  unfold headsH
  rw [if_neg h6]
  have hout : ∀ {P Q : Prop}, (P ↔ Q) → (P ↔ ((nth p k).1 = 6 ∧ q = numQ g (nth p k)) ∨ (¬ (((nth p k).1 = 14 ∨ (nth p k).1 = 16) ∧ (nth p k).2.1 = 0) ∧ Q)) := fun h => ⟨fun x => .inr ⟨hs, h.1 x⟩, fun x => by
   rcases x with ⟨x, _⟩ | ⟨_, x⟩
   ·exact absurd x h6
   ·exact h.2 x⟩
  apply hout
  rcases arity_78 h with e | e
  ·have hp1 : partV (nth p k) may [a, k - 1] 1 = valN (cN g) p a := by
    unfold partV
    rw [pb_f (by rintro (h | h); exact h e; omega), Bool.false_or]
    exact hmay a (by omega)
   rw [if_neg (by omega), if_pos e, hp0, hp1, ha]
   cases valN (cN g) p a with
   | true =>
     rw [if_pos rfl, join_at hq, Bool.or_eq_true]
     exact ⟨fun x => x.imp (fun h => ⟨rfl, h⟩) (fun h => ⟨rfl, h⟩), fun x => x.imp (fun h => h.2) (fun h => h.2)⟩
   | false =>
     rw [if_neg (by simp)]
     exact ⟨fun x => .inl ⟨rfl, x⟩, fun x => by
      rcases x with ⟨_, x⟩ | ⟨x, _⟩
      ·exact x
      ·cases x⟩
  ·have hp1 : partV (nth p k) may [a, k - 1] 1 = true := by
    unfold partV
    rw [pb_t (.inl (by omega)), Bool.true_or]
   rw [if_pos e, hp0, hp1, join_at hq, Bool.or_eq_true]
   exact ⟨fun x => x.imp (fun h => ⟨rfl, h⟩) (fun h => ⟨rfl, h⟩), fun x => x.imp (fun h => h.2) (fun h => h.2)⟩
end Go.Proofs

/-! Chapter 10: the heads by the book are those of the program. -/
namespace Go.Proofs
open Go Go.Abs
set_option linter.unusedSimpArgs false
/-- The heads of a rule, by the book. -/
noncomputable def headR (g : G) (r : Nat) : List Bool := genR g.length fun q => List.getD (headP g r) q false
/-- What is known ahead of the nodes below a place. -/
structure InvH (g : G) (p : List NodeD) (k : Nat) (W O : List Bool) : Prop where
 wl : W.length = p.length
 ol : O.length = g.length
 is : ∀ q, q < g.length → (HD g p (p.length - 1) q ↔ List.getD O q false = true ∨ ∃ j, j < k ∧ List.getD W j false = true ∧ HD g p j q)
 ends : ∀ j, j < k → List.getD W j false = true → j ∈ endsI p k
theorem InvH.skip {g : G} {p : List NodeD} (hp : (chkP p).2 = 0) {k : Nat} (hk : k < p.length) {W O : List Bool} (h : InvH g p (k + 1) W O) (hs : ∀ q, q < g.length → ¬ (List.getD W k false = true ∧ HD g p k q)) : InvH g p k W O := by
 obtain ⟨B, Q, e1, e2, _⟩ := ends_parts hp hk
 refine ⟨h.wl, h.ol, fun q hq => ?_, fun j hj hw => ?_⟩
 ·rw [h.is q hq]
  constructor
  ·rintro (h1 | ⟨j, hj, h1, h2⟩)
   ·exact .inl h1
   ·by_cases e : j = k
    ·subst e; exact absurd ⟨h1, h2⟩ (hs q hq)
    ·exact .inr ⟨j, by omega, h1, h2⟩
  ·rintro (h1 | ⟨j, hj, h1, h2⟩)
   ·exact .inl h1
   ·exact .inr ⟨j, by omega, h1, h2⟩
 ·have := h.ends j (by omega) hw
  rw [e2, List.mem_append] at this
  rw [e1, List.mem_append]
  rcases this with h | h
  ·exact .inl h
  ·rw [List.mem_singleton] at h; omega
theorem InvH.step {g : G} (hg : RG g) {p : List NodeD} (hp : (chkP p).2 = 0) {may : List Bool} (hmay : ∀ j, j < p.length → List.getD may j false = valN (cN g) p j) {k : Nat} (hk : k < p.length) {W O O' : List Bool} (h : InvH g p (k + 1) W O) (hw : List.getD W k false = true) (hs : ¬ (((nth p k).1 = 14 ∨ (nth p k).1 = 16) ∧ (nth p k).2.1 = 0)) (ho : O' = if (nth p k).1 = 6 then List.set O (numQ g (nth p k)) true else O) {K : List Nat} (hK : castL K = partsP p (k : Int)) : InvH g p k (wantK (nth p k) may K W K.length) O' := by
 have hlen := hg.len
 obtain ⟨B, Q, e1, e2, e3, _⟩ := ends_parts hp hk
 have eQ : Q = K := (List.map_inj_right (fun x y h => by omega)).1 (show List.map (fun x : Nat => (x : Int)) Q = List.map (fun x : Nat => (x : Int)) K by rw [show List.map (fun x : Nat => (x : Int)) Q = castL Q from rfl, e3, ← hK]; rfl)
 subst eQ
 have hr := ends_rise hp (show k ≤ p.length by omega)
 rw [e1, List.pairwise_append] at hr
 obtain ⟨_, hQr, hBQ⟩ := hr
 have hQk : ∀ x ∈ Q, x < k := fun x hx => ends_lt hp (k := k) (by omega) x (by rw [e1, List.mem_append]; exact .inr hx)
 have hat := wantK_at (n := nth p k) (may := may) (W := W) hQr (fun x hx => by rw [h.wl]; have := hQk x hx; omega) Q.length (Nat.le_refl _)
 have hWB : ∀ j, j < k → List.getD W j false = true → j ∈ B := fun j hj hw => by
  have := h.ends j (by omega) hw
  rw [e2, List.mem_append] at this
  rcases this with h | h
  ·exact h
  ·rw [List.mem_singleton] at h; omega
 have hnum := numQ_lt hg (nth p k)
 have hO : ∀ q, q < g.length → (List.getD O' q false = true ↔ List.getD O q false = true ∨ ((nth p k).1 = 6 ∧ q = numQ g (nth p k))) := fun q hq => by
  rw [ho]
  split
  ·rename_i h6
   rw [setD_at (by rw [h.ol]; omega)]
   constructor
   ·intro h
    split at h
    ·rename_i e; exact .inr ⟨h6, e.symm⟩
    ·exact .inl h
   ·rintro (h | ⟨_, e⟩)
    ·split <;> first | rfl | exact h
    ·rw [if_pos e.symm]
  ·rename_i h6
   exact ⟨.inl, fun x => x.elim (fun x => x) (fun x => absurd x.1 h6)⟩
 refine ⟨by rw [wantK_len, h.wl], by rw [ho]; split; rw [List.length_set]; exact h.ol; exact h.ol, fun q hq => ?_, fun j hj hw => ?_⟩
 ·rw [h.is q hq, hO q hq]
  have hstep := HD_step hg hp hmay hk hK (q := q) (by omega)
  constructor
  ·rintro (h1 | ⟨j, hj, h1, h2⟩)
   ·exact .inl (.inl h1)
   ·by_cases e : j = k
    ·subst e
     rcases hstep.1 h2 with h3 | ⟨_, i, hi, h3, h4⟩
     ·exact .inl (.inr h3)
     ·exact .inr ⟨List.getD Q i 0, hQk _ (getD_in hi), (hat _).2 (.inl ⟨i, hi, rfl, h3⟩), h4⟩
    ·refine .inr ⟨j, by omega, (hat j).2 (.inr ⟨fun i hi he => ?_, h1⟩), h2⟩
     have := hBQ j (hWB j (by omega) h1) _ (getD_in (d := 0) hi)
     omega
  ·rintro ((h1 | h1) | ⟨j, hj, h1, h2⟩)
   ·exact .inl h1
   ·exact .inr ⟨k, by omega, hw, hstep.2 (.inl h1)⟩
   ·rcases (hat j).1 h1 with ⟨i, hi, e, h3⟩ | ⟨_, h3⟩
    ·subst e
     exact .inr ⟨k, by omega, hw, hstep.2 (.inr ⟨hs, i, hi, h3, h2⟩)⟩
    ·exact .inr ⟨j, by omega, h3, h2⟩
 ·rw [e1, List.mem_append]
  rcases (hat j).1 hw with ⟨i, hi, e, _⟩ | ⟨_, h3⟩
  ·subst e
   exact .inr (getD_in hi)
  ·exact .inl (hWB j hj h3)
theorem q_heads {g : G} (hg : RG g) {r : Nat} (hr : r < g.length) : F_ref10_heads ((g, ()), (r : Int), fixN g, ()) = some (headR g r, fixN g, ()) := by
 have hn := hg.len
 obtain ⟨hp, hpos, hlen⟩ := body_ok hg hr
 have hcall := fun k hk h6 => node_call hg hr (k := k) hk h6
 have hnot := nothing_at hg (fixN_len hg) hr
 have hend : ∀ W O, InvH g (bodyR g r) 0 W O → O = headR g r := fun W O h => getD_ext false h.ol genR_len fun q hq => by
  rw [show headR g r = genR g.length fun q => List.getD (headP g r) q false from rfl, genR_get hq]
  have := h.is q hq
  have e : HD g (bodyR g r) ((bodyR g r).length - 1) q ↔ List.getD (headP g r) q false = true := Iff.rfl
  rw [e] at this
  apply Bool.eq_iff_iff.2
  rw [this]
  exact ⟨.inl, fun h => h.elim (fun h => h) (fun ⟨j, hj, _⟩ => by omega)⟩
 have hmay : ∀ j, j < (bodyR g r).length → List.getD (valsN (cN g) (bodyR g r) (bodyR g r).length) j false = valN (cN g) (bodyR g r) j := fun j hj => valsOf_at _ _ _ hj
 have hml : (valsN (cN g) (bodyR g r) (bodyR g r).length).length = (bodyR g r).length := valsOf_len _ _ _ _
 unfold F_ref10_heads
 simp only [toPb]
 simp only [Int.toNat_natCast, show List.getD g r zRule = rth g r from rfl]
 rw [need_pos (by omega), hnot, bind_t]
 dsimp only
 show Option.bind (F_ref04_Begins (bodyR g r, ())) _ = _
 rw [q_begins hp, bind_t]
 dsimp only
 show need _ (need ((0 : Int) ≤ (↑(List.length (bodyR g r)) : Int) ∧ ((↑(List.length (bodyR g r)) : Int) ≤ (↑(List.length (bodyR g r)) : Int) ∧ ((1 : Int) * (↑(List.length (bodyR g r)) : Int) ≤ (281474976710656 : Int) ∧ (↑(List.length (bodyR g r)) : Int) ≤ (9223372036854775807 : Int)))) (need (Fits Go.IntKind.i64 ((↑(List.length (bodyR g r)) : Int) - (1 : Int))) (need ((0 : Int) ≤ (↑(List.length (bodyR g r)) : Int) - (1 : Int) ∧ (↑(List.length (bodyR g r)) : Int) - (1 : Int) < (↑(List.length (List.replicate (List.length (bodyR g r)) false)) : Int)) (need ((0 : Nat) + Int.toNat ((↑(List.length (bodyR g r)) : Int) - (1 : Int)) < List.length (List.replicate (List.length (bodyR g r)) false)) (need (Fits Go.IntKind.i64 ((↑(List.length (bodyR g r)) : Int) - (1 : Int))) (loopC _ (((↑(List.length (bodyR g r)) : Int) - (1 : Int), ()), (shP (bodyR g r)).map (·.1), List.set (List.replicate (List.length (bodyR g r)) false) ((0 : Nat) + Int.toNat ((↑(List.length (bodyR g r)) : Int) - (1 : Int))) true, List.replicate (List.length g) false, valsN (cN g) (bodyR g r) (bodyR g r).length, fixN g, (g, ()), ()))))))) = _
 have e1 : 0 + Int.toNat (((bodyR g r).length : Int) - 1) = (bodyR g r).length - 1 := by omega
 rw [need_pos (by omega), need_pos (by omega), need64 (by omega) (by omega), List.length_replicate, need_pos (by omega), need_pos (by omega), need64 (by omega) (by omega), e1]
 generalize valsN (cN g) (bodyR g r) (bodyR g r).length = M at hmay hml ⊢
 generalize hB : (shP (bodyR g r)).map (·.1) = B
 have h0 : InvH g (bodyR g r) (bodyR g r).length (List.set (List.replicate (bodyR g r).length false) ((bodyR g r).length - 1) true) (List.replicate g.length false) := by
  have hat : ∀ j, List.getD (List.set (List.replicate (bodyR g r).length false) ((bodyR g r).length - 1) true) j false = true ↔ (bodyR g r).length - 1 = j := fun j => by
   rw [setD_at (by rw [List.length_replicate]; omega)]
   split
   ·rename_i e; exact ⟨fun _ => e, fun _ => rfl⟩
   ·rename_i e
    rw [zero_at]
    exact ⟨fun h => (by cases h), fun h => absurd h e⟩
  refine ⟨by rw [List.length_set, List.length_replicate], List.length_replicate, fun q hq => ?_, fun j hj hw => ?_⟩
  ·constructor
   ·exact fun h => .inr ⟨(bodyR g r).length - 1, by omega, (hat _).2 rfl, h⟩
   ·rintro (h | ⟨j, hj, h1, h2⟩)
    ·rw [zero_at] at h; cases h
    ·rw [(hat j).1 h1]; exact h2
  ·have e2 : (bodyR g r).length - 1 + 1 = (bodyR g r).length := by omega
   rw [← e2, ends_succ hp (by omega), ← (hat j).1 hw, List.mem_append]
   exact .inr (List.mem_singleton.2 rfl)
 have hbody : bodyR g r = (rth g r).2.1 := rfl
 generalize hpe : bodyR g r = p at *
 rw [← hbody]
 refine loop_one (σ := (Int × Unit) × List Int × List Bool × List Bool × List Bool × List Bool × GrammarD × Unit)
  (fun s => ∃ (k : Nat) (W O : List Bool), k ≤ p.length ∧ s = (((k : Int) - 1, ()), B, W, O, M, fixN g, (g, ()), ()) ∧ InvH g p k W O)
  (fun s => Int.toNat (s.1.1 + 1)) ?_ _ ⟨p.length, _, _, Nat.le_refl _, rfl, h0⟩
 rintro s ⟨k, W, O, hk, rfl, hI⟩
 dsimp only
 cases k with
 | zero =>
   refine .inr ?_
   rw [neg (by omega), hend W O hI]
 | succ k =>
   refine .inl ?_
   have ek : ((k + 1 : Nat) : Int) - 1 = (k : Int) := by omega
   have hnth : List.getD p k zNode = nth p (k : Int) := by simp [nth]
   have hwl := hI.wl
   rw [ek]
   simp only [Int.toNat_natCast, hnth, Nat.zero_add]
   rw [pos (by omega), need_pos (by omega), need_pos (by omega), need_pos (by omega)]
   have hgo : ∀ (c : Bool) {A : Type} (f : Bool → Option A), c = pb (¬ List.getD W k false = true ∨ ((nth p k).1 = 14 ∨ (nth p k).1 = 16) ∧ (nth p k).2.1 = 0) → Option.bind (sel (!List.getD W k false) (some true) (Option.bind (sel (pb ((nth p k).1 = (14 : Int))) (some true) (some (pb ((nth p k).1 = (16 : Int))))) (fun (v : Bool) => Option.bind (sel v (some (pb ((nth p k).2.1 = (0 : Int)))) (some false)) (fun (v1 : Bool) => some v1)))) f = f c := by
    rintro c A f rfl
    cases hw : List.getD W k false with
    | false => rw [Bool.not_false, sel_t, bind_t, pb_t (.inl (by simp))]
    | true =>
      rw [Bool.not_true, sel_f]
      by_cases h1 : (nth p k).1 = 14
      ·rw [pos h1, bind_t, sel_t, bind_t, bind_t]
       congr 1
       exact pb_congr ⟨fun h => .inr ⟨.inl h1, h⟩, fun h => h.elim (fun h => absurd rfl h) (fun h => h.2)⟩
      ·rw [neg h1, bind_t]
       by_cases h2 : (nth p k).1 = 16
       ·rw [pb_t h2, sel_t, bind_t, bind_t]
        congr 1
        exact pb_congr ⟨fun h => .inr ⟨.inr h2, h⟩, fun h => h.elim (fun h => absurd rfl h) (fun h => h.2)⟩
       ·rw [pb_f h2, sel_f, bind_t, bind_t, pb_f]
        rintro (h | ⟨h | h, _⟩)
        ·exact absurd rfl h
        ·exact h1 h
        ·exact h2 h
   rw [hgo _ _ rfl]
   by_cases hskip : ¬ List.getD W k false = true ∨ ((nth p k).1 = 14 ∨ (nth p k).1 = 16) ∧ (nth p k).2.1 = 0
   ·refine ⟨_, by rw [pb_t hskip, sel_t, need64 (by omega) (by omega)], ⟨k, W, O, by omega, rfl, hI.skip hp (by omega) fun q hq ⟨h1, h2⟩ => ?_⟩, by dsimp only; omega⟩
    rcases hskip with h | h
    ·exact h h1
    ·obtain ⟨_, K, _, _, hK, _⟩ := ends_parts hp (show k < p.length by omega)
     rcases (HD_step hg hp hmay (by omega) hK (by omega)).1 h2 with ⟨h3, _⟩ | ⟨h3, _⟩
     ·omega
     ·exact h3 h
   ·have hw : List.getD W k false = true := Classical.byContradiction fun h => hskip (.inl h)
    have hs : ¬ (((nth p k).1 = 14 ∨ (nth p k).1 = 16) ∧ (nth p k).2.1 = 0) := fun h => hskip (.inr h)
    rw [pb_f hskip, sel_f]
    obtain ⟨B1, K, b1, b2, hK, hKl⟩ := ends_parts hp (show k < p.length by omega)
    have hI2 := hI.step hg hp hmay (by omega) hw hs rfl hK
    have hol := hI.ol
    have hKk : ∀ j, j < K.length → List.getD K j 0 < k := fun j hj => ends_lt hp (k := k) (by omega) _ (by rw [b1, List.mem_append]; exact .inr (getD_in hj))
    have hkids := q_kids p _ (look_of hp (show k < p.length by omega))
    rw [hB, ← hK] at hkids
    have e6 : sel (pb ((nth p k).1 = (6 : Int))) (Option.bind (F_ref08_Number ((g, ()), (nth p k).2.2.1, ())) (fun (y2 : Int × Unit) => need ((0 : Int) ≤ y2.1 ∧ y2.1 < (↑(List.length O) : Int)) (need (Int.toNat y2.1 < List.length O) (some (Sum.inl ((), nth p k, B, W, List.set O (Int.toNat y2.1) true, M, fixN g, (g, ()), ()) : (Unit × NodeD × List Int × List Bool × List Bool × List Bool × List Bool × GrammarD × Unit) ⊕ (((Int × Unit) × List Int × List Bool × List Bool × List Bool × List Bool × GrammarD × Unit) ⊕ (List Bool × List Bool × Unit))))))) (some (Sum.inl ((), nth p k, B, W, O, M, fixN g, (g, ()), ()))) = some (Sum.inl ((), nth p k, B, W, (if (nth p k).1 = 6 then List.set O (numQ g (nth p k)) true else O), M, fixN g, (g, ()), ())) := by
     by_cases h6 : (nth p k).1 = 6
     ·have hf := hcall k (by omega) h6
      have hlt := numQ_lt hg (nth p k)
      have e : numR g (nth p k).2.2.1 = (numQ g (nth p k) : Int) := by unfold numR; rw [hf]
      rw [pos h6, q_NumberR g _ (by omega), bind_t, if_pos h6]
      dsimp only
      rw [e, Int.toNat_natCast, need_pos (by omega), need_pos (by omega)]
     ·rw [neg h6, if_neg h6]
    rw [e6, bind_t]
    dsimp only
    rw [hkids, bind_t]
    dsimp only
    generalize (if (nth p k).1 = 6 then List.set O (numQ g (nth p k)) true else O) = O' at hI2 ⊢
    refine ⟨_, loop_up (σ := (Int × Unit) × List Int × List Int × NodeD × List Bool × List Bool × List Bool × List Bool × GrammarD × Unit) K.length (fun j => (((j : Int), ()), B, castL K, nth p k, wantK (nth p k) M K W j, O', M, fixN g, (g, ()), ())) rfl ?_ ?_, ⟨k, wantK (nth p k) M K W K.length, O', by omega, rfl, hI2⟩, by dsimp only; omega⟩
    ·intro j hj
     have hj2 := hKk j hj
     have ha2 := arity_le (nth p k).1
     have hj0 := hKk 0 (by omega)
     have hat : List.getD (castL K) j 0 = ((List.getD K j 0 : Nat) : Int) := castL_at hj
     have hat0 : List.getD (castL K) 0 0 = ((List.getD K 0 0 : Nat) : Int) := castL_at (by omega)
     have hwl2 : (wantK (nth p k) M K W j).length = p.length := by rw [wantK_len, hwl]
     dsimp only
     simp only [Int.toNat_natCast, castL_len]
     have hp2 : ∀ {A : Type} (f : Bool → Option A), Option.bind (sel (!pb ((nth p k).1 = (7 : Int))) (some true) (some (pb ((j : Int) = (0 : Int))))) (fun (v3 : Bool) => Option.bind (sel v3 (some true) (need ((0 : Int) ≤ (0 : Int) ∧ (0 : Int) < (↑(List.length K) : Int)) (need ((0 : Nat) < List.length K) (need ((0 : Int) ≤ List.getD (castL K) (0 : Nat) (0 : Int) ∧ List.getD (castL K) (0 : Nat) (0 : Int) < (↑(List.length M) : Int)) (need (Int.toNat (List.getD (castL K) (0 : Nat) (0 : Int)) < List.length M) (some (List.getD M (Int.toNat (List.getD (castL K) (0 : Nat) (0 : Int))) false))))))) f) = f (partV (nth p k) M K j) := by
      intro A f
      rw [hat0, Int.toNat_natCast, need_pos (by omega), need_pos (by omega), need_pos (by omega), need_pos (by omega)]
      unfold partV
      by_cases h7 : (nth p k).1 = 7
      ·rw [pb_t h7, Bool.not_true, sel_f, bind_t]
       by_cases h0 : j = 0
       ·rw [pb_t (show (j : Int) = 0 by omega), sel_t, bind_t, pb_t (.inr h0), Bool.true_or]
       ·rw [pb_f (show ¬ (j : Int) = 0 by omega), sel_f, bind_t, pb_f (by rintro (h | h); exact h h7; exact h0 h), Bool.false_or]
      ·rw [pb_f h7, Bool.not_false, sel_t, bind_t, sel_t, bind_t, pb_t (.inl h7), Bool.true_or]
     rw [pos (by omega), need_pos (by omega), need_pos hj, hp2, hat, Int.toNat_natCast, need_pos (by omega), need_pos (by omega), need64 (by omega) (by omega), cast_succ]
     rfl
    ·dsimp only
     rw [castL_len, neg (by omega), need64 (by omega) (by omega), bind_t]
end Go.Proofs

/-! Chapter 10: how far it is. -/
namespace Go.Proofs
open Go Go.Abs
set_option linter.unusedSimpArgs false
/-- A way of so many steps. -/
def Way (e : Nat → Nat → Prop) (to : Nat) : Nat → Nat → Prop
 | 0, _ => False
 | 1, r => e r to
 | k + 2, r => ∃ q, e r q ∧ Way e to (k + 1) q
theorem way_succ {e : Nat → Nat → Prop} {to k r : Nat} (h : 1 ≤ k) : Way e to (k + 1) r ↔ ∃ q, e r q ∧ Way e to k q := by
 obtain ⟨k, rfl⟩ := Nat.exists_eq_add_of_le h
 rw [Nat.add_comm 1 k]
 exact Iff.rfl
open Classical in
/-- The length of the shortest way, of one step at least; 0: there is none. -/
noncomputable def dst (e : Nat → Nat → Prop) (to r : Nat) : Nat := if h : ∃ k, Way e to k r then Classical.choose (least h) else 0
theorem dst_none {e : Nat → Nat → Prop} {to r : Nat} : dst e to r = 0 ↔ ∀ k, ¬ Way e to k r := by
 unfold dst
 split
 ·rename_i h
  obtain ⟨h1, h2⟩ := Classical.choose_spec (least h)
  generalize Classical.choose (least h) = v at h1 h2 ⊢
  constructor
  ·intro e; subst e; exact absurd h1 (fun h => h)
  ·exact fun h3 => absurd h1 (h3 v)
 ·rename_i h
  exact ⟨fun _ k hk => h ⟨k, hk⟩, fun _ => rfl⟩
theorem dst_is {e : Nat → Nat → Prop} {to r k : Nat} (hk : 1 ≤ k) : dst e to r = k ↔ Way e to k r ∧ ∀ j, Way e to j r → k ≤ j := by
 unfold dst
 split
 ·rename_i h
  obtain ⟨h1, h2⟩ := Classical.choose_spec (least h)
  generalize Classical.choose (least h) = v at h1 h2 ⊢
  constructor
  ·rintro rfl; exact ⟨h1, h2⟩
  ·rintro ⟨h3, h4⟩
   have := h2 k h3
   have := h4 v h1
   omega
 ·rename_i h
  constructor
  ·intro e; omega
  ·rintro ⟨h3, _⟩; exact absurd ⟨k, h3⟩ h
theorem dst_way {e : Nat → Nat → Prop} {to r k : Nat} (h : Way e to k r) : 1 ≤ dst e to r ∧ dst e to r ≤ k := by
 have h0 : dst e to r ≠ 0 := fun h0 => dst_none.1 h0 k h
 have h1 : 1 ≤ dst e to r := by omega
 exact ⟨h1, ((dst_is h1).1 rfl).2 k h⟩
theorem way_dst {e : Nat → Nat → Prop} {to r : Nat} (h : dst e to r ≠ 0) : Way e to (dst e to r) r := ((dst_is (show 1 ≤ dst e to r by omega)).1 rfl).1
theorem dst_one {e : Nat → Nat → Prop} {to r : Nat} : dst e to r = 1 ↔ e r to := by
 rw [dst_is (Nat.le_refl 1)]
 constructor
 ·exact fun h => h.1
 ·refine fun h => ⟨h, fun j hj => ?_⟩
  cases j with
  | zero => exact absurd hj (fun h => h)
  | succ j => omega
theorem dst_next {e : Nat → Nat → Prop} {to r k : Nat} (hk : 1 ≤ k) (hr : ¬ (1 ≤ dst e to r ∧ dst e to r ≤ k)) : dst e to r = k + 1 ↔ ∃ q, e r q ∧ dst e to q = k := by
 constructor
 ·intro h
  have hw := way_dst (e := e) (to := to) (r := r) (by omega)
  rw [h, way_succ hk] at hw
  obtain ⟨q, h1, h2⟩ := hw
  refine ⟨q, h1, ?_⟩
  obtain ⟨h3, h4⟩ := dst_way h2
  have h5 : Way e to (dst e to q + 1) r := (way_succ h3).2 ⟨q, h1, way_dst (by omega)⟩
  have := dst_way h5
  omega
 ·rintro ⟨q, h1, h2⟩
  have h5 : Way e to (k + 1) r := (way_succ hk).2 ⟨q, h1, by rw [← h2]; exact way_dst (by omega)⟩
  have := dst_way h5
  omega
theorem dst_prev {e : Nat → Nat → Prop} {to r k : Nat} (h : dst e to r = k + 1) (hk : 1 ≤ k) : ∃ q, e r q ∧ dst e to q = k := (dst_next hk (by omega)).1 h
theorem dst_level {e : Nat → Nat → Prop} {n to : Nat} (he : ∀ r q, e r q → q < n) : ∀ {k r}, r < n → dst e to r = k → ∀ j, 1 ≤ j → j ≤ k → ∃ q, q < n ∧ dst e to q = j
 | 0, _, _, _, j, h1, h2 => by omega
 | k + 1, r, hr, h, j, h1, h2 => by
   by_cases ej : j = k + 1
   ·exact ⟨r, hr, by omega⟩
   ·obtain ⟨q, h3, h4⟩ := dst_prev h (by omega)
    exact dst_level he (he _ _ h3) h4 j h1 (by omega)
theorem dst_le {e : Nat → Nat → Prop} {n to r : Nat} (he : ∀ r q, e r q → q < n) (hr : r < n) : dst e to r ≤ n := by
 have h : ∀ j : Nat, ∃ q, (1 ≤ j → j ≤ dst e to r → q < n ∧ dst e to q = j) := fun j => by
  by_cases hj : 1 ≤ j ∧ j ≤ dst e to r
  ·obtain ⟨q, hq⟩ := dst_level he hr rfl j hj.1 hj.2
   exact ⟨q, fun _ _ => hq⟩
  ·exact ⟨0, fun h1 h2 => absurd ⟨h1, h2⟩ hj⟩
 have h2 : ((List.range (dst e to r)).map fun j => Classical.choose (h (j + 1))).length ≤ n := by
  refine nodup_len ?_ ?_
  ·rw [List.nodup_iff_pairwise_ne, List.pairwise_map]
   refine List.Pairwise.imp_of_mem ?_ (List.pairwise_lt_range (n := dst e to r))
   intro a b ha hb hab he2
   rw [List.mem_range] at ha hb
   have h3 := (Classical.choose_spec (h (a + 1)) (by omega) (by omega)).2
   have h4 := (Classical.choose_spec (h (b + 1)) (by omega) (by omega)).2
   rw [he2, h4] at h3
   omega
  ·intro l hl
   rw [List.mem_map] at hl
   obtain ⟨j, hj, rfl⟩ := hl
   rw [List.mem_range] at hj
   exact (Classical.choose_spec (h (j + 1)) (by omega) (by omega)).1
 simpa using h2
/-- What is known of the distances, up to so many steps. -/
noncomputable def farI (e : Nat → Nat → Prop) (to s r : Nat) : Int := if dst e to r ≤ s then (dst e to r : Int) else 0
theorem farI_same {e : Nat → Nat → Prop} {to s r : Nat} (h : dst e to r ≠ s + 1) : farI e to (s + 1) r = farI e to s r := by
 unfold farI
 by_cases h1 : dst e to r ≤ s
 ·rw [if_pos h1, if_pos (by omega)]
 ·rw [if_neg h1, if_neg (by omega)]
theorem farI_zero {e : Nat → Nat → Prop} {to s r : Nat} : farI e to s r = 0 ↔ ¬ (1 ≤ dst e to r ∧ dst e to r ≤ s) := by
 unfold farI
 split <;> omega
theorem farI_at {e : Nat → Nat → Prop} {to s r : Nat} (hs : 1 ≤ s) : farI e to s r = (s : Int) ↔ dst e to r = s := by
 unfold farI
 split <;> omega
theorem farI_at2 {e : Nat → Nat → Prop} {to s r : Nat} (hs : 1 ≤ s) : farI e to (s + 1) r = (s : Int) ↔ dst e to r = s := by
 unfold farI
 split <;> omega
theorem gone_or {α : Type} {p : List α} {f : Nat → α} {i j : Nat} {d : α} (hi : i ≤ p.length) : List.getD (gone p f i) j d = f j ∨ List.getD (gone p f i) j d = List.getD p j d := by
 by_cases h : j < i
 ·exact .inl (gone_lt h)
 ·right
  unfold gone
  rw [List.getD_eq_getElem?_getD, List.getD_eq_getElem?_getD, List.getElem?_append_right (by rw [genR_len]; omega), genR_len, List.getElem?_drop]
  congr 2
  omega
/-- What the book knows. -/
noncomputable def farR (e : Nat → Nat → Prop) (to s r : Nat) : Int := if 1 ≤ dst e to r ∧ dst e to r ≤ s then (dst e to r : Int) else -1
theorem farR_same {e : Nat → Nat → Prop} {to s r : Nat} (h : dst e to r ≠ s + 1) : farR e to (s + 1) r = farR e to s r := by
 unfold farR
 by_cases h1 : 1 ≤ dst e to r ∧ dst e to r ≤ s
 ·rw [if_pos h1, if_pos (by omega)]
 ·rw [if_neg h1, if_neg (by omega)]
theorem farR_neg {e : Nat → Nat → Prop} {to s r : Nat} : farR e to s r < 0 ↔ ¬ (1 ≤ dst e to r ∧ dst e to r ≤ s) := by
 unfold farR
 split <;> omega
theorem farR_at {e : Nat → Nat → Prop} {to s r : Nat} (hs : 1 ≤ s) : farR e to s r = (s : Int) ↔ dst e to r = s := by
 unfold farR
 split <;> omega
theorem farR_at2 {e : Nat → Nat → Prop} {to s r : Nat} (hs : 1 ≤ s) : farR e to (s + 1) r = (s : Int) ↔ dst e to r = s := by
 unfold farR
 split <;> omega
end Go.Proofs

/-! Chapter 10: the distances, by the program and by the book. -/
namespace Go.Proofs
open Go Go.Abs
set_option linter.unusedSimpArgs false
theorem pb_ex_succ {P : Nat → Prop} {r : Nat} : pb (∃ j, j < r + 1 ∧ P j) = (pb (∃ j, j < r ∧ P j) || pb (P r)) := by
 apply Bool.eq_iff_iff.2
 rw [Bool.or_eq_true, pb_iff, pb_iff, pb_iff]
 constructor
 ·rintro ⟨j, hj, h⟩
  by_cases e : j = r
  ·subst e; exact .inr h
  ·exact .inl ⟨j, by omega, h⟩
 ·rintro (⟨j, hj, h⟩ | h)
  ·exact ⟨j, by omega, h⟩
  ·exact ⟨r, by omega, h⟩
theorem q_dist {n : Nat} {e : Nat → Nat → Prop} {E : List Em} {hs : List (List Bool)} {ls : List SpotD} (hl : hs.length = n) (hn : n ≤ 200) (he : ∀ r q, e r q → q < n) (hh : ∀ r q, r < n → q < n → List.getD (List.getD hs r (Ty.dflt (Ty.arr (200 : Nat) Ty.bool))) q false = pb (e r q)) {to : Nat} (ht : to < n) :
  F_ford_looked_distances ((E, hs, ls, ()), (to : Int), ()) = some (genR n (fun r => (dst e to r : Int)), ()) := by
 unfold F_ford_looked_distances
 simp only [toPb]
 simp only [hl, Int.toNat_natCast]
 rw [need_pos (by omega)]
 have h0 : genR n (farI e to 0) = List.replicate n (0 : Int) := getD_ext 0 genR_len List.length_replicate fun i hi => by
  rw [genR_get hi, zero_at]
  unfold farI
  split <;> omega
 rw [← h0]
 have key : ∀ k r, r < n → farI e to k r = 0 → (dst e to r = k + 1 ↔ (k = 0 ∧ e r to) ∨ ∃ q, q < n ∧ 1 ≤ k ∧ e r q ∧ dst e to q = k) := fun k r hr hz => by
  rw [farI_zero] at hz
  by_cases hk : k = 0
  ·subst hk
   rw [dst_one]
   exact ⟨fun h => .inl ⟨rfl, h⟩, fun h => h.elim (fun h => h.2) (fun ⟨q, _, h, _⟩ => by omega)⟩
  ·rw [dst_next (by omega) hz]
   exact ⟨fun ⟨q, h1, h2⟩ => .inr ⟨q, he _ _ h1, by omega, h1, h2⟩, fun h => h.elim (fun h => absurd h.1 hk) (fun ⟨q, _, _, h1, h2⟩ => ⟨q, h1, h2⟩)⟩
 refine loop_one (σ := (Int × Bool × Unit) × List Int × lookedD × Unit)
  (fun s => ∃ (k : Nat) (b : Bool), s = ((((k + 1 : Nat) : Int), b, ()), genR n (farI e to k), (E, hs, ls, ()), ()) ∧ (b = true → k ≤ n) ∧ (b = false → 1 ≤ k ∧ ∀ r, r < n → dst e to r ≠ k))
  (fun s => if s.1.2.1 = true then n + 3 - Int.toNat s.1.1 else 0) ?_ _ ⟨0, true, rfl, fun _ => Nat.zero_le _, fun h => by cases h⟩
 rintro s ⟨k, b, rfl, hbt, hbf⟩
 dsimp only
 cases b with
 | false =>
   refine .inr ?_
   obtain ⟨h1, h2⟩ := hbf rfl
   have : genR n (farI e to k) = genR n (fun r => (dst e to r : Int)) := genR_ext fun r hr => by
    unfold farI
    rw [if_pos]
    refine Classical.byContradiction fun h => ?_
    obtain ⟨q, hq, h3⟩ := dst_level (to := to) he hr rfl k h1 (by omega)
    exact h2 q hq h3
   rw [sel_f, this]
 | true =>
   refine .inl ?_
   have hkn := hbt rfl
   rw [sel_t]
   refine ⟨_, loop_up (σ := (Int × Bool × Unit) × List Int × lookedD × Unit) n (fun r => (((r : Int), pb (∃ j, j < r ∧ dst e to j = k + 1), ()), gone (genR n (farI e to k)) (farI e to (k + 1)) r, (E, hs, ls, ()), ())) (by rw [pb_f (by rintro ⟨j, hj, _⟩; omega), gone_zero]; rfl) ?_ ?_, ⟨k + 1, pb (∃ j, j < n ∧ dst e to j = k + 1), rfl, fun h => ?_, fun h => ⟨by omega, fun r hr h2 => pb_iff_f.1 h ⟨r, hr, h2⟩⟩⟩, ?_⟩
   ·intro r hr
    have hgl : (gone (genR n (farI e to k)) (farI e to (k + 1)) r).length = n := by rw [gone_len (by rw [genR_len]; omega), genR_len]
    have hat : List.getD (gone (genR n (farI e to k)) (farI e to (k + 1)) r) r 0 = farI e to k r := by rw [gone_at, genR_get hr]
    have hatq : ∀ q, q < n → 1 ≤ k → (List.getD (gone (genR n (farI e to k)) (farI e to (k + 1)) r) q 0 = (k : Int) ↔ dst e to q = k) := fun q hq hk => by
     rcases gone_or (p := genR n (farI e to k)) (f := farI e to (k + 1)) (i := r) (j := q) (d := (0 : Int)) (by rw [genR_len]; omega) with h | h
     ·rw [h, farI_at2 hk]
     ·rw [h, genR_get hq, farI_at hk]
    have hset : dst e to r = k + 1 → List.set (gone (genR n (farI e to k)) (farI e to (k + 1)) r) r (((k + 1 : Nat)) : Int) = gone (genR n (farI e to k)) (farI e to (k + 1)) (r + 1) := fun h => by
     rw [← gone_set (by rw [genR_len]; exact hr)]
     congr 1
     exact ((farI_at (by omega)).2 h).symm
    have hkeep : dst e to r ≠ k + 1 → gone (genR n (farI e to k)) (farI e to (k + 1)) r = gone (genR n (farI e to k)) (farI e to (k + 1)) (r + 1) := fun h => gone_keep (d := 0) (by rw [genR_len]; exact hr) (by rw [genR_get hr]; exact farI_same h)
    have htr : dst e to r = k + 1 → pb (∃ j, j < r + 1 ∧ dst e to j = k + 1) = true := fun h => pb_t ⟨r, by omega, h⟩
    have hfa : dst e to r ≠ k + 1 → pb (∃ j, j < r + 1 ∧ dst e to j = k + 1) = pb (∃ j, j < r ∧ dst e to j = k + 1) := fun h => by rw [pb_ex_succ, pb_f h, Bool.or_false]
    dsimp only
    simp only [Int.toNat_natCast, Nat.zero_add]
    generalize gone (genR n (farI e to k)) (farI e to (k + 1)) r = F at hgl hat hatq hset hkeep ⊢
    rw [pos (by omega), need_pos (by omega), need_pos (by omega), hat]
    by_cases hz : farI e to k r = 0
    ·rw [npos hz]
     have hky := key k r hr hz
     have v1 : Option.bind (sel (pb (((k + 1 : Nat) : Int) = (1 : Int))) (need ((0 : Int) ≤ (r : Int) ∧ (r : Int) < (↑(List.length hs) : Int)) (need ((0 : Int) ≤ (to : Int) ∧ (to : Int) < (200 : Int)) (some (List.getD (List.getD hs r (Ty.dflt (Ty.arr (200 : Nat) Ty.bool))) to false)))) (some false)) (fun v => some v) = some (pb (k = 0 ∧ e r to)) := by
      by_cases hk : k = 0
      ·rw [pos (by omega), need_pos (by omega), need_pos (by omega), hh r to hr ht, bind_t]
       congr 1
       exact pb_congr ⟨fun h => ⟨hk, h⟩, fun h => h.2⟩
      ·rw [neg (by omega), bind_t, pb_f (fun h => hk h.1)]
     have v2 : ∀ {A : Type} (f : Bool → Option A), Option.bind (sel (pb (((k + 1 : Nat) : Int) = (1 : Int))) (need ((0 : Int) ≤ (r : Int) ∧ (r : Int) < (↑(List.length hs) : Int)) (need ((0 : Int) ≤ (to : Int) ∧ (to : Int) < (200 : Int)) (some (List.getD (List.getD hs r (Ty.dflt (Ty.arr (200 : Nat) Ty.bool))) to false)))) (some false)) f = f (pb (k = 0 ∧ e r to)) := by
      intro A f
      have hX : ∀ {X : Option Bool} {w : Bool}, Option.bind X (fun v => some v) = some w → Option.bind X f = f w := fun {X w} h => by
       cases X with
       | none => simp at h
       | some x => simp only [bind_t] at h ⊢; cases h; rfl
      exact hX v1
     rw [v2]
     by_cases h1 : k = 0 ∧ e r to
     ·have hd := hky.2 (.inl h1)
      have e1 : (1 : Int) = ((k + 1 : Nat) : Int) := by omega
      rw [pb_t h1, sel_t, need_pos (by omega), need_pos (by omega), need64 (by omega) (by omega), htr hd, e1, hset hd, ← e1, cast_succ]
     ·rw [pb_f h1, sel_f]
      have hin := loop_all (σ := (Int × Bool × Unit) × List Int × lookedD × Unit) (ρ := (((Int × Bool × Unit) × List Int × lookedD × Unit) ⊕ (((Int × Bool × Unit) × List Int × lookedD × Unit) ⊕ (List Int × Unit)))) n (fun q => (((q : Int), pb (∃ j, j < r ∧ dst e to j = k + 1), ()), F, (E, hs, ls, ()), ())) (fun q => ¬ (1 ≤ k ∧ e r q ∧ dst e to q = k)) (bad := Sum.inl (((r : Int) + 1, true, ()), List.set F r ((k + 1 : Nat) : Int), (E, hs, ls, ()), ())) (fin := Sum.inl (((r : Int) + 1, pb (∃ j, j < r ∧ dst e to j = k + 1), ()), F, (E, hs, ls, ()), ())) (B := fun (s2 : (Int × Bool × Unit) × List Int × lookedD × Unit) => sel (pb (s2.1.1 < (↑n : Int))) (Option.bind (sel (pb (((k + 1 : Nat) : Int) > (1 : Int))) (need ((0 : Int) ≤ (r : Int) ∧ (r : Int) < (↑(List.length s2.2.2.1.2.1) : Int)) (need ((0 : Int) ≤ s2.1.1 ∧ s2.1.1 < (200 : Int)) (some (List.getD (List.getD s2.2.2.1.2.1 r (Ty.dflt (Ty.arr (200 : Nat) Ty.bool))) (Int.toNat s2.1.1) false)))) (some false)) (fun (v1 : Bool) => Option.bind (sel v1 (need ((0 : Int) ≤ s2.1.1 ∧ s2.1.1 < (↑(List.length s2.2.1) : Int)) (need (Int.toNat s2.1.1 < List.length s2.2.1) (need (Fits Go.IntKind.i64 (((k + 1 : Nat) : Int) - (1 : Int))) (some (pb (List.getD s2.2.1 (Int.toNat s2.1.1) (0 : Int) = ((k + 1 : Nat) : Int) - (1 : Int))))))) (some false)) (fun (v2 : Bool) => sel v2 (need ((0 : Int) ≤ (r : Int) ∧ (r : Int) < (↑(List.length s2.2.1) : Int)) (need (r < List.length s2.2.1) (Option.bind (need (Fits Go.IntKind.i64 ((r : Int) + (1 : Int))) (some (Sum.inl (((r : Int) + (1 : Int), true, ()), List.set s2.2.1 r ((k + 1 : Nat) : Int), (s2.2.2.1.1, s2.2.2.1.2.1, s2.2.2.1.2.2.1, ()), ())))) (fun val => some (Sum.inr val))))) (need (Fits Go.IntKind.i64 (s2.1.1 + (1 : Int))) (some (Sum.inl ((s2.1.1 + (1 : Int), s2.1.2.1, ()), s2.2.1, (s2.2.2.1.1, s2.2.2.1.2.1, s2.2.2.1.2.2.1, ()), ()))))))) (Option.bind (need (Fits Go.IntKind.i64 ((r : Int) + (1 : Int))) (some (Sum.inl (((r : Int) + (1 : Int), s2.1.2.1, ()), s2.2.1, (s2.2.2.1.1, s2.2.2.1.2.1, s2.2.2.1.2.2.1, ()), ())))) (fun val1 => some (Sum.inr val1)))) (s0 := (((0 : Int), pb (∃ j, j < r ∧ dst e to j = k + 1), ()), F, (E, hs, ls, ()), ())) rfl ?_ ?_
      ·have hin2 := hin
       refine Eq.trans hin2 ?_
       by_cases h2 : ∃ q, q < n ∧ 1 ≤ k ∧ e r q ∧ dst e to q = k
       ·have hd := hky.2 (.inr h2)
        obtain ⟨q, hq, h3⟩ := h2
        rw [pb_f (fun h => h q hq h3), if_neg (by simp), htr hd, hset hd, cast_succ]
       ·have hd : dst e to r ≠ k + 1 := fun h => (hky.1 h).elim h1 h2
        rw [pb_t (fun q hq h3 => h2 ⟨q, hq, h3⟩), if_pos rfl, hfa hd, ← hkeep hd, cast_succ]
      ·intro q hq
       dsimp only
       simp only [Int.toNat_natCast]
       rw [pos (by omega)]
       have ek : ((k + 1 : Nat) : Int) - 1 = (k : Int) := by omega
       rw [ek]
       have nope : ¬ (1 ≤ k ∧ e r q ∧ dst e to q = k) → some (if pb (¬ (1 ≤ k ∧ e r q ∧ dst e to q = k)) = true then (Sum.inl ((((q + 1 : Nat) : Int), pb (∃ j, j < r ∧ dst e to j = k + 1), ()), F, (E, hs, ls, ()), ()) : ((Int × Bool × Unit) × List Int × lookedD × Unit) ⊕ (((Int × Bool × Unit) × List Int × lookedD × Unit) ⊕ (((Int × Bool × Unit) × List Int × lookedD × Unit) ⊕ (List Int × Unit)))) else Sum.inr (Sum.inl (((r : Int) + 1, true, ()), List.set F r ((k + 1 : Nat) : Int), (E, hs, ls, ()), ()))) = some (Sum.inl (((q : Int) + 1, pb (∃ j, j < r ∧ dst e to j = k + 1), ()), F, (E, hs, ls, ()), ())) := fun h => by rw [pb_t h, if_pos rfl, cast_succ]
       by_cases hk : 1 ≤ k
       ·rw [pos (by omega), need_pos (by omega), need_pos (by omega), hh r q hr hq, bind_t]
        by_cases h2 : e r q
        ·rw [pb_t h2, sel_t, need_pos (by omega), need_pos (by omega), need64 (by omega) (by omega), bind_t]
         by_cases h3 : List.getD F q 0 = (k : Int)
         ·have h4 := (hatq q hq hk).1 h3
          rw [pb_t h3, sel_t, need_pos (by omega), need_pos (by omega), need64 (by omega) (by omega), bind_t, pb_f (p := ¬ (1 ≤ k ∧ e r q ∧ dst e to q = k)) (fun h => h ⟨hk, h2, h4⟩), if_neg (by simp)]
         ·rw [pb_f h3, sel_f, need64 (by omega) (by omega), nope (fun h => h3 ((hatq q hq hk).2 h.2.2))]
        ·rw [pb_f h2, sel_f, bind_t, sel_f, need64 (by omega) (by omega), nope (fun h => h2 h.2.1)]
       ·rw [neg (by omega), bind_t, sel_f, bind_t, sel_f, need64 (by omega) (by omega), nope (fun h => hk h.1)]
      ·dsimp only
       rw [neg (by omega), need64 (by omega) (by omega), bind_t]
    ·have hd : dst e to r ≠ k + 1 := fun h => hz (farI_zero.2 (by omega))
     rw [nneg hz, need64 (by omega) (by omega), hfa hd, ← hkeep hd, cast_succ]
   ·dsimp only
    have e9 : gone (genR n (farI e to k)) (farI e to (k + 1)) n = genR n (farI e to (k + 1)) := by
     have := gone_all (p := genR n (farI e to k)) (f := farI e to (k + 1))
     rwa [genR_len] at this
    rw [neg (by omega), need64 (by omega) (by omega), bind_t, e9]
    rfl
   ·obtain ⟨r, hr, h2⟩ := pb_iff.1 h
    have := dst_le (to := to) he hr
    omega
   ·dsimp only
    rw [if_pos rfl]
    split <;> omega
end Go.Proofs

/-! Chapter 10: the distances by the book. -/
namespace Go.Proofs
open Go Go.Abs
set_option linter.unusedSimpArgs false
theorem bind_inr_eq {σ ρ : Type} {X : Option ρ} {v : ρ} (h : X = some v) : Option.bind X (fun v => some (Sum.inr v : σ ⊕ ρ)) = some (Sum.inr v) := by rw [h]; rfl
theorem q_far {n : Nat} {e : Nat → Nat → Prop} {hs : List (List Bool)} (hl : hs.length = n) (hn : n ≤ 200) (he : ∀ r q, e r q → q < n) (hrow : ∀ r, r < n → (List.getD hs r []).length = n) (hh : ∀ r q, r < n → q < n → List.getD (List.getD hs r []) q false = pb (e r q)) {to : Nat} (ht : to < n) :
  F_ref10_far (hs, (to : Int), ()) = some (genR n (farR e to n), ()) := by
 unfold F_ref10_far
 simp only [toPb]
 simp only [hl, Int.toNat_natCast]
 rw [need_pos (by omega)]
 refine loop_up (σ := (Int × Unit) × List Int × Unit) n (fun r => (((r : Int), ()), gone (List.replicate n (0 : Int)) (farR e to 1) r, ())) rfl ?_ ?_
 ·intro r hr
  have hgl : (gone (List.replicate n (0 : Int)) (farR e to 1) r).length = n := by rw [gone_len (by rw [List.length_replicate]; omega), List.length_replicate]
  have hset : List.set (gone (List.replicate n (0 : Int)) (farR e to 1) r) r (farR e to 1 r) = gone (List.replicate n (0 : Int)) (farR e to 1) (r + 1) := gone_set (by rw [List.length_replicate]; exact hr)
  dsimp only
  simp only [Int.toNat_natCast, Nat.zero_add]
  have hrl := hrow r hr
  rw [pos (by omega), need_pos (by omega), need_pos (by omega), need_pos (by omega), need_pos (by omega), hh r to hr ht]
  by_cases h1 : e r to
  ·have hf : farR e to 1 r = 1 := (farR_at (Nat.le_refl 1)).2 (dst_one.2 h1)
   rw [hf] at hset
   rw [pb_t h1, sel_t, List.length_set, need_pos (by omega), need_pos (by omega), need64 (by omega) (by omega), List.set_set, hset, cast_succ]
  ·have hf : farR e to 1 r = -1 := by
    unfold farR
    rw [if_neg]
    intro h
    exact h1 (dst_one.1 (by omega))
   rw [hf] at hset
   rw [pb_f h1, sel_f, need64 (by omega) (by omega), hset, cast_succ]
 ·have hg1 : gone (List.replicate n (0 : Int)) (farR e to 1) n = genR n (farR e to 1) := by
   have := gone_all (p := List.replicate n (0 : Int)) (f := farR e to 1)
   rwa [List.length_replicate] at this
  dsimp only
  rw [neg (by omega), hg1]
  apply bind_inr_eq
  refine loop_up (σ := (Int × Unit) × List Int × Unit) (n - 1) (fun m => ((((m + 1 : Nat) : Int), ()), genR n (farR e to (m + 1)), ())) rfl ?_ ?_
  ·intro m hm
   dsimp only
   rw [pos (by omega)]
   refine loop_up (σ := (Int × Unit) × List Int × Unit) n (fun r => (((r : Int), ()), gone (genR n (farR e to (m + 1))) (farR e to (m + 1 + 1)) r, ())) rfl ?_ ?_
   ·intro r hr
    have hgl : (gone (genR n (farR e to (m + 1))) (farR e to (m + 1 + 1)) r).length = n := by rw [gone_len (by rw [genR_len]; omega), genR_len]
    have hat : List.getD (gone (genR n (farR e to (m + 1))) (farR e to (m + 1 + 1)) r) r 0 = farR e to (m + 1) r := by rw [gone_at, genR_get hr]
    have hatq : ∀ q, q < n → (List.getD (gone (genR n (farR e to (m + 1))) (farR e to (m + 1 + 1)) r) q 0 = ((m + 1 : Nat) : Int) ↔ dst e to q = m + 1) := fun q hq => by
     rcases gone_or (p := genR n (farR e to (m + 1))) (f := farR e to (m + 1 + 1)) (i := r) (j := q) (d := (0 : Int)) (by rw [genR_len]; omega) with h | h
     ·rw [h, farR_at2 (by omega)]
     ·rw [h, genR_get hq, farR_at (by omega)]
    have hset : dst e to r = m + 1 + 1 → List.set (gone (genR n (farR e to (m + 1))) (farR e to (m + 1 + 1)) r) r (((m + 1 : Nat) : Int) + 1) = gone (genR n (farR e to (m + 1))) (farR e to (m + 1 + 1)) (r + 1) := fun h => by
     rw [← gone_set (by rw [genR_len]; exact hr)]
     congr 1
     exact ((farR_at (by omega)).2 h).symm
    have hkeep : dst e to r ≠ m + 1 + 1 → gone (genR n (farR e to (m + 1))) (farR e to (m + 1 + 1)) r = gone (genR n (farR e to (m + 1))) (farR e to (m + 1 + 1)) (r + 1) := fun h => gone_keep (d := 0) (by rw [genR_len]; exact hr) (by rw [genR_get hr]; exact farR_same h)
    have hsame : ¬ farR e to (m + 1) r < 0 → dst e to r ≠ m + 1 + 1 := fun h h2 => h (farR_neg.2 (by omega))
    have m1 : 1 ≤ m + 1 := by omega
    have hfound : dst e to r = m + 1 + 1 → ¬ List.getD (gone (genR n (farR e to (m + 1))) (farR e to (m + 1 + 1)) (r + 1)) r 0 < 0 := fun h => by
     rw [gone_lt (by omega), (farR_at (by omega)).2 h]
     omega
    dsimp only
    simp only [Int.toNat_natCast, Nat.zero_add]
    generalize hF2 : gone (genR n (farR e to (m + 1))) (farR e to (m + 1 + 1)) (r + 1) = F2 at *
    have hF2l : F2.length = n := by rw [← hF2, gone_len (by rw [genR_len]; omega), genR_len]
    generalize gone (genR n (farR e to (m + 1))) (farR e to (m + 1 + 1)) r = F at *
    have hrl := hrow r hr
    rw [pos (by omega)]
    refine loop_one (σ := (Int × Unit) × List Int × Unit)
     (fun s => ∃ (k : Nat) (F' : List Int), s = (((k : Int), ()), F', ()) ∧ k ≤ n ∧ F'.length = n ∧ ((F' = F ∧ ∀ q, q < k → ¬ (e r q ∧ dst e to q = m + 1)) ∨ (F' = F2 ∧ ¬ List.getD F2 r 0 < 0)))
     (fun s => n - Int.toNat s.1.1) ?_ _ ⟨0, F, rfl, Nat.zero_le _, hgl, .inl ⟨rfl, fun q hq => by omega⟩⟩
    rintro s ⟨k, F', rfl, hk, hF', hI⟩
    dsimp only
    simp only [Int.toNat_natCast]
    rw [need_pos (by omega), need_pos (by omega)]
    rcases hI with ⟨rfl, hI⟩ | ⟨rfl, hI⟩
    ·rw [hat]
     by_cases hlt : farR e to (m + 1) r < 0
     ·rw [pos hlt, bind_t]
      by_cases hkn : k < n
      ·refine .inl ?_
       have hmeas : n - Int.toNat ((k : Int) + 1) < n - k := by omega
       have hk1 : k + 1 ≤ n := hkn
       have notyet : ¬ (e r k ∧ dst e to k = m + 1) → ∀ q, q < k + 1 → ¬ (e r q ∧ dst e to q = m + 1) := fun h q hq => by
        by_cases eq : q = k
        ·subst eq; exact h
        ·exact hI q (by omega)
       rw [pb_t (show (k : Int) < (n : Int) by omega), sel_t, need_pos (by omega), need_pos (by omega), hh r k hr hkn]
       have b1 : -9223372036854775808 ≤ ((m + 1 : Nat) : Int) + 1 ∧ ((m + 1 : Nat) : Int) + 1 ≤ 9223372036854775807 := by omega
       have b2 : -9223372036854775808 ≤ (k : Int) + 1 ∧ (k : Int) + 1 ≤ 9223372036854775807 := by omega
       have b3 : (0 : Int) ≤ (r : Int) ∧ (r : Int) < (↑(List.length F') : Int) := by omega
       have b4 : r < List.length F' := by omega
       by_cases h2 : e r k
       ·rw [pb_t h2, sel_t, need_pos (by omega), need_pos (by omega), bind_t]
        by_cases h3 : List.getD F' k 0 = ((m + 1 : Nat) : Int)
        ·have hd := (dst_next m1 (farR_neg.1 hlt)).2 ⟨k, h2, (hatq k hkn).1 h3⟩
         refine ⟨_, by rw [pb_t h3, sel_t, need64 b1.1 b1.2, need_pos b3, need_pos b4, need64 b2.1 b2.2], ⟨k + 1, F2, ?_, hk1, hF2l, .inr ⟨rfl, hfound hd⟩⟩, hmeas⟩
         rw [hset hd, cast_succ]
        ·exact ⟨_, by rw [pb_f h3, sel_f, need64 b2.1 b2.2], ⟨k + 1, F', by rw [cast_succ], hk1, hF', .inl ⟨rfl, notyet fun h => h3 ((hatq k hkn).2 h.2)⟩⟩, hmeas⟩
       ·exact ⟨_, by rw [pb_f h2, sel_f, bind_t, sel_f, need64 (by omega) (by omega)], ⟨k + 1, F', by rw [cast_succ], hk1, hF', .inl ⟨rfl, notyet fun h => h2 h.1⟩⟩, hmeas⟩
      ·refine .inr ?_
       have hd : dst e to r ≠ m + 1 + 1 := fun h => by
        obtain ⟨q, h1, h2⟩ := (dst_next m1 (farR_neg.1 hlt)).1 h
        have := he _ _ h1
        exact hI q (by omega) ⟨h1, h2⟩
       rw [pb_f (show ¬ (k : Int) < (n : Int) by omega), sel_f, need64 (by omega) (by omega), bind_t, hkeep hd, cast_succ]
     ·refine .inr ?_
      rw [neg hlt, bind_t, sel_f, need64 (by omega) (by omega), bind_t, hkeep (hsame hlt), cast_succ]
    ·refine .inr ?_
     rw [neg hI, bind_t, sel_f, need64 (by omega) (by omega), bind_t, cast_succ]
   ·have hg2 : gone (genR n (farR e to (m + 1))) (farR e to (m + 1 + 1)) n = genR n (farR e to (m + 1 + 1)) := by
     have := gone_all (p := genR n (farR e to (m + 1))) (f := farR e to (m + 1 + 1))
     rwa [genR_len] at this
    dsimp only
    rw [neg (by omega), need64 (by omega) (by omega), bind_t, hg2]
    rfl
  ·have e1 : n - 1 + 1 = n := by omega
   dsimp only
   rw [e1, neg (by omega)]
end Go.Proofs
