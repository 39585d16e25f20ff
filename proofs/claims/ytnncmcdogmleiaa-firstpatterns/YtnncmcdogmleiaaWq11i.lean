/- Part of the proof of the law's row: YtnncmcdogmleiaaWq11i. -/
import Derived.Test.YtnncmcdogmleiaaWq11d
set_option linter.all false
set_option linter.unusedVariables false
set_option linter.unusedSimpArgs false
/-! Chapter 11: the book's parts. -/
namespace Go.Proofs
open Go Go.Abs
set_option linter.unusedSimpArgs false
def callF (g : G) (rules : List Fi) (n : NodeD) : Fi := List.getD rules ((findR g n.2.2.1).getD 0) zFirsts
def cfOf (known : List Em) (P : List Int) : Nat → Bool
 | 0 => false
 | j + 1 => (List.getD known (Int.toNat (List.getD P j 0)) zEmptiness).2.1
section
variable {cE : NodeD → Em} {cF : NodeD → Fi} {p : List NodeD}
theorem kids_atF (hp : (chkP p).2 = 0) {k : Nat} (hk : k < p.length) :
  (partsP p (k : Int)).length = (kidsF (nth p k) (leftF cE cF p k) (rightF cE cF p k)).length ∧ (partsP p (k : Int)).length ≤ 2 ∧
  (∀ j, j < (partsP p (k : Int)).length → ∃ m : Nat, List.getD (partsP p (k : Int)) j 0 = (m : Int) ∧ m < k ∧ valF cE cF p m = List.getD (kidsF (nth p k) (leftF cE cF p k) (rightF cE cF p k)) j zFirsts) ∧
  (arity (nth p k).1 = 2 → cfOf (vals9 cE p p.length) (partsP p (k : Int)) (partsP p (k : Int)).length = (val9 cE p (k - 1)).2.1) := by
 unfold kidsF partsP leftF rightF
 rcases arity_cases hp hk with h | h | h
 ·rw [if_neg (by omega), if_neg (by omega), if_neg (by omega), if_neg (by omega)]
  exact ⟨rfl, by simp, fun j hj => absurd hj (Nat.not_lt_zero _), fun h2 => by omega⟩
 ·obtain ⟨k1, _⟩ := (ends_kids hp hk).2.1 h
  rw [if_pos h, if_pos h, if_pos h]
  refine ⟨rfl, by simp, fun j hj => ?_, fun h2 => by omega⟩
  have hj : j < 1 := hj
  obtain rfl : j = 0 := by omega
  refine ⟨k - 1, ?_, by omega, rfl⟩
  show (k : Int) - 1 = _; omega
 ·obtain ⟨k1, k2, k3, _⟩ := (ends_kids hp hk).2.2 h
  rw [if_neg (by omega), if_pos h, if_neg (by omega), if_pos h, if_neg (by omega), if_pos h, if_pos h]
  refine ⟨rfl, by simp, fun j hj => ?_, fun _ => ?_⟩
  ·have hj : j < 2 := hj
   rcases (show j = 0 ∨ j = 1 by omega) with rfl | rfl
   ·refine ⟨(beginP p ((k : Int) - 1) - 1).toNat, ?_, by omega, rfl⟩
    show beginP p ((k : Int) - 1) - 1 = _; omega
   ·refine ⟨k - 1, ?_, by omega, rfl⟩
    show (k : Int) - 1 = _; omega
  ·show (List.getD (vals9 cE p p.length) (Int.toNat ((k : Int) - 1)) zEmptiness).2.1 = _
   rw [show Int.toNat ((k : Int) - 1) = k - 1 by omega, show List.getD (vals9 cE p p.length) (k - 1) zEmptiness = val9 cE p (k - 1) from valsOf_at _ _ _ (by omega)]
theorem left_zero {k : Nat} (h : arity (nth p k).1 = 0) : leftF cE cF p k = zFirsts := by
 unfold leftF
 rw [if_neg (by omega), if_neg (by omega)]
end
theorem q_partsF {g : G} {p : List NodeD} (hp : (chkP p).2 = 0) (hcan : CanP p) (hg : g.length ≤ 200) {cE : NodeD → Em} {rules : List Fi} (hl : rules.length = g.length) (hR : ∀ q, q < g.length → CanS (List.getD rules q zFirsts).1) (hc : ∀ k, k < p.length → (nth p k).1 = 6 → ∃ q, findR g (nth p k).2.2.1 = some q) (hF : ∀ k, k < p.length → CanS (callF g rules (nth p k)).1) :
  F_ref11_parts ((g, ()), p, vals9 cE p p.length, rules, ()) = some (valsF cE (callF g rules) p p.length, ()) := by
 obtain ⟨hlen, _⟩ := chk_len hp
 have hl9 : (vals9 cE p p.length).length = p.length := valsOf_len _ _ _ _
 unfold F_ref11_parts
 simp only [toPb]
 rw [q_begins hp, bind_t]
 dsimp only
 refine loop_up (σ := (Int × Unit) × List Int × List FirstsD × GrammarD × Unit) p.length (fun i => (((i : Int), ()), (shP p).map (·.1), valsF cE (callF g rules) p i, (g, ()), ())) rfl ?_ ?_
 ·intro i hi
  have hno := nodeOk_of hp hi
  have hnth : List.getD p i zNode = nth p (i : Int) := by simp [nth]
  obtain ⟨kl, k2, kat, kcf⟩ := kids_atF (cE := cE) (cF := callF g rules) hp hi
  have hq : ∃ q, ((nth p i).1 = 6 → findR g (nth p i).2.2.1 = some q) ∧ ((nth p i).1 = 6 → List.getD rules q zFirsts = callF g rules (nth p i)) := by
   by_cases h6 : (nth p i).1 = 6
   ·obtain ⟨q, e⟩ := hc i hi h6
    exact ⟨q, fun _ => e, fun _ => by unfold callF; rw [e]; rfl⟩
   ·exact ⟨0, fun h => absurd h h6, fun h => absurd h h6⟩
  obtain ⟨q, hq1, hq2⟩ := hq
  have hw : valsF cE (callF g rules) p (i + 1) = valsF cE (callF g rules) p i ++ [valF cE (callF g rules) p i] := genR_succ
  have hwl : (valsF cE (callF g rules) p i).length = i := valsF_len
  have hat : ∀ m, m < i → List.getD (valsF cE (callF g rules) p i) m zFirsts = valF cE (callF g rules) p m := fun m hm => valsF_at hm
  have hnode := q_rnodeF (g := g) (rules := rules) (fails := cfOf (vals9 cE p p.length) (partsP p (i : Int)) (partsP p (i : Int)).length) hno.op hno.txt (can_left (cE := cE) hp hcan hF hi) (can_right (cE := cE) hp hcan hF hi) (fun h => left_zero h) (by omega) hl hq1
  have hne : nodeF (nth p i) (List.getD rules q zFirsts) (leftF cE (callF g rules) p i) (rightF cE (callF g rules) p i) (cfOf (vals9 cE p p.length) (partsP p (i : Int)) (partsP p (i : Int)).length) = valF cE (callF g rules) p i := by
   rw [valF_is hp hi (fun h => kcf h)]
   by_cases h6 : (nth p i).1 = 6
   ·rw [hq2 h6]
   ·unfold nodeF
    simp only [if_neg h6]
  rw [hne] at hnode
  dsimp only
  simp only [Int.toNat_natCast, hnth]
  rw [pos (by omega), q_kids p _ (look_of hp hi), bind_t]
  dsimp only
  generalize kidsF (nth p i) (leftF cE (callF g rules) p i) (rightF cE (callF g rules) p i) = K at kl kat hnode
  generalize partsP p (i : Int) = P at kl k2 kat hnode ⊢
  refine loop_up (σ := (Int × Bool × Unit) × List Int × List FirstsD × List Int × List FirstsD × GrammarD × Unit) P.length (fun j => (((j : Int), cfOf (vals9 cE p p.length) P j, ()), (shP p).map (·.1), List.take j K, P, valsF cE (callF g rules) p i, (g, ()), ())) rfl ?_ ?_
  ·intro j hj
   obtain ⟨m, m1, m2, m3⟩ := kat j hj
   have hjl : (List.take j K).length = j := by rw [List.length_take]; omega
   have hcf : cfOf (vals9 cE p p.length) P (j + 1) = (List.getD (vals9 cE p p.length) m zEmptiness).2.1 := by rw [cfOf, m1, Int.toNat_natCast]
   dsimp only
   simp only [Int.toNat_natCast, Nat.zero_add, m1, hat m m2, m3, hjl, hwl, hl9]
   rw [pos (by omega), need_pos (by omega), need_pos (by omega), need_pos (by omega), need_pos (by omega), need_pos (by omega), need_pos (by omega), need_pos (by omega), need_pos (by omega), need64 (by omega) (by omega), take_succD (d := zFirsts) (by omega), cast_succ, hcf]
  ·dsimp only
   rw [neg (by omega), need_pos (by omega), show List.take P.length K = K by rw [kl]; exact List.take_length, hnode]
   simp only [bind_t, hwl]
   rw [need_pos (by omega), need64 (by omega) (by omega), bind_t, hw, cast_succ]
 ·dsimp only
  rw [neg (by omega)]
end Go.Proofs
/-! Rounds that grow, and where they end: for any kind of knowledge. -/
namespace Go.Proofs
open Go Go.Abs
set_option linter.unusedSimpArgs false
section
variable {α : Type} (z : α) (n : Nat) (le : α → α → Prop) (ok : α → Prop) (rank : α → Nat) (R : Nat) (step : List α → Nat → α)
def OkX (l : List α) : Prop := l.length = n ∧ ∀ i, i < n → ok (List.getD l i z)
def LeX (l m : List α) : Prop := ∀ i, i < n → le (List.getD l i z) (List.getD m i z)
structure Fx : Prop where
 refl : ∀ a, le a a
 trans : ∀ a b c, le a b → le b c → le a c
 bot : ok z
 least : ∀ a, ok a → le z a
 rank_le : ∀ a, ok a → rank a ≤ R
 rank_mono : ∀ a b, ok a → ok b → le a b → rank a ≤ rank b ∧ (rank a = rank b → a = b)
 step_ok : ∀ l i, OkX z n ok l → i < n → ok (step l i)
 step_mono : ∀ l m i, OkX z n ok l → OkX z n ok m → LeX z n le l m → i < n → le (step l i) (step m i)
def roundX (l : List α) : List α := genR n (step l)
def itX : Nat → List α
 | 0 => List.replicate n z
 | k + 1 => roundX n step (itX k)
open Classical in
noncomputable def fixX : List α := if h : ∃ k, itX z n step (k + 1) = itX z n step k then itX z n step (Classical.choose h) else []
def rankX (l : List α) : Nat := sumTo (fun i => rank (List.getD l i z)) n
theorem zero_at {i : Nat} : List.getD (List.replicate n z) i z = z := by
 rw [List.getD_eq_getElem?_getD, List.getElem?_replicate]
 split <;> rfl
variable {z n le ok rank R step}
theorem Fx.anti (hF : Fx z n le ok rank R step) {a b : α} (ha : ok a) (hb : ok b) (h1 : le a b) (h2 : le b a) : a = b :=
 (hF.rank_mono a b ha hb h1).2 (Nat.le_antisymm (hF.rank_mono a b ha hb h1).1 (hF.rank_mono b a hb ha h2).1)
theorem Fx.round_ok (hF : Fx z n le ok rank R step) {l : List α} (h : OkX z n ok l) : OkX z n ok (roundX n step l) := ⟨genR_len, fun i hi => by unfold roundX; rw [genR_get hi]; exact hF.step_ok l i h hi⟩
theorem Fx.round_mono (hF : Fx z n le ok rank R step) {l m : List α} (h : OkX z n ok l) (h' : OkX z n ok m) (hl : LeX z n le l m) : LeX z n le (roundX n step l) (roundX n step m) := by
 intro i hi
 unfold roundX
 rw [genR_get hi, genR_get hi]
 exact hF.step_mono l m i h h' hl hi
theorem Fx.zero_ok (hF : Fx z n le ok rank R step) : OkX z n ok (List.replicate n z) := ⟨List.length_replicate, fun i _ => by rw [zero_at]; exact hF.bot⟩
theorem Fx.zero_le (hF : Fx z n le ok rank R step) {l : List α} (h : OkX z n ok l) : LeX z n le (List.replicate n z) l := fun i hi => by rw [zero_at]; exact hF.least _ (h.2 i hi)
theorem Fx.it_ok (hF : Fx z n le ok rank R step) : ∀ k, OkX z n ok (itX z n step k)
 | 0 => hF.zero_ok
 | k + 1 => hF.round_ok (hF.it_ok k)
theorem Fx.it_le (hF : Fx z n le ok rank R step) : ∀ k, LeX z n le (itX z n step k) (itX z n step (k + 1))
 | 0 => hF.zero_le (hF.it_ok 1)
 | k + 1 => hF.round_mono (hF.it_ok k) (hF.it_ok (k + 1)) (hF.it_le k)
theorem Fx.rank_lt (hF : Fx z n le ok rank R step) {l m : List α} (h : OkX z n ok l) (h' : OkX z n ok m) (hl : LeX z n le l m) : rankX z n rank l ≤ rankX z n rank m ∧ (m ≠ l → rankX z n rank l < rankX z n rank m) := by
 obtain ⟨h1, h2⟩ := sum_mono (f := fun i => rank (List.getD l i z)) (f' := fun i => rank (List.getD m i z)) (n := n) fun i hi => (hF.rank_mono _ _ (h.2 i hi) (h'.2 i hi) (hl i hi)).1
 refine ⟨h1, fun hne => Nat.lt_of_le_of_ne h1 fun e => hne ?_⟩
 exact getD_ext z h'.1 h.1 fun i hi => ((hF.rank_mono _ _ (h.2 i hi) (h'.2 i hi) (hl i hi)).2 (h2 e i hi)).symm
theorem Fx.rankX_le (hF : Fx z n le ok rank R step) {l : List α} (h : OkX z n ok l) : rankX z n rank l ≤ n * R := sum_le fun i hi => hF.rank_le _ (h.2 i hi)
theorem Fx.it_end (hF : Fx z n le ok rank R step) : ∃ k, itX z n step (k + 1) = itX z n step k := by
 refine Classical.byContradiction fun hno => ?_
 have key : ∀ k, k ≤ rankX z n rank (itX z n step k) := by
  intro k
  induction k with
  | zero => exact Nat.zero_le _
  | succ k ih =>
    have := (hF.rank_lt (hF.it_ok k) (hF.it_ok (k + 1)) (hF.it_le k)).2 fun e => hno ⟨k, e⟩
    omega
 have h1 := key (n * R + 1)
 have h2 := hF.rankX_le (hF.it_ok (n * R + 1))
 omega
theorem itX_stay {k : Nat} (h : itX z n step (k + 1) = itX z n step k) : ∀ m, itX z n step (k + m) = itX z n step k
 | 0 => rfl
 | m + 1 => by
   show roundX n step (itX z n step (k + m)) = _
   rw [itX_stay h m]
   exact h
theorem fixX_is {k : Nat} (h : itX z n step (k + 1) = itX z n step k) : fixX z n step = itX z n step k := by
 unfold fixX
 have hx : ∃ k, itX z n step (k + 1) = itX z n step k := ⟨k, h⟩
 rw [dif_pos hx]
 have h2 := Classical.choose_spec hx
 generalize Classical.choose hx = j at h2
 rcases Nat.le_total j k with hjk | hjk
 ·obtain ⟨d, rfl⟩ := Nat.exists_eq_add_of_le hjk
  exact (itX_stay h2 d).symm
 ·obtain ⟨d, rfl⟩ := Nat.exists_eq_add_of_le hjk
  exact itX_stay h d
theorem Fx.fix_ok (hF : Fx z n le ok rank R step) : OkX z n ok (fixX z n step) := by
 obtain ⟨k, h⟩ := hF.it_end
 rw [fixX_is h]
 exact hF.it_ok k
theorem Fx.fix_fix (hF : Fx z n le ok rank R step) : roundX n step (fixX z n step) = fixX z n step := by
 obtain ⟨k, h⟩ := hF.it_end
 rw [fixX_is h]
 exact h
theorem Fx.fix_at (hF : Fx z n le ok rank R step) {i : Nat} (hi : i < n) : step (fixX z n step) i = List.getD (fixX z n step) i z := by
 conv => rhs; rw [← hF.fix_fix]
 unfold roundX
 rw [genR_get hi]
theorem Fx.fix_ind (hF : Fx z n le ok rank R step) (I : List α → Prop) (h0 : I (List.replicate n z)) (h : ∀ l, OkX z n ok l → I l → I (roundX n step l)) : I (fixX z n step) := by
 obtain ⟨k, hk⟩ := hF.it_end
 rw [fixX_is hk]
 clear hk
 induction k with
 | zero => exact h0
 | succ k ih => exact h _ (hF.it_ok k) ih
theorem Fx.fix_least (hF : Fx z n le ok rank R step) {l : List α} (h : OkX z n ok l) (hl : ∀ i, i < n → le (step l i) (List.getD l i z)) : LeX z n le (fixX z n step) l := by
 refine hF.fix_ind (fun m => LeX z n le m l) (hF.zero_le h) fun m hm ih i hi => ?_
 unfold roundX
 rw [genR_get hi]
 exact hF.trans _ _ _ (hF.step_mono m l i hm h ih hi) (hl i hi)
structure Chaos (z : α) (n : Nat) (le : α → α → Prop) (ok : α → Prop) (step : List α → Nat → α) (l : List α) : Prop where
 ok : OkX z n ok l
 below : LeX z n le l (fixX z n step)
 grows : ∀ i, i < n → le (List.getD l i z) (step l i)
theorem Fx.chaos_zero (hF : Fx z n le ok rank R step) : Chaos z n le ok step (List.replicate n z) := ⟨hF.zero_ok, hF.zero_le hF.fix_ok, fun i hi => by rw [zero_at]; exact hF.least _ (hF.step_ok _ i hF.zero_ok hi)⟩
theorem setD_at {l : List α} {i j : Nat} {v : α} (hi : i < l.length) : List.getD (List.set l i v) j z = if i = j then v else List.getD l j z := by
 rw [getD_set]
 by_cases e : i = j
 ·rw [if_pos ⟨e, hi⟩, if_pos e]
 ·rw [if_neg (fun h => e h.1), if_neg e]
theorem Fx.chaos_set (hF : Fx z n le ok rank R step) {l : List α} (h : Chaos z n le ok step l) {i : Nat} (hi : i < n) : Chaos z n le ok step (List.set l i (step l i)) ∧ (step l i ≠ List.getD l i z → rankX z n rank l < rankX z n rank (List.set l i (step l i))) := by
 have hl := h.ok.1
 have hat : ∀ j, List.getD (List.set l i (step l i)) j z = if i = j then step l i else List.getD l j z := fun j => setD_at (by omega)
 have hok : OkX z n ok (List.set l i (step l i)) := ⟨by rw [List.length_set, hl], fun j hj => by
  rw [hat]
  split
  ·exact hF.step_ok l i h.ok hi
  ·exact h.ok.2 j hj⟩
 have hle : LeX z n le l (List.set l i (step l i)) := fun j hj => by
  rw [hat]
  split
  ·rename_i e; subst e; exact h.grows i hi
  ·exact hF.refl _
 refine ⟨⟨hok, fun j hj => ?_, fun j hj => ?_⟩, fun hne => ?_⟩
 ·rw [hat]
  split
  ·rename_i e
   subst e
   rw [← hF.fix_at hi]
   exact hF.step_mono _ _ i h.ok hF.fix_ok h.below hi
  ·exact h.below j hj
 ·rw [hat]
  split
  ·rename_i e
   subst e
   exact hF.step_mono _ _ i h.ok hok hle hi
  ·exact hF.trans _ _ _ (h.grows j hj) (hF.step_mono _ _ j h.ok hok hle hj)
 ·refine (hF.rank_lt h.ok hok hle).2 fun e => hne ?_
  rw [← hat i |>.trans (if_pos rfl), e]
theorem Fx.chaos_end (hF : Fx z n le ok rank R step) {l : List α} (h : Chaos z n le ok step l) (he : ∀ i, i < n → step l i = List.getD l i z) : l = fixX z n step := by
 have hge := hF.fix_least h.ok fun i hi => by rw [he i hi]; exact hF.refl _
 exact getD_ext z h.ok.1 hF.fix_ok.1 fun i hi => hF.anti (h.ok.2 i hi) (hF.fix_ok.2 i hi) (h.below i hi) (hge i hi)
end
end Go.Proofs
/-! Chapter 11: what is known of beginnings grows. -/
namespace Go.Proofs
open Go Go.Abs
set_option linter.unusedSimpArgs false
def leF (a b : Fi) : Prop := (∀ i, i < 256 → bitS a.1 i = true → bitS b.1 i = true) ∧ (a.2.1 = true → b.2.1 = true) ∧ (a.2.2.1 = true → b.2.2.1 = true)
theorem leF.refl (a : Fi) : leF a a := ⟨fun _ _ h => h, fun h => h, fun h => h⟩
theorem leF.trans {a b c : Fi} (h : leF a b) (k : leF b c) : leF a c := ⟨fun i hi g => k.1 i hi (h.1 i hi g), fun g => k.2.1 (h.2.1 g), fun g => k.2.2 (h.2.2 g)⟩
def okF (a : Fi) : Prop := CanS a.1
theorem leF.zero (a : Fi) : leF zFirsts a := ⟨fun i _ h => (by rw [show bitS zFirsts.1 i = false from bit_zero i] at h; cases h), fun h => (by cases h), fun h => (by cases h)⟩
def rankF (a : Fi) : Nat := sumTo (fun i => if bitS a.1 i = true then 1 else 0) 256 + (if a.2.1 = true then 1 else 0) + (if a.2.2.1 = true then 1 else 0)
theorem rankF_le (a : Fi) : rankF a ≤ 258 := by
 have h := sum_le (f := fun i => if bitS a.1 i = true then 1 else 0) (m := 1) (n := 256) fun i _ => by split <;> omega
 unfold rankF
 split <;> split <;> omega
theorem rankF_mono {a b : Fi} (ha : okF a) (hb : okF b) (h : leF a b) : rankF a ≤ rankF b ∧ (rankF a = rankF b → a = b) := by
 obtain ⟨h1, h2, h3⟩ := h
 obtain ⟨s1, s2⟩ := sum_mono (f := fun i => if bitS a.1 i = true then 1 else 0) (f' := fun i => if bitS b.1 i = true then 1 else 0) (n := 256) fun i hi => by
  by_cases hx : bitS a.1 i = true
  ·rw [if_pos hx, if_pos (h1 i hi hx)]; exact Nat.le_refl _
  ·rw [if_neg hx]; exact Nat.zero_le _
 obtain ⟨a0, ae, ah, _⟩ := a
 obtain ⟨b0, be, bh, _⟩ := b
 unfold rankF
 simp only at *
 have hE : (if ae = true then 1 else 0) ≤ (if be = true then 1 else 0) := by cases ae <;> cases be <;> simp at h2 ⊢
 have hH : (if ah = true then 1 else 0) ≤ (if bh = true then 1 else 0) := by cases ah <;> cases bh <;> simp at h3 ⊢
 refine ⟨by omega, fun e => ?_⟩
 have eS := s2 (by omega)
 have eE : (if ae = true then 1 else 0) = (if be = true then 1 else 0) := by omega
 have eH : (if ah = true then 1 else 0) = (if bh = true then 1 else 0) := by omega
 have hs : a0 = b0 := setS_ext ha hb fun i hi => by
  have := eS i hi
  cases hx : bitS a0 i <;> cases hy : bitS b0 i <;> simp [hx, hy] at this ⊢
 have he : ae = be := by cases ae <;> cases be <;> simp at eE ⊢
 have hh : ah = bh := by cases ah <;> cases bh <;> simp at eH ⊢
 rw [hs, he, hh]
theorem bit_union (a b : SetD) {i : Nat} (hi : i < 256) : bitS (unionS a b) i = (bitS a i || bitS b i) := bit_mk _ hi
theorem mono_nodeF {n : NodeD} {c a b c' a' b' : Fi} {f : Bool} (hc : leF c c') (ha : leF a a') (hb : leF b b') : leF (nodeF n c a b f) (nodeF n c' a' b' f) := by
 obtain ⟨a1, a2, a3⟩ := ha
 obtain ⟨b1, b2, b3⟩ := hb
 have hu : ∀ i, i < 256 → bitS (unionS a.1 b.1) i = true → bitS (unionS a'.1 b'.1) i = true := fun i hi h => by
  rw [bit_union _ _ hi, Bool.or_eq_true] at h ⊢
  exact h.imp (a1 i hi) (b1 i hi)
 have h7 : ∀ i, i < 256 → bitS (if a.2.1 = true then unionS a.1 b.1 else a.1) i = true → bitS (if a'.2.1 = true then unionS a'.1 b'.1 else a'.1) i = true := fun i hi h => by
  by_cases e : a.2.1 = true
  ·rw [if_pos e] at h
   rw [if_pos (a2 e)]
   exact hu i hi h
  ·rw [if_neg e] at h
   split
   ·rw [bit_union _ _ hi, a1 i hi h]; rfl
   ·exact a1 i hi h
 have hand : ∀ {x y x' y' : Bool}, (x = true → x' = true) → (y = true → y' = true) → (x && y) = true → (x' && y') = true := fun h1 h2 h => by
  rw [Bool.and_eq_true] at h ⊢
  exact ⟨h1 h.1, h2 h.2⟩
 have hor : ∀ {x y x' y' : Bool}, (x = true → x' = true) → (y = true → y' = true) → (x || y) = true → (x' || y') = true := fun h1 h2 h => by
  rw [Bool.or_eq_true] at h ⊢
  exact h.imp h1 h2
 unfold nodeF
 by_cases g0 : n.1 = 1 ∨ n.1 = 17 ∨ n.1 = 13
 ·rw [if_pos g0, if_pos g0]; exact leF.refl _
 rw [if_neg g0, if_neg g0]
 by_cases g1 : n.1 = 2
 ·rw [if_pos g1, if_pos g1]; exact leF.refl _
 rw [if_neg g1, if_neg g1]
 by_cases g2 : n.1 = 3
 ·rw [if_pos g2, if_pos g2]; exact leF.refl _
 rw [if_neg g2, if_neg g2]
 by_cases g3 : n.1 = 4
 ·rw [if_pos g3, if_pos g3]; exact leF.refl _
 rw [if_neg g3, if_neg g3]
 by_cases g4 : n.1 = 5
 ·rw [if_pos g4, if_pos g4]; exact leF.refl _
 rw [if_neg g4, if_neg g4]
 by_cases g5 : n.1 = 6
 ·rw [if_pos g5, if_pos g5]; exact hc
 rw [if_neg g5, if_neg g5]
 by_cases g6 : n.1 = 7
 ·rw [if_pos g6, if_pos g6]; exact ⟨h7, hand a2 b2, hand a3 fun h => h⟩
 rw [if_neg g6, if_neg g6]
 by_cases g7 : n.1 = 8
 ·rw [if_pos g7, if_pos g7]; exact ⟨hu, hor a2 b2, hand a3 b3⟩
 rw [if_neg g7, if_neg g7]
 by_cases g8 : n.1 = 9 ∨ n.1 = 11
 ·rw [if_pos g8, if_pos g8]; exact ⟨a1, fun h => h, fun h => h⟩
 rw [if_neg g8, if_neg g8]
 by_cases e1 : n.1 = 16
 ·rw [if_pos e1, if_pos e1]
  by_cases h0 : n.2.1 = 0
  ·rw [if_pos h0, if_pos h0]; exact leF.refl _
  ·rw [if_neg h0, if_neg h0]; exact ⟨a1, fun h => h, fun h => h⟩
 rw [if_neg e1, if_neg e1]
 by_cases e2 : n.1 = 14
 ·rw [if_pos e2, if_pos e2]
  by_cases h0 : n.2.1 = 0
  ·rw [if_pos h0, if_pos h0]; exact leF.refl _
  ·rw [if_neg h0, if_neg h0]; exact ⟨a1, a2, hand a3 fun h => h⟩
 rw [if_neg e2, if_neg e2]
 by_cases e3 : n.1 = 15
 ·rw [if_pos e3, if_pos e3]
  by_cases h0 : n.2.1 = 0
  ·rw [if_pos h0, if_pos h0]; exact ⟨a1, fun h => h, fun h => h⟩
  ·rw [if_neg h0, if_neg h0]; exact ⟨a1, a2, hand a3 fun h => h⟩
 rw [if_neg e3, if_neg e3]
 exact ⟨a1, a2, a3⟩
def CanG (g : G) : Prop := ∀ r, r ∈ g → CanP r.2.1
theorem canG_at {g : G} (h : CanG g) {i : Nat} (hi : i < g.length) : CanP (rth g i).2.1 := h _ (getD_memR hi)
theorem callF_in {g : G} (hg : RG g) (n : NodeD) : ∃ q, q < g.length ∧ ∀ now, callF g now n = List.getD now q zFirsts := by
 unfold callF
 cases h : findR g n.2.2.1 with
 | none => exact ⟨0, hg.pos, fun _ => rfl⟩
 | some q => exact ⟨q, (findR_at h).1, fun _ => rfl⟩
noncomputable def stepF (g : G) (now : List Fi) (i : Nat) : Fi := valF (callE g (fixE g)) (callF g now) (rth g i).2.1 ((rth g i).2.1.length - 1)
theorem callF_can {g : G} (hg : RG g) {now : List Fi} (h : OkX zFirsts g.length okF now) (n : NodeD) : CanS (callF g now n).1 := by
 obtain ⟨q, hq, e⟩ := callF_in hg n
 rw [e]
 exact h.2 q hq
theorem fxF {g : G} (hg : RG g) (hc : CanG g) : Fx zFirsts g.length leF okF rankF 258 (stepF g) where
 refl := leF.refl
 trans := fun _ _ _ h k => h.trans k
 bot := can_zero
 least := fun a _ => leF.zero a
 rank_le := fun a _ => rankF_le a
 rank_mono := fun a b ha hb h => rankF_mono ha hb h
 step_ok := fun l i hl hi => by
  obtain ⟨p1, p2, _⟩ := good_pos hg hi
  exact can_val p1 (canG_at hc hi) (fun k _ => callF_can hg hl _) _ (by omega)
 step_mono := fun l m i hl hm hle hi => by
  obtain ⟨p1, p2, _⟩ := good_pos hg hi
  have key := gen_ind2 (z := zP) (z' := zP) (f := nodeP (callE g (fixE g)) (callF g l)) (f' := nodeP (callE g (fixE g)) (callF g m)) p1 (fun x y => x.1 = y.1 ∧ leF x.2 y.2) ⟨rfl, leF.refl _⟩ (fun k _ a b a' b' ha hb => by
   obtain ⟨q, hq, e⟩ := callF_in hg (nth (rth g i).2.1 k)
   unfold nodeP
   rw [ha.1, hb.1, e, e]
   exact ⟨rfl, mono_nodeF (hle q hq) ha.2 hb.2⟩) ((rth g i).2.1.length - 1) (by omega)
  exact key.2
noncomputable def fixF (g : G) : List Fi := fixX zFirsts g.length (stepF g)
end Go.Proofs
/-! Chapter 11: what is known of all rules, by the book and by the program. -/
namespace Go.Proofs
open Go Go.Abs
set_option linter.unusedSimpArgs false
theorem eqbF (x y : Fi) : Ty.eqb (Ty.st [tSet, Ty.bool, Ty.bool]) x y = pb (x = y) := by
 by_cases h : x = y
 ·subst h
  rw [pb_t rfl]
  exact eqb_refl (t := Ty.st [tSet, Ty.bool, Ty.bool]) x rfl
 ·rw [pb_f h]
  cases e : Ty.eqb (Ty.st [tSet, Ty.bool, Ty.bool]) x y with
  | false => rfl
  | true => exact absurd (eqb_eq e) h
noncomputable def longE (g : G) : List (List Em) := genR g.length fun i => vals9 (callE g (fixE g)) (rth g i).2.1 (rth g i).2.1.length
theorem long_at {g : G} {i : Nat} (hi : i < g.length) : List.getD (longE g) i [] = vals9 (callE g (fixE g)) (rth g i).2.1 (rth g i).2.1.length := genR_get hi
theorem rule_calls {g : G} (hg : RG g) {i : Nat} (hi : i < g.length) : ∀ k, k < (rth g i).2.1.length → (nth (rth g i).2.1 k).1 = 6 → ∃ q, findR g (nth (rth g i).2.1 k).2.2.1 = some q := fun k hk h6 => hg.calls (rth g i) (getD_memR hi) _ (by rw [show nth (rth g i).2.1 k = List.getD (rth g i).2.1 k zNode by simp [nth]]; exact getD_in hk) h6
theorem partsF_at {g : G} (hg : RG g) (hc : CanG g) {now : List Fi} (h : OkX zFirsts g.length okF now) {i : Nat} (hi : i < g.length) : F_ref11_parts ((g, ()), (rth g i).2.1, vals9 (callE g (fixE g)) (rth g i).2.1 (rth g i).2.1.length, now, ()) = some (valsF (callE g (fixE g)) (callF g now) (rth g i).2.1 (rth g i).2.1.length, ()) :=
 q_partsF (good_pos hg hi).1 (canG_at hc hi) hg.len h.1 h.2 (rule_calls hg hi) (fun k _ => callF_can hg h _)
theorem lastF_at {g : G} {now : List Fi} {i : Nat} (h : 0 < (rth g i).2.1.length) : List.getD (valsF (callE g (fixE g)) (callF g now) (rth g i).2.1 (rth g i).2.1.length) ((rth g i).2.1.length - 1) zFirsts = stepF g now i := valsF_at (by omega)
theorem same_roundF {g : G} {now : List Fi} (h : now.length = g.length) : (∀ j, j < g.length → stepF g now j = List.getD now j zFirsts) ↔ roundX g.length (stepF g) now = now := by
 constructor
 ·intro hh
  exact getD_ext zFirsts genR_len h fun j hj => by unfold roundX; rw [genR_get hj]; exact hh j hj
 ·intro e j hj
  conv => rhs; rw [← e]
  unfold roundX
  rw [genR_get hj]
open Classical in
theorem q_Known11 {g : G} (hg : RG g) (hc : CanG g) : F_ref11_Known ((g, ()), ()) = some (fixF g, ()) := by
 have hn := hg.len
 have hm := hg.pos
 have hX := fxF hg hc
 unfold F_ref11_Known
 simp only [toPb, eqbF]
 rw [need_pos (by omega), q_Known9 hg, bind_t]
 dsimp only
 have hQ : (List.replicate g.length zFirsts).length = g.length := List.length_replicate
 refine loop_up (σ := (Int × Unit) × List (List EmptinessD) × List FirstsD × GrammarD × Unit) g.length (fun i => (((i : Int), ()), List.take i (longE g), List.replicate g.length zFirsts, (g, ()), ())) ?_ ?_ ?_
 ·rw [Int.toNat_natCast]; rfl
 ·intro i hi
  have hLl : (longE g).length = g.length := genR_len
  have hl : (List.take i (longE g)).length = i := by rw [List.length_take, hLl]; omega
  dsimp only
  simp only [Int.toNat_natCast, hl, hQ]
  rw [pos (by omega), need_pos (by omega)]
  unfold F_ref09_Nodes
  dsimp only
  rw [show List.getD g i zRule = rth g i from rfl, parts_at hg (fix_rg hg) hi, bind_t, bind_t]
  dsimp only
  rw [need_pos (by omega), need64 (by omega) (by omega), cast_succ, take_succD (d := []) (by omega), long_at hi]
 ·dsimp only
  have hLl : (longE g).length = g.length := genR_len
  rw [hQ, neg (by omega), show List.take g.length (longE g) = longE g by rw [← hLl]; exact List.take_length]
  refine (congrArg (fun o => Option.bind o (fun val1 => some (Sum.inr val1))) (a₂ := some (fixF g, ())) ?_).trans rfl
  refine loopC_gh (γ := Nat) (σ := (List (List EmptinessD) × List FirstsD × Unit) × GrammarD × Unit) (I := fun k s => s = ((longE g, itX zFirsts g.length (stepF g) k, ()), (g, ()), ())) (μ := fun k => g.length * 258 - rankX zFirsts g.length rankF (itX zFirsts g.length (stepF g) k)) (F := fun _ => (fixF g, ())) ?_ 0 _ rfl
  rintro k s rfl
  have hR := hX.it_ok k
  dsimp only
  rw [hR.1]
  simp only [Int.toNat_natCast, Nat.zero_add, hR.1]
  rw [need_pos (by omega)]
  refine or_of (fun a => a = if roundX g.length (stepF g) (itX zFirsts g.length (stepF g) k) = itX zFirsts g.length (stepF g) k then Sum.inr (fixF g, ()) else Sum.inl ((longE g, itX zFirsts g.length (stepF g) (k + 1), ()), (g, ()), ())) ⟨_, ?_, rfl⟩ ?_
  ·refine loop_up (σ := (Int × Bool × Unit) × List FirstsD × GrammarD × Unit) g.length (fun i => (((i : Int), pb (∀ j, j < i → stepF g (itX zFirsts g.length (stepF g) k) j = List.getD (itX zFirsts g.length (stepF g) k) j zFirsts), ()), gone (List.replicate g.length zFirsts) (stepF g (itX zFirsts g.length (stepF g) k)) i, (g, ()), ())) ?_ ?_ ?_
   ·rw [pb_t (by intro j hj; omega)]
    rfl
   ·intro i hi
    obtain ⟨p1, p2, p3⟩ := good_pos hg hi
    generalize itX zFirsts g.length (stepF g) k = now at hR ⊢
    have hGm : (gone (List.replicate g.length zFirsts) (stepF g now) i).length = g.length := by rw [gone_len (by omega), hQ]
    have hvl : (valsF (callE g (fixE g)) (callF g now) (rth g i).2.1 (rth g i).2.1.length).length = (rth g i).2.1.length := valsF_len
    have hbody : List.getD g i zRule = rth g i := rfl
    have e1 : Int.toNat (((rth g i).2.1.length : Int) - 1) = (rth g i).2.1.length - 1 := by omega
    dsimp only
    simp only [Int.toNat_natCast, hGm, hLl, hbody, long_at hi]
    rw [pos (by omega), need_pos (by omega), need_pos (by omega), need64 (by omega) (by omega), partsF_at hg hc hR hi, bind_t]
    dsimp only
    simp only [hvl, e1, lastF_at p2, List.length_set, hGm]
    have hset := gone_set (p := List.replicate g.length zFirsts) (f := stepF g now) (i := i) (by omega)
    have hA : List.getD (gone (List.replicate g.length zFirsts) (stepF g now) (i + 1)) i zFirsts = stepF g now i := by rw [← hset, set_at (by omega)]
    rw [need_pos (by omega), need_pos (by omega), need_pos (by omega), need_pos hi, need_pos (by omega), need_pos hi, need_pos (by omega), hset, hA]
    have hfl : sel (pb (∀ j, j < i → stepF g now j = List.getD now j zFirsts)) (some (pb (stepF g now i = List.getD now i zFirsts))) (some false) = some (pb (∀ j, j < i + 1 → stepF g now j = List.getD now j zFirsts)) := by
     by_cases h1 : ∀ j, j < i → stepF g now j = List.getD now j zFirsts
     ·rw [pos h1]
      congr 1
      apply pb_congr
      constructor
      ·intro h2 j hj
       by_cases e : j = i
       ·subst e; exact h2
       ·exact h1 j (by omega)
      ·intro h2; exact h2 i (by omega)
     ·rw [neg h1, pb_f fun h2 => h1 fun j hj => h2 j (by omega)]
    rw [hfl, bind_t, need64 (by omega) (by omega), cast_succ]
   ·dsimp only
    rw [neg (by omega), gone_same]
    by_cases h : roundX g.length (stepF g) (itX zFirsts g.length (stepF g) k) = itX zFirsts g.length (stepF g) k
    ·rw [if_pos h, pos ((same_roundF hR.1).2 h), ← fixX_is h]
     rfl
    ·rw [if_neg h, neg (fun h2 => h ((same_roundF hR.1).1 h2))]
     rfl
  ·rintro a rfl
   by_cases h : roundX g.length (stepF g) (itX zFirsts g.length (stepF g) k) = itX zFirsts g.length (stepF g) k
   ·rw [if_pos h]; exact .inr rfl
   ·rw [if_neg h]
    refine .inl ⟨k + 1, _, rfl, rfl, ?_, trivial⟩
    have h1 := (hX.rank_lt (hX.it_ok k) (hX.it_ok (k + 1)) (hX.it_le k)).2 h
    have h2 := hX.rankX_le (hX.it_ok (k + 1))
    omega
end Go.Proofs
/-! Chapter 11: what is known of all rules, by the program. -/
namespace Go.Proofs
open Go Go.Abs
set_option linter.unusedSimpArgs false
theorem mfind_put {β : Type} {x y : ByteArray} {v : β} : ∀ {l : List (ByteArray × β)}, mfind eqS (mput eqS l x v) y = if x = y then some v else mfind eqS l y
 | [] => by
   unfold mput mfind
   by_cases h : x = y
   ·rw [if_pos h, if_pos (eqS_iff.2 h.symm)]
   ·rw [if_neg h, if_neg (fun e => h (eqS_iff.1 e).symm)]
    rfl
 | (k, u) :: l => by
   unfold mput
   by_cases hk : eqS x k = true
   ·rw [if_pos hk]
    have e := eqS_iff.1 hk
    subst e
    unfold mfind
    by_cases h : x = y
    ·rw [if_pos h, if_pos (eqS_iff.2 h.symm)]
    ·rw [if_neg h, if_neg (fun e => h (eqS_iff.1 e).symm), if_neg (fun e => h (eqS_iff.1 e).symm)]
   ·rw [if_neg hk]
    unfold mfind
    by_cases h : eqS y k = true
    ·have e := eqS_iff.1 h
     subst e
     rw [if_pos h, if_pos h, if_neg (fun e => hk (eqS_iff.2 e))]
    ·rw [if_neg h, if_neg h]
     exact mfind_put
def MapOk (g : G) (m : List (ByteArray × Fi)) (l : List Fi) : Prop := ∀ i, i < g.length → Option.getD (mfind eqS m (rth g i).1) zFirsts = List.getD l i zFirsts
theorem name_inj {g : G} (hg : RG g) {i j : Nat} (hi : i < g.length) (hj : j < g.length) (h : (rth g i).1 = (rth g j).1) : i = j := by
 have h1 := find_name hg hi
 have h2 := find_name hg hj
 rw [h] at h1
 rw [h1] at h2
 exact Option.some.inj h2
theorem MapOk.call {g : G} {m : List (ByteArray × Fi)} {l : List Fi} (h : MapOk g m l) {n : NodeD} {q : Nat} (hq : findR g n.2.2.1 = some q) : Option.getD (mfind eqS m n.2.2.1) zFirsts = callF g l n := by
 obtain ⟨h1, h2, _⟩ := findR_at hq
 have := h q h1
 rw [show (rth g q).1 = n.2.2.1 from h2] at this
 rw [this]
 unfold callF
 rw [hq]
 rfl
theorem MapOk.put {g : G} (hg : RG g) {m : List (ByteArray × Fi)} {l : List Fi} (hl : l.length = g.length) (h : MapOk g m l) {i : Nat} (hi : i < g.length) (v : Fi) : MapOk g (mput eqS m (rth g i).1 v) (List.set l i v) := by
 intro j hj
 rw [mfind_put, setD_at (by omega)]
 by_cases e : i = j
 ·subst e
  rw [if_pos rfl, if_pos rfl]
  rfl
 ·rw [if_neg (fun h2 => e (name_inj hg hi hj h2)), if_neg e]
  exact h j hj
theorem begF_at {g : G} (hg : RG g) (hc : CanG g) {now : List Fi} (h : OkX zFirsts g.length okF now) {m : List (ByteArray × Fi)} (hm : MapOk g m now) {i : Nat} (hi : i < g.length) : F_gist_Beginnings_fi ((rth g i).2.1, vals9 (callE g (fixE g)) (rth g i).2.1 (rth g i).2.1.length, m, ()) = some (valsF (callE g (fixE g)) (callF g now) (rth g i).2.1 (rth g i).2.1.length, m, ()) :=
 q_begF (good_pos hg hi).1 (canG_at hc hi) (fun k hk h6 => by
  obtain ⟨q, hq⟩ := rule_calls hg hi k hk h6
  exact hm.call hq) (fun k _ => callF_can hg h _)
abbrev ChF (g : G) (l : List Fi) : Prop := Chaos zFirsts g.length leF okF (stepF g) l
theorem ex_pair {A : Type} {X : Option (A × Unit)} {Q : A → Prop} (h : ∃ r, X = some r ∧ Q r.1) : ∃ m, X = some (m, ()) ∧ Q m := by
 obtain ⟨⟨m, _⟩, h1, h2⟩ := h
 exact ⟨m, h1, h2⟩
theorem loop_up_ex {σ ρ : Type} {B : σ → Option (σ ⊕ ρ)} {P : ρ → Prop} (n : Nat) (st : Nat → σ) {s0 : σ} (h0 : st 0 = s0) (step : ∀ i, i < n → B (st i) = some (.inl (st (i + 1)))) (fin : ∃ r, B (st n) = some (.inr r) ∧ P r) : ∃ r, loopC B s0 = some r ∧ P r := by
 obtain ⟨r, h1, h2⟩ := fin
 exact ⟨r, loop_up n st h0 step h1, h2⟩
theorem bind_inr_ex {σ ρ : Type} {X : Option ρ} {P : ρ → Prop} (h : ∃ r, X = some r ∧ P r) : ∃ r, Option.bind X (fun v => some (Sum.inr v : σ ⊕ ρ)) = some (Sum.inr r) ∧ P r := by
 obtain ⟨r, rfl, h2⟩ := h
 exact ⟨r, rfl, h2⟩
open Classical in
theorem q_gFirsts {g : G} (hg : RG g) (hc : CanG g) : ∃ m, F_gist_Firsts ((g, ()), ()) = some (m, ()) ∧ MapOk g m (fixF g) := by
 have hn := hg.len
 have hm := hg.pos
 have hX := fxF hg hc
 unfold F_gist_Firsts
 simp only [toPb, eqbF, both_eq]
 rw [q_gEmpt hg, bind_t]
 dsimp only
 have hLl : (longE g).length = g.length := genR_len
 refine ex_pair (loop_up_ex (σ := (Int × Unit) × List (List EmptinessD) × List EmptinessD × List (ByteArray × Int) × List (ByteArray × FirstsD) × GrammarD × Unit) g.length (fun i => (((i : Int), ()), List.take i (longE g), fixE g, nums g, [], (g, ()), ())) rfl ?_ ?_)
 ·intro i hi
  have hl : (List.take i (longE g)).length = i := by rw [List.length_take, hLl]; omega
  dsimp only
  simp only [Int.toNat_natCast]
  rw [pos (by omega), need_pos (by omega), show List.getD g i zRule = rth g i from rfl, lengths_at hg (fix_rg hg) hi, bind_t]
  dsimp only
  rw [hl, need_pos (by omega), need64 (by omega) (by omega), cast_succ, take_succD (d := []) (by omega), long_at hi]
 dsimp only
 rw [neg (by omega), show List.take g.length (longE g) = longE g by rw [← hLl]; exact List.take_length]
 have hgen : ∀ {l : List Fi} {m : List (ByteArray × Fi)}, l.length = g.length → MapOk g m l → (genR g.length fun i => Option.getD (mfind eqS m (rth g i).1) zFirsts) = l := fun hl hm => getD_ext zFirsts genR_len hl fun i hi => by rw [genR_get hi]; exact hm i hi
 refine bind_inr_ex (loopC_ends (σ := (Bool × Unit) × List (List EmptinessD) × List (ByteArray × FirstsD) × GrammarD × Unit)
   (fun s => ∃ (l : List Fi) (m : List (ByteArray × Fi)) (b : Bool), s = ((b, ()), longE g, m, (g, ()), ()) ∧ MapOk g m l ∧ ChF g l ∧ (b = false → l = fixF g))
   (fun s => if s.1.1 = true then g.length * 258 - rankX zFirsts g.length rankF (genR g.length fun i => Option.getD (mfind eqS s.2.2.1 (rth g i).1) zFirsts) + 1 else 0)
   (fun (r : List (ByteArray × FirstsD) × Unit) => MapOk g r.1 (fixF g)) ?_ ((true, ()), longE g, [], (g, ()), ()) ⟨List.replicate g.length zFirsts, [], true, rfl, fun i hi => by rw [zero_at]; rfl, hX.chaos_zero, fun h => by cases h⟩)
 rintro s ⟨l, m, b, rfl, hM, hC, hb⟩
 dsimp only
 cases b with
 | false =>
   refine .inr ⟨_, by rw [sel_f], ?_⟩
   rw [← hb rfl]
   exact hM
 | true =>
   refine .inl ?_
   rw [sel_t, hgen hC.ok.1 hM]
   have wrap : ∀ {X : Option (((Bool × Unit) × List (List EmptinessD) × List (ByteArray × FirstsD) × GrammarD × Unit) ⊕ (List (ByteArray × FirstsD) × Unit))}, (∃ a, X = some (Sum.inl a) ∧ ∃ (l' : List Fi) (m' : List (ByteArray × Fi)) (b' : Bool), a = ((b', ()), longE g, m', (g, ()), ()) ∧ MapOk g m' l' ∧ ChF g l' ∧ (b' = false → l' = l ∧ ∀ j, j < g.length → stepF g l j = List.getD l j zFirsts) ∧ (b' = true → rankX zFirsts g.length rankF l < rankX zFirsts g.length rankF l')) →
     ∃ s', X = some (Sum.inl s') ∧ (∃ (l : List Fi) (m : List (ByteArray × Fi)) (b : Bool), s' = ((b, ()), longE g, m, (g, ()), ()) ∧ MapOk g m l ∧ ChF g l ∧ (b = false → l = fixF g)) ∧ (if s'.1.1 = true then g.length * 258 - rankX zFirsts g.length rankF (genR g.length fun i => Option.getD (mfind eqS s'.2.2.1 (rth g i).1) zFirsts) + 1 else 0) < (if (true : Bool) = true then g.length * 258 - rankX zFirsts g.length rankF l + 1 else 0) := by
    rintro X ⟨a, h1, l', m', b', rfl, hM', hC', hf, ht⟩
    refine ⟨_, h1, ⟨l', m', b', rfl, hM', hC', fun hb' => ?_⟩, ?_⟩
    ·obtain ⟨f1, f2⟩ := hf hb'
     subst f1
     exact hX.chaos_end hC f2
    ·dsimp only
     rw [hgen hC'.ok.1 hM', if_pos rfl]
     have hr := hX.rankX_le hC'.ok
     cases b' with
     | false => rw [if_neg (by simp)]; omega
     | true =>
       have := ht rfl
       rw [if_pos rfl]
       omega
   refine wrap (loopC_ex (f := Sum.inl)
      (fun s => ∃ (i : Nat) (l' : List Fi) (m' : List (ByteArray × Fi)) (b' : Bool), i ≤ g.length ∧ s = (((i : Int), b', ()), longE g, m', (g, ()), ()) ∧ MapOk g m' l' ∧ ChF g l' ∧ (b' = false → l' = l ∧ ∀ j, j < i → stepF g l j = List.getD l j zFirsts) ∧ (b' = true → rankX zFirsts g.length rankF l < rankX zFirsts g.length rankF l'))
      (fun s => g.length - Int.toNat s.1.1) ?_ ⟨0, l, m, false, by omega, rfl, hM, hC, fun _ => ⟨rfl, fun j hj => by omega⟩, fun h => by cases h⟩)
   rintro s ⟨i, l', m', b', hi, rfl, hM', hC', hf, ht⟩
   dsimp only
   simp only [Int.toNat_natCast, Nat.zero_add, hLl]
   by_cases hlt : i < g.length
   ·obtain ⟨p1, p2, p3⟩ := good_pos hg hlt
    have hvl : (valsF (callE g (fixE g)) (callF g l') (rth g i).2.1 (rth g i).2.1.length).length = (rth g i).2.1.length := valsF_len
    have e1 : Int.toNat (((rth g i).2.1.length : Int) - 1) = (rth g i).2.1.length - 1 := by omega
    have meas : g.length - Int.toNat ((i : Int) + 1) < g.length - i := by omega
    rw [pos (by omega), need_pos (by omega), need_pos (by omega), need_pos hlt, show List.getD g i zRule = rth g i from rfl, need64 (by omega) (by omega), long_at hlt, begF_at hg hc hC'.ok hM' hlt, bind_t]
    dsimp only
    rw [hvl, e1, lastF_at p2, need_pos (by omega), hM' i hlt]
    by_cases he : stepF g l' i = List.getD l' i zFirsts
    ·refine .inl ⟨_, by rw [npos he, need64 (by omega) (by omega)], ⟨i + 1, l', m', b', by omega, by rw [cast_succ], hM', hC', fun hb' => ?_, ht⟩, meas⟩
     obtain ⟨f1, f2⟩ := hf hb'
     refine ⟨f1, fun j hj => ?_⟩
     by_cases e : j = i
     ·subst e; rw [← f1]; exact he
     ·exact f2 j (by omega)
    ·obtain ⟨c1, c2⟩ := hX.chaos_set hC' hlt
     have c2 := c2 he
     refine .inl ⟨_, by rw [nneg he, need64 (by omega) (by omega)], ⟨i + 1, List.set l' i (stepF g l' i), _, true, by omega, by rw [cast_succ], hM'.put hg hC'.ok.1 hlt _, c1, fun h => (by cases h), fun _ => ?_⟩, meas⟩
     cases b' with
     | false => rw [← (hf rfl).1]; exact c2
     | true => exact Nat.lt_trans (ht rfl) c2
   ·have : i = g.length := by omega
    subst this
    exact .inr ⟨_, by rw [neg (by omega)], l', m', b', rfl, hM', hC', hf, ht⟩
end Go.Proofs
