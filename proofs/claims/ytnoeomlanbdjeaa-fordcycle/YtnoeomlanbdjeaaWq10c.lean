/- Part of the proof of the law's row: YtnoeomlanbdjeaaWq10c. -/
import Derived.Test.YtnoeomlanbdjeaaWq08i
import Derived.Test.YtnoeomlanbdjeaaWpC10
set_option linter.all false
set_option linter.unusedVariables false
set_option linter.unusedSimpArgs false
/-! Chapter 9: what the programs answer. -/
namespace Go.Proofs
open Go Go.Abs
set_option linter.unusedSimpArgs false
theorem find_name {g : G} (hg : RG g) {i : Nat} (hi : i < g.length) : findR g (rth g i).1 = some i := by
  obtain ⟨k, h1, h2⟩ := findR_le hi
  have h3 := (hg.good i hi).2.1
  unfold numR rth at h3
  rw [h1] at h3
  have h3 : ¬ ((k : Int) < (i : Int)) := h3
  have : k = i := by omega
  unfold rth
  rw [h1, this]
theorem em_name {g : G} (hg : RG g) {now : List Em} (hl : now.length = g.length) {i : Nat} (hi : i < g.length) : F_gist_Emptiness_1 ((rth g i).1, now, nums g, ()) = some (List.getD now i zEmptiness, now, nums g, ()) := by
  unfold F_gist_Emptiness_1
  rw [nums_find, find_name hg hi]
  simp only [Option.map_some, Option.getD_some, Int.toNat_natCast, Nat.zero_add]
  rw [need_pos (by omega), need_pos (by omega)]
noncomputable def fixG (g : G) : List Em := if (chkG g).2 = 0 then fixE g else []
theorem q_eRules (g : G) : F_empty_Rules ((g, ()), ()) = some ((chkG g).2, fixG g, ()) := by
  unfold F_empty_Rules
  simp only [toPb, q_checkG, bind_t]
  dsimp only [outE]
  by_cases h : (chkG g).2 = 0
  · have hg := rg_of h
    have hn := hg.len
    have hF := fix_rg hg
    rw [npos h, q_gEmpt hg, bind_t]
    unfold fixG
    rw [if_pos h]
    refine loop_up (σ := (Int × Unit) × List EmptinessD × List EmptinessD × List (ByteArray × Int) × Unit) g.length (fun i => (((i : Int), ()), List.take i (fixE g), fixE g, nums g, ())) rfl ?_ ?_
    · intro i hi
      have hbody : List.getD g i zRule = rth g i := rfl
      have htl : (List.take i (fixE g)).length = i := by rw [List.length_take, hF.1]; omega
      dsimp only
      simp only [Int.toNat_natCast, hbody]
      rw [pos (by omega), need_pos (by omega), em_name hg hF.1 hi, bind_t]
      dsimp only
      rw [htl, need_pos (by omega), need64 (by omega) (by omega), cast_succ, take_succD (d := zEmptiness) (by rw [hF.1]; exact hi)]
    · dsimp only
      rw [neg (by omega), show List.take g.length (fixE g) = fixE g by rw [← hF.1]; exact List.take_length, h]
  · rw [nneg h]
    unfold fixG
    rw [if_neg h]
theorem look_out {g : G} {r : Int} (h : (chkG g).2 = 0) (h2 : r < 0 ∨ r ≥ (g.length : Int)) : lookE g r = 1 := by
  unfold lookE
  rw [if_neg (by omega), if_pos h2]
theorem look_ok {g : G} {r : Int} (h : (chkG g).2 = 0) (h2 : ¬ (r < 0 ∨ r ≥ (g.length : Int))) : lookE g r = 0 := by
  unfold lookE
  rw [if_neg (by omega), if_neg h2]
theorem look_or {g : G} {r : Int} (h : (chkG g).2 = 0) {R : Type} {x y : Option R} : Option.bind (sel (pb (r < (0 : Int))) (some true) (some (pb (r ≥ (g.length : Int))))) (fun v => sel v x y) = if lookE g r = 0 then y else x := by
  by_cases h1 : r < 0
  · rw [pos h1, bind_t, sel_t, look_out h (.inl h1), if_neg (by decide)]
  · rw [neg h1, bind_t]
    by_cases h2 : r ≥ (g.length : Int)
    · rw [pos h2, look_out h (.inr h2), if_neg (by decide)]
    · rw [neg h2, look_ok h (fun h => h.elim h1 h2), if_pos rfl]
theorem look_one {g : G} {r : Int} (h : (chkG g).2 = 0) (h2 : lookE g r ≠ 0) : lookE g r = 1 := by
  by_cases h3 : r < 0 ∨ r ≥ (g.length : Int)
  · exact look_out h h3
  · exact absurd (look_ok h h3) h2
theorem look_bad {g : G} {r : Int} (h : (chkG g).2 ≠ 0) : lookE g r = (chkG g).2 := by
  unfold lookE
  rw [if_pos h]
end Go.Proofs

/-! Rounds that grow, and where they end, for any kind of knowledge; what holds of all parts. -/
namespace Go.Proofs
open Go Go.Abs
set_option linter.unusedSimpArgs false
theorem getD_set {α : Type} (l : List α) (k j : Nat) (v d : α) : List.getD (List.set l k v) j d = if k = j ∧ k < l.length then v else List.getD l j d := by
  rw [List.getD_eq_getElem?_getD, List.getD_eq_getElem?_getD, List.getElem?_set]
  by_cases h : k = j
  · subst h
    by_cases h2 : k < l.length
    · rw [if_pos rfl, if_pos h2, if_pos ⟨rfl, h2⟩]; rfl
    · rw [if_pos rfl, if_neg h2, if_neg (fun h => h2 h.2), List.getElem?_eq_none (by omega)]
  · rw [if_neg h, if_neg (fun h2 => h h2.1)]
theorem arity_cases {p : List NodeD} (hp : (chkP p).2 = 0) {k : Nat} (hk : k < p.length) : arity (nth p k).1 = 0 ∨ arity (nth p k).1 = 1 ∨ arity (nth p k).1 = 2 := by
  have h1 := (node_ok (look_of hp hk)).1
  have h2 := arity_le (nth p k).1
  omega
/-- What holds of the parts of two readings holds of the whole. -/
theorem gen_ind2 {β γ : Type} {z : β} {z' : γ} {f : NodeD → β → β → β} {f' : NodeD → γ → γ → γ} {p : List NodeD} (hp : (chkP p).2 = 0) (I : β → γ → Prop) (h0 : I z z') (h : ∀ k, k < p.length → ∀ a b a' b', I a a' → I b b' → I (f (nth p k) a b) (f' (nth p k) a' b')) : ∀ k, k < p.length → I (valOf z f p k) (valOf z' f' p k) := by
  intro k
  induction k using Nat.strongRecOn with
  | _ k ih =>
    intro hk
    rw [valOf_is z f p k, valOf_is z' f' p k]
    rcases arity_cases hp hk with h1 | h1 | h1
    · refine h k hk _ _ _ _ ?_ ?_
      · rw [(kid_zero _ _ h1 _).1, (kid_zero _ _ h1 _).1]; exact h0
      · rw [(kid_zero _ _ h1 _).2, (kid_zero _ _ h1 _).2]; exact h0
    · obtain ⟨m1, _⟩ := (ends_kids hp hk).2.1 h1
      refine h k hk _ _ _ _ ?_ ?_
      · rw [kidA_one _ _ _ h1 m1, kidA_one _ _ _ h1 m1]
        exact ih _ (by omega) (by omega)
      · unfold kidB
        rw [if_neg (by omega), if_neg (by omega)]
        exact h0
    · obtain ⟨m1, m2, m3, _⟩ := (ends_kids hp hk).2.2 h1
      refine h k hk _ _ _ _ ?_ ?_
      · rw [kidA_two _ _ _ h1 m2 m3, kidA_two _ _ _ h1 m2 m3]
        exact ih _ (by omega) (by omega)
      · rw [kidB_two _ _ _ h1 m1, kidB_two _ _ _ h1 m1]
        exact ih _ (by omega) (by omega)
theorem gen_ind {β : Type} {z : β} {f : NodeD → β → β → β} {p : List NodeD} (hp : (chkP p).2 = 0) (I : β → Prop) (h0 : I z) (h : ∀ k, k < p.length → ∀ a b, I a → I b → I (f (nth p k) a b)) : ∀ k, k < p.length → I (valOf z f p k) :=
  gen_ind2 (z' := ()) (f' := fun _ _ _ => ()) hp (fun a _ => I a) h0 (fun k hk a b _ _ ha hb => h k hk a b ha hb)
theorem gone_lt {α : Type} {p : List α} {f : Nat → α} {i j : Nat} {d : α} (h : j < i) : List.getD (gone p f i) j d = f j := by
  unfold gone
  rw [List.getD_eq_getElem?_getD, List.getElem?_append_left (by rw [genR_len]; exact h), ← List.getD_eq_getElem?_getD, genR_get h]
theorem ends_parts {p : List NodeD} (hp : (chkP p).2 = 0) {k : Nat} (hk : k < p.length) : ∃ B Q : List Nat, endsI p k = B ++ Q ∧ endsI p (k + 1) = B ++ [k] ∧ castL Q = partsP p (k : Int) ∧ (Q.length : Int) = arity (nth p k).1 := by
  obtain ⟨h0, h1, h2⟩ := ends_kids hp hk
  refine ⟨endsI p (beginP p (k : Int)).toNat, ?_⟩
  rw [ends_succ hp hk]
  unfold partsP
  rcases arity_cases hp hk with h | h | h
  · refine ⟨[], ?_, rfl, ?_, by rw [h]; rfl⟩
    · rw [h0 h, Int.toNat_natCast, List.append_nil]
    · rw [if_neg (by omega), if_neg (by omega)]; rfl
  · obtain ⟨m1, m2⟩ := h1 h
    refine ⟨[k - 1], m2, rfl, ?_, by rw [h]; rfl⟩
    rw [if_pos h]
    simp [castL]; omega
  · obtain ⟨m1, m2, m3, m4⟩ := h2 h
    refine ⟨_, m4, rfl, ?_, by rw [h]; rfl⟩
    rw [if_neg (by omega), if_pos h]
    simp [castL]; omega
section
variable {α : Type} (z : α) (n : Nat) (le : α → α → Prop) (ok : α → Prop) (rank : α → Nat) (R : Nat) (step : List α → Nat → α)
def OkX (l : List α) : Prop := l.length = n ∧ ∀ i, i < n → ok (List.getD l i z)
def LeX (l m : List α) : Prop := ∀ i, i < n → le (List.getD l i z) (List.getD m i z)
structure Fx : Prop where
  refl : ∀ a, le a a
  trans : ∀ a b c, le a b → le b c → le a c
  bot : ok z
  least : ∀ a, ok a → le z a
  rank_le : ∀ a, ok a → rank a ≤ R
  rank_mono : ∀ a b, ok a → ok b → le a b → rank a ≤ rank b ∧ (rank a = rank b → a = b)
  step_ok : ∀ l i, OkX z n ok l → i < n → ok (step l i)
  step_mono : ∀ l m i, OkX z n ok l → OkX z n ok m → LeX z n le l m → i < n → le (step l i) (step m i)
def roundX (l : List α) : List α := genR n (step l)
def itX : Nat → List α
  | 0 => List.replicate n z
  | k + 1 => roundX n step (itX k)
open Classical in
noncomputable def fixX : List α := if h : ∃ k, itX z n step (k + 1) = itX z n step k then itX z n step (Classical.choose h) else []
def rankX (l : List α) : Nat := sumTo (fun i => rank (List.getD l i z)) n
theorem zero_at {i : Nat} : List.getD (List.replicate n z) i z = z := by
  rw [List.getD_eq_getElem?_getD, List.getElem?_replicate]
  split <;> rfl
variable {z n le ok rank R step}
theorem Fx.round_ok (hF : Fx z n le ok rank R step) {l : List α} (h : OkX z n ok l) : OkX z n ok (roundX n step l) := ⟨genR_len, fun i hi => by unfold roundX; rw [genR_get hi]; exact hF.step_ok l i h hi⟩
theorem Fx.round_mono (hF : Fx z n le ok rank R step) {l m : List α} (h : OkX z n ok l) (h' : OkX z n ok m) (hl : LeX z n le l m) : LeX z n le (roundX n step l) (roundX n step m) := by
  intro i hi
  unfold roundX
  rw [genR_get hi, genR_get hi]
  exact hF.step_mono l m i h h' hl hi
theorem Fx.zero_ok (hF : Fx z n le ok rank R step) : OkX z n ok (List.replicate n z) := ⟨List.length_replicate, fun i _ => by rw [zero_at]; exact hF.bot⟩
theorem Fx.zero_le (hF : Fx z n le ok rank R step) {l : List α} (h : OkX z n ok l) : LeX z n le (List.replicate n z) l := fun i hi => by rw [zero_at]; exact hF.least _ (h.2 i hi)
theorem Fx.it_ok (hF : Fx z n le ok rank R step) : ∀ k, OkX z n ok (itX z n step k)
  | 0 => hF.zero_ok
  | k + 1 => hF.round_ok (hF.it_ok k)
theorem Fx.it_le (hF : Fx z n le ok rank R step) : ∀ k, LeX z n le (itX z n step k) (itX z n step (k + 1))
  | 0 => hF.zero_le (hF.it_ok 1)
  | k + 1 => hF.round_mono (hF.it_ok k) (hF.it_ok (k + 1)) (hF.it_le k)
theorem Fx.rank_lt (hF : Fx z n le ok rank R step) {l m : List α} (h : OkX z n ok l) (h' : OkX z n ok m) (hl : LeX z n le l m) : rankX z n rank l ≤ rankX z n rank m ∧ (m ≠ l → rankX z n rank l < rankX z n rank m) := by
  obtain ⟨h1, h2⟩ := sum_mono (f := fun i => rank (List.getD l i z)) (f' := fun i => rank (List.getD m i z)) (n := n) fun i hi => (hF.rank_mono _ _ (h.2 i hi) (h'.2 i hi) (hl i hi)).1
  refine ⟨h1, fun hne => Nat.lt_of_le_of_ne h1 fun e => hne ?_⟩
  exact getD_ext z h'.1 h.1 fun i hi => ((hF.rank_mono _ _ (h.2 i hi) (h'.2 i hi) (hl i hi)).2 (h2 e i hi)).symm
theorem Fx.rankX_le (hF : Fx z n le ok rank R step) {l : List α} (h : OkX z n ok l) : rankX z n rank l ≤ n * R := sum_le fun i hi => hF.rank_le _ (h.2 i hi)
theorem Fx.it_end (hF : Fx z n le ok rank R step) : ∃ k, itX z n step (k + 1) = itX z n step k := by
  refine Classical.byContradiction fun hno => ?_
  have key : ∀ k, k ≤ rankX z n rank (itX z n step k) := by
    intro k
    induction k with
    | zero => exact Nat.zero_le _
    | succ k ih =>
      have := (hF.rank_lt (hF.it_ok k) (hF.it_ok (k + 1)) (hF.it_le k)).2 fun e => hno ⟨k, e⟩
      omega
  have h1 := key (n * R + 1)
  have h2 := hF.rankX_le (hF.it_ok (n * R + 1))
  omega
theorem itX_stay {k : Nat} (h : itX z n step (k + 1) = itX z n step k) : ∀ m, itX z n step (k + m) = itX z n step k
  | 0 => rfl
  | m + 1 => by
    show roundX n step (itX z n step (k + m)) = _
    rw [itX_stay h m]
    exact h
theorem fixX_is {k : Nat} (h : itX z n step (k + 1) = itX z n step k) : fixX z n step = itX z n step k := by
  unfold fixX
  have hx : ∃ k, itX z n step (k + 1) = itX z n step k := ⟨k, h⟩
  rw [dif_pos hx]
  have h2 := Classical.choose_spec hx
  generalize Classical.choose hx = j at h2
  rcases Nat.le_total j k with hjk | hjk
  · obtain ⟨d, rfl⟩ := Nat.exists_eq_add_of_le hjk
    exact (itX_stay h2 d).symm
  · obtain ⟨d, rfl⟩ := Nat.exists_eq_add_of_le hjk
    exact itX_stay h d
theorem Fx.fix_ok (hF : Fx z n le ok rank R step) : OkX z n ok (fixX z n step) := by
  obtain ⟨k, h⟩ := hF.it_end
  rw [fixX_is h]
  exact hF.it_ok k
theorem Fx.fix_fix (hF : Fx z n le ok rank R step) : roundX n step (fixX z n step) = fixX z n step := by
  obtain ⟨k, h⟩ := hF.it_end
  rw [fixX_is h]
  exact h
theorem Fx.fix_at (hF : Fx z n le ok rank R step) {i : Nat} (hi : i < n) : step (fixX z n step) i = List.getD (fixX z n step) i z := by
  conv => rhs; rw [← hF.fix_fix]
  unfold roundX
  rw [genR_get hi]
theorem Fx.fix_ind (hF : Fx z n le ok rank R step) (I : List α → Prop) (h0 : I (List.replicate n z)) (h : ∀ l, OkX z n ok l → I l → I (roundX n step l)) : I (fixX z n step) := by
  obtain ⟨k, hk⟩ := hF.it_end
  rw [fixX_is hk]
  clear hk
  induction k with
  | zero => exact h0
  | succ k ih => exact h _ (hF.it_ok k) ih
/-- It is the least of all that stay. -/
theorem Fx.fix_least (hF : Fx z n le ok rank R step) {l : List α} (h : OkX z n ok l) (hl : ∀ i, i < n → le (step l i) (List.getD l i z)) : LeX z n le (fixX z n step) l := by
  refine hF.fix_ind (fun m => LeX z n le m l) (hF.zero_le h) fun m hm ih i hi => ?_
  unfold roundX
  rw [genR_get hi]
  exact hF.trans _ _ _ (hF.step_mono m l i hm h ih hi) (hl i hi)
/-- What is known on the way, one rule after the other. -/
structure Chaos (z : α) (n : Nat) (le : α → α → Prop) (ok : α → Prop) (step : List α → Nat → α) (l : List α) : Prop where
  ok : OkX z n ok l
  below : LeX z n le l (fixX z n step)
  grows : ∀ i, i < n → le (List.getD l i z) (step l i)
theorem setD_at {l : List α} {i j : Nat} {v : α} (hi : i < l.length) : List.getD (List.set l i v) j z = if i = j then v else List.getD l j z := by
  rw [getD_set]
  by_cases e : i = j
  · rw [if_pos ⟨e, hi⟩, if_pos e]
  · rw [if_neg (fun h => e h.1), if_neg e]
end
end Go.Proofs

/-! Chapter 10: what may match nothing. -/
namespace Go.Proofs
open Go Go.Abs
set_option linter.unusedSimpArgs false
/-- May a node match nothing, by its rule and its parts. -/
noncomputable def nodeN (n : NodeD) (c a b : Bool) : Bool :=
  if n.1 = 1 ∨ n.1 = 9 ∨ n.1 = 11 ∨ n.1 = 12 ∨ n.1 = 13 ∨ n.1 = 16 ∨ n.1 = 17 then true
  else if n.1 = 2 ∨ n.1 = 3 ∨ n.1 = 4 ∨ n.1 = 5 then false
  else if n.1 = 6 then c
  else if n.1 = 7 then a && b
  else if n.1 = 8 then a || b
  else if n.1 = 14 ∨ n.1 = 15 then pb (n.2.1 = 0) || a
  else a
theorem nodeE_fst {n : NodeD} (ho : op23 n.1) {c a b : Em} : (nodeE n c a b).1 = nodeN n c.1 a.1 b.1 := by
  unfold nodeN
  rcases ho with h | h | h | h | h | h | h | h | h | h | h | h | h | h | h | h | h | h | h | h | h | h | h <;> first
    | (by_cases h0 : n.2.1 = 0 <;> simp [nodeE, oneE, countE, rowE, eitherE, mkE, h, h0, pb_true, pb_false]; done)
noncomputable abbrev valsN (c : NodeD → Bool) (p : List NodeD) (k : Nat) : List Bool := valsOf false (fun n a b => nodeN n (c n) a b) p k
noncomputable abbrev valN (c : NodeD → Bool) (p : List NodeD) (k : Nat) : Bool := valOf false (fun n a b => nodeN n (c n) a b) p k
theorem valE_fst {cE : NodeD → Em} {c : NodeD → Bool} {p : List NodeD} (hp : (chkP p).2 = 0) (hc : ∀ k, k < p.length → (cE (nth p k)).1 = c (nth p k)) : ∀ k, k < p.length → (val9 cE p k).1 = valN c p k :=
  gen_ind2 hp (fun (a : Em) (b : Bool) => a.1 = b) rfl fun k hk a b a' b' ha hb => by
    rw [nodeE_fst (nodeOk_of hp hk).op, ha, hb, hc k hk]
theorem mono_nodeN {n : NodeD} {c a b c' a' b' : Bool} (hc : c = true → c' = true) (ha : a = true → a' = true) (hb : b = true → b' = true) : nodeN n c a b = true → nodeN n c' a' b' = true := by
  unfold nodeN
  repeat' split
  all_goals intro h
  all_goals first
    | exact hc h
    | exact ha h
    | exact h
    | (simp only [Bool.and_eq_true, Bool.or_eq_true] at h ⊢
       first | exact ⟨ha h.1, hb h.2⟩ | exact h.imp ha hb | exact h.imp (fun h => h) ha)
/-- Is the rule called by a node told? -/
def callN (g : G) (rules : List Bool) (n : NodeD) : Bool := List.getD rules ((findR g n.2.2.1).getD 0) false
theorem kids_one {p : List NodeD} {k : Nat} (h : arity (nth p k).1 = 1) (hp : (chkP p).2 = 0) (hk : k < p.length) : partsP p (k : Int) = [((k - 1 : Nat) : Int)] ∧ 1 ≤ k := by
  obtain ⟨m1, _⟩ := (ends_kids hp hk).2.1 h
  unfold partsP
  rw [if_pos h]
  exact ⟨by rw [show (k : Int) - 1 = ((k - 1 : Nat) : Int) by omega], m1⟩
theorem kids_two {p : List NodeD} {k : Nat} (h : arity (nth p k).1 = 2) (hp : (chkP p).2 = 0) (hk : k < p.length) : partsP p (k : Int) = [((beginP p ((k : Int) - 1) - 1).toNat : Int), ((k - 1 : Nat) : Int)] ∧ 1 ≤ k ∧ (beginP p ((k : Int) - 1) - 1).toNat < k := by
  obtain ⟨m1, m2, m3, _⟩ := (ends_kids hp hk).2.2 h
  unfold partsP
  rw [if_neg (by omega), if_pos h]
  exact ⟨by rw [show (k : Int) - 1 = ((k - 1 : Nat) : Int) by omega, show beginP p ((k - 1 : Nat) : Int) - 1 = (((beginP p ((k - 1 : Nat) : Int) - 1).toNat : Nat) : Int) by rw [show ((k - 1 : Nat) : Int) = (k : Int) - 1 by omega]; omega, Int.toNat_natCast], m1, by omega⟩
theorem arity_1 {k : Int} (h : arity k = 1) : k = 9 ∨ k = 10 ∨ k = 11 ∨ k = 12 ∨ k = 13 ∨ k = 14 ∨ k = 15 ∨ k = 16 ∨ k = 18 ∨ k = 19 ∨ k = 20 ∨ k = 21 ∨ k = 22 ∨ k = 23 := by
  unfold arity at h
  split at h
  · omega
  · split at h
    · omega
    · split at h
      · omega
      · omega
theorem arity_0 {k : Int} (h : arity k = 0) : k = 1 ∨ k = 2 ∨ k = 3 ∨ k = 4 ∨ k = 5 ∨ k = 6 ∨ k = 17 := by
  unfold arity at h
  split at h
  · omega
  · split at h
    · omega
    · split at h
      · omega
      · omega
end Go.Proofs

/-! Chapter 10: which rules may match nothing. -/
namespace Go.Proofs
open Go Go.Abs
set_option linter.unusedSimpArgs false
noncomputable def stepN (g : G) (l : List Bool) (i : Nat) : Bool := valN (callN g l) (rth g i).2.1 ((rth g i).2.1.length - 1)
def leB (a b : Bool) : Prop := a = true → b = true
theorem call_inN {g : G} (hg : RG g) (n : NodeD) : ∃ q, q < g.length ∧ ∀ now, callN g now n = List.getD now q false := by
  unfold callN
  cases h : findR g n.2.2.1 with
  | none => exact ⟨0, hg.pos, fun _ => rfl⟩
  | some q => exact ⟨q, (findR_at h).1, fun _ => rfl⟩
abbrev LeN (g : G) (l m : List Bool) : Prop := LeX false g.length leB l m
theorem fxN {g : G} (hg : RG g) : Fx false g.length leB (fun _ => True) (fun b => if b = true then 1 else 0) 1 (stepN g) where
  refl := fun _ h => h
  trans := fun _ _ _ h1 h2 h => h2 (h1 h)
  bot := trivial
  least := fun _ _ h => by cases h
  rank_le := fun a _ => by cases a <;> simp
  rank_mono := fun a b _ _ h => by
    cases a <;> cases b <;> simp [leB] at h ⊢
  step_ok := fun _ _ _ _ => trivial
  step_mono := fun l m i _ _ hl hi => by
    obtain ⟨h1, h2, _⟩ := good_pos hg hi
    refine gen_ind2 h1 (fun a b => leB a b) (fun h => h) (fun k hk a b a' b' ha hb => ?_) _ (by omega)
    obtain ⟨q, hq, e⟩ := call_inN hg (nth (rth g i).2.1 k)
    rw [e, e]
    exact mono_nodeN (hl q hq) ha hb
noncomputable def fixN (g : G) : List Bool := fixX false g.length (stepN g)
/-- What the least fixed point of the lengths says of nothing. -/
theorem stepE_fst {g : G} (hg : RG g) {now : List Em} {l : List Bool} (h : ∀ q, q < g.length → (List.getD now q zEmptiness).1 = List.getD l q false) {i : Nat} (hi : i < g.length) : (stepE g now i).1 = stepN g l i := by
  obtain ⟨h1, h2, _⟩ := good_pos hg hi
  have e : (lastE g now i).1 = stepN g l i := valE_fst h1 (fun k hk => by
    show (List.getD now ((findR g _).getD 0) zEmptiness).1 = List.getD l ((findR g _).getD 0) false
    refine h _ ?_
    cases hf : findR g (nth (rth g i).2.1 k).2.2.1 with
    | none => exact hg.pos
    | some q => exact (findR_at hf).1) _ (by omega)
  unfold stepE loopE
  split
  · exact e
  · exact e
theorem fixE_fst {g : G} (hg : RG g) : ∀ q, q < g.length → (List.getD (fixE g) q zEmptiness).1 = List.getD (fixN g) q false := by
  have hX := fxN hg
  have hr := fix_rg hg
  have hl : ∀ q, q < g.length → List.getD (genR g.length fun q => (List.getD (fixE g) q zEmptiness).1) q false = (List.getD (fixE g) q zEmptiness).1 := fun q hq => genR_get hq
  have low : LeN g (fixN g) (genR g.length fun q => (List.getD (fixE g) q zEmptiness).1) := by
    refine hX.fix_least ⟨genR_len, fun _ _ => trivial⟩ fun i hi => ?_
    rw [hl i hi, ← stepE_fst hg (fun q hq => (hl q hq).symm) hi]
    have : stepE g (fixE g) i = List.getD (fixE g) i zEmptiness := by
      conv => rhs; rw [← fix_fix hg]
      unfold roundE
      rw [genR_get hi]
    rw [this]
    exact fun h => h
  have up : ∀ q, q < g.length → leB (List.getD (fixE g) q zEmptiness).1 (List.getD (fixN g) q false) := by
    refine fix_ind hg (fun l => ∀ q, q < g.length → leB (List.getD l q zEmptiness).1 (List.getD (fixN g) q false)) (fun q hq => by rw [bot_at hq]; intro h; cases h) fun l _ ih q hq => ?_
    unfold roundE
    rw [genR_get hq]
    have hm : ∀ q, q < g.length → List.getD (genR g.length fun q => (List.getD l q zEmptiness).1) q false = (List.getD l q zEmptiness).1 := fun q hq => genR_get hq
    rw [stepE_fst hg (fun q hq => (hm q hq).symm) hq]
    show leB _ (List.getD (fixX false g.length (stepN g)) q false)
    rw [← hX.fix_at hq]
    exact hX.step_mono _ _ q ⟨genR_len, fun _ _ => trivial⟩ hX.fix_ok (fun j hj => by rw [hm j hj]; exact ih j hj) hq
  intro q hq
  have h1 := low q hq
  rw [hl q hq] at h1
  have h2 := up q hq
  exact Bool.eq_iff_iff.2 ⟨h2, h1⟩
end Go.Proofs

/-! Chapter 10: what is known of a part, by the book. -/
namespace Go.Proofs
open Go Go.Abs
set_option linter.unusedSimpArgs false
noncomputable def noB : List Bool := List.replicate 200 false
noncomputable def joinB (a b : List Bool) : List Bool := genR 200 fun i => List.getD a i false || List.getD b i false
noncomputable def headsH (n : NodeD) (q : Nat) (a b : List Bool) (ae : Bool) : List Bool :=
  if n.1 = 6 then List.set noB q true
  else if n.1 = 8 then joinB a b
  else if n.1 = 7 then (if ae = true then joinB a b else a)
  else if (n.1 = 14 ∨ n.1 = 16) ∧ n.2.1 = 0 then noB
  else a
noncomputable def nodeP (n : NodeD) (q : Nat) (ce : Bool) (a b : pieceD) : pieceD := (headsH n q a.1 b.1 a.2.1, nodeN n ce a.2.1 b.2.1, ())
theorem join_len {a b : List Bool} : (joinB a b).length = 200 := genR_len
theorem join_at {a b : List Bool} {i : Nat} (h : i < 200) : List.getD (joinB a b) i false = (List.getD a i false || List.getD b i false) := genR_get h
theorem noB_len : noB.length = 200 := List.length_replicate
theorem noB_at {i : Nat} : List.getD noB i false = false := zero_at _ _
theorem q_join {a b : List Bool} (ha : a.length = 200) : F_ford_marks_join (a, b, ()) = some (joinB a b, ()) := by
  unfold F_ford_marks_join
  simp only [toPb]
  refine loop_up (σ := (Int × Unit) × List Bool × List Bool × Unit) 200 (fun i => (((i : Int), ()), Ty.dflt (Ty.arr (200 : Nat) Ty.bool), gone a (fun i => List.getD a i false || List.getD b i false) i, ())) rfl ?_ ?_
  · intro i hi
    dsimp only
    simp only [Int.toNat_natCast]
    rw [pos (by omega), need_pos (by omega), need_pos (by omega), need_pos (by omega), gone_at]
    have : ∀ v, v = (List.getD a i false || List.getD b i false) → (need ((0 : Int) ≤ (i : Int) ∧ (i : Int) < (200 : Int)) (need (i < (200 : Nat)) (need (Fits Go.IntKind.i64 ((i : Int) + (1 : Int))) (some (Sum.inl (((i : Int) + (1 : Int), ()), Ty.dflt (Ty.arr (200 : Nat) Ty.bool), List.set (gone a (fun i => List.getD a i false || List.getD b i false) i) i v, ()) : ((Int × Unit) × List Bool × List Bool × Unit) ⊕ (List Bool × Unit)))))) = some (Sum.inl ((((i + 1 : Nat) : Int), ()), Ty.dflt (Ty.arr (200 : Nat) Ty.bool), gone a (fun i => List.getD a i false || List.getD b i false) (i + 1), ())) := by
      rintro v rfl
      rw [need_pos (by omega), need_pos (by omega), need64 (by omega) (by omega), cast_succ, gone_set (f := fun i => List.getD a i false || List.getD b i false) (by omega)]
    cases hx : List.getD a i false with
    | true => rw [sel_t, bind_t]; exact this _ (by rw [hx]; rfl)
    | false => rw [sel_f, bind_t]; exact this _ (by rw [hx]; rfl)
  · dsimp only
    have e : gone a (fun i => List.getD a i false || List.getD b i false) 200 = joinB a b := by
      rw [← ha, gone_all, ha]
      rfl
    rw [neg (by omega), e]
theorem q_repeats (k : Int) : F_ford_repeats (k, ()) = some (pb (k = 9 ∨ k = 10 ∨ k = 15), ()) := by
  unfold F_ford_repeats
  simp only [toPb]
  by_cases h1 : k = 9
  · rw [pos h1, bind_t, sel_t, bind_t, pb_t (.inl h1)]
  · by_cases h2 : k = 10
    · rw [neg h1, bind_t, pos h2, bind_t, pb_t (.inr (.inl h2))]
    · rw [neg h1, bind_t, neg h2, bind_t]
      congr 2
      exact pb_congr ⟨fun h => .inr (.inr h), fun h => by omega⟩
theorem q_leaf {n : NodeD} (h0 : arity n.1 = 0) {m : List (ByteArray × Int)} {q : Nat} {E : List Em} {hs : List (List Bool)} {ls : List SpotD} {ce : Bool} (hc : n.1 = 6 → Option.getD (mfind eqS m n.2.2.1) (0 : Int) = (q : Int) ∧ q < E.length ∧ q < 200 ∧ (List.getD E q zEmptiness).1 = ce) :
    F_ford_looked_leaf (n, m, (), E, hs, ls, ()) = some (nodeP n q ce zpiece zpiece, (), E, hs, ls, ()) := by
  unfold F_ford_looked_leaf
  simp only [toPb]
  rcases arity_0 h0 with e | e | e | e | e | e | e
  case inr.inr.inr.inr.inr.inl =>
    obtain ⟨h1, h2, h3, h4⟩ := hc e
    simp [e, pb_true, pb_false, sel_t, sel_f, bind_t, h1]
    rw [need_pos (by omega), need_pos (by omega), need_pos (by omega), need_pos (by omega)]
    rw [List.getD_eq_getElem?_getD] at h4
    rw [h4]
    simp [nodeP, headsH, nodeN, e, noB]
  all_goals (simp [e, pb_true, pb_false, sel_t, sel_f, bind_t]; simp [nodeP, headsH, nodeN, e, noB])
theorem q_one10 {n : NodeD} (h1 : arity n.1 = 1) {a : pieceD} {q : Nat} {ce : Bool} {b : pieceD} : F_ford_one (n, a, ()) = some (nodeP n q ce a b, ()) := by
  obtain ⟨a1, a2, _⟩ := a
  unfold F_ford_one
  simp only [toPb]
  by_cases hN : n.2.1 = 0
  · rcases arity_1 h1 with e | e | e | e | e | e | e | e | e | e | e | e | e | e <;> cases a2 <;> simp [e, hN, pb_true, pb_false, sel_t, sel_f, bind_t, nodeP, headsH, nodeN, noB]
  · rcases arity_1 h1 with e | e | e | e | e | e | e | e | e | e | e | e | e | e <;> cases a2 <;> simp [e, hN, pb_true, pb_false, sel_t, sel_f, bind_t, nodeP, headsH, nodeN, noB]
theorem q_two10 {n : NodeD} (h2 : arity n.1 = 2) {a b : pieceD} (ha : a.1.length = 200) {q : Nat} {ce : Bool} : F_ford_two (n, a, b, ()) = some (nodeP n q ce a b, ()) := by
  obtain ⟨a1, a2, _⟩ := a
  obtain ⟨b1, b2, _⟩ := b
  unfold F_ford_two
  simp only [toPb, q_join ha]
  rcases arity_78 h2 with e | e <;> cases a2 <;> cases b2 <;> simp [e, pb_true, pb_false, sel_t, sel_f, bind_t, nodeP, headsH, nodeN, noB]
def numQ (g : G) (n : NodeD) : Nat := (findR g n.2.2.1).getD 0
theorem numQ_lt {g : G} (hg : RG g) (n : NodeD) : numQ g n < g.length := by
  unfold numQ
  cases h : findR g n.2.2.1 with
  | none => exact hg.pos
  | some q => exact (findR_at h).1
noncomputable abbrev fP (g : G) (n : NodeD) (a b : pieceD) : pieceD := nodeP n (numQ g n) (callN g (fixN g) n) a b
noncomputable abbrev valP (g : G) (p : List NodeD) (k : Nat) : pieceD := valOf zpiece (fP g) p k
theorem valP_snd {g : G} {p : List NodeD} (hp : (chkP p).2 = 0) : ∀ k, k < p.length → (valP g p k).2.1 = valN (callN g (fixN g)) p k :=
  gen_ind2 hp (fun (a : pieceD) (b : Bool) => a.2.1 = b) rfl fun k hk a b a' b' ha hb => by
    show nodeN _ _ _ _ = _
    rw [ha, hb]
theorem heads_len {n : NodeD} {q : Nat} {a b : List Bool} {ae : Bool} (ha : a.length = 200) : (headsH n q a b ae).length = 200 := by
  unfold headsH
  repeat' split
  all_goals first | exact join_len | exact noB_len | exact ha | (rw [List.length_set]; exact noB_len)
theorem valP_len {g : G} {p : List NodeD} (hp : (chkP p).2 = 0) : ∀ k, k < p.length → (valP g p k).1.length = 200 :=
  gen_ind hp (fun (a : pieceD) => a.1.length = 200) List.length_replicate fun k hk a b ha hb => heads_len ha
/-- Repetitions of what may match nothing, up to a node. -/
noncomputable def loopsK (c : NodeD → Bool) (p : List NodeD) (r : Int) : Nat → List SpotD
  | 0 => []
  | k + 1 => loopsK c p r k ++ if ((nth p k).1 = 9 ∨ (nth p k).1 = 10 ∨ (nth p k).1 = 15) ∧ valN c p (k - 1) = true then [(r, (k : Int), ())] else []
theorem loopsK_len {c : NodeD → Bool} {p : List NodeD} {r : Int} : ∀ k, (loopsK c p r k).length ≤ k
  | 0 => Nat.le_refl _
  | k + 1 => by
    have := loopsK_len (c := c) (p := p) (r := r) k
    rw [loopsK, List.length_append]
    split <;> simp <;> omega
end Go.Proofs
