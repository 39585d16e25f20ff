/- Part of the proof of the law's row: YtnoeomlanbdjeaaWq10e. -/
import Derived.Test.YtnoeomlanbdjeaaWpC10
import Derived.Test.YtnoeomlanbdjeaaWq09n
set_option linter.all false
set_option linter.unusedVariables false
set_option linter.unusedSimpArgs false
/-! Chapter 10: what may match nothing. -/
namespace Go.Proofs
open Go Go.Abs
set_option linter.unusedSimpArgs false
macro "fin10" : tactic => `(tactic| ((try dsimp only); rw [need_pos (by omega), need64 (by omega) (by omega)]))
/-- May a node match nothing, by its rule and its parts. -/
noncomputable def nodeN (n : NodeD) (c a b : Bool) : Bool :=
 if n.1 = 1 ∨ n.1 = 9 ∨ n.1 = 11 ∨ n.1 = 12 ∨ n.1 = 13 ∨ n.1 = 16 ∨ n.1 = 17 then true
 else if n.1 = 2 ∨ n.1 = 3 ∨ n.1 = 4 ∨ n.1 = 5 then false
 else if n.1 = 6 then c
 else if n.1 = 7 then a && b
 else if n.1 = 8 then a || b
 else if n.1 = 14 ∨ n.1 = 15 then pb (n.2.1 = 0) || a
 else a
theorem nodeE_fst {n : NodeD} (ho : op23 n.1) {c a b : Em} : (nodeE n c a b).1 = nodeN n c.1 a.1 b.1 := by
 unfold nodeN
 rcases ho with h | h | h | h | h | h | h | h | h | h | h | h | h | h | h | h | h | h | h | h | h | h | h <;> first
  | (by_cases h0 : n.2.1 = 0 <;> simp [nodeE, oneE, countE, rowE, eitherE, mkE, h, h0, pb_true, pb_false]; done)
noncomputable abbrev valsN (c : NodeD → Bool) (p : List NodeD) (k : Nat) : List Bool := valsOf false (fun n a b => nodeN n (c n) a b) p k
noncomputable abbrev valN (c : NodeD → Bool) (p : List NodeD) (k : Nat) : Bool := valOf false (fun n a b => nodeN n (c n) a b) p k
theorem valN_is {c : NodeD → Bool} {p : List NodeD} {k : Nat} : valN c p k = nodeN (nth p k) (c (nth p k)) (kidA false p k (valsN c p k)) (kidB false p k (valsN c p k)) := valOf_is _ _ _ _
theorem valE_fst {cE : NodeD → Em} {c : NodeD → Bool} {p : List NodeD} (hp : (chkP p).2 = 0) (hc : ∀ k, k < p.length → (cE (nth p k)).1 = c (nth p k)) : ∀ k, k < p.length → (val9 cE p k).1 = valN c p k :=
 gen_ind2 hp (fun (a : Em) (b : Bool) => a.1 = b) rfl fun k hk a b a' b' ha hb => by
  rw [nodeE_fst (nodeOk_of hp hk).op, ha, hb, hc k hk]
theorem mono_nodeN {n : NodeD} {c a b c' a' b' : Bool} (hc : c = true → c' = true) (ha : a = true → a' = true) (hb : b = true → b' = true) : nodeN n c a b = true → nodeN n c' a' b' = true := by
 unfold nodeN
 repeat' split
 all_goals intro h
 all_goals first
  | exact hc h
  | exact ha h
  | exact h
  | (simp only [Bool.and_eq_true, Bool.or_eq_true] at h ⊢
     first | exact ⟨ha h.1, hb h.2⟩ | exact h.imp ha hb | exact h.imp (fun h => h) ha)
/-- Is the rule called by a node told? -/
def callN (g : G) (rules : List Bool) (n : NodeD) : Bool := List.getD rules ((findR g n.2.2.1).getD 0) false
theorem q_NumberR (g : G) (s : ByteArray) (h : g.length < 9223372036854775807) : F_ref08_Number ((g, ()), s, ()) = some (numR g s, ()) := by
 unfold F_ref08_Number
 dsimp only
 rw [q_find g s h, bind_t]
theorem kids_one {p : List NodeD} {k : Nat} (h : arity (nth p k).1 = 1) (hp : (chkP p).2 = 0) (hk : k < p.length) : partsP p (k : Int) = [((k - 1 : Nat) : Int)] ∧ 1 ≤ k := by
 obtain ⟨m1, _⟩ := (ends_kids hp hk).2.1 h
 unfold partsP
 rw [if_pos h]
 exact ⟨by rw [show (k : Int) - 1 = ((k - 1 : Nat) : Int) by omega], m1⟩
theorem kids_two {p : List NodeD} {k : Nat} (h : arity (nth p k).1 = 2) (hp : (chkP p).2 = 0) (hk : k < p.length) : partsP p (k : Int) = [((beginP p ((k : Int) - 1) - 1).toNat : Int), ((k - 1 : Nat) : Int)] ∧ 1 ≤ k ∧ (beginP p ((k : Int) - 1) - 1).toNat < k := by
 obtain ⟨m1, m2, m3, _⟩ := (ends_kids hp hk).2.2 h
 unfold partsP
 rw [if_neg (by omega), if_pos h]
 exact ⟨by rw [show (k : Int) - 1 = ((k - 1 : Nat) : Int) by omega, show beginP p ((k - 1 : Nat) : Int) - 1 = (((beginP p ((k - 1 : Nat) : Int) - 1).toNat : Nat) : Int) by rw [show ((k - 1 : Nat) : Int) = (k : Int) - 1 by omega]; omega, Int.toNat_natCast], m1, by omega⟩
theorem arity_1 {k : Int} (h : arity k = 1) : k = 9 ∨ k = 10 ∨ k = 11 ∨ k = 12 ∨ k = 13 ∨ k = 14 ∨ k = 15 ∨ k = 16 ∨ k = 18 ∨ k = 19 ∨ k = 20 ∨ k = 21 ∨ k = 22 ∨ k = 23 := by
 unfold arity at h
 split at h
 ·omega
 ·split at h
  ·omega
  ·split at h
   ·omega
   ·omega
theorem arity_0 {k : Int} (h : arity k = 0) : k = 1 ∨ k = 2 ∨ k = 3 ∨ k = 4 ∨ k = 5 ∨ k = 6 ∨ k = 17 := by
 unfold arity at h
 split at h
 ·omega
 ·split at h
  ·omega
  ·split at h
   ·omega
   ·omega
theorem q_Nothing {g : G} {p : List NodeD} (hp : (chkP p).2 = 0) (hg : g.length ≤ 200) {rules : List Bool} (hl : rules.length = g.length) (hc : ∀ k, k < p.length → (nth p k).1 = 6 → ∃ q, findR g (nth p k).2.2.1 = some q) :
  F_ref10_Nothing ((g, ()), p, rules, ()) = some (valsN (callN g rules) p p.length, rules, ()) := by
 obtain ⟨hlen, _⟩ := chk_len hp
 unfold F_ref10_Nothing
 simp only [toPb]
 rw [q_begins hp, bind_t]
 dsimp only
 refine loop_up (σ := (Int × Unit) × List Int × List Bool × GrammarD × List Bool × Unit) p.length (fun i => (((i : Int), ()), (shP p).map (·.1), valsN (callN g rules) p i, (g, ()), rules, ())) rfl ?_ ?_
 ·intro i hi
  have hnth : List.getD p i zNode = nth p (i : Int) := by simp [nth]
  have hw : valsN (callN g rules) p (i + 1) = valsN (callN g rules) p i ++ [valN (callN g rules) p i] := by rw [valN_is]; rfl
  have hwl : (valsN (callN g rules) p i).length = i := valsOf_len _ _ _ _
  have hat : ∀ m, m < i → List.getD (valsN (callN g rules) p i) m false = valN (callN g rules) p m := fun m hm => valsOf_at _ _ _ hm
  have hv := valN_is (c := callN g rules) (p := p) (k := i)
  dsimp only
  simp only [Int.toNat_natCast, hnth]
  rw [pos (by omega), need_pos (by omega), q_kids p _ (look_of hp hi), bind_t]
  dsimp only
  rw [hw]
  generalize hV : valsN (callN g rules) p i = V at hwl hat hv ⊢
  rcases arity_cases hp hi with h | h | h
  ·have hz := kid_zero false p h V
   rw [hz.1, hz.2] at hv
   rcases arity_0 h with e | e | e | e | e | e | e
   case inr.inr.inr.inr.inr.inl =>
    obtain ⟨q, hq⟩ := hc i hi e
    have hlt := (findR_at hq).1
    have e2 : numR g (nth p i).2.2.1 = (q : Int) := by unfold numR; rw [hq]
    have e3 : callN g rules (nth p i) = List.getD rules q false := by unfold callN; rw [hq]; rfl
    simp [e, pb_true, pb_false, sel_t, sel_f, bind_t, q_NumberR g _ (show g.length < 9223372036854775807 by omega), e2]
    rw [need_pos (by omega), need_pos (by omega), bind_t]
    (fin10; rw [hv, e3]; unfold nodeN; simp [e])
   all_goals (simp [e, pb_true, pb_false, sel_t, sel_f, bind_t]; (fin10; rw [hv]; unfold nodeN; simp [e]))
  ·obtain ⟨e1, m1⟩ := kids_one h hp hi
   have hA : kidA false p i V = valN (callN g rules) p (i - 1) := by rw [← hV]; exact kidA_one _ _ _ h m1
   rw [hA] at hv
   have g1 := hat (i - 1) (by omega)
   rw [List.getD_eq_getElem?_getD] at g1
   rw [e1]
   rcases arity_1 h with e | e | e | e | e | e | e | e | e | e | e | e | e | e
   case inr.inr.inr.inr.inr.inl =>
    by_cases h0 : (nth p i).2.1 = 0
    ·simp [e, h0, pb_true, pb_false, sel_t, sel_f, bind_t]
     (fin10; rw [hv]; unfold nodeN; simp [e, h0, pb_true])
    ·simp [e, h0, pb_true, pb_false, sel_t, sel_f, bind_t, need_pos, hwl]
     rw [need_pos (by omega), need_pos (by omega), bind_t, bind_t]
     (fin10; rw [hv, g1]; unfold nodeN; simp [e, h0, pb_false])
   case inr.inr.inr.inr.inr.inr.inl =>
    by_cases h0 : (nth p i).2.1 = 0
    ·simp [e, h0, pb_true, pb_false, sel_t, sel_f, bind_t]
     (fin10; rw [hv]; unfold nodeN; simp [e, h0, pb_true])
    ·simp [e, h0, pb_true, pb_false, sel_t, sel_f, bind_t, need_pos, hwl]
     rw [need_pos (by omega), need_pos (by omega), bind_t, bind_t]
     (fin10; rw [hv, g1]; unfold nodeN; simp [e, h0, pb_false])
   all_goals first
    | (simp [e, pb_true, pb_false, sel_t, sel_f, bind_t]; (fin10; rw [hv]; unfold nodeN; simp [e]))
    | (simp [e, pb_true, pb_false, sel_t, sel_f, bind_t, need_pos, hwl]; rw [need_pos (by omega), need_pos (by omega), bind_t]; (fin10; rw [hv, g1]; unfold nodeN; simp [e]))
  ·obtain ⟨e1, m1, m2⟩ := kids_two h hp hi
   obtain ⟨_, k2, k3, _⟩ := (ends_kids hp hi).2.2 h
   have hA : kidA false p i V = valN (callN g rules) p (beginP p ((i : Int) - 1) - 1).toNat := by rw [← hV]; exact kidA_two _ _ _ h k2 k3
   have hB : kidB false p i V = valN (callN g rules) p (i - 1) := by rw [← hV]; exact kidB_two _ _ _ h m1
   rw [hA, hB] at hv
   generalize (beginP p ((i : Int) - 1) - 1).toNat = x at e1 m2 hv
   have g1 := hat (i - 1) (by omega)
   rw [List.getD_eq_getElem?_getD] at g1
   have g2 := hat x m2
   rw [List.getD_eq_getElem?_getD] at g2
   rw [e1]
   rcases arity_78 h with e | e
   ·simp [e, pb_true, pb_false, sel_t, sel_f, bind_t, need_pos, hwl]
    rw [need_pos (by omega), need_pos (by omega), g1, g2]
    cases hx : valN (callN g rules) p x with
    | false =>
      rw [sel_f, bind_t, bind_t]
      (fin10; rw [hv, hx]; unfold nodeN; simp [e])
    | true =>
      rw [sel_t, need_pos (by omega), need_pos (by omega), bind_t, bind_t]
      (fin10; rw [hv, hx]; unfold nodeN; simp [e])
   ·simp [e, pb_true, pb_false, sel_t, sel_f, bind_t, need_pos, hwl]
    rw [need_pos (by omega), need_pos (by omega), g1, g2]
    cases hx : valN (callN g rules) p x with
    | false =>
      rw [sel_f, need_pos (by omega), need_pos (by omega), bind_t, bind_t]
      (fin10; rw [hv, hx]; unfold nodeN; simp [e])
    | true =>
      rw [sel_t, bind_t, bind_t]
      (fin10; rw [hv, hx]; unfold nodeN; simp [e])
 ·dsimp only
  rw [neg (by omega)]
end Go.Proofs

/-! Chapter 10: which rules may match nothing. -/
namespace Go.Proofs
open Go Go.Abs
set_option linter.unusedSimpArgs false
noncomputable def stepN (g : G) (l : List Bool) (i : Nat) : Bool := valN (callN g l) (rth g i).2.1 ((rth g i).2.1.length - 1)
def leB (a b : Bool) : Prop := a = true → b = true
theorem call_inN {g : G} (hg : RG g) (n : NodeD) : ∃ q, q < g.length ∧ ∀ now, callN g now n = List.getD now q false := by
 unfold callN
 cases h : findR g n.2.2.1 with
 | none => exact ⟨0, hg.pos, fun _ => rfl⟩
 | some q => exact ⟨q, (findR_at h).1, fun _ => rfl⟩
abbrev LeN (g : G) (l m : List Bool) : Prop := LeX false g.length leB l m
theorem fxN {g : G} (hg : RG g) : Fx false g.length leB (fun _ => True) (fun b => if b = true then 1 else 0) 1 (stepN g) where
 refl := fun _ h => h
 trans := fun _ _ _ h1 h2 h => h2 (h1 h)
 bot := trivial
 least := fun _ _ h => by cases h
 rank_le := fun a _ => by cases a <;> simp
 rank_mono := fun a b _ _ h => by
  cases a <;> cases b <;> simp [leB] at h ⊢
 step_ok := fun _ _ _ _ => trivial
 step_mono := fun l m i _ _ hl hi => by
  obtain ⟨h1, h2, _⟩ := good_pos hg hi
  refine gen_ind2 h1 (fun a b => leB a b) (fun h => h) (fun k hk a b a' b' ha hb => ?_) _ (by omega)
  obtain ⟨q, hq, e⟩ := call_inN hg (nth (rth g i).2.1 k)
  rw [e, e]
  exact mono_nodeN (hl q hq) ha hb
noncomputable def fixN (g : G) : List Bool := fixX false g.length (stepN g)
theorem fixN_len {g : G} (hg : RG g) : (fixN g).length = g.length := (fxN hg).fix_ok.1
/-- What the least fixed point of the lengths says of nothing. -/
theorem stepE_fst {g : G} (hg : RG g) {now : List Em} {l : List Bool} (h : ∀ q, q < g.length → (List.getD now q zEmptiness).1 = List.getD l q false) {i : Nat} (hi : i < g.length) : (stepE g now i).1 = stepN g l i := by
 obtain ⟨h1, h2, _⟩ := good_pos hg hi
 have e : (lastE g now i).1 = stepN g l i := valE_fst h1 (fun k hk => by
  show (List.getD now ((findR g _).getD 0) zEmptiness).1 = List.getD l ((findR g _).getD 0) false
  refine h _ ?_
  cases hf : findR g (nth (rth g i).2.1 k).2.2.1 with
  | none => exact hg.pos
  | some q => exact (findR_at hf).1) _ (by omega)
 unfold stepE loopE
 split
 ·exact e
 ·exact e
theorem fixE_fst {g : G} (hg : RG g) : ∀ q, q < g.length → (List.getD (fixE g) q zEmptiness).1 = List.getD (fixN g) q false := by
 have hX := fxN hg
 have hr := fix_rg hg
 have hl : ∀ q, q < g.length → List.getD (genR g.length fun q => (List.getD (fixE g) q zEmptiness).1) q false = (List.getD (fixE g) q zEmptiness).1 := fun q hq => genR_get hq
 have low : LeN g (fixN g) (genR g.length fun q => (List.getD (fixE g) q zEmptiness).1) := by
  refine hX.fix_least ⟨genR_len, fun _ _ => trivial⟩ fun i hi => ?_
  rw [hl i hi, ← stepE_fst hg (fun q hq => (hl q hq).symm) hi]
  have : stepE g (fixE g) i = List.getD (fixE g) i zEmptiness := by
   conv => rhs; rw [← fix_fix hg]
   unfold roundE
   rw [genR_get hi]
  rw [this]
  exact fun h => h
 have up : ∀ q, q < g.length → leB (List.getD (fixE g) q zEmptiness).1 (List.getD (fixN g) q false) := by
  refine fix_ind hg (fun l => ∀ q, q < g.length → leB (List.getD l q zEmptiness).1 (List.getD (fixN g) q false)) (fun q hq => by rw [bot_at hq]; intro h; cases h) fun l _ ih q hq => ?_
  unfold roundE
  rw [genR_get hq]
  have hm : ∀ q, q < g.length → List.getD (genR g.length fun q => (List.getD l q zEmptiness).1) q false = (List.getD l q zEmptiness).1 := fun q hq => genR_get hq
  rw [stepE_fst hg (fun q hq => (hm q hq).symm) hq]
  show leB _ (List.getD (fixX false g.length (stepN g)) q false)
  rw [← hX.fix_at hq]
  exact hX.step_mono _ _ q ⟨genR_len, fun _ _ => trivial⟩ hX.fix_ok (fun j hj => by rw [hm j hj]; exact ih j hj) hq
 intro q hq
 have h1 := low q hq
 rw [hl q hq] at h1
 have h2 := up q hq
 exact Bool.eq_iff_iff.2 ⟨h2, h1⟩
theorem nothing_at {g : G} (hg : RG g) {l : List Bool} (hl : l.length = g.length) {i : Nat} (hi : i < g.length) : F_ref10_Nothing ((g, ()), (rth g i).2.1, l, ()) = some (valsN (callN g l) (rth g i).2.1 (rth g i).2.1.length, l, ()) := by
 obtain ⟨h1, h2, _⟩ := good_pos hg hi
 have hmem : rth g i ∈ g := getD_in hi
 exact q_Nothing h1 hg.len hl fun k hk h6 => hg.calls _ hmem (nth (rth g i).2.1 k) (by
  unfold nth
  rw [Int.toNat_natCast]
  exact getD_in hk) h6
theorem lastN_at {g : G} {l : List Bool} {i : Nat} (h : 0 < (rth g i).2.1.length) : List.getD (valsN (callN g l) (rth g i).2.1 (rth g i).2.1.length) ((rth g i).2.1.length - 1) false = stepN g l i := valsOf_at _ _ _ (by omega)
abbrev ChN (g : G) (l : List Bool) : Prop := Chaos false g.length leB (fun _ => True) (stepN g) l
theorem q_Nullable {g : G} (hg : RG g) : F_ref10_Nullable ((g, ()), ()) = some (fixN g, ()) := by
 have hn := hg.len
 have hm := hg.pos
 have hX := fxN hg
 unfold F_ref10_Nullable
 simp only [toPb]
 rw [need_pos (by omega)]
 refine loop_one (σ := (Bool × Unit) × List Bool × GrammarD × Unit)
  (fun s => ∃ (l : List Bool) (b : Bool), s = ((b, ()), l, (g, ()), ()) ∧ ChN g l ∧ (b = false → l = fixN g))
  (fun s => if s.1.1 = true then g.length * 1 - rankX false g.length (fun b => if b = true then 1 else 0) s.2.1 + 1 else 0) ?_ _ ⟨List.replicate g.length false, true, by simp, hX.chaos_zero, fun h => by cases h⟩
 rintro s ⟨l, b, rfl, hC, hb⟩
 dsimp only
 cases b with
 | false => exact .inr (by rw [sel_f, hb rfl])
 | true =>
   refine .inl ?_
   rw [sel_t]
   have wrap : ∀ {X : Option (((Bool × Unit) × List Bool × GrammarD × Unit) ⊕ (List Bool × Unit))}, (∃ a, X = some (Sum.inl a) ∧ ∃ (l' : List Bool) (b' : Bool), a = ((b', ()), l', (g, ()), ()) ∧ ChN g l' ∧ (b' = false → l' = l ∧ ∀ j, j < g.length → stepN g l j = List.getD l j false) ∧ (b' = true → rankX false g.length (fun b => if b = true then 1 else 0) l < rankX false g.length (fun b => if b = true then 1 else 0) l')) →
     ∃ s', X = some (Sum.inl s') ∧ (∃ (l : List Bool) (b : Bool), s' = ((b, ()), l, (g, ()), ()) ∧ ChN g l ∧ (b = false → l = fixN g)) ∧ (if s'.1.1 = true then g.length * 1 - rankX false g.length (fun b => if b = true then 1 else 0) s'.2.1 + 1 else 0) < (if (true : Bool) = true then g.length * 1 - rankX false g.length (fun b => if b = true then 1 else 0) l + 1 else 0) := by
    rintro X ⟨a, h1, l', b', rfl, hC', hf, ht⟩
    refine ⟨_, h1, ⟨l', b', rfl, hC', fun hb' => ?_⟩, ?_⟩
    ·obtain ⟨f1, f2⟩ := hf hb'
     subst f1
     exact hX.chaos_end hC f2
    ·dsimp only
     rw [if_pos rfl]
     have hr := hX.rankX_le hC'.ok
     cases b' with
     | false => rw [if_neg (by simp)]; omega
     | true =>
       have := ht rfl
       rw [if_pos rfl]
       omega
   refine wrap (loopC_ex (f := Sum.inl)
      (fun s => ∃ (i : Nat) (l' : List Bool) (b' : Bool), i ≤ g.length ∧ s = (((i : Int), b', ()), l', (g, ()), ()) ∧ ChN g l' ∧ (b' = false → l' = l ∧ ∀ j, j < i → stepN g l j = List.getD l j false) ∧ (b' = true → rankX false g.length (fun b => if b = true then 1 else 0) l < rankX false g.length (fun b => if b = true then 1 else 0) l'))
      (fun s => g.length - Int.toNat s.1.1) ?_ ⟨0, l, false, by omega, rfl, hC, fun _ => ⟨rfl, fun j hj => by omega⟩, fun h => by cases h⟩)
   rintro s ⟨i, l', b', hi, rfl, hC', hf, ht⟩
   dsimp only
   simp only [Int.toNat_natCast, Nat.zero_add]
   by_cases hlt : i < g.length
   ·obtain ⟨p1, p2, p3⟩ := good_pos hg hlt
    have hll := hC'.ok.1
    have e1 : Int.toNat (((rth g i).2.1.length : Int) - 1) = (rth g i).2.1.length - 1 := by omega
    have meas : g.length - Int.toNat ((i : Int) + 1) < g.length - i := by omega
    have same : (stepN g l' i = List.getD l' i false) → ∀ X, X = some (Sum.inl (((i : Int) + 1, b', ()), l', (g, ()), ())) → (∃ s', X = some (Sum.inl s' : (((Int × Bool × Unit) × List Bool × GrammarD × Unit) ⊕ ((((Bool × Unit) × List Bool × GrammarD × Unit) ⊕ (List Bool × Unit))))) ∧ (∃ (i : Nat) (l' : List Bool) (b' : Bool), i ≤ g.length ∧ s' = (((i : Int), b', ()), l', (g, ()), ()) ∧ ChN g l' ∧ (b' = false → l' = l ∧ ∀ j, j < i → stepN g l j = List.getD l j false) ∧ (b' = true → rankX false g.length (fun b => if b = true then 1 else 0) l < rankX false g.length (fun b => if b = true then 1 else 0) l')) ∧ g.length - Int.toNat s'.1.1 < g.length - i) := by
     rintro he X rfl
     refine ⟨_, rfl, ⟨i + 1, l', b', by omega, by rw [cast_succ], hC', fun hb' => ?_, ht⟩, meas⟩
     obtain ⟨f1, f2⟩ := hf hb'
     refine ⟨f1, fun j hj => ?_⟩
     by_cases e : j = i
     ·subst e; rw [← f1]; exact he
     ·exact f2 j (by omega)
    rw [pos (by omega), need_pos (by omega), need_pos (by omega), need_pos (by omega), show List.getD g i zRule = rth g i from rfl]
    cases hc : List.getD l' i false with
    | true =>
      refine .inl (same ?_ _ (by rw [Bool.not_true, sel_f, need64 (by omega) (by omega)]))
      rw [hc]
      exact hC'.grows i hlt hc
    | false =>
      rw [Bool.not_false, sel_t, nothing_at hg hll hlt, bind_t]
      dsimp only
      have hvl : (valsN (callN g l') (rth g i).2.1 (rth g i).2.1.length).length = (rth g i).2.1.length := valsOf_len _ _ _ _
      rw [hvl, need64 (by omega) (by omega), e1, need_pos (by omega), need_pos (by omega), lastN_at p2]
      cases hs : stepN g l' i with
      | false => exact .inl (same (by rw [hs, hc]) _ (by rw [sel_f, need64 (by omega) (by omega)]))
      | true =>
        obtain ⟨c1, c2⟩ := hX.chaos_set hC' hlt
        have c2 := c2 (by rw [hs, hc]; simp)
        rw [hs] at c1 c2
        refine .inl ⟨_, by rw [sel_t, need_pos (by omega), need_pos (by omega), need64 (by omega) (by omega)], ⟨i + 1, List.set l' i true, true, by omega, by rw [cast_succ], c1, fun h => (by cases h), fun _ => ?_⟩, meas⟩
        cases b' with
        | false => rw [← (hf rfl).1]; exact c2
        | true => exact Nat.lt_trans (ht rfl) c2
   ·have : i = g.length := by omega
    subst this
    refine .inr ⟨_, by rw [neg (by omega)], l', b', rfl, hC', hf, ht⟩
end Go.Proofs

/-! Chapter 10: what is known of a part, by the book. -/
namespace Go.Proofs
open Go Go.Abs
set_option linter.unusedSimpArgs false
noncomputable def noB : List Bool := List.replicate 200 false
noncomputable def joinB (a b : List Bool) : List Bool := genR 200 fun i => List.getD a i false || List.getD b i false
noncomputable def headsH (n : NodeD) (q : Nat) (a b : List Bool) (ae : Bool) : List Bool :=
 if n.1 = 6 then List.set noB q true
 else if n.1 = 8 then joinB a b
 else if n.1 = 7 then (if ae = true then joinB a b else a)
 else if (n.1 = 14 ∨ n.1 = 16) ∧ n.2.1 = 0 then noB
 else a
noncomputable def nodeP (n : NodeD) (q : Nat) (ce : Bool) (a b : pieceD) : pieceD := (headsH n q a.1 b.1 a.2.1, nodeN n ce a.2.1 b.2.1, ())
theorem join_len {a b : List Bool} : (joinB a b).length = 200 := genR_len
theorem join_at {a b : List Bool} {i : Nat} (h : i < 200) : List.getD (joinB a b) i false = (List.getD a i false || List.getD b i false) := genR_get h
theorem noB_len : noB.length = 200 := List.length_replicate
theorem noB_at {i : Nat} : List.getD noB i false = false := zero_at _ _
theorem q_join {a b : List Bool} (ha : a.length = 200) : F_ford_marks_join (a, b, ()) = some (joinB a b, ()) := by
 unfold F_ford_marks_join
 simp only [toPb]
 refine loop_up (σ := (Int × Unit) × List Bool × List Bool × Unit) 200 (fun i => (((i : Int), ()), Ty.dflt (Ty.arr (200 : Nat) Ty.bool), gone a (fun i => List.getD a i false || List.getD b i false) i, ())) rfl ?_ ?_
 ·intro i hi
  dsimp only
  simp only [Int.toNat_natCast]
  rw [pos (by omega), need_pos (by omega), need_pos (by omega), need_pos (by omega), gone_at]
  have : ∀ v, v = (List.getD a i false || List.getD b i false) → (need ((0 : Int) ≤ (i : Int) ∧ (i : Int) < (200 : Int)) (need (i < (200 : Nat)) (need (Fits Go.IntKind.i64 ((i : Int) + (1 : Int))) (some (Sum.inl (((i : Int) + (1 : Int), ()), Ty.dflt (Ty.arr (200 : Nat) Ty.bool), List.set (gone a (fun i => List.getD a i false || List.getD b i false) i) i v, ()) : ((Int × Unit) × List Bool × List Bool × Unit) ⊕ (List Bool × Unit)))))) = some (Sum.inl ((((i + 1 : Nat) : Int), ()), Ty.dflt (Ty.arr (200 : Nat) Ty.bool), gone a (fun i => List.getD a i false || List.getD b i false) (i + 1), ())) := by
   rintro v rfl
   rw [need_pos (by omega), need_pos (by omega), need64 (by omega) (by omega), cast_succ, gone_set (f := fun i => List.getD a i false || List.getD b i false) (by omega)]
  cases hx : List.getD a i false with
  | true => rw [sel_t, bind_t]; exact this _ (by rw [hx]; rfl)
  | false => rw [sel_f, bind_t]; exact this _ (by rw [hx]; rfl)
 ·dsimp only
  have e : gone a (fun i => List.getD a i false || List.getD b i false) 200 = joinB a b := by
   rw [← ha, gone_all, ha]
   rfl
  rw [neg (by omega), e]
theorem q_repeats (k : Int) : F_ford_repeats (k, ()) = some (pb (k = 9 ∨ k = 10 ∨ k = 15), ()) := by
 unfold F_ford_repeats
 simp only [toPb]
 by_cases h1 : k = 9
 ·rw [pos h1, bind_t, sel_t, bind_t, pb_t (.inl h1)]
 ·by_cases h2 : k = 10
  ·rw [neg h1, bind_t, pos h2, bind_t, pb_t (.inr (.inl h2))]
  ·rw [neg h1, bind_t, neg h2, bind_t]
   congr 2
   exact pb_congr ⟨fun h => .inr (.inr h), fun h => by omega⟩
theorem q_leaf {n : NodeD} (h0 : arity n.1 = 0) {m : List (ByteArray × Int)} {q : Nat} {E : List Em} {hs : List (List Bool)} {ls : List SpotD} {ce : Bool} (hc : n.1 = 6 → Option.getD (mfind eqS m n.2.2.1) (0 : Int) = (q : Int) ∧ q < E.length ∧ q < 200 ∧ (List.getD E q zEmptiness).1 = ce) :
  F_ford_looked_leaf (n, m, (), E, hs, ls, ()) = some (nodeP n q ce zpiece zpiece, (), E, hs, ls, ()) := by
 unfold F_ford_looked_leaf
 simp only [toPb]
 rcases arity_0 h0 with e | e | e | e | e | e | e
 case inr.inr.inr.inr.inr.inl =>
  obtain ⟨h1, h2, h3, h4⟩ := hc e
  simp [e, pb_true, pb_false, sel_t, sel_f, bind_t, h1]
  rw [need_pos (by omega), need_pos (by omega), need_pos (by omega), need_pos (by omega)]
  rw [List.getD_eq_getElem?_getD] at h4
  rw [h4]
  simp [nodeP, headsH, nodeN, e, noB]
 all_goals (simp [e, pb_true, pb_false, sel_t, sel_f, bind_t]; simp [nodeP, headsH, nodeN, e, noB])
theorem q_one10 {n : NodeD} (h1 : arity n.1 = 1) {a : pieceD} {q : Nat} {ce : Bool} {b : pieceD} : F_ford_one (n, a, ()) = some (nodeP n q ce a b, ()) := by
 obtain ⟨a1, a2, _⟩ := a
 unfold F_ford_one
 simp only [toPb]
 by_cases hN : n.2.1 = 0
 ·rcases arity_1 h1 with e | e | e | e | e | e | e | e | e | e | e | e | e | e <;> cases a2 <;> simp [e, hN, pb_true, pb_false, sel_t, sel_f, bind_t, nodeP, headsH, nodeN, noB]
 ·rcases arity_1 h1 with e | e | e | e | e | e | e | e | e | e | e | e | e | e <;> cases a2 <;> simp [e, hN, pb_true, pb_false, sel_t, sel_f, bind_t, nodeP, headsH, nodeN, noB]
theorem q_two10 {n : NodeD} (h2 : arity n.1 = 2) {a b : pieceD} (ha : a.1.length = 200) {q : Nat} {ce : Bool} : F_ford_two (n, a, b, ()) = some (nodeP n q ce a b, ()) := by
 obtain ⟨a1, a2, _⟩ := a
 obtain ⟨b1, b2, _⟩ := b
 unfold F_ford_two
 simp only [toPb, q_join ha]
 rcases arity_78 h2 with e | e <;> cases a2 <;> cases b2 <;> simp [e, pb_true, pb_false, sel_t, sel_f, bind_t, nodeP, headsH, nodeN, noB]
def numQ (g : G) (n : NodeD) : Nat := (findR g n.2.2.1).getD 0
theorem numQ_lt {g : G} (hg : RG g) (n : NodeD) : numQ g n < g.length := by
 unfold numQ
 cases h : findR g n.2.2.1 with
 | none => exact hg.pos
 | some q => exact (findR_at h).1
noncomputable abbrev fP (g : G) (n : NodeD) (a b : pieceD) : pieceD := nodeP n (numQ g n) (callN g (fixN g) n) a b
noncomputable abbrev valP (g : G) (p : List NodeD) (k : Nat) : pieceD := valOf zpiece (fP g) p k
theorem valP_snd {g : G} {p : List NodeD} (hp : (chkP p).2 = 0) : ∀ k, k < p.length → (valP g p k).2.1 = valN (callN g (fixN g)) p k :=
 gen_ind2 hp (fun (a : pieceD) (b : Bool) => a.2.1 = b) rfl fun k hk a b a' b' ha hb => by
  show nodeN _ _ _ _ = _
  rw [ha, hb]
theorem heads_len {n : NodeD} {q : Nat} {a b : List Bool} {ae : Bool} (ha : a.length = 200) : (headsH n q a b ae).length = 200 := by
 unfold headsH
 repeat' split
 all_goals first | exact join_len | exact noB_len | exact ha | (rw [List.length_set]; exact noB_len)
theorem valP_len {g : G} {p : List NodeD} (hp : (chkP p).2 = 0) : ∀ k, k < p.length → (valP g p k).1.length = 200 :=
 gen_ind hp (fun (a : pieceD) => a.1.length = 200) List.length_replicate fun k hk a b ha hb => heads_len ha
/-- Repetitions of what may match nothing, up to a node. -/
noncomputable def loopsK (c : NodeD → Bool) (p : List NodeD) (r : Int) : Nat → List SpotD
 | 0 => []
 | k + 1 => loopsK c p r k ++ if ((nth p k).1 = 9 ∨ (nth p k).1 = 10 ∨ (nth p k).1 = 15) ∧ valN c p (k - 1) = true then [(r, (k : Int), ())] else []
theorem loopsK_len {c : NodeD → Bool} {p : List NodeD} {r : Int} : ∀ k, (loopsK c p r k).length ≤ k
 | 0 => Nat.le_refl _
 | k + 1 => by
   have := loopsK_len (c := c) (p := p) (r := r) k
   rw [loopsK, List.length_append]
   split <;> simp <;> omega
end Go.Proofs

/-! Chapter 10: a rule, a grammar looked at; the loops of the book. -/
namespace Go.Proofs
open Go Go.Abs
set_option linter.unusedSimpArgs false
noncomputable abbrev cN (g : G) : NodeD → Bool := callN g (fixN g)
noncomputable abbrev bodyR (g : G) (i : Nat) : List NodeD := (rth g i).2.1
theorem body_ok {g : G} (hg : RG g) {i : Nat} (hi : i < g.length) : (chkP (bodyR g i)).2 = 0 ∧ 0 < (bodyR g i).length ∧ (bodyR g i).length ≤ 2048 := by
 obtain ⟨h1, h2, h3⟩ := good_pos hg hi
 exact ⟨h1, h2, by show (rth g i).2.1.length ≤ 2048; omega⟩
/-- The heads of a rule, by the program. -/
noncomputable def headP (g : G) (i : Nat) : List Bool := (valP g (bodyR g i) ((bodyR g i).length - 1)).1
theorem node_call {g : G} (hg : RG g) {i : Nat} (hi : i < g.length) {k : Nat} (hk : k < (bodyR g i).length) (h6 : (nth (bodyR g i) k).1 = 6) : findR g (nth (bodyR g i) k).2.2.1 = some (numQ g (nth (bodyR g i) k)) := by
 have hmem : rth g i ∈ g := getD_in hi
 obtain ⟨q, hq⟩ := hg.calls _ hmem (nth (bodyR g i) k) (by
  unfold nth
  rw [Int.toNat_natCast]
  exact getD_in hk) h6
 unfold numQ
 rw [hq]
 rfl
theorem stk_last {β : Type} {z : β} {f : NodeD → β → β → β} {p : List NodeD} (hp : (chkP p).2 = 0) : stkOf z f p p.length = [valOf z f p (p.length - 1)] := by
 obtain ⟨_, _, _, h4, h5⟩ := chk_len hp
 have e : p.length - 1 + 1 = p.length := by omega
 unfold stkOf
 rw [← e, ends_succ hp (by omega)]
 have : beginP p ((p.length - 1 : Nat) : Int) = 0 := by rw [show ((p.length - 1 : Nat) : Int) = (p.length : Int) - 1 by omega]; exact h5
 rw [this]
 simp [ends_zero]
theorem q_frule {g : G} (hg : RG g) {i : Nat} (hi : i < g.length) {hs : List (List Bool)} {ls : List SpotD} (h1 : hs.length ≤ 1000) (h2 : ls.length ≤ 1000000) :
  F_ford_looked_rule (bodyR g i, (i : Int), nums g, (), fixE g, hs, ls, ()) = some ((), fixE g, hs ++ [headP g i], ls ++ loopsK (cN g) (bodyR g i) (i : Int) (bodyR g i).length, ()) := by
 obtain ⟨hp, hpos, hlen⟩ := body_ok hg hi
 have hn := hg.len
 have hcall := fun k hk h6 => node_call hg hi (k := k) hk h6
 have hEl := (fix_rg hg).1
 unfold headP
 generalize bodyR g i = p at *
 unfold F_ford_looked_rule
 simp only [toPb]
 refine loop_up (σ := (Int × Unit) × List pieceD × Unit × lookedD) p.length (fun k => (((k : Int), ()), stkOf zpiece (fP g) p k, (), fixE g, hs, ls ++ loopsK (cN g) p (i : Int) k, ())) ?_ ?_ ?_
 ·simp [stkOf, ends_zero, loopsK]
 ·intro k hk
  obtain ⟨s1, s2, s3, s4⟩ := stk_step zpiece (fP g) p hp hk
  have hsl := stk_len zpiece (fP g) p hp (show k ≤ p.length by omega)
  have hz := kid_zero zpiece p (k := k)
  have ha2 := arity_le (nth p k).1
  have ha := (node_ok (look_of hp hk)).1
  have hv : valP g p k = fP g (nth p k) (kidA zpiece p k (valsOf zpiece (fP g) p k)) (kidB zpiece p k (valsOf zpiece (fP g) p k)) := valOf_is _ _ _ _
  have hll := loopsK_len (c := cN g) (p := p) (r := (i : Int)) k
  have hnth : List.getD p k zNode = nth p (k : Int) := by simp [nth]
  dsimp only
  simp only [Int.toNat_natCast, hnth]
  generalize stkOf zpiece (fP g) p k = L at s1 s2 s3 s4 hsl ⊢
  have fin : ∀ V A, V = valP g p k → A = ls ++ loopsK (cN g) p (i : Int) (k + 1) → (need ((0 : Int) ≤ (0 : Int) ∧ ((0 : Int) ≤ (↑(List.length L) : Int) - arity (nth p k).1 ∧ (0 : Int) + ((↑(List.length L) : Int) - arity (nth p k).1) ≤ (↑(List.length L) : Int))) (need ((1 : Nat) ≤ (1 : Nat) ∧ (Int.toNat ((↑(List.length L) : Int) - arity (nth p k).1) ≤ List.length L ∧ (Int.toNat ((↑(List.length L) : Int) - arity (nth p k).1) + (1 : Nat)) * (201 : Nat) ≤ (140737488355328 : Nat))) (need (Fits Go.IntKind.i64 ((k : Int) + (1 : Int))) (some (Sum.inl (((k : Int) + (1 : Int), ()), List.take (Int.toNat ((↑(List.length L) : Int) - arity (nth p k).1)) L ++ [V], (), fixE g, hs, A, ()) : ((Int × Unit) × List pieceD × Unit × lookedD) ⊕ (Unit × List Em × List (List Bool) × List SpotD × Unit)))))) =
    some (Sum.inl ((((k + 1 : Nat) : Int), ()), stkOf zpiece (fP g) p (k + 1), (), fixE g, hs, ls ++ loopsK (cN g) p (i : Int) (k + 1), ())) := by
   rintro V A rfl rfl
   have e : Int.toNat ((↑(List.length L) : Int) - arity (nth p k).1) = L.length - (arity (nth p k).1).toNat := by omega
   rw [need_pos (by omega), need_pos (by omega), need64 (by omega) (by omega), cast_succ, ← s2, e]
  have noloop : ¬ (((nth p k).1 = 9 ∨ (nth p k).1 = 10 ∨ (nth p k).1 = 15) ∧ valN (cN g) p (k - 1) = true) → loopsK (cN g) p (i : Int) (k + 1) = loopsK (cN g) p (i : Int) k := by
   intro h
   rw [loopsK, if_neg h, List.append_nil]
  rw [pos (by omega), need_pos (by omega), q_arity, bind_t]
  dsimp only
  rw [need64 (by omega) (by omega), need64 (by omega) (by omega)]
  rcases arity_cases hp hk with h | h | h
  ·have hzz := hz h (valsOf zpiece (fP g) p k)
   rw [hzz.1, hzz.2] at hv
   have e6 : ¬ ((nth p k).1 = 9 ∨ (nth p k).1 = 10 ∨ (nth p k).1 = 15) := by
    rcases arity_0 h with e | e | e | e | e | e | e <;> omega
   rw [pos (by omega), q_leaf h (q := numQ g (nth p k)) (ce := cN g (nth p k)) (fun h6 => ?_), bind_t, bind_t]
   ·exact fin _ _ hv.symm (by rw [noloop (fun h => e6 h.1)])
   ·have hf := hcall k hk h6
    have hlt := numQ_lt hg (nth p k)
    refine ⟨by rw [nums_find, hf]; rfl, by omega, by omega, ?_⟩
    rw [fixE_fst hg _ hlt]
    rfl
  ·obtain ⟨m1, _⟩ := (ends_kids hp hk).2.1 h
   have g1 := s3 h
   have e1 : 0 + Int.toNat ((↑(List.length L) : Int) - arity (nth p k).1) = L.length - 1 := by omega
   have hA : kidA zpiece p k (valsOf zpiece (fP g) p k) = valP g p (k - 1) := kidA_one _ _ _ h m1
   rw [hA] at hv
   have hsnd := valP_snd (g := g) hp (k - 1) (by omega)
   rw [neg (by omega), pos (by omega), q_repeats, bind_t]
   dsimp only
   rw [e1, g1]
   have fin2 : ∀ A, A = ls ++ loopsK (cN g) p (i : Int) (k + 1) → (need ((0 : Int) ≤ (↑(List.length L) : Int) - arity (nth p k).1 ∧ (↑(List.length L) : Int) - arity (nth p k).1 < (↑(List.length L) : Int)) (need (L.length - 1 < List.length L) (Option.bind (F_ford_one (nth p k, valP g p (k - 1), ())) (fun (y3 : pieceD × Unit) => some (Sum.inl ((), y3.1, L, (), fixE g, hs, A, ()) : (Unit × pieceD × List pieceD × Unit × List EmptinessD × List (List Bool) × List shapeD × Unit) ⊕ (((Int × Unit) × List pieceD × Unit × lookedD) ⊕ (Unit × List Em × List (List Bool) × List SpotD × Unit))))))) = some (Sum.inl ((), valP g p k, L, (), fixE g, hs, ls ++ loopsK (cN g) p (i : Int) (k + 1), ())) := by
    rintro A rfl
    rw [need_pos (by omega), need_pos (by omega), q_one10 h (q := numQ g (nth p k)) (ce := cN g (nth p k)) (b := kidB zpiece p k (valsOf zpiece (fP g) p k)), bind_t, hv]
   by_cases hr : (nth p k).1 = 9 ∨ (nth p k).1 = 10 ∨ (nth p k).1 = 15
   ·rw [pb_t hr, sel_t, need_pos (by omega), need_pos (by omega), bind_t, hsnd]
    cases hy : valN (cN g) p (k - 1) with
    | true =>
      rw [sel_t, need_pos (by rw [List.length_append]; omega), bind_t]
      dsimp only
      rw [g1, fin2 _ (by rw [loopsK, if_pos ⟨hr, hy⟩, List.append_assoc]), bind_t]
      exact fin _ _ rfl rfl
    | false =>
      rw [sel_f, bind_t]
      dsimp only
      rw [g1, fin2 _ (by rw [noloop (fun h => by rw [hy] at h; cases h.2)]), bind_t]
      exact fin _ _ rfl rfl
   ·rw [pb_f hr, sel_f, bind_t, sel_f, bind_t]
    dsimp only
    rw [g1, fin2 _ (by rw [noloop (fun h => hr h.1)]), bind_t]
    exact fin _ _ rfl rfl
  ·obtain ⟨k1, k2, k3, _⟩ := (ends_kids hp hk).2.2 h
   obtain ⟨g1, g2⟩ := s4 h
   have e1 : 0 + Int.toNat ((↑(List.length L) : Int) - arity (nth p k).1) = L.length - 2 := by omega
   have e2 : 0 + Int.toNat ((↑(List.length L) : Int) - arity (nth p k).1 + 1) = L.length - 1 := by omega
   have e6 : ¬ ((nth p k).1 = 9 ∨ (nth p k).1 = 10 ∨ (nth p k).1 = 15) := by
    rcases arity_78 h with e | e <;> omega
   rw [kidA_two _ _ _ h k2 k3, kidB_two _ _ _ h k1] at hv
   rw [neg (by omega), neg (by omega), need_pos (by omega), need_pos (by omega), need64 (by omega) (by omega), need_pos (by omega), need_pos (by omega), e1, e2, g1, g2, q_two10 h (valP_len hp _ (by omega)) (q := numQ g (nth p k)) (ce := cN g (nth p k)), bind_t, bind_t]
   exact fin _ _ hv.symm (by rw [noloop (fun h => e6 h.1)])
 ·dsimp only
  rw [neg (by omega), stk_last hp]
  rw [need_pos (by simp), need_pos (by simp), need_pos (by omega), bind_t]
  rfl
/-- All loops, up to a rule. -/
noncomputable def loopsTo (g : G) : Nat → List SpotD
 | 0 => []
 | i + 1 => loopsTo g i ++ loopsK (cN g) (bodyR g i) (i : Int) (bodyR g i).length
theorem loopsTo_len {g : G} (hg : RG g) : ∀ i, i ≤ g.length → (loopsTo g i).length ≤ i * 2048
 | 0, _ => Nat.le_refl _
 | i + 1, h => by
   have h1 := loopsTo_len hg i (by omega)
   obtain ⟨_, _, h2⟩ := body_ok hg (show i < g.length by omega)
   have h3 := loopsK_len (c := cN g) (p := bodyR g i) (r := (i : Int)) (bodyR g i).length
   rw [loopsTo, List.length_append]
   omega
noncomputable def lookD (g : G) : lookedD := (fixE g, genR g.length (headP g), loopsTo g g.length, ())
end Go.Proofs

/-! Chapter 10: a grammar looked at; the loops by the book. -/
namespace Go.Proofs
open Go Go.Abs
set_option linter.unusedSimpArgs false
theorem nums_new {g : G} (hg : RG g) {i : Nat} (hi : i < g.length) : mfind eqS (numsF g i) (rth g i).1 = none := by
 rw [numsF_find (by omega)]
 have h2 := (hg.good i hi).2.1
 cases hf : findF (rth g i).1 (List.take i g) 0 with
 | none => rfl
 | some k =>
   exfalso
   apply h2
   have key : ∀ s, findF s (List.take i g) 0 = some k → findR g s = some k := fun s hs => by
    unfold findR
    conv => lhs; rw [← List.take_append_drop i g]
    rw [findF_append, hs]
   have e : findR g (rth g i).1 = some k := key _ hf
   obtain ⟨_, k2, _⟩ := findF_some hf
   rw [List.length_take] at k2
   unfold numR
   rw [e]
   show (k : Int) < (i : Int)
   omega
theorem nums_step {g : G} (hg : RG g) {i : Nat} (hi : i < g.length) : mput eqS (numsF g i) (rth g i).1 (i : Int) = numsF g (i + 1) := by
 have hf := nums_new hg hi
 rw [mput_new hf]
 show _ = if mfind eqS (numsF g i) (rth g i).1 = none then _ else _
 rw [if_pos hf]
 rfl
/-- What `look` tells. -/
noncomputable def look10 (g : G) : lookedD × SpotD × Int × Unit := if (chkG g).2 = 0 then (lookD g, zSpot, 0, ()) else (zlooked, (chkG g).1, (chkG g).2, ())
theorem q_look (g : G) : F_ford_look ((g, ()), ()) = some (look10 g) := by
 unfold F_ford_look look10
 simp only [toPb, q_checkG, bind_t]
 dsimp only [outE]
 by_cases h : (chkG g).2 = 0
 ·have hg := rg_of h
  have hn := hg.len
  rw [npos h, if_pos h]
  refine loop_up (σ := (Int × Unit) × List (ByteArray × Int) × shapeD × Unit × List shapeD × List (List Bool) × List EmptinessD × GrammarD × Unit) g.length (fun i => (((i : Int), ()), numsF g i, zSpot, (), [], [], [], (g, ()), ())) rfl ?_ ?_
  ·intro i hi
   dsimp only
   simp only [Int.toNat_natCast]
   rw [pos (by omega), need_pos (by omega), need64 (by omega) (by omega), show List.getD g i zRule = rth g i from rfl, nums_step hg hi, cast_succ]
  ·dsimp only
   have e2 : fixG g = fixE g := by unfold fixG; rw [if_pos h]
   rw [neg (by omega), q_eRules, bind_t]
   dsimp only
   rw [npos h, e2]
   rw [show numsF g g.length = nums g from rfl]
   rw [show ∀ {A B : Type} {X : Option A} {v : A} {f : A → B}, X = some v → Option.bind X (fun val => some (f val)) = some (f v) from fun h => by rw [h, bind_t]]
   refine loop_up (σ := (Int × Unit) × List (ByteArray × Int) × Unit × List shapeD × List (List Bool) × List EmptinessD × shapeD × Unit × List shapeD × List (List Bool) × List EmptinessD × Unit) g.length (fun i => (((i : Int), ()), nums g, (), loopsTo g i, genR i (headP g), fixE g, zSpot, (), [], [], [], ())) rfl ?_ ?_
   ·intro i hi
    have l1 := loopsTo_len hg i (by omega)
    dsimp only
    simp only [Int.toNat_natCast]
    rw [pos (by omega), need_pos (by omega), show (List.getD g i zRule).2.1 = bodyR g i from rfl, q_frule hg hi (by rw [genR_len]; omega) (by omega), bind_t]
    dsimp only
    rw [need64 (by omega) (by omega), cast_succ, genR_succ]
    rfl
   ·dsimp only
    rw [neg (by omega)]
    rfl
 ·rw [nneg h, if_neg h]
theorem q_rloops {g : G} (hg : RG g) : F_ref10_loops ((g, ()), ()) = some (loopsTo g g.length, ()) := by
 have hn := hg.len
 have hfl := fixN_len hg
 unfold F_ref10_loops
 simp only [toPb]
 rw [q_Nullable hg, bind_t]
 refine loop_up (σ := (Int × Unit) × List shapeD × List Bool × GrammarD × Unit) g.length (fun i => (((i : Int), ()), loopsTo g i, fixN g, (g, ()), ())) rfl ?_ ?_
 ·intro i hi
  obtain ⟨p1, p2, p3⟩ := body_ok hg hi
  have l1 := loopsTo_len hg i (by omega)
  dsimp only
  simp only [Int.toNat_natCast, show (List.getD g i zRule).2.1 = bodyR g i from rfl]
  rw [pos (by omega), need_pos (by omega), show F_ref10_Nothing ((g, ()), bodyR g i, fixN g, ()) = _ from nothing_at hg hfl hi, bind_t]
  dsimp only
  have hat : ∀ m, m < (bodyR g i).length → List.getD (valsN (cN g) (bodyR g i) (bodyR g i).length) m false = valN (cN g) (bodyR g i) m := fun m hm => valsOf_at _ _ _ hm
  have hvl : (valsN (cN g) (bodyR g i) (bodyR g i).length).length = (bodyR g i).length := valsOf_len _ _ _ _
  show loopC _ (((0 : Int), ()), valsN (cN g) (bodyR g i) (bodyR g i).length, fixN g, loopsTo g i, (g, ()), ()) = _
  have hl2 : loopsTo g (i + 1) = loopsTo g i ++ loopsK (cN g) (bodyR g i) (i : Int) (bodyR g i).length := rfl
  rw [hl2]
  generalize valsN (cN g) (bodyR g i) (bodyR g i).length = V at hat hvl ⊢
  generalize bodyR g i = p at *
  generalize loopsTo g i = L at *
  refine loop_up (σ := (Int × Unit) × List Bool × List Bool × List shapeD × GrammarD × Unit) p.length (fun k => (((k : Int), ()), V, fixN g, L ++ loopsK (cN g) p (i : Int) k, (g, ()), ())) (by simp [loopsK]) ?_ ?_
  ·intro k hk
   have hll := loopsK_len (c := cN g) (p := p) (r := (i : Int)) k
   have hnth : List.getD p k zNode = nth p (k : Int) := by simp [nth]
   dsimp only
   simp only [Int.toNat_natCast, hnth]
   rw [pos (by omega), need_pos (by omega)]
   have e3 : Option.bind (sel (pb ((nth p (k : Int)).1 = (9 : Int))) (some true) (need ((0 : Int) ≤ (k : Int) ∧ (k : Int) < (↑(List.length p) : Int)) (some (pb ((nth p (k : Int)).1 = (10 : Int)))))) (fun (v : Bool) => Option.bind (sel v (some true) (need ((0 : Int) ≤ (k : Int) ∧ (k : Int) < (↑(List.length p) : Int)) (some (pb ((nth p (k : Int)).1 = (15 : Int)))))) (fun v1 => some v1)) = some (pb ((nth p (k : Int)).1 = 9 ∨ (nth p (k : Int)).1 = 10 ∨ (nth p (k : Int)).1 = 15)) := by
    rw [need_pos (by omega), need_pos (by omega)]
    by_cases h1 : (nth p (k : Int)).1 = 9
    ·rw [pos h1, bind_t, sel_t, bind_t, pb_t (.inl h1)]
    ·rw [neg h1, bind_t]
     by_cases h2 : (nth p (k : Int)).1 = 10
     ·rw [pb_t h2, sel_t, bind_t, pb_t (.inr (.inl h2))]
     ·rw [pb_f h2, sel_f, bind_t]
      congr 1
      exact pb_congr ⟨fun h => .inr (.inr h), fun h => by omega⟩
   have e4 : ∀ {B : Type} (f : Bool → Option B), Option.bind (sel (pb ((nth p (k : Int)).1 = (9 : Int))) (some true) (need ((0 : Int) ≤ (k : Int) ∧ (k : Int) < (↑(List.length p) : Int)) (some (pb ((nth p (k : Int)).1 = (10 : Int)))))) (fun (v : Bool) => Option.bind (sel v (some true) (need ((0 : Int) ≤ (k : Int) ∧ (k : Int) < (↑(List.length p) : Int)) (some (pb ((nth p (k : Int)).1 = (15 : Int)))))) f) = f (pb ((nth p (k : Int)).1 = 9 ∨ (nth p (k : Int)).1 = 10 ∨ (nth p (k : Int)).1 = 15)) := by
    intro B f
    have : ∀ (X : Option Bool) (Y : Bool → Option Bool) (w : Bool), Option.bind X (fun v => Option.bind (Y v) (fun v1 => some v1)) = some w → Option.bind X (fun v => Option.bind (Y v) f) = f w := by
     intro X Y w h
     cases X with
     | none => simp at h
     | some x =>
       simp only [bind_t] at h ⊢
       cases hy : Y x with
       | none => rw [hy] at h; simp at h
       | some y =>
         rw [hy] at h
         simp only [bind_t] at h ⊢
         cases h
         rfl
    exact this _ _ _ e3
   rw [e4]
   by_cases hr : (nth p k).1 = 9 ∨ (nth p k).1 = 10 ∨ (nth p k).1 = 15
   ·have ha : arity (nth p k).1 = 1 := by rcases hr with e | e | e <;> rw [e] <;> rfl
    obtain ⟨m1, _⟩ := (ends_kids p1 hk).2.1 ha
    have e5 : 0 + Int.toNat ((k : Int) - 1) = k - 1 := by omega
    rw [pb_t hr, sel_t, need64 (by omega) (by omega), need_pos (by omega), need_pos (by omega), e5, hat _ (by omega), bind_t]
    cases hy : valN (cN g) p (k - 1) with
    | true => rw [sel_t, need_pos (by rw [List.length_append]; omega), need64 (by omega) (by omega), cast_succ, loopsK, if_pos ⟨hr, hy⟩, List.append_assoc]
    | false => rw [sel_f, need64 (by omega) (by omega), cast_succ, loopsK, if_neg (fun h => by rw [hy] at h; cases h.2), List.append_nil]
   ·rw [pb_f hr, sel_f, bind_t, sel_f, need64 (by omega) (by omega), cast_succ, loopsK, if_neg (fun h => hr h.1), List.append_nil]
  ·dsimp only
   rw [neg (by omega), need64 (by omega) (by omega), bind_t, cast_succ]
 ·dsimp only
  rw [neg (by omega)]
end Go.Proofs
