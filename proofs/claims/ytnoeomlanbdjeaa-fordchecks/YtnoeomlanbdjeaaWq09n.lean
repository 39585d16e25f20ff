/- Part of the proof of the law's row: YtnoeomlanbdjeaaWq09n. -/
import Derived.Test.YtnoeomlanbdjeaaWq09h
set_option linter.all false
set_option linter.unusedVariables false
set_option linter.unusedSimpArgs false
/-! Chapter 9: rounds, and where they end. -/
namespace Go.Proofs
open Go Go.Abs
set_option linter.unusedSimpArgs false
theorem val_ind2 {c c' : NodeD → Em} {p : List NodeD} (hp : (chkP p).2 = 0) (I : Em → Em → Prop) (h0 : I zEmptiness zEmptiness) (h : ∀ k, k < p.length → ∀ a b a' b', I a a' → I b b' → I (nodeE (nth p k) (c (nth p k)) a b) (nodeE (nth p k) (c' (nth p k)) a' b')) : ∀ k, k < p.length → I (val9 c p k) (val9 c' p k) := by
 intro k
 induction k using Nat.strongRecOn with
 | _ k ih =>
   intro hk
   rw [show val9 c p k = _ from valOf_is _ _ _ _, show val9 c' p k = _ from valOf_is _ _ _ _]
   rcases (show arity (nth p k).1 = 0 ∨ arity (nth p k).1 = 1 ∨ arity (nth p k).1 = 2 by have := (node_ok (look_of hp hk)).1; have := arity_le (nth p k).1; omega) with h1 | h1 | h1
   ·refine h k hk _ _ _ _ ?_ ?_
    ·rw [(kid_zero _ _ h1 _).1, (kid_zero _ _ h1 _).1]; exact h0
    ·rw [(kid_zero _ _ h1 _).2, (kid_zero _ _ h1 _).2]; exact h0
   ·obtain ⟨m1, _⟩ := (ends_kids hp hk).2.1 h1
    refine h k hk _ _ _ _ ?_ ?_
    ·rw [kidA_one _ _ _ h1 m1, kidA_one _ _ _ h1 m1]
     exact ih _ (by omega) (by omega)
    ·unfold kidB
     rw [if_neg (by omega), if_neg (by omega)]
     exact h0
   ·obtain ⟨m1, m2, m3, _⟩ := (ends_kids hp hk).2.2 h1
    refine h k hk _ _ _ _ ?_ ?_
    ·rw [kidA_two _ _ _ h1 m2 m3, kidA_two _ _ _ h1 m2 m3]
     exact ih _ (by omega) (by omega)
    ·rw [kidB_two _ _ _ h1 m1, kidB_two _ _ _ h1 m1]
     exact ih _ (by omega) (by omega)
def botE : Em := (false, false, -1, -1, ())
def loopE (l : Bool) (a : Em) : Em := if l = true then (a.1, a.2.1, a.2.2.1, -1, ()) else a
def RgL (n : Nat) (l : List Em) : Prop := l.length = n ∧ ∀ i, i < n → RgE (List.getD l i zEmptiness)
def leL (n : Nat) (l m : List Em) : Prop := ∀ i, i < n → leE (List.getD l i zEmptiness) (List.getD m i zEmptiness)
theorem call_in {g : G} (hg : RG g) (n : NodeD) : ∃ q, q < g.length ∧ ∀ now, callE g now n = List.getD now q zEmptiness := by
 unfold callE
 cases h : findR g n.2.2.1 with
 | none => exact ⟨0, hg.pos, fun _ => rfl⟩
 | some q => exact ⟨q, (findR_at h).1, fun _ => rfl⟩
/-- What is known of a rule's whole pattern. -/
def lastE (g : G) (now : List Em) (i : Nat) : Em := val9 (callE g now) (rth g i).2.1 ((rth g i).2.1.length - 1)
theorem good_pos {g : G} (hg : RG g) {i : Nat} (hi : i < g.length) : (chkP (rth g i).2.1).2 = 0 ∧ 0 < (rth g i).2.1.length ∧ ((rth g i).2.1.length : Int) ≤ 2048 := by
 have h := (hg.good i hi).2.2
 obtain ⟨h1, _, _, h2, _⟩ := chk_len h
 exact ⟨h, by omega, h1⟩
theorem last_rg {g : G} (hg : RG g) {now : List Em} (h : RgL g.length now) {i : Nat} (hi : i < g.length) : RgE (lastE g now i) := by
 obtain ⟨h1, h2, _⟩ := good_pos hg hi
 refine rg_val h1 (fun k _ _ => ?_) _ (by omega)
 obtain ⟨q, hq, e⟩ := call_in hg (nth (rth g i).2.1 k)
 rw [e]
 exact h.2 q hq
theorem last_mono {g : G} (hg : RG g) {now now' : List Em} (h : RgL g.length now) (h' : RgL g.length now') (hl : leL g.length now now') {i : Nat} (hi : i < g.length) : leE (lastE g now i) (lastE g now' i) := by
 obtain ⟨h1, h2, _⟩ := good_pos hg hi
 refine (val_ind2 h1 (fun a b => leE a b ∧ RgE a ∧ RgE b) ⟨leE.refl _, rg_zero, rg_zero⟩ (fun k hk a b a' b' ha hb => ?_) _ (by omega)).1
 obtain ⟨q, hq, e⟩ := call_in hg (nth (rth g i).2.1 k)
 have hn := nodeOk_of h1 hk
 rw [e, e]
 exact ⟨mono_node hn (hl q hq) ha.1 hb.1 ha.2.1 hb.2.1 ha.2.2 hb.2.2, rg_node hn (fun _ => h.2 q hq) ha.2.1 hb.2.1, rg_node hn (fun _ => h'.2 q hq) ha.2.2 hb.2.2⟩
noncomputable def stepE (g : G) (now : List Em) (i : Nat) : Em := loopE (pb (Ag (E g) i)) (lastE g now i)
noncomputable def roundE (g : G) (now : List Em) : List Em := genR g.length (stepE g now)
theorem loop_rg {l : Bool} {a : Em} (h : RgE a) : RgE (loopE l a) := by
 unfold loopE
 split
 ·exact ⟨h.1, h.2.1, Int.le_refl (-1), (by decide : (-1 : Int) ≤ 1048576)⟩
 ·exact h
theorem loop_mono {l : Bool} {a b : Em} (h : leE a b) : leE (loopE l a) (loopE l b) := by
 unfold loopE
 split
 ·exact ⟨h.1, h.2.1, h.2.2.1, Int.le_refl _⟩
 ·exact h
theorem round_rg {g : G} (hg : RG g) {now : List Em} (h : RgL g.length now) : RgL g.length (roundE g now) :=
 ⟨genR_len, fun i hi => by unfold roundE; rw [genR_get hi]; exact loop_rg (last_rg hg h hi)⟩
theorem round_mono {g : G} (hg : RG g) {now now' : List Em} (h : RgL g.length now) (h' : RgL g.length now') (hl : leL g.length now now') : leL g.length (roundE g now) (roundE g now') := by
 intro i hi
 unfold roundE
 rw [genR_get hi, genR_get hi]
 exact loop_mono (last_mono hg h h' hl hi)
def botL (n : Nat) : List Em := List.replicate n botE
theorem bot_at {n i : Nat} (h : i < n) : List.getD (botL n) i zEmptiness = botE := by
 unfold botL
 rw [List.getD_eq_getElem?_getD, List.getElem?_replicate, if_pos h]
 rfl
theorem bot_rg (n : Nat) : RgL n (botL n) := ⟨List.length_replicate, fun i hi => by rw [bot_at hi]; simp [RgE, botE]⟩
theorem lenOf_le {x : Int} (h : -1 ≤ x ∧ x ≤ 1048576) : 0 ≤ lenOf x ∧ lenOf x ≤ 1048577 := by unfold lenOf; split <;> omega
theorem lenOf_inj {x y : Int} (h : -1 ≤ x ∧ x ≤ 1048576) (h2 : -1 ≤ y ∧ y ≤ 1048576) (e : lenOf x = lenOf y) : x = y := by
 unfold lenOf at e
 split at e <;> split at e <;> omega
theorem bot_le {n : Nat} {l : List Em} (h : RgL n l) : leL n (botL n) l := by
 intro i hi
 rw [bot_at hi]
 obtain ⟨h1, h2, h3, h4⟩ := h.2 i hi
 exact ⟨by simp [botE], by simp [botE], (lenOf_le ⟨h1, h2⟩).2, (lenOf_le ⟨h3, h4⟩).2⟩
noncomputable def itE (g : G) : Nat → List Em
 | 0 => botL g.length
 | k + 1 => roundE g (itE g k)
theorem it_rg {g : G} (hg : RG g) : ∀ k, RgL g.length (itE g k)
 | 0 => bot_rg _
 | k + 1 => round_rg hg (it_rg hg k)
theorem it_le {g : G} (hg : RG g) : ∀ k, leL g.length (itE g k) (itE g (k + 1))
 | 0 => bot_le (it_rg hg 1)
 | k + 1 => round_mono hg (it_rg hg k) (it_rg hg (k + 1)) (it_le hg k)
/-- How much is known. -/
def rankE (a : Em) : Nat := (if a.1 then 1 else 0) + (if a.2.1 then 1 else 0) + (1048577 - lenOf a.2.2.1).toNat + (1048577 - lenOf a.2.2.2.1).toNat
theorem rank_le {a : Em} (h : RgE a) : rankE a ≤ 2097156 := by
 obtain ⟨h1, h2, h3, h4⟩ := h
 have := lenOf_le ⟨h1, h2⟩
 have := lenOf_le ⟨h3, h4⟩
 unfold rankE
 split <;> split <;> omega
theorem rank_mono {a b : Em} (ha : RgE a) (hb : RgE b) (h : leE a b) : rankE a ≤ rankE b ∧ (rankE a = rankE b → a = b) := by
 obtain ⟨h1, h2, h3, h4⟩ := ha
 obtain ⟨k1, k2, k3, k4⟩ := hb
 have l1 := lenOf_le ⟨h1, h2⟩
 have l2 := lenOf_le ⟨h3, h4⟩
 have l3 := lenOf_le ⟨k1, k2⟩
 have l4 := lenOf_le ⟨k3, k4⟩
 obtain ⟨p1, p2, p3, p4⟩ := h
 have i1 := lenOf_inj ⟨h1, h2⟩ ⟨k1, k2⟩
 have i2 := lenOf_inj ⟨h3, h4⟩ ⟨k3, k4⟩
 obtain ⟨a1, a2, a3, a4, _⟩ := a
 obtain ⟨b1, b2, b3, b4, _⟩ := b
 simp only at *
 unfold rankE
 simp only
 constructor
 ·cases a1 <;> cases a2 <;> cases b1 <;> cases b2 <;> simp at p1 p2 ⊢ <;> omega
 ·intro e
  have e1 : a1 = b1 ∧ a2 = b2 ∧ lenOf a3 = lenOf b3 ∧ lenOf a4 = lenOf b4 := by
   cases a1 <;> cases a2 <;> cases b1 <;> cases b2 <;> simp at p1 p2 e ⊢ <;> omega
  rw [e1.1, e1.2.1, i1 e1.2.2.1, i2 e1.2.2.2]
def sumTo (f : Nat → Nat) : Nat → Nat
 | 0 => 0
 | n + 1 => sumTo f n + f n
theorem sum_mono {f f' : Nat → Nat} : ∀ {n : Nat}, (∀ i, i < n → f i ≤ f' i) → sumTo f n ≤ sumTo f' n ∧ (sumTo f n = sumTo f' n → ∀ i, i < n → f i = f' i)
 | 0, _ => ⟨Nat.le_refl _, fun _ i hi => absurd hi (Nat.not_lt_zero _)⟩
 | n + 1, h => by
   obtain ⟨h1, h2⟩ := sum_mono (n := n) fun i hi => h i (by omega)
   have h3 := h n (by omega)
   simp only [sumTo]
   refine ⟨by omega, fun e i hi => ?_⟩
   by_cases e2 : i = n
   ·subst e2; omega
   ·exact h2 (by omega) i (by omega)
theorem sum_le {f : Nat → Nat} {m : Nat} : ∀ {n : Nat}, (∀ i, i < n → f i ≤ m) → sumTo f n ≤ n * m
 | 0, _ => Nat.zero_le _
 | n + 1, h => by
   have h1 := sum_le (n := n) fun i hi => h i (by omega)
   have h3 := h n (by omega)
   simp only [sumTo]
   rw [Nat.succ_mul]
   omega
def rankL (n : Nat) (l : List Em) : Nat := sumTo (fun i => rankE (List.getD l i zEmptiness)) n
theorem rankL_le {n : Nat} {l : List Em} (h : RgL n l) : rankL n l ≤ n * 2097156 := sum_le fun i hi => rank_le (h.2 i hi)
theorem getD_ext {α : Type} {l m : List α} {n : Nat} (d : α) (h1 : l.length = n) (h2 : m.length = n) (h : ∀ i, i < n → List.getD l i d = List.getD m i d) : l = m := by
 apply List.ext_getElem (by omega)
 intro i a b
 have := h i (by omega)
 rwa [List.getD_eq_getElem?_getD, List.getD_eq_getElem?_getD, List.getElem?_eq_getElem a, List.getElem?_eq_getElem b] at this
theorem it_rank {g : G} (hg : RG g) (k : Nat) : rankL g.length (itE g k) ≤ rankL g.length (itE g (k + 1)) ∧ (itE g (k + 1) ≠ itE g k → rankL g.length (itE g k) < rankL g.length (itE g (k + 1))) := by
 have h1 := it_rg hg k
 have h2 := it_rg hg (k + 1)
 have h3 := it_le hg k
 obtain ⟨h4, h5⟩ := sum_mono (n := g.length) fun i hi => (rank_mono (h1.2 i hi) (h2.2 i hi) (h3 i hi)).1
 refine ⟨h4, fun hne => Nat.lt_of_le_of_ne h4 fun e => hne ?_⟩
 exact (getD_ext zEmptiness h1.1 h2.1 fun i hi => (rank_mono (h1.2 i hi) (h2.2 i hi) (h3 i hi)).2 (h5 e i hi)).symm
theorem it_end {g : G} (hg : RG g) : ∃ k, itE g (k + 1) = itE g k := by
 apply Classical.byContradiction
 intro hno
 have h : ∀ k, k ≤ rankL g.length (itE g k) := by
  intro k
  induction k with
  | zero => exact Nat.zero_le _
  | succ k ih =>
    have := (it_rank hg k).2 fun e => hno ⟨k, e⟩
    omega
 have := h (g.length * 2097156 + 1)
 have := rankL_le (it_rg hg (g.length * 2097156 + 1))
 omega
theorem it_stay {g : G} {k : Nat} (h : itE g (k + 1) = itE g k) : ∀ m, itE g (k + m) = itE g k
 | 0 => rfl
 | m + 1 => by
   have ih := it_stay h m
   show roundE g (itE g (k + m)) = _
   rw [ih]
   exact h
open Classical in
/-- What is known of the rules at last. -/
noncomputable def fixE (g : G) : List Em := if h : ∃ k, itE g (k + 1) = itE g k then itE g (Classical.choose h) else []
theorem fix_is {g : G} {k : Nat} (h : itE g (k + 1) = itE g k) : fixE g = itE g k := by
 unfold fixE
 rw [dif_pos ⟨k, h⟩]
 generalize hw : Classical.choose (⟨k, h⟩ : ∃ k, itE g (k + 1) = itE g k) = w
 have hs : itE g (w + 1) = itE g w := hw ▸ Classical.choose_spec (⟨k, h⟩ : ∃ k, itE g (k + 1) = itE g k)
 rcases Nat.le_total k w with hle | hle
 ·obtain ⟨m, rfl⟩ := Nat.exists_eq_add_of_le hle
  exact it_stay h m
 ·obtain ⟨m, rfl⟩ := Nat.exists_eq_add_of_le hle
  exact (it_stay hs m).symm
theorem fix_rg {g : G} (hg : RG g) : RgL g.length (fixE g) := by
 obtain ⟨k, h⟩ := it_end hg
 rw [fix_is h]
 exact it_rg hg k
theorem fix_fix {g : G} (hg : RG g) : roundE g (fixE g) = fixE g := by
 obtain ⟨k, h⟩ := it_end hg
 rw [fix_is h]
 exact h
/-- What holds at the start and is kept by a round holds at last. -/
theorem fix_ind {g : G} (hg : RG g) (I : List Em → Prop) (h0 : I (botL g.length)) (h : ∀ l, RgL g.length l → I l → I (roundE g l)) : I (fixE g) := by
 obtain ⟨k, e⟩ := it_end hg
 rw [fix_is e]
 clear e
 induction k with
 | zero => exact h0
 | succ k ih => exact h _ (it_rg hg k) ih
end Go.Proofs

/-! Chapter 9: the rounds of both programs. -/
namespace Go.Proofs
open Go Go.Abs
set_option linter.unusedSimpArgs false
theorem eqbE (x y : Em) : Ty.eqb (Ty.st [Ty.bool, Ty.bool, Ty.int Go.IntKind.i64, Ty.int Go.IntKind.i64]) x y = pb (x = y) := by
 by_cases h : x = y
 ·rw [pb_t h, h]; exact eqb_refl (t := Ty.st [Ty.bool, Ty.bool, Ty.int Go.IntKind.i64, Ty.int Go.IntKind.i64]) y rfl
 ·rw [pb_f h]
  cases e : Ty.eqb (Ty.st [Ty.bool, Ty.bool, Ty.int Go.IntKind.i64, Ty.int Go.IntKind.i64]) x y with
  | false => rfl
  | true => exact absurd (eqb_eq (t := Ty.st [Ty.bool, Ty.bool, Ty.int Go.IntKind.i64, Ty.int Go.IntKind.i64]) e) h
theorem bot_gen (n : Nat) : genR n (fun _ => botE) = botL n := by
 unfold botL genR
 apply List.ext_getElem
 ·simp
 ·intro i h1 h2
  simp
theorem last_at {g : G} {now : List Em} {i : Nat} (h : 0 < (rth g i).2.1.length) : List.getD (vals9 (callE g now) (rth g i).2.1 (rth g i).2.1.length) ((rth g i).2.1.length - 1) zEmptiness = lastE g now i := valsOf_at _ _ _ (by omega)
theorem lengths_at {g : G} (hg : RG g) {now : List Em} (h : RgL g.length now) {i : Nat} (hi : i < g.length) : F_gist_Lengths_em ((rth g i).2.1, now, nums g, ()) = some (vals9 (callE g now) (rth g i).2.1 (rth g i).2.1.length, now, nums g, ()) := by
 have hc : ∀ k, k < (rth g i).2.1.length → (nth (rth g i).2.1 k).1 = 6 → ∃ q, findR g (nth (rth g i).2.1 k).2.2.1 = some q := fun k hk h6 => hg.calls (rth g i) (getD_memR hi) _ (by rw [show nth (rth g i).2.1 k = List.getD (rth g i).2.1 k zNode by simp [nth]]; exact getD_in hk) h6
 refine q_lengths (good_pos hg hi).1 (fun k hk h6 => ?_) (fun k hk h6 => ?_)
 ·obtain ⟨q, hq⟩ := hc k hk h6
  exact callAt h.1 hq
 ·obtain ⟨q, hq, e⟩ := call_in hg (nth (rth g i).2.1 k)
  rw [e]
  exact h.2 q hq
theorem same_round {g : G} {now : List Em} (h : now.length = g.length) : (∀ j, j < g.length → stepE g now j = List.getD now j zEmptiness) ↔ roundE g now = now := by
 constructor
 ·intro hh
  exact getD_ext zEmptiness genR_len h fun j hj => by unfold roundE; rw [genR_get hj]; exact hh j hj
 ·intro e j hj
  conv => rhs; rw [← e]
  unfold roundE
  rw [genR_get hj]
theorem gone_same {α : Type} {n : Nat} {d : α} {f : Nat → α} : gone (List.replicate n d) f n = genR n f := by
 have := @gone_all _ (List.replicate n d) f
 rwa [List.length_replicate] at this
theorem both_eq {R : Type} (x : Option R) : both x x = x := by unfold both; rw [if_pos rfl]
open Classical in
theorem q_gEmpt {g : G} (hg : RG g) : F_gist_Emptiness ((g, ()), ()) = some (fixE g, nums g, ()) := by
 have hn := hg.len
 have hm := hg.pos
 unfold F_gist_Emptiness
 simp only [toPb, eqbE, both_eq]
 rw [q_gnums hg, bind_t]
 dsimp only
 rw [q_gagain hg, bind_t]
 dsimp only
 rw [need_pos (by omega)]
 have hQ : (List.replicate g.length zEmptiness).length = g.length := List.length_replicate
 refine loop_up (σ := (Int × Unit) × List EmptinessD × List Bool × List (ByteArray × Int) × GrammarD × Unit) g.length (fun i => (((i : Int), ()), gone (List.replicate g.length zEmptiness) (fun _ => botE) i, genR g.length (fun r => pb (Ag (E g) r)), nums g, (g, ()), ())) rfl ?_ ?_
 ·intro i hi
  have hGm : (gone (List.replicate g.length zEmptiness) (fun _ => botE) i).length = g.length := by rw [gone_len (by omega), hQ]
  dsimp only
  simp only [Int.toNat_natCast, Nat.zero_add, hGm, hQ]
  rw [pos (by omega), need_pos (by omega), need_pos hi, need64 (by omega) (by omega), cast_succ, ← gone_set (f := fun _ => botE) (by omega)]
  rfl
 ·dsimp only
  simp only [Int.toNat_natCast, hQ]
  rw [gone_same, bot_gen, neg (by omega)]
  refine (congrArg (fun o => Option.bind o (fun val1 => some (Sum.inr val1))) (a₂ := some (fixE g, nums g, ())) ?_).trans rfl
  refine loopC_gh (γ := Nat × Bool) (σ := (Bool × Unit) × List EmptinessD × List Bool × List (ByteArray × Int) × GrammarD × Unit) (I := fun k s => s = ((k.2, ()), itE g k.1, genR g.length (fun r => pb (Ag (E g) r)), nums g, (g, ()), ()) ∧ (k.2 = false → itE g k.1 = fixE g)) (μ := fun k => if k.2 = true then g.length * 2097156 - rankL g.length (itE g k.1) + 1 else 0) (F := fun _ => (fixE g, nums g, ())) ?_ (0, true) _ ⟨rfl, fun h => by cases h⟩
  rintro ⟨k, b⟩ s ⟨rfl, hb⟩
  have hR := it_rg hg k
  have hO : (genR g.length (fun r => pb (Ag (E g) r))).length = g.length := genR_len
  dsimp only at hb ⊢
  cases b with
  | false =>
    refine .inr ?_
    rw [sel_f, hb rfl]
  | true =>
    rw [sel_t, hR.1]
    simp only [Int.toNat_natCast, Nat.zero_add]
    rw [need_pos (by omega)]
    refine or_of (fun a => a = Sum.inl ((!pb (roundE g (itE g k) = itE g k), ()), itE g (k + 1), genR g.length (fun r => pb (Ag (E g) r)), nums g, (g, ()), ())) ⟨_, ?_, rfl⟩ ?_
    ·refine loop_up (σ := (Int × Bool × Unit) × List EmptinessD × List EmptinessD × List Bool × List (ByteArray × Int) × GrammarD × Unit) g.length (fun i => (((i : Int), !pb (∀ j, j < i → stepE g (itE g k) j = List.getD (itE g k) j zEmptiness), ()), gone (List.replicate g.length zEmptiness) (stepE g (itE g k)) i, itE g k, genR g.length (fun r => pb (Ag (E g) r)), nums g, (g, ()), ())) ?_ ?_ ?_
     ·rw [pb_t (by intro j hj; omega)]
      rfl
     ·intro i hi
      obtain ⟨p1, p2, p3⟩ := good_pos hg hi
      have hGm : (gone (List.replicate g.length zEmptiness) (stepE g (itE g k)) i).length = g.length := by rw [gone_len (by omega), hQ]
      have hvl : (vals9 (callE g (itE g k)) (rth g i).2.1 (rth g i).2.1.length).length = (rth g i).2.1.length := valsOf_len _ _ _ _
      have hbody : List.getD g i zRule = rth g i := rfl
      have e1 : Int.toNat (((rth g i).2.1.length : Int) - 1) = (rth g i).2.1.length - 1 := by omega
      dsimp only
      simp only [Int.toNat_natCast, hO, hbody]
      rw [pos (by omega), need_pos (by omega), need64 (by omega) (by omega), lengths_at hg hR hi, bind_t]
      dsimp only
      simp only [hvl, e1, last_at p2]
      rw [need_pos (by omega), need_pos (by omega), need_pos (by omega), need_pos hi, genR_get hi]
      have hstep : stepE g (itE g k) i = if Ag (E g) i then ((lastE g (itE g k) i).1, (lastE g (itE g k) i).2.1, (lastE g (itE g k) i).2.2.1, -1, ()) else lastE g (itE g k) i := by
       unfold stepE loopE
       by_cases h : Ag (E g) i
       ·rw [if_pos (pb_t h), if_pos h]
       ·rw [if_neg (by rw [pb_f h]; simp), if_neg h]
      have hset := gone_set (p := List.replicate g.length zEmptiness) (f := stepE g (itE g k)) (i := i) (by omega)
      have hfl : pb (∀ j, j < i + 1 → stepE g (itE g k) j = List.getD (itE g k) j zEmptiness) = (pb (∀ j, j < i → stepE g (itE g k) j = List.getD (itE g k) j zEmptiness) && pb (stepE g (itE g k) i = List.getD (itE g k) i zEmptiness)) := by
       by_cases h1 : ∀ j, j < i → stepE g (itE g k) j = List.getD (itE g k) j zEmptiness
       ·rw [pb_t h1, Bool.true_and]
        apply pb_congr
        constructor
        ·intro h2; exact h2 i (by omega)
        ·intro h2 j hj
         by_cases e : j = i
         ·subst e; exact h2
         ·exact h1 j (by omega)
       ·rw [pb_f h1, Bool.false_and, pb_f fun h2 => h1 fun j hj => h2 j (by omega)]
      have hfin : ∀ v, v = stepE g (itE g k) i → Option.bind (need ((0 : Int) ≤ (i : Int) ∧ (i : Int) < (g.length : Int)) (need (i < g.length) (sel (!pb (v = List.getD (itE g k) i zEmptiness)) (some (Sum.inl ((true, ()), v, itE g k, nums g, gone (List.replicate g.length zEmptiness) (stepE g (itE g k)) i, genR g.length (fun r => pb (Ag (E g) r)), (g, ()), ()))) (some (Sum.inl ((!pb (∀ j, j < i → stepE g (itE g k) j = List.getD (itE g k) j zEmptiness), ()), v, itE g k, nums g, gone (List.replicate g.length zEmptiness) (stepE g (itE g k)) i, genR g.length (fun r => pb (Ag (E g) r)), (g, ()), ())))))) (fun (o1 : (Bool × Unit) × EmptinessD × List EmptinessD × List (ByteArray × Int) × List EmptinessD × List Bool × GrammarD × Unit ⊕ (Int × Bool × Unit) × List EmptinessD × List EmptinessD × List Bool × List (ByteArray × Int) × GrammarD × Unit ⊕ (Bool × Unit) × List EmptinessD × List Bool × List (ByteArray × Int) × GrammarD × Unit ⊕ (List EmptinessD × List (ByteArray × Int) × Unit)) => (match o1 with | Sum.inl val1 => need ((0 : Int) ≤ (i : Int) ∧ (i : Int) < (↑(List.length val1.2.2.2.2.1) : Int)) (need (i < List.length val1.2.2.2.2.1) (need (Fits Go.IntKind.i64 ((i : Int) + (1 : Int))) (some (Sum.inl (((i : Int) + (1 : Int), val1.1.1, ()), List.set val1.2.2.2.2.1 i val1.2.1, val1.2.2.1, val1.2.2.2.2.2.1, val1.2.2.2.1, (val1.2.2.2.2.2.2.1.1, ()), ()))))) | Sum.inr val2 => some val2)) = some (Sum.inl ((((i + 1 : Nat) : Int), !pb (∀ j, j < i + 1 → stepE g (itE g k) j = List.getD (itE g k) j zEmptiness), ()), gone (List.replicate g.length zEmptiness) (stepE g (itE g k)) (i + 1), itE g k, genR g.length (fun r => pb (Ag (E g) r)), nums g, (g, ()), ())) := by
       rintro v rfl
       rw [need_pos (by omega), need_pos hi, hfl, cast_succ]
       by_cases h : stepE g (itE g k) i = List.getD (itE g k) i zEmptiness
       ·rw [npos h, bind_t, pb_t h]
        dsimp only
        rw [hGm, need_pos (by omega), need_pos hi, need64 (by omega) (by omega), hset, Bool.and_true]
       ·rw [nneg h, bind_t, pb_f h]
        dsimp only
        rw [hGm, need_pos (by omega), need_pos hi, need64 (by omega) (by omega), hset, Bool.and_false]
        rfl
      by_cases h : Ag (E g) i
      ·rw [pb_t h, sel_t, bind_t]
       dsimp only
       rw [hR.1]
       exact hfin _ (by rw [hstep, if_pos h])
      ·rw [pb_f h, sel_f, bind_t]
       dsimp only
       rw [hR.1]
       exact hfin _ (by rw [hstep, if_neg h])
     ·dsimp only
      rw [neg (by omega), gone_same, pb_congr (same_round hR.1)]
      rfl
    ·rintro a rfl
     refine .inl ⟨(k + 1, !pb (roundE g (itE g k) = itE g k)), _, rfl, ⟨rfl, fun h => ?_⟩, ?_, trivial⟩
     ·by_cases h2 : roundE g (itE g k) = itE g k
      ·rw [fix_is h2]; exact h2
      ·rw [pb_f h2] at h; cases h
     ·by_cases h2 : roundE g (itE g k) = itE g k
      ·rw [pb_t h2]; simp
      ·rw [pb_f h2]
       have h1 := (it_rank hg k).2 h2
       have h3 := rankL_le (it_rg hg (k + 1))
       show g.length * 2097156 - rankL g.length (itE g (k + 1)) + 1 < g.length * 2097156 - rankL g.length (itE g k) + 1
       omega
end Go.Proofs

/-! Chapter 8: the laws RulesReach, RulesOrder. -/
namespace Go.Proofs
open Go Go.Abs
theorem loop_one {σ ρ : Type} {B : σ → Option (σ ⊕ ρ)} (I : σ → Prop) (μ : σ → Nat) {r : ρ} (h : ∀ s, I s → (∃ s', B s = some (.inl s') ∧ I s' ∧ μ s' < μ s) ∨ B s = some (.inr r)) : ∀ s, I s → loopC B s = some r := by
 intro s hs
 obtain ⟨r', h1, h2⟩ := loopC_ends I μ (· = r) (fun s hs => by
  rcases h s hs with h | h
  ·exact Or.inl h
  ·exact Or.inr ⟨r, h, rfl⟩) s hs
 rw [h1, h2]
theorem Rt.last {e : Nat → Nat → Prop} {r x : Nat} (h : Rt e r x) : x = r ∨ ∃ q, Rt e r q ∧ e q x ∧ x ≠ q := by
 induction h with
 | refl => exact Or.inl rfl
 | tail h1 h2 ih =>
   rename_i q p
   by_cases h3 : p = q
   ·subst h3; exact ih
   ·exact Or.inr ⟨q, h1, h2, h3⟩
theorem Rt.first {e : Nat → Nat → Prop} {r x : Nat} (h : Rt e r x) : x = r ∨ ∃ q, e r q ∧ Rt e q x := by
 induction h with
 | refl => exact Or.inl rfl
 | tail h1 h2 ih =>
   rename_i q p
   rcases ih with h | ⟨z, h3, h4⟩
   ·subst h; exact Or.inr ⟨p, h2, Rt.refl p⟩
   ·exact Or.inr ⟨z, h3, Rt.tail h4 h2⟩
end Go.Proofs

/-! Chapter 9: what the programs answer. -/
namespace Go.Proofs
open Go Go.Abs
set_option linter.unusedSimpArgs false
theorem find_name {g : G} (hg : RG g) {i : Nat} (hi : i < g.length) : findR g (rth g i).1 = some i := by
 obtain ⟨k, h1, h2⟩ := findR_le hi
 have h3 := (hg.good i hi).2.1
 unfold numR rth at h3
 rw [h1] at h3
 have h3 : ¬ ((k : Int) < (i : Int)) := h3
 have : k = i := by omega
 unfold rth
 rw [h1, this]
theorem em_name {g : G} (hg : RG g) {now : List Em} (hl : now.length = g.length) {i : Nat} (hi : i < g.length) : F_gist_Emptiness_1 ((rth g i).1, now, nums g, ()) = some (List.getD now i zEmptiness, now, nums g, ()) := by
 unfold F_gist_Emptiness_1
 rw [nums_find, find_name hg hi]
 simp only [Option.map_some, Option.getD_some, Int.toNat_natCast, Nat.zero_add]
 rw [need_pos (by omega), need_pos (by omega)]
noncomputable def fixG (g : G) : List Em := if (chkG g).2 = 0 then fixE g else []
theorem q_eRules (g : G) : F_empty_Rules ((g, ()), ()) = some ((chkG g).2, fixG g, ()) := by
 unfold F_empty_Rules
 simp only [toPb, q_checkG, bind_t]
 dsimp only [outE]
 by_cases h : (chkG g).2 = 0
 ·have hg := rg_of h
  have hn := hg.len
  have hF := fix_rg hg
  rw [npos h, q_gEmpt hg, bind_t]
  unfold fixG
  rw [if_pos h]
  refine loop_up (σ := (Int × Unit) × List EmptinessD × List EmptinessD × List (ByteArray × Int) × Unit) g.length (fun i => (((i : Int), ()), List.take i (fixE g), fixE g, nums g, ())) rfl ?_ ?_
  ·intro i hi
   have hbody : List.getD g i zRule = rth g i := rfl
   have htl : (List.take i (fixE g)).length = i := by rw [List.length_take, hF.1]; omega
   dsimp only
   simp only [Int.toNat_natCast, hbody]
   rw [pos (by omega), need_pos (by omega), em_name hg hF.1 hi, bind_t]
   dsimp only
   rw [htl, need_pos (by omega), need64 (by omega) (by omega), cast_succ, take_succD (d := zEmptiness) (by rw [hF.1]; exact hi)]
  ·dsimp only
   rw [neg (by omega), show List.take g.length (fixE g) = fixE g by rw [← hF.1]; exact List.take_length, h]
 ·rw [nneg h]
  unfold fixG
  rw [if_neg h]
theorem look_ok {g : G} {r : Int} (h : (chkG g).2 = 0) (h2 : ¬ (r < 0 ∨ r ≥ (g.length : Int))) : lookE g r = 0 := by
 unfold lookE
 rw [if_neg (by omega), if_neg h2]
end Go.Proofs

/-! Rounds that grow, and where they end, for any kind of knowledge; what holds of all parts. -/
namespace Go.Proofs
open Go Go.Abs
set_option linter.unusedSimpArgs false
theorem getD_set {α : Type} (l : List α) (k j : Nat) (v d : α) : List.getD (List.set l k v) j d = if k = j ∧ k < l.length then v else List.getD l j d := by
 rw [List.getD_eq_getElem?_getD, List.getD_eq_getElem?_getD, List.getElem?_set]
 by_cases h : k = j
 ·subst h
  by_cases h2 : k < l.length
  ·rw [if_pos rfl, if_pos h2, if_pos ⟨rfl, h2⟩]; rfl
  ·rw [if_pos rfl, if_neg h2, if_neg (fun h => h2 h.2), List.getElem?_eq_none (by omega)]
 ·rw [if_neg h, if_neg (fun h2 => h h2.1)]
theorem arity_cases {p : List NodeD} (hp : (chkP p).2 = 0) {k : Nat} (hk : k < p.length) : arity (nth p k).1 = 0 ∨ arity (nth p k).1 = 1 ∨ arity (nth p k).1 = 2 := by
 have h1 := (node_ok (look_of hp hk)).1
 have h2 := arity_le (nth p k).1
 omega
/-- What holds of the parts of two readings holds of the whole. -/
theorem gen_ind2 {β γ : Type} {z : β} {z' : γ} {f : NodeD → β → β → β} {f' : NodeD → γ → γ → γ} {p : List NodeD} (hp : (chkP p).2 = 0) (I : β → γ → Prop) (h0 : I z z') (h : ∀ k, k < p.length → ∀ a b a' b', I a a' → I b b' → I (f (nth p k) a b) (f' (nth p k) a' b')) : ∀ k, k < p.length → I (valOf z f p k) (valOf z' f' p k) := by
 intro k
 induction k using Nat.strongRecOn with
 | _ k ih =>
   intro hk
   rw [valOf_is z f p k, valOf_is z' f' p k]
   rcases arity_cases hp hk with h1 | h1 | h1
   ·refine h k hk _ _ _ _ ?_ ?_
    ·rw [(kid_zero _ _ h1 _).1, (kid_zero _ _ h1 _).1]; exact h0
    ·rw [(kid_zero _ _ h1 _).2, (kid_zero _ _ h1 _).2]; exact h0
   ·obtain ⟨m1, _⟩ := (ends_kids hp hk).2.1 h1
    refine h k hk _ _ _ _ ?_ ?_
    ·rw [kidA_one _ _ _ h1 m1, kidA_one _ _ _ h1 m1]
     exact ih _ (by omega) (by omega)
    ·unfold kidB
     rw [if_neg (by omega), if_neg (by omega)]
     exact h0
   ·obtain ⟨m1, m2, m3, _⟩ := (ends_kids hp hk).2.2 h1
    refine h k hk _ _ _ _ ?_ ?_
    ·rw [kidA_two _ _ _ h1 m2 m3, kidA_two _ _ _ h1 m2 m3]
     exact ih _ (by omega) (by omega)
    ·rw [kidB_two _ _ _ h1 m1, kidB_two _ _ _ h1 m1]
     exact ih _ (by omega) (by omega)
theorem gen_ind {β : Type} {z : β} {f : NodeD → β → β → β} {p : List NodeD} (hp : (chkP p).2 = 0) (I : β → Prop) (h0 : I z) (h : ∀ k, k < p.length → ∀ a b, I a → I b → I (f (nth p k) a b)) : ∀ k, k < p.length → I (valOf z f p k) :=
 gen_ind2 (z' := ()) (f' := fun _ _ _ => ()) hp (fun a _ => I a) h0 (fun k hk a b _ _ ha hb => h k hk a b ha hb)
theorem gone_lt {α : Type} {p : List α} {f : Nat → α} {i j : Nat} {d : α} (h : j < i) : List.getD (gone p f i) j d = f j := by
 unfold gone
 rw [List.getD_eq_getElem?_getD, List.getElem?_append_left (by rw [genR_len]; exact h), ← List.getD_eq_getElem?_getD, genR_get h]
theorem ends_parts {p : List NodeD} (hp : (chkP p).2 = 0) {k : Nat} (hk : k < p.length) : ∃ B Q : List Nat, endsI p k = B ++ Q ∧ endsI p (k + 1) = B ++ [k] ∧ castL Q = partsP p (k : Int) ∧ (Q.length : Int) = arity (nth p k).1 := by
 obtain ⟨h0, h1, h2⟩ := ends_kids hp hk
 refine ⟨endsI p (beginP p (k : Int)).toNat, ?_⟩
 rw [ends_succ hp hk]
 unfold partsP
 rcases arity_cases hp hk with h | h | h
 ·refine ⟨[], ?_, rfl, ?_, by rw [h]; rfl⟩
  ·rw [h0 h, Int.toNat_natCast, List.append_nil]
  ·rw [if_neg (by omega), if_neg (by omega)]; rfl
 ·obtain ⟨m1, m2⟩ := h1 h
  refine ⟨[k - 1], m2, rfl, ?_, by rw [h]; rfl⟩
  rw [if_pos h]
  simp [castL]; omega
 ·obtain ⟨m1, m2, m3, m4⟩ := h2 h
  refine ⟨_, m4, rfl, ?_, by rw [h]; rfl⟩
  rw [if_neg (by omega), if_pos h]
  simp [castL]; omega
section
variable {α : Type} (z : α) (n : Nat) (le : α → α → Prop) (ok : α → Prop) (rank : α → Nat) (R : Nat) (step : List α → Nat → α)
def OkX (l : List α) : Prop := l.length = n ∧ ∀ i, i < n → ok (List.getD l i z)
def LeX (l m : List α) : Prop := ∀ i, i < n → le (List.getD l i z) (List.getD m i z)
structure Fx : Prop where
 refl : ∀ a, le a a
 trans : ∀ a b c, le a b → le b c → le a c
 bot : ok z
 least : ∀ a, ok a → le z a
 rank_le : ∀ a, ok a → rank a ≤ R
 rank_mono : ∀ a b, ok a → ok b → le a b → rank a ≤ rank b ∧ (rank a = rank b → a = b)
 step_ok : ∀ l i, OkX z n ok l → i < n → ok (step l i)
 step_mono : ∀ l m i, OkX z n ok l → OkX z n ok m → LeX z n le l m → i < n → le (step l i) (step m i)
def roundX (l : List α) : List α := genR n (step l)
def itX : Nat → List α
 | 0 => List.replicate n z
 | k + 1 => roundX n step (itX k)
open Classical in
noncomputable def fixX : List α := if h : ∃ k, itX z n step (k + 1) = itX z n step k then itX z n step (Classical.choose h) else []
def rankX (l : List α) : Nat := sumTo (fun i => rank (List.getD l i z)) n
theorem zero_at {i : Nat} : List.getD (List.replicate n z) i z = z := by
 rw [List.getD_eq_getElem?_getD, List.getElem?_replicate]
 split <;> rfl
variable {z n le ok rank R step}
theorem Fx.anti (hF : Fx z n le ok rank R step) {a b : α} (ha : ok a) (hb : ok b) (h1 : le a b) (h2 : le b a) : a = b :=
 (hF.rank_mono a b ha hb h1).2 (Nat.le_antisymm (hF.rank_mono a b ha hb h1).1 (hF.rank_mono b a hb ha h2).1)
theorem Fx.round_ok (hF : Fx z n le ok rank R step) {l : List α} (h : OkX z n ok l) : OkX z n ok (roundX n step l) := ⟨genR_len, fun i hi => by unfold roundX; rw [genR_get hi]; exact hF.step_ok l i h hi⟩
theorem Fx.round_mono (hF : Fx z n le ok rank R step) {l m : List α} (h : OkX z n ok l) (h' : OkX z n ok m) (hl : LeX z n le l m) : LeX z n le (roundX n step l) (roundX n step m) := by
 intro i hi
 unfold roundX
 rw [genR_get hi, genR_get hi]
 exact hF.step_mono l m i h h' hl hi
theorem Fx.zero_ok (hF : Fx z n le ok rank R step) : OkX z n ok (List.replicate n z) := ⟨List.length_replicate, fun i _ => by rw [zero_at]; exact hF.bot⟩
theorem Fx.zero_le (hF : Fx z n le ok rank R step) {l : List α} (h : OkX z n ok l) : LeX z n le (List.replicate n z) l := fun i hi => by rw [zero_at]; exact hF.least _ (h.2 i hi)
theorem Fx.it_ok (hF : Fx z n le ok rank R step) : ∀ k, OkX z n ok (itX z n step k)
 | 0 => hF.zero_ok
 | k + 1 => hF.round_ok (hF.it_ok k)
theorem Fx.it_le (hF : Fx z n le ok rank R step) : ∀ k, LeX z n le (itX z n step k) (itX z n step (k + 1))
 | 0 => hF.zero_le (hF.it_ok 1)
 | k + 1 => hF.round_mono (hF.it_ok k) (hF.it_ok (k + 1)) (hF.it_le k)
theorem Fx.rank_lt (hF : Fx z n le ok rank R step) {l m : List α} (h : OkX z n ok l) (h' : OkX z n ok m) (hl : LeX z n le l m) : rankX z n rank l ≤ rankX z n rank m ∧ (m ≠ l → rankX z n rank l < rankX z n rank m) := by
 obtain ⟨h1, h2⟩ := sum_mono (f := fun i => rank (List.getD l i z)) (f' := fun i => rank (List.getD m i z)) (n := n) fun i hi => (hF.rank_mono _ _ (h.2 i hi) (h'.2 i hi) (hl i hi)).1
 refine ⟨h1, fun hne => Nat.lt_of_le_of_ne h1 fun e => hne ?_⟩
 exact getD_ext z h'.1 h.1 fun i hi => ((hF.rank_mono _ _ (h.2 i hi) (h'.2 i hi) (hl i hi)).2 (h2 e i hi)).symm
theorem Fx.rankX_le (hF : Fx z n le ok rank R step) {l : List α} (h : OkX z n ok l) : rankX z n rank l ≤ n * R := sum_le fun i hi => hF.rank_le _ (h.2 i hi)
theorem Fx.it_end (hF : Fx z n le ok rank R step) : ∃ k, itX z n step (k + 1) = itX z n step k := by
 refine Classical.byContradiction fun hno => ?_
 have key : ∀ k, k ≤ rankX z n rank (itX z n step k) := by
  intro k
  induction k with
  | zero => exact Nat.zero_le _
  | succ k ih =>
    have := (hF.rank_lt (hF.it_ok k) (hF.it_ok (k + 1)) (hF.it_le k)).2 fun e => hno ⟨k, e⟩
    omega
 have h1 := key (n * R + 1)
 have h2 := hF.rankX_le (hF.it_ok (n * R + 1))
 omega
theorem itX_stay {k : Nat} (h : itX z n step (k + 1) = itX z n step k) : ∀ m, itX z n step (k + m) = itX z n step k
 | 0 => rfl
 | m + 1 => by
   show roundX n step (itX z n step (k + m)) = _
   rw [itX_stay h m]
   exact h
theorem fixX_is {k : Nat} (h : itX z n step (k + 1) = itX z n step k) : fixX z n step = itX z n step k := by
 unfold fixX
 have hx : ∃ k, itX z n step (k + 1) = itX z n step k := ⟨k, h⟩
 rw [dif_pos hx]
 have h2 := Classical.choose_spec hx
 generalize Classical.choose hx = j at h2
 rcases Nat.le_total j k with hjk | hjk
 ·obtain ⟨d, rfl⟩ := Nat.exists_eq_add_of_le hjk
  exact (itX_stay h2 d).symm
 ·obtain ⟨d, rfl⟩ := Nat.exists_eq_add_of_le hjk
  exact itX_stay h d
theorem Fx.fix_ok (hF : Fx z n le ok rank R step) : OkX z n ok (fixX z n step) := by
 obtain ⟨k, h⟩ := hF.it_end
 rw [fixX_is h]
 exact hF.it_ok k
theorem Fx.fix_fix (hF : Fx z n le ok rank R step) : roundX n step (fixX z n step) = fixX z n step := by
 obtain ⟨k, h⟩ := hF.it_end
 rw [fixX_is h]
 exact h
theorem Fx.fix_at (hF : Fx z n le ok rank R step) {i : Nat} (hi : i < n) : step (fixX z n step) i = List.getD (fixX z n step) i z := by
 conv => rhs; rw [← hF.fix_fix]
 unfold roundX
 rw [genR_get hi]
theorem Fx.fix_ind (hF : Fx z n le ok rank R step) (I : List α → Prop) (h0 : I (List.replicate n z)) (h : ∀ l, OkX z n ok l → I l → I (roundX n step l)) : I (fixX z n step) := by
 obtain ⟨k, hk⟩ := hF.it_end
 rw [fixX_is hk]
 clear hk
 induction k with
 | zero => exact h0
 | succ k ih => exact h _ (hF.it_ok k) ih
/-- It is the least of all that stay. -/
theorem Fx.fix_least (hF : Fx z n le ok rank R step) {l : List α} (h : OkX z n ok l) (hl : ∀ i, i < n → le (step l i) (List.getD l i z)) : LeX z n le (fixX z n step) l := by
 refine hF.fix_ind (fun m => LeX z n le m l) (hF.zero_le h) fun m hm ih i hi => ?_
 unfold roundX
 rw [genR_get hi]
 exact hF.trans _ _ _ (hF.step_mono m l i hm h ih hi) (hl i hi)
/-- What is known on the way, one rule after the other. -/
structure Chaos (z : α) (n : Nat) (le : α → α → Prop) (ok : α → Prop) (step : List α → Nat → α) (l : List α) : Prop where
 ok : OkX z n ok l
 below : LeX z n le l (fixX z n step)
 grows : ∀ i, i < n → le (List.getD l i z) (step l i)
theorem Fx.chaos_zero (hF : Fx z n le ok rank R step) : Chaos z n le ok step (List.replicate n z) := ⟨hF.zero_ok, hF.zero_le hF.fix_ok, fun i hi => by rw [zero_at]; exact hF.least _ (hF.step_ok _ i hF.zero_ok hi)⟩
theorem setD_at {l : List α} {i j : Nat} {v : α} (hi : i < l.length) : List.getD (List.set l i v) j z = if i = j then v else List.getD l j z := by
 rw [getD_set]
 by_cases e : i = j
 ·rw [if_pos ⟨e, hi⟩, if_pos e]
 ·rw [if_neg (fun h => e h.1), if_neg e]
theorem Fx.chaos_set (hF : Fx z n le ok rank R step) {l : List α} (h : Chaos z n le ok step l) {i : Nat} (hi : i < n) : Chaos z n le ok step (List.set l i (step l i)) ∧ (step l i ≠ List.getD l i z → rankX z n rank l < rankX z n rank (List.set l i (step l i))) := by
 have hl := h.ok.1
 have hat : ∀ j, List.getD (List.set l i (step l i)) j z = if i = j then step l i else List.getD l j z := fun j => setD_at (by omega)
 have hok : OkX z n ok (List.set l i (step l i)) := ⟨by rw [List.length_set, hl], fun j hj => by
  rw [hat]
  split
  ·exact hF.step_ok l i h.ok hi
  ·exact h.ok.2 j hj⟩
 have hle : LeX z n le l (List.set l i (step l i)) := fun j hj => by
  rw [hat]
  split
  ·rename_i e; subst e; exact h.grows i hi
  ·exact hF.refl _
 refine ⟨⟨hok, fun j hj => ?_, fun j hj => ?_⟩, fun hne => ?_⟩
 ·rw [hat]
  split
  ·rename_i e
   subst e
   rw [← hF.fix_at hi]
   exact hF.step_mono _ _ i h.ok hF.fix_ok h.below hi
  ·exact h.below j hj
 ·rw [hat]
  split
  ·rename_i e
   subst e
   exact hF.step_mono _ _ i h.ok hok hle hi
  ·exact hF.trans _ _ _ (h.grows j hj) (hF.step_mono _ _ j h.ok hok hle hj)
 ·refine (hF.rank_lt h.ok hok hle).2 fun e => hne ?_
  rw [← hat i |>.trans (if_pos rfl), e]
theorem Fx.chaos_end (hF : Fx z n le ok rank R step) {l : List α} (h : Chaos z n le ok step l) (he : ∀ i, i < n → step l i = List.getD l i z) : l = fixX z n step := by
 have hge := hF.fix_least h.ok fun i hi => by rw [he i hi]; exact hF.refl _
 exact getD_ext z h.ok.1 hF.fix_ok.1 fun i hi => hF.anti (h.ok.2 i hi) (hF.fix_ok.2 i hi) (h.below i hi) (hge i hi)
end
end Go.Proofs
