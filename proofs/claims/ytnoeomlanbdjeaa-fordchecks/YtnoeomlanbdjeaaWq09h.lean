/- Part of the proof of the law's row: YtnoeomlanbdjeaaWq09h. -/
import Derived.Test.YtnoeomlanbdjeaaWq08e
set_option linter.all false
set_option linter.unusedVariables false
set_option linter.unusedSimpArgs false
/-! Chapter 8: what is reached. -/
namespace Go.Proofs
open Go Go.Abs
/-- A way of calls, of none or more. -/
inductive Rt (e : Nat → Nat → Prop) : Nat → Nat → Prop
 | refl (r : Nat) : Rt e r r
 | tail {r q p : Nat} : Rt e r q → e q p → Rt e r p
theorem Rt.trans {e : Nat → Nat → Prop} {a b c : Nat} (h1 : Rt e a b) (h2 : Rt e b c) : Rt e a c := by
 induction h2 with
 | refl => exact h1
 | tail _ h ih => exact Rt.tail ih h
theorem Rt.one {e : Nat → Nat → Prop} {a b : Nat} (h : e a b) : Rt e a b := Rt.tail (Rt.refl a) h
theorem Rt.lt {e : Nat → Nat → Prop} {n : Nat} (he : ∀ r q, e r q → q < n) {a b : Nat} (h : Rt e a b) (ha : a < n) : b < n := by
 cases h with
 | refl => exact ha
 | tail _ h => exact he _ _ h
theorem keys_len {n : Nat} {m : List (Int × Int)} (h1 : (keysM m).Nodup) (h2 : ∀ k ∈ keysM m, ∃ i : Nat, k = (i : Int) ∧ i < n) : m.length ≤ n := by
 have h3 := sortI_listP (n := n) (p := fun i => (i : Int) ∈ keysM m) h1 (fun k => ⟨fun h => by
  obtain ⟨i, e, hi⟩ := h2 k h
  exact ⟨i, e, hi, by rw [← e]; exact h⟩, fun ⟨i, e, _, h⟩ => by rw [e]; exact h⟩)
 have h4 := congrArg List.length h3
 rw [(sortI_perm _).length_eq] at h4
 have h5 := @listP_len n (fun i => (i : Int) ∈ keysM m)
 simp only [keysM, List.length_map] at h4 h5
 omega
/-- What is reached from a list. -/
def From (e : Nat → Nat → Prop) (fr : List Int) (i : Nat) : Prop := ∃ j : Nat, (j : Int) ∈ fr ∧ Rt e j i
structure InvR (n : Nat) (e : Nat → Nat → Prop) (fr : List Int) (l : Nat) (W : List Int) (m : List (Int × Int)) : Prop where
 le : l ≤ W.length
 sz : l ≤ fr.length + m.length * n
 work : ∀ k ∈ List.take l W, ∃ i : Nat, k = (i : Int) ∧ i < n ∧ From e fr i
 nodup : (keysM m).Nodup
 ones : ∀ y ∈ m, y.2 = 1
 seen : ∀ k ∈ keysM m, ∃ i : Nat, k = (i : Int) ∧ i < n ∧ From e fr i
 start : ∀ k ∈ fr, k ∈ keysM m ∨ k ∈ List.take l W
 next : ∀ r : Nat, r < n → (r : Int) ∈ keysM m → ∀ q, e r q → (q : Int) ∈ keysM m ∨ (q : Int) ∈ List.take l W
theorem InvR.end {n : Nat} {e : Nat → Nat → Prop} {fr W : List Int} {m : List (Int × Int)} (he : ∀ r q, e r q → q < n) (hf : ∀ k ∈ fr, ∃ i : Nat, k = (i : Int) ∧ i < n) (h : InvR n e fr 0 W m) : SetM n m (From e fr) := by
 refine ⟨h.nodup, h.ones, fun k => ⟨h.seen k, ?_⟩⟩
 rintro ⟨i, rfl, _, j, hj, hr⟩
 induction hr with
 | refl =>
   rcases h.start _ hj with h | h
   ·exact h
   ·simp at h
 | tail h1 h2 ih =>
   have hq : ∀ {a b : Nat}, Rt e a b → a < n → b < n := fun h h' => Rt.lt he h h'
   obtain ⟨j', e1, e2⟩ := hf _ hj
   have : j = j' := by omega
   subst this
   rcases h.next _ (hq h1 e2) (ih (hq h1 e2)) _ h2 with h | h
   ·exact h
   ·simp at h
end Go.Proofs

/-! Chapter 8: looked, Calls, Reach, groups, ready, Again. -/
namespace Go.Proofs
open Go Go.Abs
/-- A loop that asks the same of each. -/
theorem loop_all {σ ρ : Type} {B : σ → Option (σ ⊕ ρ)} (n : Nat) (st : Nat → σ) (P : Nat → Prop) {s0 : σ} {bad fin : ρ} (h0 : st 0 = s0) (step : ∀ i, i < n → B (st i) = some (if pb (P i) = true then .inl (st (i + 1)) else .inr bad)) (he : B (st n) = some (.inr fin)) : loopC B s0 = some (if pb (∀ i, i < n → P i) = true then fin else bad) := by
 subst h0
 have : ∀ d i, i + d = n → (∀ j, j < i → P j) → loopC B (st i) = some (if pb (∀ i, i < n → P i) = true then fin else bad) := by
  intro d
  induction d with
  | zero =>
    intro i hi hp
    have : i = n := by omega
    subst this
    rw [loopC_eq, he, if_pos (pb_t hp)]
  | succ d ih =>
    intro i hi hp
    rw [loopC_eq, step i (by omega)]
    by_cases h : P i
    ·rw [if_pos (pb_t h)]
     exact ih (i + 1) (by omega) fun j hj => by
      by_cases hj2 : j = i
      ·subst hj2; exact h
      ·exact hp j (by omega)
    ·rw [if_neg (by rw [pb_f h]; simp), if_neg (by rw [pb_f (fun c => h (c i (by omega)))]; simp)]
 exact this n 0 (by omega) (fun j hj => by omega)
theorem pb_congr {p q : Prop} (h : p ↔ q) : pb p = pb q := by rw [propext h]
theorem getD_in {α : Type} {l : List α} {k : Nat} {d : α} (h : k < l.length) : List.getD l k d ∈ l := by
 rw [List.getD_eq_getElem?_getD, List.getElem?_eq_getElem h]
 exact List.getElem_mem h
/-! ### Looked, Calls, Reach -/
noncomputable def lookE (g : G) (r : Int) : Int := if (chkG g).2 ≠ 0 then (chkG g).2 else if r < 0 ∨ r ≥ (g.length : Int) then 1 else 0
/-! ### Groups -/
/-- Each comes to the other. -/
def Mut (e : Nat → Nat → Prop) (r q : Nat) : Prop := Rt e r q ∧ Rt e q r
theorem Mut.refl {e : Nat → Nat → Prop} (r : Nat) : Mut e r r := ⟨Rt.refl r, Rt.refl r⟩
theorem Mut.symm {e : Nat → Nat → Prop} {r q : Nat} (h : Mut e r q) : Mut e q r := ⟨h.2, h.1⟩
theorem Mut.trans {e : Nat → Nat → Prop} {r q p : Nat} (h : Mut e r q) (h2 : Mut e q p) : Mut e r p := ⟨h.1.trans h2.1, h2.2.trans h.2⟩
theorem least {P : Nat → Prop} (h : ∃ x, P x) : ∃ v, P v ∧ ∀ k, P k → v ≤ k := by
 obtain ⟨x, hx⟩ := h
 induction x using Nat.strongRecOn with
 | _ x ih =>
   by_cases h2 : ∃ y, y < x ∧ P y
   ·obtain ⟨y, h3, h4⟩ := h2
    exact ih y h3 h4
   ·exact ⟨x, hx, fun k hk => Nat.le_of_not_lt fun hlt => h2 ⟨k, hlt, hk⟩⟩
noncomputable def lead (e : Nat → Nat → Prop) (r : Nat) : Nat := Classical.choose (least ⟨r, Mut.refl (e := e) r⟩)
theorem set_at {α : Type} {l : List α} {i : Nat} {v d : α} (h : i < l.length) : List.getD (List.set l i v) i d = v := by
 rw [List.getD_eq_getElem?_getD, List.getElem?_set_self h]
 rfl
end Go.Proofs

/-! Chapter 8: ready, Groups, Again. -/
namespace Go.Proofs
open Go Go.Abs
def Ready (n : Nat) (e : Nat → Nat → Prop) (told : Nat → Prop) (l : Nat) : Prop := ∀ r, r < n → lead e r = l → ∀ q, e r q → lead e q = l ∨ told (lead e q)
/-! ### Groups -/
/-- Leaders in an order in which each is ready when told. -/
inductive OrdL (n : Nat) (e : Nat → Nat → Prop) : List Nat → Prop
 | nil : OrdL n e []
 | snoc {L : List Nat} {l : Nat} : OrdL n e L → l < n → lead e l = l → l ∉ L → Ready n e (· ∈ L) l → OrdL n e (L ++ [l])
theorem OrdL.lead {n : Nat} {e : Nat → Nat → Prop} {L : List Nat} (h : OrdL n e L) : ∀ l ∈ L, l < n ∧ lead e l = l := by
 induction h with
 | nil => simp
 | snoc _ h1 h2 _ _ ih =>
   intro l hl
   rcases List.mem_append.1 hl with h | h
   ·exact ih l h
   ·simp only [List.mem_singleton] at h; subst h; exact ⟨h1, h2⟩
theorem OrdL.nodup {n : Nat} {e : Nat → Nat → Prop} {L : List Nat} (h : OrdL n e L) : L.Nodup := by
 induction h with
 | nil => simp
 | snoc _ _ _ h3 _ ih =>
   rw [List.nodup_append]
   exact ⟨ih, by simp, fun a ha b hb => by simp only [List.mem_singleton] at hb; subst hb; exact fun c => h3 (c ▸ ha)⟩
theorem nodup_len {n : Nat} {L : List Nat} (h : L.Nodup) (h2 : ∀ l ∈ L, l < n) : L.length ≤ n := by
 have := keys_len (n := n) (m := L.map fun (l : Nat) => ((l : Int), (0 : Int))) (by
  unfold keysM
  rw [List.map_map]
  exact List.Pairwise.map _ (fun a b hab => by simp only [Function.comp]; omega) h) (fun k hk => by
  unfold keysM at hk
  rw [List.map_map] at hk
  obtain ⟨l, hl, e⟩ := List.mem_map.1 hk
  exact ⟨l, e.symm, h2 l hl⟩)
 simpa using this
noncomputable def toldG (n : Nat) (L : List Nat) : List Bool := genR n fun r => pb (r ∈ L)
theorem toldG_len {n : Nat} {L : List Nat} : (toldG n L).length = n := genR_len
theorem toldG_at {n : Nat} {L : List Nat} {r : Nat} (h : r < n) : List.getD (toldG n L) r false = pb (r ∈ L) := genR_get h
theorem toldG_set {n : Nat} {L : List Nat} {l : Nat} : List.set (toldG n L) l true = toldG n (L ++ [l]) := by
 unfold toldG genR
 apply List.ext_getElem
 ·simp
 ·intro i h1 h2
  rw [List.getElem_set]
  simp only [List.getElem_map, List.getElem_range]
  split
  ·rename_i h; subst h; exact (pb_t (by simp)).symm
  ·rename_i h
   apply pb_congr
   simp only [List.mem_append, List.mem_singleton]
   exact ⟨Or.inl, fun h3 => by rcases h3 with h3 | h3; exact h3; exact absurd h3.symm h⟩
/-! ### Again -/
def Ag (e : Nat → Nat → Prop) (r : Nat) : Prop := ∃ q, e r q ∧ Rt e q r
end Go.Proofs

/-! Chapter 9: which rules come to themselves. -/
namespace Go.Proofs
open Go Go.Abs
set_option linter.unusedSimpArgs false
/-- The calls of a rule, each as often as it stands. -/
def callL (g : G) (body : List NodeD) : Nat → List Int
 | 0 => []
 | k + 1 => if (List.getD body k zNode).1 = 6 then callL g body k ++ [idxN g (List.getD body k zNode)] else callL g body k
theorem callL_len {g : G} {body : List NodeD} : ∀ k, (callL g body k).length ≤ k
 | 0 => Nat.le_refl _
 | k + 1 => by
   have := callL_len (g := g) (body := body) k
   unfold callL
   split
   ·simp; omega
   ·omega
theorem callL_mem {g : G} {body : List NodeD} {x : Int} : ∀ k, x ∈ callL g body k ↔ ∃ i, i < k ∧ (List.getD body i zNode).1 = 6 ∧ x = idxN g (List.getD body i zNode)
 | 0 => by simp [callL]
 | k + 1 => by
   have ih := callL_mem (g := g) (body := body) (x := x) k
   unfold callL
   split
   ·rename_i h
    rw [List.mem_append, ih, List.mem_singleton]
    constructor
    ·rintro (⟨i, h1, h2⟩ | h1)
     ·exact ⟨i, by omega, h2⟩
     ·exact ⟨k, by omega, h, h1⟩
    ·rintro ⟨i, h1, h2, h3⟩
     by_cases e : i = k
     ·subst e; exact .inr h3
     ·exact .inl ⟨i, by omega, h2, h3⟩
   ·rename_i h
    rw [ih]
    constructor
    ·rintro ⟨i, h1, h2⟩; exact ⟨i, by omega, h2⟩
    ·rintro ⟨i, h1, h2, h3⟩
     by_cases e : i = k
     ·subst e; exact absurd h2 h
     ·exact ⟨i, by omega, h2, h3⟩
def rowL (g : G) (r : Nat) : List Int := callL g (rth g r).2.1 (rth g r).2.1.length
theorem rowL_mem {g : G} (hg : RG g) {r : Nat} (hr : r < g.length) (x : Int) : x ∈ rowL g r ↔ ∃ i : Nat, x = (i : Int) ∧ E g r i := by
 have h1 : x ∈ rowL g r ↔ x ∈ keysM (callM g (rth g r).2.1 (rth g r).2.1.length) := by
  unfold rowL
  rw [callL_mem, callM_mem]
 rw [h1, E_row hg hr]
 exact ⟨fun ⟨i, a, _, b⟩ => ⟨i, a, b⟩, fun ⟨i, a, b⟩ => ⟨i, a, E_lt b, b⟩⟩
theorem rowL_len {g : G} (hg : RG g) {r : Nat} (hr : r < g.length) : (rowL g r).length ≤ 2048 := by
 have h1 := callL_len (g := g) (body := (rth g r).2.1) (rth g r).2.1.length
 have h2 := good_len (hg.good r hr)
 unfold rowL
 omega
structure InvA (n : Nat) (e : Nat → Nat → Prop) (i : Nat) (L : List Nat) (W : List Int) : Prop where
 nd : L.Nodup
 lt : ∀ l ∈ L, l < n
 len : W.length ≤ (L.length + 1) * 2048
 work : ∀ x ∈ W, ∃ q : Nat, x = (q : Int) ∧ q < n ∧ ∃ p, e i p ∧ Rt e p q
 seen : ∀ l ∈ L, ∃ p, e i p ∧ Rt e p l
 start : ∀ q, e i q → q ∈ L ∨ (q : Int) ∈ W
 next : ∀ l ∈ L, ∀ q, e l q → q ∈ L ∨ (q : Int) ∈ W
theorem InvA.end {n : Nat} {e : Nat → Nat → Prop} {i : Nat} {L : List Nat} (h : InvA n e i L []) : i ∈ L ↔ Ag e i := by
 refine ⟨h.seen i, ?_⟩
 rintro ⟨q, h1, h2⟩
 have key : ∀ j, Rt e q j → j ∈ L := by
  intro j hj
  induction hj with
  | refl => rcases h.start _ h1 with h | h; exact h; simp at h
  | tail a b ih => rcases h.next _ ih _ b with h | h; exact h; simp at h
 exact key i h2
theorem q_gagain {g : G} (hg : RG g) : F_gist_again ((g, ()), nums g, ()) = some (genR g.length (fun r => pb (Ag (E g) r)), ()) := by
 have hn := hg.len
 unfold F_gist_again
 simp only [toPb]
 rw [need_pos (by omega)]
 have hP : (List.replicate g.length ([] : List Int)).length = g.length := List.length_replicate
 have hall : gone (List.replicate g.length ([] : List Int)) (rowL g) g.length = genR g.length (rowL g) := by
  have := @gone_all _ (List.replicate g.length ([] : List Int)) (rowL g)
  rwa [hP] at this
 have hQ : (List.replicate g.length false).length = g.length := List.length_replicate
 have hallQ : gone (List.replicate g.length false) (fun r => pb (Ag (E g) r)) g.length = genR g.length (fun r => pb (Ag (E g) r)) := by
  have := @gone_all _ (List.replicate g.length false) (fun r => pb (Ag (E g) r))
  rwa [hQ] at this
 refine loop_up (σ := (Int × Unit) × List (List Int) × GrammarD × Unit) g.length (fun i => (((i : Int), ()), gone (List.replicate g.length []) (rowL g) i, (g, ()), ())) rfl ?_ ?_
 ·intro i hi
  have hb := good_len (hg.good i hi)
  have hGl : (gone (List.replicate g.length ([] : List Int)) (rowL g) i).length = g.length := by rw [gone_len (by omega), hP]
  have hG0 : List.getD (gone (List.replicate g.length ([] : List Int)) (rowL g) i) i [] = [] := by
   rw [gone_at, List.getD_eq_getElem?_getD, List.getElem?_replicate, if_pos hi]; rfl
  dsimp only
  rw [pos (by omega), need_pos (by omega)]
  simp only [Int.toNat_natCast, Nat.zero_add]
  have hbody : List.getD g i zRule = rth g i := rfl
  rw [hbody]
  refine loop_up (σ := (Int × Unit) × List (List Int) × GrammarD × Unit) (rth g i).2.1.length (fun k => (((k : Int), ()), List.set (gone (List.replicate g.length []) (rowL g) i) i (callL g (rth g i).2.1 k), (g, ()), ())) ?_ ?_ ?_
  ·have : List.set (gone (List.replicate g.length ([] : List Int)) (rowL g) i) i (callL g (rth g i).2.1 0) = gone (List.replicate g.length []) (rowL g) i := by
    have e : callL g (rth g i).2.1 0 = List.getD (gone (List.replicate g.length ([] : List Int)) (rowL g) i) i [] := by rw [hG0]; rfl
    rw [e]
    apply List.ext_getElem
    ·simp
    ·intro j h1 h2
     rw [List.getElem_set]
     split
     ·rename_i hj; subst hj; rw [List.getD_eq_getElem?_getD, List.getElem?_eq_getElem h2]; rfl
     ·rfl
   simp only [this]
   rfl
  ·intro k hk
   have hcl := callL_len (g := g) (body := (rth g i).2.1) k
   dsimp only
   simp only [Int.toNat_natCast, List.length_set, hGl]
   rw [pos (by omega), need_pos (by omega)]
   by_cases h6 : (List.getD (rth g i).2.1 k zNode).1 = 6
   ·have e1 : callL g (rth g i).2.1 (k + 1) = callL g (rth g i).2.1 k ++ [Option.getD (mfind eqS (nums g) (List.getD (rth g i).2.1 k zNode).2.2.1) 0] := by
     conv => lhs; unfold callL
     rw [if_pos h6]
     rfl
    rw [pos h6, need_pos (by omega), need_pos (by omega), set_at (by omega), e1, need_pos (by omega), need_pos (by omega), need_pos ⟨hi, trivial⟩, need64 (by omega) (by omega), List.set_set, List.set_set, cast_succ]
   ·rw [neg h6, need64 (by omega) (by omega)]
    have e1 : callL g (rth g i).2.1 (k + 1) = callL g (rth g i).2.1 k := by
     conv => lhs; unfold callL
     rw [if_neg h6]
    rw [e1, cast_succ]
  ·dsimp only
   rw [neg (by omega), need64 (by omega) (by omega), bind_t]
   show some (Sum.inr (Sum.inl ((((i : Int) + 1, ()), List.set (gone (List.replicate g.length []) (rowL g) i) i (rowL g i), (g, ()), ())))) = _
   rw [gone_set (by omega)]
   rfl
 ·dsimp only
  rw [neg (by omega), hall]
  simp only [Int.toNat_natCast]
  rw [need_pos (by omega)]
  have hCl : (genR g.length (rowL g)).length = g.length := genR_len
  refine (congrArg (fun o => Option.bind o (fun val1 => some (Sum.inr val1))) (a₂ := some (genR g.length (fun r => pb (Ag (E g) r)), ())) ?_).trans ?_
  ·refine loop_up (σ := (Int × Unit) × List (List Int) × List Bool × GrammarD × Unit) g.length (fun i => (((i : Int), ()), genR g.length (rowL g), gone (List.replicate g.length false) (fun r => pb (Ag (E g) r)) i, (g, ()), ())) rfl ?_ ?_
   ·intro i hi
    have hOl : (gone (List.replicate g.length false) (fun r => pb (Ag (E g) r)) i).length = g.length := by rw [gone_len (by omega), hQ]
    dsimp only
    simp only [Int.toNat_natCast, Nat.zero_add, hCl]
    rw [pos (by omega), need_pos (by omega), need_pos (by omega), need_pos (by omega), genR_get hi]
    have e0 : List.replicate g.length false = toldG g.length [] := by
     unfold toldG genR
     apply List.ext_getElem
     ·simp
     ·intro j h1 h2
      simp only [List.getElem_map, List.getElem_replicate]
      exact (pb_f (by simp)).symm
    refine loopC_gh (γ := List Nat × List Int) (σ := (List Int × Unit) × List (List Int) × List Bool × List Bool × GrammarD × Unit) (I := fun γ s => InvA g.length (E g) i γ.1 γ.2 ∧ s = ((γ.2, ()), genR g.length (rowL g), toldG g.length γ.1, gone (List.replicate g.length false) (fun r => pb (Ag (E g) r)) i, (g, ()), ())) (μ := fun γ => (g.length - γ.1.length) * 2049 + γ.2.length) (F := fun _ => Sum.inl ((((i + 1 : Nat) : Int), ()), genR g.length (rowL g), gone (List.replicate g.length false) (fun r => pb (Ag (E g) r)) (i + 1), (g, ()), ())) ?_ ([], rowL g i) _ ⟨⟨List.nodup_nil, by simp, by have := rowL_len hg hi; simp; omega, ?_, by simp, ?_, by simp⟩, by rw [← e0]⟩
    ·rintro ⟨L, W⟩ s ⟨hI, rfl⟩
     dsimp only at hI ⊢
     have hLn := nodup_len hI.nd hI.lt
     have hWl := hI.len
     simp only [Int.toNat_natCast, Nat.zero_add, toldG_len, hCl, hOl, toldG_at hi]
     have hc : sel (pb ((W.length : Int) > 0)) (need (0 ≤ (i : Int) ∧ (i : Int) < (g.length : Int)) (need (i < g.length) (some (!pb (i ∈ L))))) (some false) = some (pb (W ≠ [] ∧ i ∉ L)) := by
      by_cases hW : W = []
      ·subst hW
       rw [neg (by simp), pb_f (by simp)]
      ·have hl := List.length_pos_iff.2 hW
       rw [pos (by omega), need_pos (by omega), need_pos hi]
       by_cases hs : i ∈ L
       ·rw [pb_t hs, pb_f (by simp [hs])]; rfl
       ·rw [pb_f hs, pb_t ⟨hW, hs⟩]; rfl
     rw [hc, bind_t]
     by_cases hgo : W ≠ [] ∧ i ∉ L
     ·rw [pos hgo]
      obtain ⟨hW, hs⟩ := hgo
      obtain ⟨V, x, rfl⟩ : ∃ V x, W = V ++ [x] := ⟨W.dropLast, W.getLast hW, (List.dropLast_concat_getLast hW).symm⟩
      obtain ⟨q, rfl, hq, hpq⟩ := hI.work x (by simp)
      have el : (V ++ [(q : Int)]).length = V.length + 1 := by simp
      have en : ((V.length + 1 : Nat) : Int) - 1 = (V.length : Int) := by omega
      have eg : List.getD (V ++ [(q : Int)]) V.length 0 = (q : Int) := by rw [List.getD_eq_getElem?_getD, List.getElem?_concat_length]; rfl
      have et : List.take V.length (V ++ [(q : Int)]) = V := List.take_left' rfl
      rw [el] at hWl
      simp only [el, en, Int.toNat_natCast, eg, et, toldG_at hq, genR_get hq]
      rw [need64 (by omega) (by omega), need_pos (by omega), need64 (by omega) (by omega), need64 (by omega) (by omega), need_pos ⟨by omega, trivial, by omega, by omega⟩, need_pos (by omega), need_pos hq]
      have hrl := rowL_len hg hq
      by_cases hqL : q ∈ L
      ·refine .inl ⟨(L, V), _, ?_, ⟨⟨hI.nd, hI.lt, by show V.length ≤ (L.length + 1) * 2048; omega, fun x hx => hI.work x (by simp [hx]), hI.seen, ?_, ?_⟩, rfl⟩, ?_, trivial⟩
       ·rw [npos hqL]
       ·intro p hp
        rcases hI.start p hp with h | h
        ·exact .inl h
        ·rcases List.mem_append.1 h with h | h
         ·exact .inr h
         ·have : p = q := by rw [List.mem_singleton] at h; omega
          exact .inl (this ▸ hqL)
       ·intro l hl p hp
        rcases hI.next l hl p hp with h | h
        ·exact .inl h
        ·rcases List.mem_append.1 h with h | h
         ·exact .inr h
         ·have : p = q := by rw [List.mem_singleton] at h; omega
          exact .inl (this ▸ hqL)
       ·show (g.length - L.length) * 2049 + V.length < (g.length - L.length) * 2049 + (V.length + 1)
        omega
      ·have hnd : (L ++ [q]).Nodup := by
        rw [List.nodup_append]
        exact ⟨hI.nd, by simp, fun a ha b hb => by rw [List.mem_singleton] at hb; subst hb; rintro rfl; exact hqL ha⟩
       have hlt : ∀ l ∈ L ++ [q], l < g.length := by
        intro l hl
        rcases List.mem_append.1 hl with h | h
        ·exact hI.lt l h
        ·rw [List.mem_singleton] at h; omega
       have hLn2 := nodup_len hnd hlt
       rw [List.length_append, List.length_singleton] at hLn2
       refine .inl ⟨(L ++ [q], V ++ rowL g q), _, ?_, ⟨⟨hnd, hlt, ?_, ?_, ?_, ?_, ?_⟩, rfl⟩, ?_, trivial⟩
       ·rw [nneg hqL, need_pos (by omega), need_pos hq, need_pos (by omega), need_pos hq, need_pos (by omega), toldG_set]
       ·show (V ++ rowL g q).length ≤ ((L ++ [q]).length + 1) * 2048
        simp only [List.length_append, List.length_singleton]
        omega
       ·intro x hx
        rcases List.mem_append.1 hx with h | h
        ·exact hI.work x (by simp [h])
        ·obtain ⟨m, rfl, hm⟩ := (rowL_mem hg hq x).1 h
         obtain ⟨p, p1, p2⟩ := hpq
         exact ⟨m, rfl, E_lt hm, p, p1, Rt.tail p2 hm⟩
       ·intro l hl
        rcases List.mem_append.1 hl with h | h
        ·exact hI.seen l h
        ·rw [List.mem_singleton] at h; exact h ▸ hpq
       ·intro p hp
        rcases hI.start p hp with h | h
        ·exact .inl (by simp [h])
        ·rcases List.mem_append.1 h with h | h
         ·exact .inr (by simp [h])
         ·have : p = q := by rw [List.mem_singleton] at h; omega
          exact .inl (by simp [this])
       ·intro l hl p hp
        rcases List.mem_append.1 hl with hl | hl
        ·rcases hI.next l hl p hp with h | h
         ·exact .inl (by simp [h])
         ·rcases List.mem_append.1 h with h | h
          ·exact .inr (by simp [h])
          ·have : p = q := by rw [List.mem_singleton] at h; omega
           exact .inl (by simp [this])
        ·rw [List.mem_singleton] at hl
         subst hl
         exact .inr (List.mem_append.2 (.inr ((rowL_mem hg hq _).2 ⟨p, rfl, hp⟩)))
       ·show (g.length - (L ++ [q]).length) * 2049 + (V ++ rowL g q).length < (g.length - L.length) * 2049 + (V.length + 1)
        simp only [List.length_append, List.length_singleton]
        omega
     ·refine .inr ?_
      rw [neg hgo, need_pos (by omega), need_pos hi, need_pos (by omega), need_pos (by omega), need64 (by omega) (by omega), bind_t]
      have hag : i ∈ L ↔ Ag (E g) i := by
       by_cases hs : i ∈ L
       ·exact ⟨fun _ => hI.seen i hs, fun _ => hs⟩
       ·have hW : W = [] := Classical.byContradiction fun h => hgo ⟨h, hs⟩
        subst hW
        exact hI.end
      rw [pb_congr hag, ← gone_set (f := fun r => pb (Ag (E g) r)) (by omega), cast_succ]
    ·intro x hx
     obtain ⟨q, rfl, h⟩ := (rowL_mem hg hi x).1 hx
     exact ⟨q, rfl, E_lt h, q, h, Rt.refl q⟩
    ·intro q h
     exact .inr ((rowL_mem hg hi _).2 ⟨q, rfl, h⟩)
   ·dsimp only
    rw [neg (by omega), hallQ]
  ·rfl
end Go.Proofs

/-! Chapter 9: which rules come to themselves, by the book. -/
namespace Go.Proofs
open Go Go.Abs
set_option linter.unusedSimpArgs false
structure InvL (n : Nat) (e : Nat → Nat → Prop) (i k : Nat) (L : List Nat) : Prop where
 nd : L.Nodup
 lt : ∀ l ∈ L, l < n
 no : i ∉ L
 seen : ∀ l ∈ L, ∃ p, e i p ∧ Rt e p l
 cl : ∀ l ∈ List.take k (i :: L), ∀ q, e l q → q ∈ L
def castL (l : List Nat) : List Int := l.map fun x : Nat => (x : Int)
theorem castL_len (l : List Nat) : (castL l).length = l.length := List.length_map ..
theorem castL_at {l : List Nat} {k : Nat} (h : k < l.length) : List.getD (castL l) k 0 = (List.getD l k 0 : Nat) := by
 unfold castL
 rw [List.getD_eq_getElem?_getD, List.getD_eq_getElem?_getD, List.getElem?_map, List.getElem?_eq_getElem h]
 rfl
theorem InvL.end {n : Nat} {e : Nat → Nat → Prop} {i k : Nat} {L : List Nat} (h : InvL n e i k L) (hk : L.length < k) : ¬ Ag e i := by
 rintro ⟨q, h1, h2⟩
 have ht : List.take k (i :: L) = i :: L := List.take_of_length_le (by simp; omega)
 have cl := h.cl
 rw [ht] at cl
 have key : ∀ j, Rt e q j → j ∈ L := by
  intro j hj
  induction hj with
  | refl => exact cl i (by simp) _ h1
  | tail a b ih => exact cl _ (by simp [ih]) _ b
 exact h.no (key i h2)
theorem or_of {σ ρ γ : Type} {X : Option (σ ⊕ ρ)} {A : ρ} {P : γ → σ → Prop} (Q : (σ ⊕ ρ) → Prop) (h : ∃ r, X = some r ∧ Q r) (h2 : ∀ r, Q r → (∃ g' s', r = .inl s' ∧ P g' s') ∨ r = .inr A) : (∃ g' s', X = some (.inl s') ∧ P g' s') ∨ X = some (.inr A) := by
 obtain ⟨r, rfl, hr⟩ := h
 rcases h2 r hr with ⟨g', s', rfl, hp⟩ | rfl
 ·exact .inl ⟨g', s', rfl, hp⟩
 ·exact .inr rfl
end Go.Proofs
