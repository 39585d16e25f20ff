/- Part of the proof of the law's row: YtnoeomlanbdjeaaWq08h. -/
import Derived.Test.YtnoeomlanbdjeaaWq09e
set_option linter.all false
set_option linter.unusedVariables false
set_option linter.unusedSimpArgs false
/-! Chapter 9: the book's parts. -/
namespace Go.Proofs
open Go Go.Abs
set_option linter.unusedSimpArgs false
/-- What the rule called by a node is known by. -/
def callE (g : G) (rules : List Em) (n : NodeD) : Em := List.getD rules ((findR g n.2.2.1).getD 0) zEmptiness
theorem q_gnums {g : G} (hg : RG g) : F_gist_Numbers ((g, ()), ()) = some (nums g, ()) := by
  have hn := hg.len
  unfold F_gist_Numbers
  simp only [toPb]
  refine loop_up (σ := (Int × Unit) × List (ByteArray × Int) × Unit) (ρ := List (ByteArray × Int) × Unit) g.length (fun i => (((i : Int), ()), numsF g i, ())) (s0 := (((0 : Int), ()), [], ())) rfl ?_ ?_
  · intro i hi
    have hf : mfind eqS (numsF g i) (List.getD g i zRule).1 = none := by
      rw [numsF_find (by omega)]
      have h2 := (hg.good i hi).2.1
      cases hf : findF (List.getD g i zRule).1 (List.take i g) 0 with
      | none => rfl
      | some k =>
        exfalso
        apply h2
        have key : ∀ s, findF s (List.take i g) 0 = some k → findR g s = some k := fun s hs => by
          unfold findR
          conv => lhs; rw [← List.take_append_drop i g]
          rw [findF_append, hs]
        have e : findR g (rth g i).1 = some k := key _ hf
        obtain ⟨_, k2, _⟩ := findF_some hf
        rw [List.length_take] at k2
        unfold numR
        rw [e]
        show (k : Int) < (i : Int)
        omega
    dsimp only
    rw [pos (by omega), need_pos (by omega), need64 (by omega) (by omega), Int.toNat_natCast, mput_new hf, ← cast_succ]
    simp only [numsF, hf, if_true]
  · dsimp only
    rw [neg (by omega)]
    rfl
theorem callAt {g : G} {now : List Em} {n : NodeD} {q : Nat} (hl : now.length = g.length) (h : findR g n.2.2.1 = some q) : CallAt (nums g) now (callE g now) n :=
  ⟨q, by rw [nums_find, h]; rfl, by rw [hl]; exact (findR_at h).1, by unfold callE; rw [h]; rfl⟩
end Go.Proofs

/-! Chapter 8: maps of numbers; the graph of a right grammar; what is reached. -/
namespace Go.Proofs
open Go Go.Abs
/-! ### Maps of numbers -/
def keysM (m : List (Int × Int)) : List Int := m.map fun y => y.1
theorem mem_put {x v k : Int} : ∀ {m : List (Int × Int)}, k ∈ keysM (mput eqI m x v) ↔ k = x ∨ k ∈ keysM m
  | [] => by simp [mput, keysM]
  | (a, u) :: m => by
    unfold mput
    by_cases h : eqI x a = true
    · rw [if_pos h]
      have := eqI_iff.1 h
      subst this
      simp [keysM]
    · rw [if_neg h]
      show k ∈ a :: keysM (mput eqI m x v) ↔ k = x ∨ k ∈ a :: keysM m
      rw [List.mem_cons, List.mem_cons, mem_put]
      exact ⟨fun h => by rcases h with h | h | h <;> simp [h], fun h => by rcases h with h | h | h <;> simp [h]⟩
theorem find_val {k : Int} : ∀ {m : List (Int × Int)} {v : Int}, mfind eqI m k = some v → (k, v) ∈ m
  | (a, u) :: m, v, h => by
    unfold mfind at h
    split at h
    · rename_i h1
      have h1 := eqI_iff.1 h1
      subst h1
      cases h
      exact List.mem_cons_self
    · exact List.mem_cons_of_mem _ (find_val h)
theorem find_no {k : Int} : ∀ {m : List (Int × Int)}, mfind eqI m k = none → k ∉ keysM m
  | [], _ => by simp [keysM]
  | (a, u) :: m, h => by
    unfold mfind at h
    split at h
    · cases h
    · rename_i h1
      show k ∉ a :: keysM m
      rw [List.mem_cons]
      rintro (h2 | h2)
      · exact h1 (eqI_iff.2 h2)
      · exact find_no h h2
/-- A map that is used as a set. -/
structure SetM (n : Nat) (m : List (Int × Int)) (p : Nat → Prop) : Prop where
  nodup : (keysM m).Nodup
  ones : ∀ y ∈ m, y.2 = 1
  mem : ∀ k, k ∈ keysM m ↔ ∃ i : Nat, k = (i : Int) ∧ i < n ∧ p i
theorem SetM.len {n : Nat} {m : List (Int × Int)} {p : Nat → Prop} (h : SetM n m p) : m.length ≤ n := by
  have h1 := sortI_listP h.nodup h.mem
  have h2 := congrArg List.length h1
  rw [(sortI_perm _).length_eq] at h2
  have h3 := @listP_len n p
  simp only [keysM, List.length_map] at h2
  omega
theorem SetM.at {n : Nat} {m : List (Int × Int)} {p : Nat → Prop} (h : SetM n m p) (k : Nat) (hk : k < n) : Option.getD (mfind eqI m (k : Int)) (0 : Int) = if pb (p k) then 1 else 0 := by
  cases hf : mfind eqI m (k : Int) with
  | none =>
    have h1 := find_no hf
    rw [h.mem] at h1
    rw [pb_f (fun hp => h1 ⟨k, rfl, hk, hp⟩)]
    rfl
  | some v =>
    have h1 := find_val hf
    have h2 : (k : Int) ∈ keysM m := List.mem_map.2 ⟨_, h1, rfl⟩
    obtain ⟨i, h3, h4, h5⟩ := (h.mem _).1 h2
    have : k = i := by omega
    subst this
    rw [pb_t h5]
    exact h.ones _ h1
/-! ### The graph -/
def idxN (g : G) (x : NodeD) : Int := Option.getD (mfind eqS (nums g) x.2.2.1) 0
def callM (g : G) (body : List NodeD) : Nat → List (Int × Int)
  | 0 => []
  | k + 1 => if (List.getD body k zNode).1 = 6 then mput eqI (callM g body k) (idxN g (List.getD body k zNode)) (Option.getD (mfind eqI (callM g body k) (idxN g (List.getD body k zNode))) 0 + 1) else callM g body k
theorem callM_mem {g : G} {body : List NodeD} {x : Int} : ∀ k, x ∈ keysM (callM g body k) ↔ ∃ i, i < k ∧ (List.getD body i zNode).1 = 6 ∧ x = idxN g (List.getD body i zNode)
  | 0 => by simp [callM, keysM]
  | k + 1 => by
    unfold callM
    split
    · rename_i h6
      rw [mem_put, callM_mem k]
      constructor
      · rintro (h | ⟨i, h1, h2⟩)
        · exact ⟨k, by omega, h6, h⟩
        · exact ⟨i, by omega, h2⟩
      · rintro ⟨i, h1, h2, h3⟩
        by_cases hi : i = k
        · subst hi; exact Or.inl h3
        · exact Or.inr ⟨i, by omega, h2, h3⟩
    · rename_i h6
      rw [callM_mem k]
      constructor
      · rintro ⟨i, h1, h2⟩; exact ⟨i, by omega, h2⟩
      · rintro ⟨i, h1, h2, h3⟩
        by_cases hi : i = k
        · subst hi; exact absurd h2 h6
        · exact ⟨i, by omega, h2, h3⟩
theorem E_row {g : G} (hg : RG g) {r : Nat} (hr : r < g.length) (x : Int) : x ∈ keysM (callM g (rth g r).2.1 (rth g r).2.1.length) ↔ ∃ i : Nat, x = (i : Int) ∧ i < g.length ∧ E g r i := by
  rw [callM_mem]
  constructor
  · rintro ⟨i, h1, h2, rfl⟩
    have hm : List.getD (rth g r).2.1 i zNode ∈ ((rth g r).2.1 : List NodeD) := by
      rw [List.getD_eq_getElem?_getD, List.getElem?_eq_getElem h1]
      exact List.getElem_mem h1
    obtain ⟨j, hj⟩ := hg.calls _ (getD_memR hr) _ hm h2
    refine ⟨j, ?_, (findR_at hj).1, _, hm, h2, hj⟩
    unfold idxN
    rw [nums_find, hj]
    rfl
  · rintro ⟨i, rfl, h1, n, hn, h6, hf⟩
    obtain ⟨j, hj, rfl⟩ := List.getElem_of_mem hn
    have e : List.getD (rth g r).2.1 j zNode = (rth g r).2.1[j] := by
      rw [List.getD_eq_getElem?_getD, List.getElem?_eq_getElem hj]
      rfl
    refine ⟨j, hj, by rw [e]; exact h6, ?_⟩
    unfold idxN
    rw [e, nums_find, hf]
    rfl
end Go.Proofs

/-! Chapter 8: what is reached. -/
namespace Go.Proofs
open Go Go.Abs
/-- A way of calls, of none or more. -/
inductive Rt (e : Nat → Nat → Prop) : Nat → Nat → Prop
  | refl (r : Nat) : Rt e r r
  | tail {r q p : Nat} : Rt e r q → e q p → Rt e r p
theorem Rt.trans {e : Nat → Nat → Prop} {a b c : Nat} (h1 : Rt e a b) (h2 : Rt e b c) : Rt e a c := by
  induction h2 with
  | refl => exact h1
  | tail _ h ih => exact Rt.tail ih h
theorem Rt.one {e : Nat → Nat → Prop} {a b : Nat} (h : e a b) : Rt e a b := Rt.tail (Rt.refl a) h
theorem Rt.lt {e : Nat → Nat → Prop} {n : Nat} (he : ∀ r q, e r q → q < n) {a b : Nat} (h : Rt e a b) (ha : a < n) : b < n := by
  cases h with
  | refl => exact ha
  | tail _ h => exact he _ _ h
theorem keys_len {n : Nat} {m : List (Int × Int)} (h1 : (keysM m).Nodup) (h2 : ∀ k ∈ keysM m, ∃ i : Nat, k = (i : Int) ∧ i < n) : m.length ≤ n := by
  have h3 := sortI_listP (n := n) (p := fun i => (i : Int) ∈ keysM m) h1 (fun k => ⟨fun h => by
    obtain ⟨i, e, hi⟩ := h2 k h
    exact ⟨i, e, hi, by rw [← e]; exact h⟩, fun ⟨i, e, _, h⟩ => by rw [e]; exact h⟩)
  have h4 := congrArg List.length h3
  rw [(sortI_perm _).length_eq] at h4
  have h5 := @listP_len n (fun i => (i : Int) ∈ keysM m)
  simp only [keysM, List.length_map] at h4 h5
  omega
/-- What is reached from a list. -/
def From (e : Nat → Nat → Prop) (fr : List Int) (i : Nat) : Prop := ∃ j : Nat, (j : Int) ∈ fr ∧ Rt e j i
structure InvR (n : Nat) (e : Nat → Nat → Prop) (fr : List Int) (l : Nat) (W : List Int) (m : List (Int × Int)) : Prop where
  le : l ≤ W.length
  sz : l ≤ fr.length + m.length * n
  work : ∀ k ∈ List.take l W, ∃ i : Nat, k = (i : Int) ∧ i < n ∧ From e fr i
  nodup : (keysM m).Nodup
  ones : ∀ y ∈ m, y.2 = 1
  seen : ∀ k ∈ keysM m, ∃ i : Nat, k = (i : Int) ∧ i < n ∧ From e fr i
  start : ∀ k ∈ fr, k ∈ keysM m ∨ k ∈ List.take l W
  next : ∀ r : Nat, r < n → (r : Int) ∈ keysM m → ∀ q, e r q → (q : Int) ∈ keysM m ∨ (q : Int) ∈ List.take l W
theorem InvR.end {n : Nat} {e : Nat → Nat → Prop} {fr W : List Int} {m : List (Int × Int)} (he : ∀ r q, e r q → q < n) (hf : ∀ k ∈ fr, ∃ i : Nat, k = (i : Int) ∧ i < n) (h : InvR n e fr 0 W m) : SetM n m (From e fr) := by
  refine ⟨h.nodup, h.ones, fun k => ⟨h.seen k, ?_⟩⟩
  rintro ⟨i, rfl, _, j, hj, hr⟩
  induction hr with
  | refl =>
    rcases h.start _ hj with h | h
    · exact h
    · simp at h
  | tail h1 h2 ih =>
    have hq : ∀ {a b : Nat}, Rt e a b → a < n → b < n := fun h h' => Rt.lt he h h'
    obtain ⟨j', e1, e2⟩ := hf _ hj
    have : j = j' := by omega
    subst this
    rcases h.next _ (hq h1 e2) (ih (hq h1 e2)) _ h2 with h | h
    · exact h
    · simp at h
end Go.Proofs

/-! Chapter 8: looked, Calls, Reach, groups, ready, Again. -/
namespace Go.Proofs
open Go Go.Abs
/-- A loop that asks the same of each. -/
theorem loop_all {σ ρ : Type} {B : σ → Option (σ ⊕ ρ)} (n : Nat) (st : Nat → σ) (P : Nat → Prop) {s0 : σ} {bad fin : ρ} (h0 : st 0 = s0) (step : ∀ i, i < n → B (st i) = some (if pb (P i) = true then .inl (st (i + 1)) else .inr bad)) (he : B (st n) = some (.inr fin)) : loopC B s0 = some (if pb (∀ i, i < n → P i) = true then fin else bad) := by
  subst h0
  have : ∀ d i, i + d = n → (∀ j, j < i → P j) → loopC B (st i) = some (if pb (∀ i, i < n → P i) = true then fin else bad) := by
    intro d
    induction d with
    | zero =>
      intro i hi hp
      have : i = n := by omega
      subst this
      rw [loopC_eq, he, if_pos (pb_t hp)]
    | succ d ih =>
      intro i hi hp
      rw [loopC_eq, step i (by omega)]
      by_cases h : P i
      · rw [if_pos (pb_t h)]
        exact ih (i + 1) (by omega) fun j hj => by
          by_cases hj2 : j = i
          · subst hj2; exact h
          · exact hp j (by omega)
      · rw [if_neg (by rw [pb_f h]; simp), if_neg (by rw [pb_f (fun c => h (c i (by omega)))]; simp)]
  exact this n 0 (by omega) (fun j hj => by omega)
theorem pb_congr {p q : Prop} (h : p ↔ q) : pb p = pb q := by rw [propext h]
theorem getD_in {α : Type} {l : List α} {k : Nat} {d : α} (h : k < l.length) : List.getD l k d ∈ l := by
  rw [List.getD_eq_getElem?_getD, List.getElem?_eq_getElem h]
  exact List.getElem_mem h
theorem in_getD {α : Type} {l : List α} {x : α} (d : α) (h : x ∈ l) : ∃ k, k < l.length ∧ List.getD l k d = x := by
  obtain ⟨j, hj, rfl⟩ := List.getElem_of_mem h
  exact ⟨j, hj, by rw [List.getD_eq_getElem?_getD, List.getElem?_eq_getElem hj]; rfl⟩
/-! ### Looked, Calls, Reach -/
noncomputable def lookE (g : G) (r : Int) : Int := if (chkG g).2 ≠ 0 then (chkG g).2 else if r < 0 ∨ r ≥ (g.length : Int) then 1 else 0
theorem lookE_ok {g : G} {r : Int} (h : lookE g r = 0) : RG g ∧ 0 ≤ r ∧ r < (g.length : Int) := by
  unfold lookE at h
  split at h
  · contradiction
  · rename_i h1
    split at h
    · cases h
    · exact ⟨rg_of (by unfold RightG; simpa using h1), by omega, by omega⟩
theorem lookE_in {g : G} (hg : RightG g) {r : Nat} (hr : r < g.length) : lookE g (r : Int) = 0 := by
  unfold lookE
  rw [if_neg (by simpa [RightG] using hg), if_neg (by omega)]
/-! ### Groups -/
/-- Each comes to the other. -/
def Mut (e : Nat → Nat → Prop) (r q : Nat) : Prop := Rt e r q ∧ Rt e q r
theorem Mut.refl {e : Nat → Nat → Prop} (r : Nat) : Mut e r r := ⟨Rt.refl r, Rt.refl r⟩
theorem Mut.symm {e : Nat → Nat → Prop} {r q : Nat} (h : Mut e r q) : Mut e q r := ⟨h.2, h.1⟩
theorem Mut.trans {e : Nat → Nat → Prop} {r q p : Nat} (h : Mut e r q) (h2 : Mut e q p) : Mut e r p := ⟨h.1.trans h2.1, h2.2.trans h.2⟩
theorem least {P : Nat → Prop} (h : ∃ x, P x) : ∃ v, P v ∧ ∀ k, P k → v ≤ k := by
  obtain ⟨x, hx⟩ := h
  induction x using Nat.strongRecOn with
  | _ x ih =>
    by_cases h2 : ∃ y, y < x ∧ P y
    · obtain ⟨y, h3, h4⟩ := h2
      exact ih y h3 h4
    · exact ⟨x, hx, fun k hk => Nat.le_of_not_lt fun hlt => h2 ⟨k, hlt, hk⟩⟩
noncomputable def lead (e : Nat → Nat → Prop) (r : Nat) : Nat := Classical.choose (least ⟨r, Mut.refl (e := e) r⟩)
theorem set_at {α : Type} {l : List α} {i : Nat} {v d : α} (h : i < l.length) : List.getD (List.set l i v) i d = v := by
  rw [List.getD_eq_getElem?_getD, List.getElem?_set_self h]
  rfl
end Go.Proofs

/-! Chapter 8: ready, Groups, Again. -/
namespace Go.Proofs
open Go Go.Abs
def Ready (n : Nat) (e : Nat → Nat → Prop) (told : Nat → Prop) (l : Nat) : Prop := ∀ r, r < n → lead e r = l → ∀ q, e r q → lead e q = l ∨ told (lead e q)
/-! ### Groups -/
theorem listP_succ {n : Nat} {p : Nat → Prop} : listP (n + 1) p = listP n p ++ if pb (p n) = true then [(n : Int)] else [] := by
  unfold listP
  rw [List.range_succ, List.filter_append, List.map_append]
  congr 1
  by_cases h : p n
  · simp [pb_t h]
  · simp [pb_f h]
/-- Leaders in an order in which each is ready when told. -/
inductive OrdL (n : Nat) (e : Nat → Nat → Prop) : List Nat → Prop
  | nil : OrdL n e []
  | snoc {L : List Nat} {l : Nat} : OrdL n e L → l < n → lead e l = l → l ∉ L → Ready n e (· ∈ L) l → OrdL n e (L ++ [l])
theorem OrdL.lead {n : Nat} {e : Nat → Nat → Prop} {L : List Nat} (h : OrdL n e L) : ∀ l ∈ L, l < n ∧ lead e l = l := by
  induction h with
  | nil => simp
  | snoc _ h1 h2 _ _ ih =>
    intro l hl
    rcases List.mem_append.1 hl with h | h
    · exact ih l h
    · simp only [List.mem_singleton] at h; subst h; exact ⟨h1, h2⟩
theorem OrdL.nodup {n : Nat} {e : Nat → Nat → Prop} {L : List Nat} (h : OrdL n e L) : L.Nodup := by
  induction h with
  | nil => simp
  | snoc _ _ _ h3 _ ih =>
    rw [List.nodup_append]
    exact ⟨ih, by simp, fun a ha b hb => by simp only [List.mem_singleton] at hb; subst hb; exact fun c => h3 (c ▸ ha)⟩
theorem nodup_len {n : Nat} {L : List Nat} (h : L.Nodup) (h2 : ∀ l ∈ L, l < n) : L.length ≤ n := by
  have := keys_len (n := n) (m := L.map fun (l : Nat) => ((l : Int), (0 : Int))) (by
    unfold keysM
    rw [List.map_map]
    exact List.Pairwise.map _ (fun a b hab => by simp only [Function.comp]; omega) h) (fun k hk => by
    unfold keysM at hk
    rw [List.map_map] at hk
    obtain ⟨l, hl, e⟩ := List.mem_map.1 hk
    exact ⟨l, e.symm, h2 l hl⟩)
  simpa using this
noncomputable def toldG (n : Nat) (L : List Nat) : List Bool := genR n fun r => pb (r ∈ L)
theorem toldG_len {n : Nat} {L : List Nat} : (toldG n L).length = n := genR_len
theorem toldG_at {n : Nat} {L : List Nat} {r : Nat} (h : r < n) : List.getD (toldG n L) r false = pb (r ∈ L) := genR_get h
theorem toldG_set {n : Nat} {L : List Nat} {l : Nat} : List.set (toldG n L) l true = toldG n (L ++ [l]) := by
  unfold toldG genR
  apply List.ext_getElem
  · simp
  · intro i h1 h2
    rw [List.getElem_set]
    simp only [List.getElem_map, List.getElem_range]
    split
    · rename_i h; subst h; exact (pb_t (by simp)).symm
    · rename_i h
      apply pb_congr
      simp only [List.mem_append, List.mem_singleton]
      exact ⟨Or.inl, fun h3 => by rcases h3 with h3 | h3; exact h3; exact absurd h3.symm h⟩
/-! ### Again -/
def Ag (e : Nat → Nat → Prop) (r : Nat) : Prop := ∃ q, e r q ∧ Rt e q r
end Go.Proofs
