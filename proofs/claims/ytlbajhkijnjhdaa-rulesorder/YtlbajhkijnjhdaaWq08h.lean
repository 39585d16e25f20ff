/- Part of the proof of the law's row: YtlbajhkijnjhdaaWq08h. -/
import Derived.Test.YtlbajhkijnjhdaaWq08c
set_option linter.all false
set_option linter.unusedVariables false
set_option linter.unusedSimpArgs false
/-! Chapter 8: rising lists, walks over maps, what calls what. -/
namespace Go.Abs
/-- A walk over a map that comes to the same end whichever entry is next. -/
theorem rangeC_is {X σ R : Type} {B : X → List X → σ → Option (σ ⊕ R)} {B0 : σ → Option (σ ⊕ R)} {r : R} (I : List X → σ → Prop) (h0 : ∀ s, I [] s → B0 s = some (.inr r)) (hs : ∀ x rem s l, l.Perm (x :: rem) → I l s → ∃ s', B x rem s = some (.inl s') ∧ I rem s') : ∀ {l : List X} {s : σ}, I l s → rangeC B B0 l s = some r := by
  have ok : ∀ (n : Nat) (l : List X) (s : σ), l.length = n → I l s → rangeOK B B0 r n l s := by
    intro n
    induction n with
    | zero =>
      intro l s hl hI
      have : l = [] := List.length_eq_zero_iff.1 hl
      subst this
      exact h0 s hI
    | succ n ih =>
      intro l s hl hI x rem hp
      obtain ⟨s', h1, h2⟩ := hs x rem s l hp hI
      rw [h1]
      exact ih rem s' (by have := hp.length_eq; simp at this; omega) h2
  have uni : ∀ (n : Nat) (l : List X) (s : σ) (r' : R), l.length = n → I l s → rangeOK B B0 r' n l s → r' = r := by
    intro n
    induction n with
    | zero =>
      intro l s r' hl hI h
      have : l = [] := List.length_eq_zero_iff.1 hl
      subst this
      have h : B0 s = some (.inr r') := h
      rw [h0 s hI] at h
      simpa using h.symm
    | succ n ih =>
      intro l s r' hl hI h
      cases l with
      | nil => simp at hl
      | cons x rem =>
        have h1 := h x rem (List.Perm.refl _)
        obtain ⟨s', h2, h3⟩ := hs x rem s _ (List.Perm.refl _) hI
        rw [h2] at h1
        exact ih rem s' r' (by simpa using hl) h3 h1
  intro l s hI
  unfold rangeC
  have hex : ∃ r, rangeOK B B0 r l.length l s := ⟨r, ok _ l s rfl hI⟩
  rw [dif_pos hex]
  exact congrArg some (uni _ l s _ rfl hI (Classical.choose_spec hex))
end Go.Abs
namespace Go.Proofs
open Go Go.Abs
/-! ### Rising lists -/
/-- The numbers below 'n' of which something holds, rising. -/
noncomputable def listP (n : Nat) (p : Nat → Prop) : List Int := ((List.range n).filter fun i => pb (p i)).map fun (i : Nat) => (i : Int)
theorem mem_listP {n : Nat} {p : Nat → Prop} {k : Int} : k ∈ listP n p ↔ ∃ i : Nat, k = (i : Int) ∧ i < n ∧ p i := by
  unfold listP
  simp only [List.mem_map, List.mem_filter, List.mem_range, pb_iff]
  exact ⟨fun ⟨i, ⟨h1, h2⟩, h3⟩ => ⟨i, h3.symm, h1, h2⟩, fun ⟨i, h1, h2, h3⟩ => ⟨i, ⟨h2, h3⟩, h1.symm⟩⟩
theorem mem_listP_nat {n : Nat} {p : Nat → Prop} {i : Nat} : (i : Int) ∈ listP n p ↔ i < n ∧ p i := by
  rw [mem_listP]
  exact ⟨fun ⟨j, h1, h2⟩ => by have : i = j := by omega
                               subst this; exact h2, fun h => ⟨i, rfl, h⟩⟩
theorem listP_rising (n : Nat) (p : Nat → Prop) : (listP n p).Pairwise (· < ·) := by
  unfold listP
  rw [List.pairwise_map]
  exact (List.pairwise_lt_range.filter _).imp fun h => by omega
theorem rising_nodup {l : List Int} (h : l.Pairwise (· < ·)) : l.Nodup := h.imp fun h => by omega
/-- A rising list is told by its members. -/
theorem rising_ext {a b : List Int} (ha : a.Pairwise (· < ·)) (hb : b.Pairwise (· < ·)) (h : ∀ k, k ∈ a ↔ k ∈ b) : a = b :=
  List.Perm.eq_of_pairwise (le := (· < ·)) (fun x y _ _ h1 h2 => by omega) ha hb ((List.perm_ext_iff_of_nodup (rising_nodup ha) (rising_nodup hb)).2 h)
theorem listP_congr {n : Nat} {p q : Nat → Prop} (h : ∀ i, i < n → (p i ↔ q i)) : listP n p = listP n q :=
  rising_ext (listP_rising _ _) (listP_rising _ _) fun k => by
    rw [mem_listP, mem_listP]
    exact ⟨fun ⟨i, h1, h2, h3⟩ => ⟨i, h1, h2, (h i h2).1 h3⟩, fun ⟨i, h1, h2, h3⟩ => ⟨i, h1, h2, (h i h2).2 h3⟩⟩
theorem listP_len {n : Nat} {p : Nat → Prop} : (listP n p).length ≤ n := by
  unfold listP
  rw [List.length_map]
  have := List.length_filter_le (fun i => pb (p i)) (List.range n)
  simpa using this
def sortI (l : List Int) : List Int := l.mergeSort (fun a b => decide (a ≤ b))
theorem sortI_perm (l : List Int) : (sortI l).Perm l := List.mergeSort_perm _ _
theorem sortI_sorted (l : List Int) : (sortI l).Pairwise (· ≤ ·) := by
  have := List.pairwise_mergeSort (le := fun a b : Int => decide (a ≤ b)) (fun a b c h1 h2 => by simp only [decide_eq_true_eq] at *; omega) (fun a b => by simp only [Bool.or_eq_true, decide_eq_true_eq]; omega) l
  exact this.imp fun h => by simpa using h
theorem sortI_congr {a b : List Int} (h : a.Perm b) : sortI a = sortI b :=
  List.Perm.eq_of_pairwise (le := (· ≤ ·)) (fun x y _ _ h1 h2 => by omega) (sortI_sorted a) (sortI_sorted b) ((sortI_perm a).trans (h.trans (sortI_perm b).symm))
theorem sortI_listP {l : List Int} {n : Nat} {p : Nat → Prop} (hn : l.Nodup) (h : ∀ k, k ∈ l ↔ ∃ i : Nat, k = (i : Int) ∧ i < n ∧ p i) : sortI l = listP n p := by
  refine List.Perm.eq_of_pairwise (le := (· ≤ ·)) (fun x y _ _ h1 h2 => by omega) (sortI_sorted l) ((listP_rising n p).imp fun h => by omega) ?_
  exact (sortI_perm l).trans ((List.perm_ext_iff_of_nodup hn (rising_nodup (listP_rising n p))).2 fun k => by rw [h k, mem_listP])
theorem q_sort (l : List Int) (h : l.length < 4611686018427387904) : F_slices_Sort_int_int (l, ()) = some (sortI l, ()) := by
  unfold F_slices_Sort_int_int
  rw [need_pos h]
  rfl
/-- 'sorted': the keys, rising. -/
theorem q_sorted (m : List (Int × Int)) (h : m.length ≤ 1000000) : F_rules_sorted (m, ()) = some (sortI (m.map (·.1)), ()) := by
  unfold F_rules_sorted
  rw [need_pos ⟨by omega, by omega, by dsimp only; omega, by dsimp only; omega⟩]
  refine rangeC_is (I := fun rem s => (s.2.1 ++ rem.map (·.1)).Perm (m.map (·.1))) ?_ ?_ ?_
  · rintro ⟨⟨⟩, l, ⟨⟩⟩ hI
    dsimp only at hI ⊢
    rw [List.map_nil, List.append_nil] at hI
    have hl : l.length = m.length := by have := hI.length_eq; simpa using this
    rw [q_sort l (by omega), sortI_congr hI]
    rfl
  · rintro ⟨k, v⟩ rem ⟨⟨⟩, l, ⟨⟩⟩ all hp hI
    dsimp only at hI ⊢
    have h1 : (l ++ k :: rem.map (·.1)).Perm (m.map (·.1)) := ((hp.map (fun y : Int × Int => y.1)).append_left l).symm.trans hI
    have hl : l.length + (rem.length + 1) = m.length := by have := h1.length_eq; simpa using this
    rw [need_pos ⟨Nat.le_refl _, by omega⟩, need_pos rfl]
    refine ⟨_, rfl, ?_⟩
    dsimp only
    rw [List.append_assoc]
    exact h1
  · dsimp only
    simp
/-! ### What calls what -/
/-- A right grammar. -/
def RightG (g : G) : Prop := (chkG g).2 = 0
theorem unkN_none {g : G} : ∀ {l : List NodeD} {k : Nat}, unkN g l k = none → ∀ n ∈ l, n.1 = 6 → ∃ j, findR g n.2.2.1 = some j
  | [], _, _, n, hn, _ => by simp at hn
  | n0 :: l, k, h, n, hn, h6 => by
    unfold unkN at h
    split at h
    · cases h
    · rename_i hc
      rcases List.mem_cons.1 hn with rfl | hn
      · cases hf : findR g n.2.2.1 with
        | some j => exact ⟨j, rfl⟩
        | none => exact absurd ⟨h6, hf⟩ hc
      · exact unkN_none h n hn h6
theorem unkG_none {g : G} : ∀ {l : List RuleD} {i : Nat}, unkG g l i = none → ∀ r ∈ l, ∀ n ∈ (r.2.1 : List NodeD), n.1 = 6 → ∃ j, findR g n.2.2.1 = some j
  | [], _, _, r, hr => by simp at hr
  | r0 :: l, i, h, r, hr => by
    unfold unkG at h
    split at h
    · cases h
    · rename_i hu
      rcases List.mem_cons.1 hr with rfl | hr
      · exact unkN_none hu
      · exact unkG_none h r hr
theorem scan_err {g : G} : ∀ {k i : Nat} {n : Int} {e : SpotD × Int}, scanG g k i n = some e → e.2 ≠ 0
  | 0, _, _, _, h => by simp [scanG] at h
  | k + 1, i, n, e, h => by
    unfold scanG at h
    split at h
    · simp only [Option.some.injEq] at h; subst h; simp
    split at h
    · simp only [Option.some.injEq] at h; subst h; simp
    split at h
    · rename_i h5
      simp only [Option.some.injEq] at h; subst h; exact h5
    split at h
    · simp only [Option.some.injEq] at h; subst h; simp
    · exact scan_err h
structure RG (g : G) : Prop where
  pos : 0 < g.length
  len : g.length ≤ 200
  good : ∀ j, j < g.length → goodR g j
  calls : ∀ r ∈ g, ∀ n ∈ (r.2.1 : List NodeD), n.1 = 6 → ∃ j, findR g n.2.2.1 = some j
theorem rg_of {g : G} (h : RightG g) : RG g := by
  unfold RightG chkG at h
  split at h
  · simp at h
  split at h
  · simp at h
  rename_i h0 h2
  cases hs : scanG g g.length 0 0 with
  | some e => rw [hs] at h; exact absurd h (scan_err hs)
  | none =>
    rw [hs] at h
    have h : (spotE (unkG g g 0)).2 = 0 := h
    cases hu : unkG g g 0 with
    | some p => rw [hu] at h; simp [spotE] at h
    | none => exact ⟨by omega, by omega, fun j hj => scan_good hs j (Nat.zero_le _) (by omega), unkG_none hu⟩
/-- A rule calls a rule. -/
def E (g : G) (r q : Nat) : Prop := ∃ n ∈ ((rth g r).2.1 : List NodeD), n.1 = 6 ∧ findR g n.2.2.1 = some q
theorem E_lt {g : G} {r q : Nat} (h : E g r q) : q < g.length := by
  obtain ⟨n, _, _, h⟩ := h
  exact (findR_at h).1
end Go.Proofs

/-! Chapter 8: maps of numbers; the graph of a right grammar; what is reached. -/
namespace Go.Proofs
open Go Go.Abs
/-! ### Maps of numbers -/
def keysM (m : List (Int × Int)) : List Int := m.map fun y => y.1
theorem mem_put {x v k : Int} : ∀ {m : List (Int × Int)}, k ∈ keysM (mput eqI m x v) ↔ k = x ∨ k ∈ keysM m
  | [] => by simp [mput, keysM]
  | (a, u) :: m => by
    unfold mput
    by_cases h : eqI x a = true
    · rw [if_pos h]
      have := eqI_iff.1 h
      subst this
      simp [keysM]
    · rw [if_neg h]
      show k ∈ a :: keysM (mput eqI m x v) ↔ k = x ∨ k ∈ a :: keysM m
      rw [List.mem_cons, List.mem_cons, mem_put]
      exact ⟨fun h => by rcases h with h | h | h <;> simp [h], fun h => by rcases h with h | h | h <;> simp [h]⟩
theorem nodup_put {x v : Int} : ∀ {m : List (Int × Int)}, (keysM m).Nodup → (keysM (mput eqI m x v)).Nodup
  | [], _ => by simp [mput, keysM]
  | (a, u) :: m, hn => by
    unfold mput
    have hn : (a :: keysM m).Nodup := hn
    by_cases h : eqI x a = true
    · rw [if_pos h]
      exact hn
    · rw [if_neg h]
      show (a :: keysM (mput eqI m x v)).Nodup
      rw [List.nodup_cons] at hn ⊢
      refine ⟨fun hm => ?_, nodup_put hn.2⟩
      rcases mem_put.1 hm with h1 | h1
      · exact h (eqI_iff.2 h1.symm)
      · exact hn.1 h1
theorem find_put {x v y : Int} : ∀ {m : List (Int × Int)}, mfind eqI (mput eqI m x v) y = if y = x then some v else mfind eqI m y
  | [] => by
    unfold mput mfind
    by_cases h : y = x
    · rw [if_pos h, if_pos (eqI_iff.2 h)]
    · rw [if_neg h, if_neg (fun c => h (eqI_iff.1 c))]
      simp [mfind]
  | (a, u) :: m => by
    unfold mput
    by_cases h : eqI x a = true
    · rw [if_pos h]
      have h := eqI_iff.1 h
      subst h
      simp only [mfind]
      by_cases h2 : y = x
      · rw [if_pos h2, if_pos (eqI_iff.2 h2)]
      · rw [if_neg h2, if_neg (fun c => h2 (eqI_iff.1 c)), if_neg (fun c => h2 (eqI_iff.1 c))]
    · rw [if_neg h]
      simp only [mfind]
      rw [find_put]
      by_cases h3 : eqI y a = true
      · rw [if_pos h3, if_pos h3]
        have h3 := eqI_iff.1 h3
        subst h3
        rw [if_neg (fun c => h (eqI_iff.2 c.symm))]
      · rw [if_neg h3, if_neg h3]
theorem find_val {k : Int} : ∀ {m : List (Int × Int)} {v : Int}, mfind eqI m k = some v → (k, v) ∈ m
  | (a, u) :: m, v, h => by
    unfold mfind at h
    split at h
    · rename_i h1
      have h1 := eqI_iff.1 h1
      subst h1
      cases h
      exact List.mem_cons_self
    · exact List.mem_cons_of_mem _ (find_val h)
theorem find_no {k : Int} : ∀ {m : List (Int × Int)}, mfind eqI m k = none → k ∉ keysM m
  | [], _ => by simp [keysM]
  | (a, u) :: m, h => by
    unfold mfind at h
    split at h
    · cases h
    · rename_i h1
      show k ∉ a :: keysM m
      rw [List.mem_cons]
      rintro (h2 | h2)
      · exact h1 (eqI_iff.2 h2)
      · exact find_no h h2
theorem len_put {x v : Int} : ∀ {m : List (Int × Int)}, (mput eqI m x v).length ≤ m.length + 1
  | [] => by simp [mput]
  | (a, u) :: m => by
    unfold mput
    by_cases h : eqI x a = true
    · rw [if_pos h]; simp
    · rw [if_neg h]
      have := @len_put x v m
      simp only [List.length_cons]; omega
theorem put_vals {P : Int → Prop} {x v : Int} (hv : P v) : ∀ {m : List (Int × Int)}, (∀ p ∈ m, P p.2) → ∀ p ∈ mput eqI m x v, P p.2
  | [], _ => by simp [mput, hv]
  | (a, u) :: m, hm => by
    unfold mput
    by_cases h : eqI x a = true
    · rw [if_pos h]
      intro p hp
      rcases List.mem_cons.1 hp with rfl | hp
      · exact hv
      · exact hm p (List.mem_cons_of_mem _ hp)
    · rw [if_neg h]
      intro p hp
      rcases List.mem_cons.1 hp with rfl | hp
      · exact hm _ List.mem_cons_self
      · exact put_vals hv (fun p hp => hm p (List.mem_cons_of_mem _ hp)) p hp
/-- A map that is used as a set. -/
structure SetM (n : Nat) (m : List (Int × Int)) (p : Nat → Prop) : Prop where
  nodup : (keysM m).Nodup
  ones : ∀ y ∈ m, y.2 = 1
  mem : ∀ k, k ∈ keysM m ↔ ∃ i : Nat, k = (i : Int) ∧ i < n ∧ p i
theorem SetM.len {n : Nat} {m : List (Int × Int)} {p : Nat → Prop} (h : SetM n m p) : m.length ≤ n := by
  have h1 := sortI_listP h.nodup h.mem
  have h2 := congrArg List.length h1
  rw [(sortI_perm _).length_eq] at h2
  have h3 := @listP_len n p
  simp only [keysM, List.length_map] at h2
  omega
theorem SetM.at {n : Nat} {m : List (Int × Int)} {p : Nat → Prop} (h : SetM n m p) (k : Nat) (hk : k < n) : Option.getD (mfind eqI m (k : Int)) (0 : Int) = if pb (p k) then 1 else 0 := by
  cases hf : mfind eqI m (k : Int) with
  | none =>
    have h1 := find_no hf
    rw [h.mem] at h1
    rw [pb_f (fun hp => h1 ⟨k, rfl, hk, hp⟩)]
    rfl
  | some v =>
    have h1 := find_val hf
    have h2 : (k : Int) ∈ keysM m := List.mem_map.2 ⟨_, h1, rfl⟩
    obtain ⟨i, h3, h4, h5⟩ := (h.mem _).1 h2
    have : k = i := by omega
    subst this
    rw [pb_t h5]
    exact h.ones _ h1
theorem SetM.sorted {n : Nat} {m : List (Int × Int)} {p : Nat → Prop} (h : SetM n m p) (hn : n ≤ 1000000) : F_rules_sorted (m, ()) = some (listP n p, ()) := by
  rw [q_sorted m (by have := h.len; omega)]
  have := sortI_listP h.nodup h.mem
  unfold keysM at this
  rw [this]
/-! ### The graph -/
def idxN (g : G) (x : NodeD) : Int := Option.getD (mfind eqS (nums g) x.2.2.1) 0
def callM (g : G) (body : List NodeD) : Nat → List (Int × Int)
  | 0 => []
  | k + 1 => if (List.getD body k zNode).1 = 6 then mput eqI (callM g body k) (idxN g (List.getD body k zNode)) (Option.getD (mfind eqI (callM g body k) (idxN g (List.getD body k zNode))) 0 + 1) else callM g body k
theorem callM_nodup {g : G} {body : List NodeD} : ∀ k, (keysM (callM g body k)).Nodup
  | 0 => by simp [callM, keysM]
  | k + 1 => by
    unfold callM
    split
    · exact nodup_put (callM_nodup k)
    · exact callM_nodup k
theorem callM_mem {g : G} {body : List NodeD} {x : Int} : ∀ k, x ∈ keysM (callM g body k) ↔ ∃ i, i < k ∧ (List.getD body i zNode).1 = 6 ∧ x = idxN g (List.getD body i zNode)
  | 0 => by simp [callM, keysM]
  | k + 1 => by
    unfold callM
    split
    · rename_i h6
      rw [mem_put, callM_mem k]
      constructor
      · rintro (h | ⟨i, h1, h2⟩)
        · exact ⟨k, by omega, h6, h⟩
        · exact ⟨i, by omega, h2⟩
      · rintro ⟨i, h1, h2, h3⟩
        by_cases hi : i = k
        · subst hi; exact Or.inl h3
        · exact Or.inr ⟨i, by omega, h2, h3⟩
    · rename_i h6
      rw [callM_mem k]
      constructor
      · rintro ⟨i, h1, h2⟩; exact ⟨i, by omega, h2⟩
      · rintro ⟨i, h1, h2, h3⟩
        by_cases hi : i = k
        · subst hi; exact absurd h2 h6
        · exact ⟨i, by omega, h2, h3⟩
theorem callM_val {g : G} {body : List NodeD} : ∀ k x, 0 ≤ Option.getD (mfind eqI (callM g body k) x) (0 : Int) ∧ Option.getD (mfind eqI (callM g body k) x) (0 : Int) ≤ (k : Int)
  | 0, x => by simp [callM, mfind]
  | k + 1, x => by
    unfold callM
    split
    · rw [find_put]
      split
      · have := callM_val (g := g) (body := body) k (idxN g (List.getD body k zNode))
        simp only [Option.getD_some]
        omega
      · have := callM_val (g := g) (body := body) k x
        omega
    · have := callM_val (g := g) (body := body) k x
      omega
theorem callM_len {g : G} {body : List NodeD} : ∀ k, (callM g body k).length ≤ k
  | 0 => by simp [callM]
  | k + 1 => by
    unfold callM
    split
    · exact Nat.le_trans len_put (by have := @callM_len g body k; omega)
    · have := @callM_len g body k; omega
theorem E_row {g : G} (hg : RG g) {r : Nat} (hr : r < g.length) (x : Int) : x ∈ keysM (callM g (rth g r).2.1 (rth g r).2.1.length) ↔ ∃ i : Nat, x = (i : Int) ∧ i < g.length ∧ E g r i := by
  rw [callM_mem]
  constructor
  · rintro ⟨i, h1, h2, rfl⟩
    have hm : List.getD (rth g r).2.1 i zNode ∈ ((rth g r).2.1 : List NodeD) := by
      rw [List.getD_eq_getElem?_getD, List.getElem?_eq_getElem h1]
      exact List.getElem_mem h1
    obtain ⟨j, hj⟩ := hg.calls _ (getD_memR hr) _ hm h2
    refine ⟨j, ?_, (findR_at hj).1, _, hm, h2, hj⟩
    unfold idxN
    rw [nums_find, hj]
    rfl
  · rintro ⟨i, rfl, h1, n, hn, h6, hf⟩
    obtain ⟨j, hj, rfl⟩ := List.getElem_of_mem hn
    have e : List.getD (rth g r).2.1 j zNode = (rth g r).2.1[j] := by
      rw [List.getD_eq_getElem?_getD, List.getElem?_eq_getElem hj]
      rfl
    refine ⟨j, hj, by rw [e]; exact h6, ?_⟩
    unfold idxN
    rw [e, nums_find, hf]
    rfl
/-- The rows of a graph. -/
noncomputable def adjG (n : Nat) (e : Nat → Nat → Prop) : List (List Int) := genR n fun r => listP n (e r)
theorem adjG_len {n : Nat} {e : Nat → Nat → Prop} : (adjG n e).length = n := genR_len
theorem adjG_at {n : Nat} {e : Nat → Nat → Prop} {r : Nat} (h : r < n) : List.getD (adjG n e) r [] = listP n (e r) := genR_get h
theorem q_graph {g : G} (hg : RG g) : F_rules_graph ((g, ()), ()) = some (adjG g.length (E g), ()) := by
  have hl := hg.len
  unfold F_rules_graph
  simp only [toPb]
  rw [q_numbers g (by omega), bind_t]
  dsimp only
  rw [need_pos ⟨by omega, by omega, by omega, by omega⟩, Int.toNat_natCast]
  have hP : (List.replicate g.length ([] : List Int)).length = g.length := List.length_replicate
  refine loop_up (σ := (Int × Unit) × List (List Int) × Unit) (ρ := List (List Int) × Unit) g.length (fun i => (((i : Int), ()), gone (List.replicate g.length []) (fun r => listP g.length (E g r)) i, ())) rfl ?_ ?_
  · intro i hi
    dsimp only
    have hb := good_len (hg.good i hi)
    have hfold : List.getD g i zRule = rth g i := rfl
    rw [pos (by omega), need_pos ⟨by omega, by omega⟩, Int.toNat_natCast, hfold]
    refine loop_up (σ := (Int × Unit) × List (Int × Int) × List (List Int) × Unit) (rth g i).2.1.length (fun k => (((k : Int), ()), callM g (rth g i).2.1 k, gone (List.replicate g.length []) (fun r => listP g.length (E g r)) i, ())) rfl ?_ ?_
    · intro k hk
      dsimp only
      rw [pos (by omega), need_pos ⟨by omega, by omega⟩, Int.toNat_natCast]
      show sel _ (need (Fits _ (Option.getD (mfind eqI (callM g (rth g i).2.1 k) (idxN g _)) 0 + 1)) (need _ (some (Sum.inl (_, mput eqI (callM g (rth g i).2.1 k) (idxN g _) (Option.getD (mfind eqI (callM g (rth g i).2.1 k) (idxN g _)) 0 + 1), _))))) _ = _
      have hv := callM_val (g := g) (body := (rth g i).2.1) k (idxN g (List.getD (rth g i).2.1 k zNode))
      by_cases h6 : (List.getD (rth g i).2.1 k zNode).1 = 6
      · rw [pos h6, need64 (by omega) (by omega), need64 (by omega) (by omega), cast_succ, callM, if_pos h6]
      · rw [neg h6, need64 (by omega) (by omega), cast_succ, callM, if_neg h6]
    · dsimp only
      have hS : sortI (keysM (callM g (rth g i).2.1 (rth g i).2.1.length)) = listP g.length (E g i) := sortI_listP (callM_nodup _) (E_row hg hi)
      have hL := callM_len (g := g) (body := (rth g i).2.1) (rth g i).2.1.length
      rw [neg (by omega), q_sorted _ (by omega)]
      change Option.bind (Option.bind (some (sortI (keysM (callM g (rth g i).2.1 (rth g i).2.1.length)), ())) _) _ = _
      rw [hS, bind_t]
      dsimp only
      have hgl : (gone (List.replicate g.length []) (fun r => listP g.length (E g r)) i).length = g.length := by rw [gone_len (by omega), hP]
      rw [need_pos ⟨by omega, by omega⟩, need_pos (by omega), need64 (by omega) (by omega), bind_t, cast_succ]
      rw [Nat.zero_add, ← gone_set (f := fun r => listP g.length (E g r)) (by omega)]
  · dsimp only
    rw [neg (by omega)]
    have := @gone_all _ (List.replicate g.length ([] : List Int)) (fun r => listP g.length (E g r))
    rw [hP] at this
    rw [this]
    rfl
end Go.Proofs

/-! Chapter 8: what is reached. -/
namespace Go.Proofs
open Go Go.Abs
/-- A way of calls, of none or more. -/
inductive Rt (e : Nat → Nat → Prop) : Nat → Nat → Prop
  | refl (r : Nat) : Rt e r r
  | tail {r q p : Nat} : Rt e r q → e q p → Rt e r p
theorem Rt.trans {e : Nat → Nat → Prop} {a b c : Nat} (h1 : Rt e a b) (h2 : Rt e b c) : Rt e a c := by
  induction h2 with
  | refl => exact h1
  | tail _ h ih => exact Rt.tail ih h
theorem Rt.one {e : Nat → Nat → Prop} {a b : Nat} (h : e a b) : Rt e a b := Rt.tail (Rt.refl a) h
theorem Rt.lt {e : Nat → Nat → Prop} {n : Nat} (he : ∀ r q, e r q → q < n) {a b : Nat} (h : Rt e a b) (ha : a < n) : b < n := by
  cases h with
  | refl => exact ha
  | tail _ h => exact he _ _ h
theorem keys_len {n : Nat} {m : List (Int × Int)} (h1 : (keysM m).Nodup) (h2 : ∀ k ∈ keysM m, ∃ i : Nat, k = (i : Int) ∧ i < n) : m.length ≤ n := by
  have h3 := sortI_listP (n := n) (p := fun i => (i : Int) ∈ keysM m) h1 (fun k => ⟨fun h => by
    obtain ⟨i, e, hi⟩ := h2 k h
    exact ⟨i, e, hi, by rw [← e]; exact h⟩, fun ⟨i, e, _, h⟩ => by rw [e]; exact h⟩)
  have h4 := congrArg List.length h3
  rw [(sortI_perm _).length_eq] at h4
  have h5 := @listP_len n (fun i => (i : Int) ∈ keysM m)
  simp only [keysM, List.length_map] at h4 h5
  omega
/-- What is reached from a list. -/
def From (e : Nat → Nat → Prop) (fr : List Int) (i : Nat) : Prop := ∃ j : Nat, (j : Int) ∈ fr ∧ Rt e j i
structure InvR (n : Nat) (e : Nat → Nat → Prop) (fr : List Int) (l : Nat) (W : List Int) (m : List (Int × Int)) : Prop where
  le : l ≤ W.length
  sz : l ≤ fr.length + m.length * n
  work : ∀ k ∈ List.take l W, ∃ i : Nat, k = (i : Int) ∧ i < n ∧ From e fr i
  nodup : (keysM m).Nodup
  ones : ∀ y ∈ m, y.2 = 1
  seen : ∀ k ∈ keysM m, ∃ i : Nat, k = (i : Int) ∧ i < n ∧ From e fr i
  start : ∀ k ∈ fr, k ∈ keysM m ∨ k ∈ List.take l W
  next : ∀ r : Nat, r < n → (r : Int) ∈ keysM m → ∀ q, e r q → (q : Int) ∈ keysM m ∨ (q : Int) ∈ List.take l W
theorem InvR.end {n : Nat} {e : Nat → Nat → Prop} {fr W : List Int} {m : List (Int × Int)} (he : ∀ r q, e r q → q < n) (hf : ∀ k ∈ fr, ∃ i : Nat, k = (i : Int) ∧ i < n) (h : InvR n e fr 0 W m) : SetM n m (From e fr) := by
  refine ⟨h.nodup, h.ones, fun k => ⟨h.seen k, ?_⟩⟩
  rintro ⟨i, rfl, _, j, hj, hr⟩
  induction hr with
  | refl =>
    rcases h.start _ hj with h | h
    · exact h
    · simp at h
  | tail h1 h2 ih =>
    have hq : ∀ {a b : Nat}, Rt e a b → a < n → b < n := fun h h' => Rt.lt he h h'
    obtain ⟨j', e1, e2⟩ := hf _ hj
    have : j = j' := by omega
    subst this
    rcases h.next _ (hq h1 e2) (ih (hq h1 e2)) _ h2 with h | h
    · exact h
    · simp at h
theorem q_cloneI (l : List Int) (h : l.length ≤ 1000000) : F_slices_Clone_int_int (l, ()) = some (l, ()) := by
  unfold F_slices_Clone_int_int
  refine nilK_same ?_ ?_
  · rw [sel_f, need_pos (by dsimp only; omega)]
    rfl
  · intro h0
    have : l = [] := List.length_eq_zero_iff.1 h0
    subst this
    rfl
theorem q_reach {n : Nat} {e : Nat → Nat → Prop} {fr : List Int} (hn : n ≤ 200) (he : ∀ r q, e r q → q < n) (hf : ∀ k ∈ fr, ∃ i : Nat, k = (i : Int) ∧ i < n) (hl : fr.length ≤ 200) : ∃ m, F_rules_reach (adjG n e, fr, ()) = some (m, ()) ∧ SetM n m (From e fr) := by
  unfold F_rules_reach
  simp only [toPb]
  rw [q_cloneI fr (by omega), bind_t]
  dsimp only
  refine loopC_ex (f := fun m : List (Int × Int) => (m, ())) (P := fun m => SetM n m (From e fr)) (σ := ((Nat × Nat) × Unit) × List Int × List (Int × Int) × Unit)
    (I := fun s => s.1.1.1 = 0 ∧ InvR n e fr s.1.1.2 s.2.1 s.2.2.1) (μ := fun s => (n - s.2.2.1.length) * (n + 1) + s.1.1.2) ?_ ?_
  · rintro ⟨⟨⟨o, l⟩, ⟨⟩⟩, W, m, ⟨⟩⟩ ⟨h0, hI⟩
    dsimp only at h0 hI ⊢
    subst h0
    by_cases hl0 : l = 0
    · right
      subst hl0
      exact ⟨m, by rw [neg (by omega)], hI.end he hf⟩
    left
    obtain ⟨k, rfl⟩ : ∃ k, l = k + 1 := ⟨l - 1, by omega⟩
    have hW := hI.le
    have hsz := hI.sz
    have ek : Int.toNat (((k + 1 : Nat) : Int) - 1) = k := by omega
    have hm0 := keys_len (n := n) hI.nodup (fun x hx => by obtain ⟨j, h1, h2, _⟩ := hI.seen x hx; exact ⟨j, h1, h2⟩)
    have hm1 : m.length * n ≤ 200 * 200 := Nat.mul_le_mul (by omega) hn
    rw [pos (by omega), need64 (by omega) (by omega), need_pos ⟨by omega, by omega⟩]
    simp only [ek, Nat.zero_add, dropZ_eq, addZ_eq, List.drop_zero]
    rw [need_pos (by omega), need64 (by omega) (by omega), need_pos ⟨by omega, by omega, by omega⟩]
    have htk : List.take (k + 1) W = List.take k W ++ [List.getD W k 0] := take_succD (by omega)
    have hwork := hI.work
    have hstart := hI.start
    have hnext := hI.next
    rw [htk] at hwork hstart hnext
    obtain ⟨i, ei, hi, hF⟩ := hwork (List.getD W k 0) (by simp)
    rw [ei] at hwork hstart hnext ⊢
    cases hfd : mfind eqI m (i : Int) with
    | some v =>
      have hv : v = 1 := hI.ones _ (find_val hfd)
      have hk : (i : Int) ∈ keysM m := List.mem_map.2 ⟨_, find_val hfd, rfl⟩
      subst hv
      rw [neg (by simp)]
      refine ⟨_, rfl, ⟨rfl, ⟨by dsimp only; omega, by dsimp only; omega, fun x hx => hwork x (by simp [hx]), hI.nodup, hI.ones, hI.seen, fun x hx => ?_, fun r hr hm q hq => ?_⟩⟩, by dsimp only; omega⟩
      · rcases hstart x hx with h | h
        · exact Or.inl h
        · rcases List.mem_append.1 h with h | h
          · exact Or.inr h
          · simp only [List.mem_singleton] at h; exact Or.inl (by rw [h]; exact hk)
      · rcases hnext r hr hm q hq with h | h
        · exact Or.inl h
        · rcases List.mem_append.1 h with h | h
          · exact Or.inr h
          · simp only [List.mem_singleton] at h; exact Or.inl (by rw [h]; exact hk)
    | none =>
      have hrow : List.getD (adjG n e) (Int.toNat (i : Int)) [] = listP n (e i) := by rw [Int.toNat_natCast, adjG_at hi]
      have hrl := @listP_len n (e i)
      have hnd := nodup_put (x := (i : Int)) (v := 1) hI.nodup
      have hseen : ∀ k ∈ keysM (mput eqI m (i : Int) 1), ∃ i : Nat, k = (i : Int) ∧ i < n ∧ From e fr i := by
        intro x hx
        rcases mem_put.1 hx with h | h
        · exact ⟨i, h, hi, hF⟩
        · exact hI.seen x h
      have hml : (mput eqI m (i : Int) 1).length = m.length + 1 := by rw [mput_new hfd]; simp
      have hmn := keys_len (n := n) hnd (fun x hx => by obtain ⟨j, h1, h2, _⟩ := hseen x hx; exact ⟨j, h1, h2⟩)
      rw [hml] at hmn
      have hmm : m.length * n ≤ 200 * 200 := Nat.mul_le_mul (by omega) hn
      rw [pos (by simp), adjG_len, need_pos ⟨by omega, by omega⟩, hrow, need_pos ⟨by omega, by omega⟩]
      have hlen : (List.take k W ++ listP n (e i)).length = k + (listP n (e i)).length := by
        rw [List.length_append, List.length_take, Nat.min_eq_left (by omega)]
      refine ⟨_, rfl, ⟨rfl, ⟨?_, ?_, ?_, hnd, put_vals (P := fun v => v = 1) rfl hI.ones, hseen, ?_, ?_⟩⟩, ?_⟩
      · dsimp only; omega
      · dsimp only
        rw [hlen, hml, Nat.succ_mul]
        omega
      · dsimp only
        rw [List.take_length]
        intro x hx
        rcases List.mem_append.1 hx with h | h
        · exact hwork x (by simp [h])
        · obtain ⟨q, rfl, h1, h2⟩ := mem_listP.1 h
          obtain ⟨j, h3, h4⟩ := hF
          exact ⟨q, rfl, h1, j, h3, Rt.tail h4 h2⟩
      · dsimp only
        rw [List.take_length]
        intro x hx
        rcases hstart x hx with h | h
        · exact Or.inl (mem_put.2 (Or.inr h))
        · rcases List.mem_append.1 h with h | h
          · exact Or.inr (List.mem_append.2 (Or.inl h))
          · simp only [List.mem_singleton] at h; exact Or.inl (mem_put.2 (Or.inl h))
      · dsimp only
        rw [List.take_length]
        intro r hr hm q hq
        rcases mem_put.1 hm with h | h
        · have : r = i := by omega
          subst this
          exact Or.inr (List.mem_append.2 (Or.inr (mem_listP_nat.2 ⟨he _ _ hq, hq⟩)))
        · rcases hnext r hr h q hq with h | h
          · exact Or.inl (mem_put.2 (Or.inr h))
          · rcases List.mem_append.1 h with h | h
            · exact Or.inr (List.mem_append.2 (Or.inl h))
            · simp only [List.mem_singleton] at h; exact Or.inl (mem_put.2 (Or.inl h))
      · dsimp only
        rw [hlen, hml]
        have : n - m.length = (n - (m.length + 1)) + 1 := by omega
        rw [this, Nat.succ_mul]
        omega
  · refine ⟨rfl, ⟨Nat.le_refl _, by dsimp only; omega, ?_, by simp [keysM], by simp, by simp [keysM], ?_, by simp [keysM]⟩⟩
    · dsimp only
      rw [List.take_length]
      intro k hk
      obtain ⟨i, h1, h2⟩ := hf k hk
      exact ⟨i, h1, h2, i, by rw [← h1]; exact hk, Rt.refl i⟩
    · dsimp only
      rw [List.take_length]
      exact fun k hk => Or.inr hk
end Go.Proofs

/-! Chapter 8: looked, Calls, Reach, groups, ready, Again. -/
namespace Go.Proofs
open Go Go.Abs
/-- A loop that asks the same of each. -/
theorem loop_all {σ ρ : Type} {B : σ → Option (σ ⊕ ρ)} (n : Nat) (st : Nat → σ) (P : Nat → Prop) {s0 : σ} {bad fin : ρ} (h0 : st 0 = s0) (step : ∀ i, i < n → B (st i) = some (if pb (P i) = true then .inl (st (i + 1)) else .inr bad)) (he : B (st n) = some (.inr fin)) : loopC B s0 = some (if pb (∀ i, i < n → P i) = true then fin else bad) := by
  subst h0
  have : ∀ d i, i + d = n → (∀ j, j < i → P j) → loopC B (st i) = some (if pb (∀ i, i < n → P i) = true then fin else bad) := by
    intro d
    induction d with
    | zero =>
      intro i hi hp
      have : i = n := by omega
      subst this
      rw [loopC_eq, he, if_pos (pb_t hp)]
    | succ d ih =>
      intro i hi hp
      rw [loopC_eq, step i (by omega)]
      by_cases h : P i
      · rw [if_pos (pb_t h)]
        exact ih (i + 1) (by omega) fun j hj => by
          by_cases hj2 : j = i
          · subst hj2; exact h
          · exact hp j (by omega)
      · rw [if_neg (by rw [pb_f h]; simp), if_neg (by rw [pb_f (fun c => h (c i (by omega)))]; simp)]
  exact this n 0 (by omega) (fun j hj => by omega)
theorem pb_congr {p q : Prop} (h : p ↔ q) : pb p = pb q := by rw [propext h]
theorem getD_in {α : Type} {l : List α} {k : Nat} {d : α} (h : k < l.length) : List.getD l k d ∈ l := by
  rw [List.getD_eq_getElem?_getD, List.getElem?_eq_getElem h]
  exact List.getElem_mem h
theorem in_getD {α : Type} {l : List α} {x : α} (d : α) (h : x ∈ l) : ∃ k, k < l.length ∧ List.getD l k d = x := by
  obtain ⟨j, hj, rfl⟩ := List.getElem_of_mem h
  exact ⟨j, hj, by rw [List.getD_eq_getElem?_getD, List.getElem?_eq_getElem hj]; rfl⟩
theorem all_row {n : Nat} {p : Nat → Prop} {Q : Int → Prop} : (∀ k, k < (listP n p).length → Q (List.getD (listP n p) k 0)) ↔ ∀ q : Nat, q < n → p q → Q (q : Int) := by
  constructor
  · intro h q hq hp
    obtain ⟨k, hk, e⟩ := in_getD (0 : Int) (mem_listP_nat.2 ⟨hq, hp⟩)
    rw [← e]
    exact h k hk
  · intro h k hk
    obtain ⟨i, e, h1, h2⟩ := mem_listP.1 (getD_in (d := (0 : Int)) hk)
    rw [e]
    exact h i h1 h2
theorem q_has (l : List Int) (n : Int) (h : l.length ≤ 1000000) : F_law08_has (l, n, ()) = some (pb (n ∈ l), ()) := by
  unfold F_law08_has
  simp only [toPb]
  refine (loop_all (σ := (Int × Unit) × Unit) (ρ := Bool × Unit) l.length (fun i => (((i : Int), ()), ())) (fun i => ¬ List.getD l i 0 = n) (bad := (true, ())) (fin := (false, ())) rfl ?_ ?_).trans ?_
  · intro i hi
    dsimp only
    rw [pos (by omega), need_pos ⟨by omega, by omega⟩, Int.toNat_natCast]
    by_cases hc : List.getD l i 0 = n
    · rw [pos hc, if_neg (by rw [pb_f (by simpa using hc)]; simp)]
    · rw [neg hc, need64 (by omega) (by omega), if_pos (pb_t hc), cast_succ]
  · dsimp only
    rw [neg (by omega)]
  · by_cases hm : n ∈ l
    · rw [pb_t hm, if_neg]
      rw [pb_f]
      · simp
      · intro hc
        obtain ⟨k, hk, e⟩ := in_getD (0 : Int) hm
        exact hc k hk e
    · rw [pb_f hm, if_pos]
      exact pb_t fun i hi hc => hm (hc ▸ getD_in hi)
/-! ### Looked, Calls, Reach -/
noncomputable def lookE (g : G) (r : Int) : Int := if (chkG g).2 ≠ 0 then (chkG g).2 else if r < 0 ∨ r ≥ (g.length : Int) then 1 else 0
theorem lookE_ok {g : G} {r : Int} (h : lookE g r = 0) : RG g ∧ 0 ≤ r ∧ r < (g.length : Int) := by
  unfold lookE at h
  split at h
  · contradiction
  · rename_i h1
    split at h
    · cases h
    · exact ⟨rg_of (by unfold RightG; simpa using h1), by omega, by omega⟩
theorem lookE_in {g : G} (hg : RightG g) {r : Nat} (hr : r < g.length) : lookE g (r : Int) = 0 := by
  unfold lookE
  rw [if_neg (by simpa [RightG] using hg), if_neg (by omega)]
theorem q_looked8 (g : G) (r : Int) : F_rules_looked ((g, ()), r, ()) = some (lookE g r, (if lookE g r = 0 then adjG g.length (E g) else []), ()) := by
  unfold F_rules_looked lookE
  simp only [toPb]
  rw [q_checkG, bind_t]
  dsimp only [outE]
  by_cases h : (chkG g).2 = 0
  · rw [npos h, if_neg (by simpa using h)]
    by_cases h2 : r < 0
    · rw [pos h2, bind_t, sel_t, if_pos (Or.inl h2)]
      rfl
    by_cases h3 : r ≥ (g.length : Int)
    · rw [neg h2, bind_t, pb_t h3, sel_t, if_pos (Or.inr h3)]
      rfl
    rw [neg h2, bind_t, pb_f h3, sel_f, if_neg (by omega), q_graph (rg_of h)]
    rfl
  · rw [nneg h, if_pos h, if_neg h]
theorem q_calls8 (g : G) (r : Int) : F_rules_Calls ((g, ()), r, ()) = some ((if lookE g r = 0 then listP g.length (E g (Int.toNat r)) else []), lookE g r, ()) := by
  unfold F_rules_Calls
  simp only [toPb]
  rw [q_looked8, bind_t]
  dsimp only
  by_cases h : lookE g r = 0
  · obtain ⟨h1, h2, h3⟩ := lookE_ok h
    rw [npos h, if_pos h, if_pos h, adjG_len, need_pos ⟨by omega, by omega⟩, need_pos (by omega), Nat.zero_add, adjG_at (by omega), h]
  · rw [nneg h, if_neg h]
theorem from_one {e : Nat → Nat → Prop} {r i : Nat} : From e [(r : Int)] i ↔ Rt e r i := by
  unfold From
  constructor
  · rintro ⟨j, h1, h2⟩
    simp only [List.mem_singleton] at h1
    have : j = r := by omega
    subst this
    exact h2
  · exact fun h => ⟨r, by simp, h⟩
theorem q_reach1 {n : Nat} {e : Nat → Nat → Prop} {r : Nat} (hn : n ≤ 200) (he : ∀ r q, e r q → q < n) (hr : r < n) : ∃ m, F_rules_reach (adjG n e, [(r : Int)], ()) = some (m, ()) ∧ SetM n m (Rt e r) := by
  obtain ⟨m, h1, h2⟩ := q_reach (fr := [(r : Int)]) hn he (fun k hk => ⟨r, by simpa using hk, hr⟩) (by simp)
  refine ⟨m, h1, h2.nodup, h2.ones, fun k => ?_⟩
  rw [h2.mem]
  exact ⟨fun ⟨i, h3, h4, h5⟩ => ⟨i, h3, h4, from_one.1 h5⟩, fun ⟨i, h3, h4, h5⟩ => ⟨i, h3, h4, from_one.2 h5⟩⟩
theorem E_ltn {g : G} : ∀ r q, E g r q → q < g.length := fun _ _ h => E_lt h
/-! ### Groups -/
/-- Each comes to the other. -/
def Mut (e : Nat → Nat → Prop) (r q : Nat) : Prop := Rt e r q ∧ Rt e q r
theorem Mut.refl {e : Nat → Nat → Prop} (r : Nat) : Mut e r r := ⟨Rt.refl r, Rt.refl r⟩
theorem Mut.symm {e : Nat → Nat → Prop} {r q : Nat} (h : Mut e r q) : Mut e q r := ⟨h.2, h.1⟩
theorem Mut.trans {e : Nat → Nat → Prop} {r q p : Nat} (h : Mut e r q) (h2 : Mut e q p) : Mut e r p := ⟨h.1.trans h2.1, h2.2.trans h.2⟩
theorem least {P : Nat → Prop} (h : ∃ x, P x) : ∃ v, P v ∧ ∀ k, P k → v ≤ k := by
  obtain ⟨x, hx⟩ := h
  induction x using Nat.strongRecOn with
  | _ x ih =>
    by_cases h2 : ∃ y, y < x ∧ P y
    · obtain ⟨y, h3, h4⟩ := h2
      exact ih y h3 h4
    · exact ⟨x, hx, fun k hk => Nat.le_of_not_lt fun hlt => h2 ⟨k, hlt, hk⟩⟩
noncomputable def lead (e : Nat → Nat → Prop) (r : Nat) : Nat := Classical.choose (least ⟨r, Mut.refl (e := e) r⟩)
theorem lead_mut {e : Nat → Nat → Prop} {r : Nat} : Mut e r (lead e r) := (Classical.choose_spec (least ⟨r, Mut.refl (e := e) r⟩)).1
theorem lead_le {e : Nat → Nat → Prop} {r k : Nat} (h : Mut e r k) : lead e r ≤ k := (Classical.choose_spec (least ⟨r, Mut.refl (e := e) r⟩)).2 k h
theorem lead_is {e : Nat → Nat → Prop} {r v : Nat} (h : Mut e r v) (h2 : ∀ k, Mut e r k → v ≤ k) : lead e r = v := Nat.le_antisymm (lead_le h) (h2 _ lead_mut)
theorem lead_lt {e : Nat → Nat → Prop} {n r : Nat} (h : r < n) : lead e r < n := Nat.lt_of_le_of_lt (lead_le (Mut.refl r)) h
theorem lead_eq {e : Nat → Nat → Prop} {r q : Nat} : lead e r = lead e q ↔ Mut e r q := by
  constructor
  · intro h
    have h1 := @lead_mut e r
    rw [h] at h1
    exact h1.trans lead_mut.symm
  · exact fun h => lead_is (h.trans lead_mut) fun k hk => lead_le (h.symm.trans hk)
theorem lead_lead {e : Nat → Nat → Prop} {r : Nat} : lead e (lead e r) = lead e r := lead_eq.2 lead_mut.symm
noncomputable def reach1 (n : Nat) (e : Nat → Nat → Prop) (r : Nat) : List (Int × Int) := ((F_rules_reach (adjG n e, [(r : Int)], ())).map (·.1)).getD []
theorem reach1_is {n : Nat} {e : Nat → Nat → Prop} {r : Nat} (hn : n ≤ 200) (he : ∀ r q, e r q → q < n) (hr : r < n) : F_rules_reach (adjG n e, [(r : Int)], ()) = some (reach1 n e r, ()) ∧ SetM n (reach1 n e r) (Rt e r) := by
  obtain ⟨m, h1, h2⟩ := q_reach1 (r := r) hn he hr
  have : reach1 n e r = m := by unfold reach1; rw [h1]; rfl
  rw [this]
  exact ⟨h1, h2⟩
theorem set_at {α : Type} {l : List α} {i : Nat} {v d : α} (h : i < l.length) : List.getD (List.set l i v) i d = v := by
  rw [List.getD_eq_getElem?_getD, List.getElem?_set_self h]
  rfl
theorem q_groups {n : Nat} {e : Nat → Nat → Prop} (hn : n ≤ 200) (he : ∀ r q, e r q → q < n) : F_rules_groups (adjG n e, ()) = some (genR n (fun r => (lead e r : Int)), ()) := by
  unfold F_rules_groups
  simp only [toPb, adjG_len, Int.toNat_natCast, Nat.zero_add]
  rw [need_pos ⟨by omega, by omega, by omega, by omega⟩]
  have hP1 : (List.replicate n ([] : List (Int × Int))).length = n := List.length_replicate
  have hP2 : (List.replicate n (0 : Int)).length = n := List.length_replicate
  have hall : gone (List.replicate n ([] : List (Int × Int))) (reach1 n e) n = genR n (reach1 n e) := by
    have := @gone_all _ (List.replicate n ([] : List (Int × Int))) (reach1 n e)
    rwa [hP1] at this
  have hout : gone (List.replicate n (0 : Int)) (fun r => (lead e r : Int)) n = genR n (fun r => (lead e r : Int)) := by
    have := @gone_all _ (List.replicate n (0 : Int)) (fun r => (lead e r : Int))
    rwa [hP2] at this
  refine loop_up (σ := (Int × Unit) × List (List (Int × Int)) × Unit) (ρ := List Int × Unit) n (fun i => (((i : Int), ()), gone (List.replicate n []) (reach1 n e) i, ())) rfl ?_ ?_
  · intro i hi
    have hgl : (gone (List.replicate n ([] : List (Int × Int))) (reach1 n e) i).length = n := by rw [gone_len (by omega), hP1]
    dsimp only
    rw [pos (by omega), (reach1_is hn he hi).1, bind_t, need_pos ⟨by omega, by omega⟩, Int.toNat_natCast, need_pos (by omega), need64 (by omega) (by omega), cast_succ, ← gone_set (f := reach1 n e) (by omega)]
  · dsimp only
    rw [neg (by omega), need_pos ⟨by omega, by omega, by omega, by omega⟩, hall]
    refine (congrArg (fun o => Option.bind o (fun val1 => some (Sum.inr val1))) (a₂ := some (genR n (fun r => (lead e r : Int)), ())) ?_).trans ?_
    · refine loop_up (σ := (Int × Unit) × List Int × List (List (Int × Int)) × Unit) (ρ := List Int × Unit) n (fun i => (((i : Int), ()), gone (List.replicate n 0) (fun r => (lead e r : Int)) i, genR n (reach1 n e), ())) rfl ?_ ?_ (r := (genR n (fun r => (lead e r : Int)), ()))
      · intro i hi
        have hgl : (gone (List.replicate n (0 : Int)) (fun r => (lead e r : Int)) i).length = n := by rw [gone_len (by omega), hP2]
        dsimp only
        simp only [genR_len, Int.toNat_natCast]
        rw [pos (by omega), need_pos ⟨by omega, by omega⟩, need_pos (by omega), need_pos ⟨by omega, by omega⟩, need_pos (by omega), genR_get hi]
        rw [cast_succ, ← gone_set (f := fun r => (lead e r : Int)) (by omega)]
        generalize gone (List.replicate n (0 : Int)) (fun r => (lead e r : Int)) i = O at hgl
        have hS := (reach1_is hn he hi).2
        refine rangeC_is (I := fun rem s => ∃ v : Nat, v < n ∧ Mut e i v ∧ s = ((), List.set O i (v : Int), genR n (reach1 n e), ()) ∧ (∀ k ∈ keysM rem, ∃ q : Nat, k = (q : Int) ∧ q < n ∧ Rt e i q) ∧ ∀ k : Nat, Mut e i k → v ≤ k ∨ (k : Int) ∈ keysM rem) ?_ ?_ ?_
        · rintro _ ⟨v, h1, h2, rfl, h3, h4⟩
          have h5 : lead e i = v := lead_is h2 fun k hk => by
            rcases h4 k hk with h | h
            · exact h
            · simp [keysM] at h
          dsimp only
          rw [need64 (by omega) (by omega), h5]
          rfl
        · rintro ⟨k, u⟩ rem _ l hp ⟨v, h1, h2, rfl, h3, h4⟩
          have hkp : (keysM l).Perm (k :: keysM rem) := hp.map (fun y : Int × Int => y.1)
          obtain ⟨q, rfl, hq, hr⟩ := h3 k (hkp.mem_iff.2 List.mem_cons_self)
          have h3' : ∀ k ∈ keysM rem, ∃ q : Nat, k = (q : Int) ∧ q < n ∧ Rt e i q := fun k hk => h3 k (hkp.mem_iff.2 (List.mem_cons_of_mem _ hk))
          have h4' : ∀ k : Nat, Mut e i k → v ≤ k ∨ k = q ∨ (k : Int) ∈ keysM rem := fun k hk => by
            rcases h4 k hk with h | h
            · exact Or.inl h
            · rcases List.mem_cons.1 (hkp.mem_iff.1 h) with h | h
              · exact Or.inr (Or.inl (by omega))
              · exact Or.inr (Or.inr h)
          dsimp only
          simp only [List.length_set, genR_len, Int.toNat_natCast]
          rw [need_pos ⟨by omega, by omega⟩, need_pos (by omega), set_at (by omega)]
          by_cases hlt : (q : Int) < (v : Int)
          · rw [pos hlt, need_pos ⟨by omega, by omega⟩, need_pos (by omega), genR_get hq, (reach1_is hn he hq).2.at i hi, bind_t]
            by_cases hb : Rt e q i
            · rw [if_pos (pb_t hb), pb_t (by omega), sel_t, need_pos ⟨by omega, by omega⟩, need_pos (by omega), need_pos trivial]
              refine ⟨_, rfl, q, hq, ⟨hr, hb⟩, by rw [List.set_set], h3', fun k hk => ?_⟩
              rcases h4' k hk with h | h | h
              · exact Or.inl (by omega)
              · exact Or.inl (by omega)
              · exact Or.inr h
            · rw [if_neg (by rw [pb_f hb]; simp), pb_f (by omega), sel_f, need_pos trivial]
              refine ⟨_, rfl, v, h1, h2, rfl, h3', fun k hk => ?_⟩
              rcases h4' k hk with h | h | h
              · exact Or.inl h
              · subst h; exact absurd hk.2 hb
              · exact Or.inr h
          · rw [neg hlt, bind_t, sel_f, need_pos trivial]
            refine ⟨_, rfl, v, h1, h2, rfl, h3', fun k hk => ?_⟩
            rcases h4' k hk with h | h | h
            · exact Or.inl h
            · exact Or.inl (by omega)
            · exact Or.inr h
        · refine ⟨i, hi, Mut.refl i, rfl, fun k hk => (hS.mem k).1 hk, fun k hk => Or.inr ((hS.mem _).2 ⟨k, rfl, Rt.lt he hk.1 hi, hk.1⟩)⟩
      · dsimp only
        rw [neg (by omega), hout]
    · rfl
end Go.Proofs

/-! Chapter 8: ready, Groups, Again. -/
namespace Go.Proofs
open Go Go.Abs
def Ready (n : Nat) (e : Nat → Nat → Prop) (told : Nat → Prop) (l : Nat) : Prop := ∀ r, r < n → lead e r = l → ∀ q, e r q → lead e q = l ∨ told (lead e q)
theorem q_ready {n : Nat} {e : Nat → Nat → Prop} {told : Nat → Prop} {l : Nat} (hn : n ≤ 200) (he : ∀ r q, e r q → q < n) : F_rules_ready (adjG n e, genR n (fun r => (lead e r : Int)), genR n (fun r => pb (told r)), (l : Int), ()) = some (pb (Ready n e told l), ()) := by
  unfold F_rules_ready
  simp only [toPb, adjG_len, genR_len, Int.toNat_natCast]
  refine (loop_all (σ := (Int × Unit) × Unit) (ρ := Bool × Unit) n (fun i => (((i : Int), ()), ())) (fun r => lead e r = l → ∀ q, e r q → lead e q = l ∨ told (lead e q)) (bad := (false, ())) (fin := (true, ())) rfl ?_ ?_).trans ?_
  · intro i hi
    dsimp only
    simp only [Int.toNat_natCast]
    rw [pos (by omega), need_pos ⟨by omega, by omega⟩, need_pos ⟨by omega, by omega⟩, genR_get hi]
    by_cases hl : lead e i = l
    · rw [npos (by omega), adjG_at hi]
      have hrl := @listP_len n (e i)
      refine (loop_all (σ := (Int × Unit) × Unit) (ρ := ((Int × Unit) × Unit) ⊕ (Bool × Unit)) (listP n (e i)).length (fun k => (((k : Int), ()), ())) (fun k => lead e (Int.toNat (List.getD (listP n (e i)) k 0)) = l ∨ told (lead e (Int.toNat (List.getD (listP n (e i)) k 0)))) (bad := Sum.inr (false, ())) (fin := Sum.inl (((i : Int) + 1, ()), ())) rfl ?_ ?_).trans ?_
      · intro k hk
        dsimp only
        obtain ⟨q, eq, hq, _⟩ := mem_listP.1 (getD_in (d := (0 : Int)) hk)
        simp only [Int.toNat_natCast]
        rw [eq]
        simp only [Int.toNat_natCast]
        have hlq := lead_lt (e := e) hq
        rw [pos (by omega), need_pos ⟨by omega, by omega⟩, need_pos ⟨by omega, by omega⟩, genR_get hq]
        by_cases h1 : lead e q = l
        · rw [npos (by omega), bind_t, sel_f, need64 (by omega) (by omega), if_pos (pb_t (Or.inl h1)), cast_succ]
        · simp only [Int.toNat_natCast]
          rw [nneg (by omega), need_pos ⟨by omega, by omega⟩, need_pos ⟨by omega, by omega⟩, genR_get hlq, bind_t]
          by_cases h2 : told (lead e q)
          · rw [pb_t h2, if_pos (pb_t (Or.inr h2)), cast_succ]
            simp only [Bool.not_true, sel_f]
            rw [need64 (by omega) (by omega)]
          · rw [pb_f h2, if_neg (by rw [pb_f (by rintro (h | h); exact h1 h; exact h2 h)]; simp)]
            rfl
      · dsimp only
        rw [neg (by omega), need64 (by omega) (by omega)]
        rfl
      · have h3 : pb (∀ k, k < (listP n (e i)).length → lead e (Int.toNat (List.getD (listP n (e i)) k 0)) = l ∨ told (lead e (Int.toNat (List.getD (listP n (e i)) k 0)))) = pb (lead e i = l → ∀ q, e i q → lead e q = l ∨ told (lead e q)) := by
          apply pb_congr
          rw [all_row (Q := fun x => lead e (Int.toNat x) = l ∨ told (lead e (Int.toNat x)))]
          simp only [Int.toNat_natCast]
          exact ⟨fun h _ q hq => h q (he _ _ hq) hq, fun h q _ hq => h hl q hq⟩
        rw [h3, cast_succ]
    · rw [nneg (by omega), need64 (by omega) (by omega), if_pos (pb_t (fun h => absurd h hl)), cast_succ]
  · dsimp only
    rw [neg (by omega)]
  · have h3 : pb (∀ r, r < n → lead e r = l → ∀ q, e r q → lead e q = l ∨ told (lead e q)) = pb (Ready n e told l) := rfl
    rw [h3]
    cases pb (Ready n e told l) <;> rfl
/-! ### Groups -/
theorem listP_succ {n : Nat} {p : Nat → Prop} : listP (n + 1) p = listP n p ++ if pb (p n) = true then [(n : Int)] else [] := by
  unfold listP
  rw [List.range_succ, List.filter_append, List.map_append]
  congr 1
  by_cases h : p n
  · simp [pb_t h]
  · simp [pb_f h]
theorem cnt_le {p q : Nat → Prop} : ∀ {n : Nat}, (∀ i, i < n → p i → q i) → (listP n p).length ≤ (listP n q).length
  | 0, _ => by simp [listP]
  | n + 1, h => by
    rw [listP_succ, listP_succ, List.length_append, List.length_append]
    have h1 := cnt_le (n := n) (p := p) (q := q) fun i hi => h i (by omega)
    by_cases h2 : p n
    · rw [if_pos (pb_t h2), if_pos (pb_t (h n (by omega) h2))]
      simp only [List.length_singleton]; omega
    · rw [if_neg (by rw [pb_f h2]; simp)]
      simp only [List.length_nil]; omega
theorem cnt_lt {p q : Nat → Prop} : ∀ {n : Nat}, (∀ i, i < n → p i → q i) → (∃ i, i < n ∧ q i ∧ ¬ p i) → (listP n p).length < (listP n q).length
  | 0, _, ⟨i, hi, _⟩ => by omega
  | n + 1, h, ⟨i, hi, hq, hp⟩ => by
    rw [listP_succ, listP_succ, List.length_append, List.length_append]
    by_cases hin : i = n
    · subst hin
      have h1 := cnt_le (n := i) (p := p) (q := q) fun j hj => h j (by omega)
      rw [if_neg (by rw [pb_f hp]; simp), if_pos (pb_t hq)]
      simp only [List.length_singleton, List.length_nil]; omega
    · have h1 := cnt_lt (n := n) (p := p) (q := q) (fun j hj => h j (by omega)) ⟨i, by omega, hq, hp⟩
      by_cases h2 : p n
      · rw [if_pos (pb_t h2), if_pos (pb_t (h n (by omega) h2))]
        simp only [List.length_singleton]; omega
      · rw [if_neg (by rw [pb_f h2]; simp)]
        simp only [List.length_nil]; omega
/-- Leaders in an order in which each is ready when told. -/
inductive OrdL (n : Nat) (e : Nat → Nat → Prop) : List Nat → Prop
  | nil : OrdL n e []
  | snoc {L : List Nat} {l : Nat} : OrdL n e L → l < n → lead e l = l → l ∉ L → Ready n e (· ∈ L) l → OrdL n e (L ++ [l])
theorem OrdL.lead {n : Nat} {e : Nat → Nat → Prop} {L : List Nat} (h : OrdL n e L) : ∀ l ∈ L, l < n ∧ lead e l = l := by
  induction h with
  | nil => simp
  | snoc _ h1 h2 _ _ ih =>
    intro l hl
    rcases List.mem_append.1 hl with h | h
    · exact ih l h
    · simp only [List.mem_singleton] at h; subst h; exact ⟨h1, h2⟩
theorem OrdL.nodup {n : Nat} {e : Nat → Nat → Prop} {L : List Nat} (h : OrdL n e L) : L.Nodup := by
  induction h with
  | nil => simp
  | snoc _ _ _ h3 _ ih =>
    rw [List.nodup_append]
    exact ⟨ih, by simp, fun a ha b hb => by simp only [List.mem_singleton] at hb; subst hb; exact fun c => h3 (c ▸ ha)⟩
theorem nodup_len {n : Nat} {L : List Nat} (h : L.Nodup) (h2 : ∀ l ∈ L, l < n) : L.length ≤ n := by
  have := keys_len (n := n) (m := L.map fun (l : Nat) => ((l : Int), (0 : Int))) (by
    unfold keysM
    rw [List.map_map]
    exact List.Pairwise.map _ (fun a b hab => by simp only [Function.comp]; omega) h) (fun k hk => by
    unfold keysM at hk
    rw [List.map_map] at hk
    obtain ⟨l, hl, e⟩ := List.mem_map.1 hk
    exact ⟨l, e.symm, h2 l hl⟩)
  simpa using this
/-- While a leader is untold, an untold one is ready. -/
theorem some_ready {n : Nat} {e : Nat → Nat → Prop} {L : List Nat} (he : ∀ r q, e r q → q < n) (h : ∃ l, l < n ∧ lead e l = l ∧ l ∉ L) : ∃ l, l < n ∧ lead e l = l ∧ l ∉ L ∧ Ready n e (· ∈ L) l := by
  obtain ⟨c, ⟨l, h1, h2, h3, rfl⟩, hmin⟩ := least (P := fun c => ∃ l, l < n ∧ lead e l = l ∧ l ∉ L ∧ (listP n (Rt e l)).length = c) (by
    obtain ⟨l, h1, h2, h3⟩ := h
    exact ⟨_, l, h1, h2, h3, rfl⟩)
  refine ⟨l, h1, h2, h3, fun r hr hrl q hq => ?_⟩
  by_cases hc : lead e q = l
  · exact Or.inl hc
  by_cases hd : lead e q ∈ L
  · exact Or.inr hd
  exfalso
  have hqn := he _ _ hq
  have h4 := hmin _ ⟨lead e q, lead_lt hqn, lead_lead, hd, rfl⟩
  have hlr : Rt e l r := (lead_eq.1 (h2.trans hrl.symm)).1
  have hlq : Rt e l (lead e q) := (Rt.tail hlr hq).trans lead_mut.1
  have h5 := cnt_lt (n := n) (p := Rt e (lead e q)) (q := Rt e l) (fun i _ hi => hlq.trans hi) ⟨l, h1, Rt.refl l, fun hb => hc (by
    have h6 : lead e (lead e q) = lead e l := lead_eq.2 ⟨hb, hlq⟩
    rw [lead_lead, h2] at h6
    exact h6)⟩
  omega
noncomputable def memG (n : Nat) (e : Nat → Nat → Prop) (l : Nat) : List Int := listP n fun r => lead e r = l
noncomputable def toldG (n : Nat) (L : List Nat) : List Bool := genR n fun r => pb (r ∈ L)
theorem toldG_len {n : Nat} {L : List Nat} : (toldG n L).length = n := genR_len
theorem toldG_at {n : Nat} {L : List Nat} {r : Nat} (h : r < n) : List.getD (toldG n L) r false = pb (r ∈ L) := genR_get h
theorem toldG_set {n : Nat} {L : List Nat} {l : Nat} : List.set (toldG n L) l true = toldG n (L ++ [l]) := by
  unfold toldG genR
  apply List.ext_getElem
  · simp
  · intro i h1 h2
    rw [List.getElem_set]
    simp only [List.getElem_map, List.getElem_range]
    split
    · rename_i h; subst h; exact (pb_t (by simp)).symm
    · rename_i h
      apply pb_congr
      simp only [List.mem_append, List.mem_singleton]
      exact ⟨Or.inl, fun h3 => by rcases h3 with h3 | h3; exact h3; exact absurd h3.symm h⟩
def NextL (n : Nat) (e : Nat → Nat → Prop) (L : List Nat) (i : Nat) : Prop := lead e i = i ∧ i ∉ L ∧ Ready n e (· ∈ L) i
theorem fromEx {A B : Type} {X : Option A} {Q : A → Prop} {P : B → Prop} {f : B → A} (h : ∃ r, X = some r ∧ Q r) (h2 : ∀ r, Q r → ∃ s', r = f s' ∧ P s') : ∃ s', X = some (f s') ∧ P s' := by
  obtain ⟨r, h3, h4⟩ := h
  obtain ⟨s', rfl, h5⟩ := h2 r h4
  exact ⟨s', h3, h5⟩
theorem q_Groups {g : G} (h : RightG g) : ∃ L, F_rules_Groups ((g, ()), ()) = some ((0 : Int), L.map (memG g.length (E g)), ()) ∧ OrdL g.length (E g) L ∧ ∀ l, l < g.length → lead (E g) l = l → l ∈ L := by
  have hg := rg_of h
  have hn := hg.len
  have he : ∀ r q, E g r q → q < g.length := E_ltn
  unfold F_rules_Groups
  simp only [toPb]
  rw [q_checkG, bind_t]
  dsimp only [outE]
  have h0 : (chkG g).2 = 0 := h
  rw [npos h0, q_graph hg, bind_t, q_groups hn he, bind_t]
  simp only [adjG_len, Int.toNat_natCast, Nat.zero_add]
  clear h0 hg h
  generalize g.length = n at *
  generalize E g = e at *
  rw [need_pos ⟨by omega, by omega, by omega, by omega⟩]
  refine loopC_ex (f := fun L : List Nat => ((0 : Int), L.map (memG n e), ())) (P := fun L => OrdL n e L ∧ ∀ l, l < n → lead e l = l → l ∈ L) (σ := (Bool × Unit) × List (List Int) × List Bool × List Int × List (List Int) × Unit)
    (I := fun s => ∃ L : List Nat, OrdL n e L ∧ s = ((s.1.1, ()), L.map (memG n e), toldG n L, genR n (fun r => (lead e r : Int)), adjG n e, ()) ∧ (s.1.1 = false → ∀ l, l < n → lead e l = l → l ∈ L)) (μ := fun s => (n - s.2.1.length) * 2 + if s.1.1 = true then 1 else 0) ?_ ?_
  · rintro ⟨⟨b, ⟨⟩⟩, s2⟩ ⟨L, hL, hs, hb⟩
    dsimp only at hs hb
    simp only [Prod.mk.injEq, true_and] at hs
    subst hs
    cases b with
    | false => exact Or.inr ⟨L, rfl, hL, hb rfl⟩
    | true =>
      left
      simp only [sel_t]
      have hLn := nodup_len hL.nodup (fun l hl => (hL.lead l hl).1)
      refine fromEx (f := Sum.inl) (Q := (fun r => (∃ l, l < n ∧ NextL n e L l ∧ r = Sum.inl ((true, ()), (L ++ [l]).map (memG n e), toldG n (L ++ [l]), genR n (fun r => (lead e r : Int)), adjG n e, ())) ∨ r = Sum.inl ((false, ()), L.map (memG n e), toldG n L, genR n (fun r => (lead e r : Int)), adjG n e, ()) ∧ ∀ i, i < n → ¬ NextL n e L i)) (loopC_ends (σ := (Int × Bool × Unit) × List (List Int) × List Bool × List Int × List (List Int) × Unit) (ρ := ((Bool × Unit) × List (List Int) × List Bool × List Int × List (List Int) × Unit) ⊕ (Int × List (List Int) × Unit))
        (Q := (fun r => (∃ l, l < n ∧ NextL n e L l ∧ r = Sum.inl ((true, ()), (L ++ [l]).map (memG n e), toldG n (L ++ [l]), genR n (fun r => (lead e r : Int)), adjG n e, ())) ∨ r = Sum.inl ((false, ()), L.map (memG n e), toldG n L, genR n (fun r => (lead e r : Int)), adjG n e, ()) ∧ ∀ i, i < n → ¬ NextL n e L i))
        (I := fun s1 => ∃ i : Nat, i ≤ n ∧ s1 = (((i : Int), false, ()), L.map (memG n e), toldG n L, genR n (fun r => (lead e r : Int)), adjG n e, ()) ∧ ∀ j, j < i → ¬ NextL n e L j) (μ := fun s1 => n - Int.toNat s1.1.1) ?_ _ ⟨0, Nat.zero_le _, rfl, fun j hj => by omega⟩) ?_
      rotate_left
      · rintro r (h2 | ⟨h2, h3⟩)
        · obtain ⟨l, hl, ⟨k1, k2, k3⟩, rfl⟩ := h2
          have hL2 := OrdL.snoc hL hl k1 k2 k3
          have := nodup_len hL2.nodup (fun l hl => (hL2.lead l hl).1)
          refine ⟨_, rfl, ⟨L ++ [l], hL2, rfl, fun h => by cases h⟩, ?_⟩
          dsimp only
          simp only [List.length_map, List.length_append, List.length_singleton, if_true] at this ⊢
          omega
        · subst h2
          refine ⟨_, rfl, ⟨L, hL, rfl, fun _ l hl hl2 => ?_⟩, by dsimp only; simp⟩
          by_cases hc : l ∈ L
          · exact hc
          · obtain ⟨l', g1, g2, g3, g4⟩ := some_ready he ⟨l, hl, hl2, hc⟩
            exact absurd ⟨g2, g3, g4⟩ (h3 l' g1)
      · rintro _ ⟨i, hi, rfl, hno⟩
        dsimp only
        simp only [Int.toNat_natCast, adjG_len, genR_len, toldG_len, List.length_map]
        by_cases hin : i < n
        · have hqr : F_rules_ready (adjG n e, genR n (fun r => (lead e r : Int)), toldG n L, (i : Int), ()) = some (pb (Ready n e (· ∈ L) i), ()) := q_ready hn he
          rw [pos (by omega), need_pos ⟨by omega, by omega⟩, need_pos (by omega), genR_get hin]
          have go : ∀ {A : Type} {x : Option A}, need (Fits .i64 ((i : Int) + 1)) x = x := need64 (by omega) (by omega)
          have more : ¬ NextL n e L i → ∀ j, j < i + 1 → ¬ NextL n e L j := fun h j hj => by
            by_cases hj2 : j = i
            · subst hj2; exact h
            · exact hno j (by omega)
          by_cases h1 : lead e i = i
          · rw [npos (by omega), need_pos ⟨by omega, by omega⟩, need_pos (by omega), toldG_at hin, bind_t]
            by_cases h2 : i ∈ L
            · left
              rw [pb_t h2, sel_t, bind_t, sel_t, go]
              exact ⟨_, rfl, ⟨i + 1, by omega, by rw [cast_succ], more fun h => h.2.1 h2⟩, by dsimp only; omega⟩
            · rw [pb_f h2, sel_f, hqr, bind_t, bind_t]
              by_cases h3 : Ready n e (· ∈ L) i
              · right
                rw [pb_t h3]
                simp only [Bool.not_true, sel_f]
                rw [need_pos ⟨by omega, by omega⟩, need_pos (by omega), toldG_set]
                refine ⟨Sum.inl ((true, ()), (L ++ [i]).map (memG n e), toldG n (L ++ [i]), genR n (fun r => (lead e r : Int)), adjG n e, ()), ?_, Or.inl ⟨i, hin, ⟨h1, h2, h3⟩, rfl⟩⟩
                refine loop_up (σ := (Int × Unit) × List Int × List Bool × List (List Int) × List Int × List (List Int) × Unit) n (fun k => (((k : Int), ()), listP k (fun r => lead e r = i), toldG n (L ++ [i]), L.map (memG n e), genR n (fun r => (lead e r : Int)), adjG n e, ())) rfl ?_ ?_
                · intro k hk
                  dsimp only
                  simp only [Int.toNat_natCast, genR_len]
                  have := @listP_len k (fun r => lead e r = i)
                  rw [pos (by omega), need_pos ⟨by omega, by omega⟩, need_pos (by omega), genR_get hk]
                  by_cases h4 : lead e k = i
                  · rw [pos (by omega), need_pos ⟨by omega, by omega⟩, need64 (by omega) (by omega), cast_succ, listP_succ, if_pos (pb_t h4)]
                  · rw [neg (by omega), need64 (by omega) (by omega), cast_succ, listP_succ, if_neg (by rw [pb_f h4]; simp), List.append_nil]
                · dsimp only
                  rw [neg (by omega), List.length_map, need_pos ⟨by omega, by omega⟩, List.map_append]
                  rfl
              · left
                rw [pb_f h3]
                simp only [Bool.not_false, sel_t]
                rw [go]
                exact ⟨_, rfl, ⟨i + 1, by omega, by rw [cast_succ], more fun h => h3 h.2.2⟩, by dsimp only; omega⟩
          · left
            rw [nneg (by omega), bind_t, sel_t, bind_t, sel_t, go]
            exact ⟨_, rfl, ⟨i + 1, by omega, by rw [cast_succ], more fun h => h1 h.1⟩, by dsimp only; omega⟩
        · right
          have : i = n := by omega
          subst this
          rw [neg (by omega)]
          exact ⟨_, rfl, Or.inr ⟨rfl, hno⟩⟩
  · refine ⟨[], OrdL.nil, ?_, fun h => by cases h⟩
    dsimp only
    have : List.replicate n false = toldG n [] := by
      unfold toldG genR
      apply List.ext_getElem
      · simp
      · intro i h1 h2
        simp [pb_f]
    rw [this]
    rfl
/-! ### Again -/
def Ag (e : Nat → Nat → Prop) (r : Nat) : Prop := ∃ q, e r q ∧ Rt e q r
theorem q_Again {g : G} (h : RightG g) : F_rules_Again ((g, ()), ()) = some ((0 : Int), genR g.length (fun r => pb (Ag (E g) r)), ()) := by
  have hg := rg_of h
  have hn := hg.len
  have he : ∀ r q, E g r q → q < g.length := E_ltn
  have h0 : (chkG g).2 = 0 := h
  unfold F_rules_Again
  simp only [toPb]
  rw [q_checkG, bind_t]
  dsimp only [outE]
  rw [npos h0, q_graph hg, bind_t]
  simp only [adjG_len, Int.toNat_natCast, Nat.zero_add]
  clear h0 hg h
  generalize g.length = n at *
  generalize E g = e at *
  have hP : (List.replicate n false).length = n := List.length_replicate
  have hall : gone (List.replicate n false) (fun r => pb (Ag e r)) n = genR n (fun r => pb (Ag e r)) := by
    have := @gone_all _ (List.replicate n false) (fun r => pb (Ag e r))
    rwa [hP] at this
  rw [need_pos ⟨by omega, by omega, by omega, by omega⟩]
  refine loop_up (σ := (Int × Unit) × List (List Int) × List Bool × Unit) n (fun i => (((i : Int), ()), adjG n e, gone (List.replicate n false) (fun r => pb (Ag e r)) i, ())) rfl ?_ ?_
  · intro i hi
    have hgl : (gone (List.replicate n false) (fun r => pb (Ag e r)) i).length = n := by rw [gone_len (by omega), hP]
    have hrl := @listP_len n (e i)
    dsimp only
    simp only [Int.toNat_natCast, adjG_len]
    rw [pos (by omega), need_pos ⟨by omega, by omega⟩, need_pos (by omega), adjG_at hi]
    obtain ⟨m, h1, h2⟩ := q_reach (fr := listP n (e i)) hn he (fun k hk => by
      obtain ⟨j, e1, e2, _⟩ := mem_listP.1 hk
      exact ⟨j, e1, e2⟩) (by omega)
    rw [h1, bind_t, need_pos ⟨by omega, by omega⟩, need_pos (by omega), need64 (by omega) (by omega), cast_succ, ← gone_set (f := fun r => pb (Ag e r)) (by omega), h2.at i hi]
    have h3 : From e (listP n (e i)) i ↔ Ag e i := by
      unfold From Ag
      constructor
      · rintro ⟨j, h4, h5⟩; exact ⟨j, (mem_listP_nat.1 h4).2, h5⟩
      · rintro ⟨j, h4, h5⟩; exact ⟨j, mem_listP_nat.2 ⟨he _ _ h4, h4⟩, h5⟩
    rw [pb_congr h3]
    by_cases h4 : Ag e i
    · rw [if_pos (pb_t h4), pb_t h4, pb_t (by omega)]
    · rw [if_neg (by rw [pb_f h4]; simp), pb_f h4, pb_f (by omega)]
  · dsimp only
    rw [adjG_len, neg (by omega), hall]
end Go.Proofs
