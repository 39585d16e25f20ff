/- Part of the proof of the law's row: YtlbajhkijnjhdaaWq08h. -/
import Derived.Test.YtlbajhkijnjhdaaWq08c
set_option linter.all false
set_option linter.unusedVariables false
set_option linter.unusedSimpArgs false
/-! Chapter 8: rising lists, walks over maps, what calls what. -/
namespace Go.Abs
/-- A walk over a map that comes to the same end whichever entry is next. -/
theorem rangeC_is {X σ R : Type} {B : X → List X → σ → Option (σ ⊕ R)} {B0 : σ → Option (σ ⊕ R)} {r : R} (I : List X → σ → Prop) (h0 : ∀ s, I [] s → B0 s = some (.inr r)) (hs : ∀ x rem s l, l.Perm (x :: rem) → I l s → ∃ s', B x rem s = some (.inl s') ∧ I rem s') : ∀ {l : List X} {s : σ}, I l s → rangeC B B0 l s = some r := by
  have ok : ∀ (n : Nat) (l : List X) (s : σ), l.length = n → I l s → rangeOK B B0 r n l s := by
    intro n
    induction n with
    | zero =>
      intro l s hl hI
      have : l = [] := List.length_eq_zero_iff.1 hl
      subst this
      exact h0 s hI
    | succ n ih =>
      intro l s hl hI x rem hp
      obtain ⟨s', h1, h2⟩ := hs x rem s l hp hI
      rw [h1]
      exact ih rem s' (by have := hp.length_eq; simp at this; omega) h2
  have uni : ∀ (n : Nat) (l : List X) (s : σ) (r' : R), l.length = n → I l s → rangeOK B B0 r' n l s → r' = r := by
    intro n
    induction n with
    | zero =>
      intro l s r' hl hI h
      have : l = [] := List.length_eq_zero_iff.1 hl
      subst this
      have h : B0 s = some (.inr r') := h
      rw [h0 s hI] at h
      simpa using h.symm
    | succ n ih =>
      intro l s r' hl hI h
      cases l with
      | nil => simp at hl
      | cons x rem =>
        have h1 := h x rem (List.Perm.refl _)
        obtain ⟨s', h2, h3⟩ := hs x rem s _ (List.Perm.refl _) hI
        rw [h2] at h1
        exact ih rem s' r' (by simpa using hl) h3 h1
  intro l s hI
  unfold rangeC
  have hex : ∃ r, rangeOK B B0 r l.length l s := ⟨r, ok _ l s rfl hI⟩
  rw [dif_pos hex]
  exact congrArg some (uni _ l s _ rfl hI (Classical.choose_spec hex))
end Go.Abs
namespace Go.Proofs
open Go Go.Abs
/-! ### Rising lists -/
/-- The numbers below 'n' of which something holds, rising. -/
noncomputable def listP (n : Nat) (p : Nat → Prop) : List Int := ((List.range n).filter fun i => pb (p i)).map fun (i : Nat) => (i : Int)
theorem mem_listP {n : Nat} {p : Nat → Prop} {k : Int} : k ∈ listP n p ↔ ∃ i : Nat, k = (i : Int) ∧ i < n ∧ p i := by
  unfold listP
  simp only [List.mem_map, List.mem_filter, List.mem_range, pb_iff]
  exact ⟨fun ⟨i, ⟨h1, h2⟩, h3⟩ => ⟨i, h3.symm, h1, h2⟩, fun ⟨i, h1, h2, h3⟩ => ⟨i, ⟨h2, h3⟩, h1.symm⟩⟩
theorem listP_rising (n : Nat) (p : Nat → Prop) : (listP n p).Pairwise (· < ·) := by
  unfold listP
  rw [List.pairwise_map]
  exact (List.pairwise_lt_range.filter _).imp fun h => by omega
theorem rising_nodup {l : List Int} (h : l.Pairwise (· < ·)) : l.Nodup := h.imp fun h => by omega
/-- A rising list is told by its members. -/
theorem rising_ext {a b : List Int} (ha : a.Pairwise (· < ·)) (hb : b.Pairwise (· < ·)) (h : ∀ k, k ∈ a ↔ k ∈ b) : a = b :=
  List.Perm.eq_of_pairwise (le := (· < ·)) (fun x y _ _ h1 h2 => by omega) ha hb ((List.perm_ext_iff_of_nodup (rising_nodup ha) (rising_nodup hb)).2 h)
theorem listP_congr {n : Nat} {p q : Nat → Prop} (h : ∀ i, i < n → (p i ↔ q i)) : listP n p = listP n q :=
  rising_ext (listP_rising _ _) (listP_rising _ _) fun k => by
    rw [mem_listP, mem_listP]
    exact ⟨fun ⟨i, h1, h2, h3⟩ => ⟨i, h1, h2, (h i h2).1 h3⟩, fun ⟨i, h1, h2, h3⟩ => ⟨i, h1, h2, (h i h2).2 h3⟩⟩
theorem listP_len {n : Nat} {p : Nat → Prop} : (listP n p).length ≤ n := by
  unfold listP
  rw [List.length_map]
  have := List.length_filter_le (fun i => pb (p i)) (List.range n)
  simpa using this
def sortI (l : List Int) : List Int := l.mergeSort (fun a b => decide (a ≤ b))
theorem sortI_perm (l : List Int) : (sortI l).Perm l := List.mergeSort_perm _ _
theorem sortI_sorted (l : List Int) : (sortI l).Pairwise (· ≤ ·) := by
  have := List.pairwise_mergeSort (le := fun a b : Int => decide (a ≤ b)) (fun a b c h1 h2 => by simp only [decide_eq_true_eq] at *; omega) (fun a b => by simp only [Bool.or_eq_true, decide_eq_true_eq]; omega) l
  exact this.imp fun h => by simpa using h
theorem sortI_congr {a b : List Int} (h : a.Perm b) : sortI a = sortI b :=
  List.Perm.eq_of_pairwise (le := (· ≤ ·)) (fun x y _ _ h1 h2 => by omega) (sortI_sorted a) (sortI_sorted b) ((sortI_perm a).trans (h.trans (sortI_perm b).symm))
theorem sortI_listP {l : List Int} {n : Nat} {p : Nat → Prop} (hn : l.Nodup) (h : ∀ k, k ∈ l ↔ ∃ i : Nat, k = (i : Int) ∧ i < n ∧ p i) : sortI l = listP n p := by
  refine List.Perm.eq_of_pairwise (le := (· ≤ ·)) (fun x y _ _ h1 h2 => by omega) (sortI_sorted l) ((listP_rising n p).imp fun h => by omega) ?_
  exact (sortI_perm l).trans ((List.perm_ext_iff_of_nodup hn (rising_nodup (listP_rising n p))).2 fun k => by rw [h k, mem_listP])
theorem q_sort (l : List Int) (h : l.length < 4611686018427387904) : F_slices_Sort_int_int (l, ()) = some (sortI l, ()) := by
  unfold F_slices_Sort_int_int
  rw [need_pos h]
  rfl
/-- 'sorted': the keys, rising. -/
theorem q_sorted (m : List (Int × Int)) (h : m.length ≤ 1000000) : F_rules_sorted (m, ()) = some (sortI (m.map (·.1)), ()) := by
  unfold F_rules_sorted
  rw [need_pos ⟨by omega, by omega, by dsimp only; omega, by dsimp only; omega⟩]
  refine rangeC_is (I := fun rem s => (s.2.1 ++ rem.map (·.1)).Perm (m.map (·.1))) ?_ ?_ ?_
  · rintro ⟨⟨⟩, l, ⟨⟩⟩ hI
    dsimp only at hI ⊢
    rw [List.map_nil, List.append_nil] at hI
    have hl : l.length = m.length := by have := hI.length_eq; simpa using this
    rw [q_sort l (by omega), sortI_congr hI]
    rfl
  · rintro ⟨k, v⟩ rem ⟨⟨⟩, l, ⟨⟩⟩ all hp hI
    dsimp only at hI ⊢
    have h1 : (l ++ k :: rem.map (·.1)).Perm (m.map (·.1)) := ((hp.map (fun y : Int × Int => y.1)).append_left l).symm.trans hI
    have hl : l.length + (rem.length + 1) = m.length := by have := h1.length_eq; simpa using this
    rw [need_pos ⟨Nat.le_refl _, by omega⟩, need_pos rfl]
    refine ⟨_, rfl, ?_⟩
    dsimp only
    rw [List.append_assoc]
    exact h1
  · dsimp only
    simp
/-! ### What calls what -/
/-- A right grammar. -/
def RightG (g : G) : Prop := (chkG g).2 = 0
theorem unkN_none {g : G} : ∀ {l : List NodeD} {k : Nat}, unkN g l k = none → ∀ n ∈ l, n.1 = 6 → ∃ j, findR g n.2.2.1 = some j
  | [], _, _, n, hn, _ => by simp at hn
  | n0 :: l, k, h, n, hn, h6 => by
    unfold unkN at h
    split at h
    · cases h
    · rename_i hc
      rcases List.mem_cons.1 hn with rfl | hn
      · cases hf : findR g n.2.2.1 with
        | some j => exact ⟨j, rfl⟩
        | none => exact absurd ⟨h6, hf⟩ hc
      · exact unkN_none h n hn h6
theorem unkG_none {g : G} : ∀ {l : List RuleD} {i : Nat}, unkG g l i = none → ∀ r ∈ l, ∀ n ∈ (r.2.1 : List NodeD), n.1 = 6 → ∃ j, findR g n.2.2.1 = some j
  | [], _, _, r, hr => by simp at hr
  | r0 :: l, i, h, r, hr => by
    unfold unkG at h
    split at h
    · cases h
    · rename_i hu
      rcases List.mem_cons.1 hr with rfl | hr
      · exact unkN_none hu
      · exact unkG_none h r hr
theorem scan_err {g : G} : ∀ {k i : Nat} {n : Int} {e : SpotD × Int}, scanG g k i n = some e → e.2 ≠ 0
  | 0, _, _, _, h => by simp [scanG] at h
  | k + 1, i, n, e, h => by
    unfold scanG at h
    split at h
    · simp only [Option.some.injEq] at h; subst h; simp
    split at h
    · simp only [Option.some.injEq] at h; subst h; simp
    split at h
    · rename_i h5
      simp only [Option.some.injEq] at h; subst h; exact h5
    split at h
    · simp only [Option.some.injEq] at h; subst h; simp
    · exact scan_err h
structure RG (g : G) : Prop where
  pos : 0 < g.length
  len : g.length ≤ 200
  good : ∀ j, j < g.length → goodR g j
  calls : ∀ r ∈ g, ∀ n ∈ (r.2.1 : List NodeD), n.1 = 6 → ∃ j, findR g n.2.2.1 = some j
theorem rg_of {g : G} (h : RightG g) : RG g := by
  unfold RightG chkG at h
  split at h
  · simp at h
  split at h
  · simp at h
  rename_i h0 h2
  cases hs : scanG g g.length 0 0 with
  | some e => rw [hs] at h; exact absurd h (scan_err hs)
  | none =>
    rw [hs] at h
    have h : (spotE (unkG g g 0)).2 = 0 := h
    cases hu : unkG g g 0 with
    | some p => rw [hu] at h; simp [spotE] at h
    | none => exact ⟨by omega, by omega, fun j hj => scan_good hs j (Nat.zero_le _) (by omega), unkG_none hu⟩
/-- A rule calls a rule. -/
def E (g : G) (r q : Nat) : Prop := ∃ n ∈ ((rth g r).2.1 : List NodeD), n.1 = 6 ∧ findR g n.2.2.1 = some q
end Go.Proofs

/-! Chapter 8: maps of numbers; the graph of a right grammar; what is reached. -/
namespace Go.Proofs
open Go Go.Abs
/-! ### Maps of numbers -/
def keysM (m : List (Int × Int)) : List Int := m.map fun y => y.1
theorem mem_put {x v k : Int} : ∀ {m : List (Int × Int)}, k ∈ keysM (mput eqI m x v) ↔ k = x ∨ k ∈ keysM m
  | [] => by simp [mput, keysM]
  | (a, u) :: m => by
    unfold mput
    by_cases h : eqI x a = true
    · rw [if_pos h]
      have := eqI_iff.1 h
      subst this
      simp [keysM]
    · rw [if_neg h]
      show k ∈ a :: keysM (mput eqI m x v) ↔ k = x ∨ k ∈ a :: keysM m
      rw [List.mem_cons, List.mem_cons, mem_put]
      exact ⟨fun h => by rcases h with h | h | h <;> simp [h], fun h => by rcases h with h | h | h <;> simp [h]⟩
theorem nodup_put {x v : Int} : ∀ {m : List (Int × Int)}, (keysM m).Nodup → (keysM (mput eqI m x v)).Nodup
  | [], _ => by simp [mput, keysM]
  | (a, u) :: m, hn => by
    unfold mput
    have hn : (a :: keysM m).Nodup := hn
    by_cases h : eqI x a = true
    · rw [if_pos h]
      exact hn
    · rw [if_neg h]
      show (a :: keysM (mput eqI m x v)).Nodup
      rw [List.nodup_cons] at hn ⊢
      refine ⟨fun hm => ?_, nodup_put hn.2⟩
      rcases mem_put.1 hm with h1 | h1
      · exact h (eqI_iff.2 h1.symm)
      · exact hn.1 h1
theorem find_put {x v y : Int} : ∀ {m : List (Int × Int)}, mfind eqI (mput eqI m x v) y = if y = x then some v else mfind eqI m y
  | [] => by
    unfold mput mfind
    by_cases h : y = x
    · rw [if_pos h, if_pos (eqI_iff.2 h)]
    · rw [if_neg h, if_neg (fun c => h (eqI_iff.1 c))]
      simp [mfind]
  | (a, u) :: m => by
    unfold mput
    by_cases h : eqI x a = true
    · rw [if_pos h]
      have h := eqI_iff.1 h
      subst h
      simp only [mfind]
      by_cases h2 : y = x
      · rw [if_pos h2, if_pos (eqI_iff.2 h2)]
      · rw [if_neg h2, if_neg (fun c => h2 (eqI_iff.1 c)), if_neg (fun c => h2 (eqI_iff.1 c))]
    · rw [if_neg h]
      simp only [mfind]
      rw [find_put]
      by_cases h3 : eqI y a = true
      · rw [if_pos h3, if_pos h3]
        have h3 := eqI_iff.1 h3
        subst h3
        rw [if_neg (fun c => h (eqI_iff.2 c.symm))]
      · rw [if_neg h3, if_neg h3]
theorem find_val {k : Int} : ∀ {m : List (Int × Int)} {v : Int}, mfind eqI m k = some v → (k, v) ∈ m
  | (a, u) :: m, v, h => by
    unfold mfind at h
    split at h
    · rename_i h1
      have h1 := eqI_iff.1 h1
      subst h1
      cases h
      exact List.mem_cons_self
    · exact List.mem_cons_of_mem _ (find_val h)
theorem find_no {k : Int} : ∀ {m : List (Int × Int)}, mfind eqI m k = none → k ∉ keysM m
  | [], _ => by simp [keysM]
  | (a, u) :: m, h => by
    unfold mfind at h
    split at h
    · cases h
    · rename_i h1
      show k ∉ a :: keysM m
      rw [List.mem_cons]
      rintro (h2 | h2)
      · exact h1 (eqI_iff.2 h2)
      · exact find_no h h2
theorem len_put {x v : Int} : ∀ {m : List (Int × Int)}, (mput eqI m x v).length ≤ m.length + 1
  | [] => by simp [mput]
  | (a, u) :: m => by
    unfold mput
    by_cases h : eqI x a = true
    · rw [if_pos h]; simp
    · rw [if_neg h]
      have := @len_put x v m
      simp only [List.length_cons]; omega
/-- A map that is used as a set. -/
structure SetM (n : Nat) (m : List (Int × Int)) (p : Nat → Prop) : Prop where
  nodup : (keysM m).Nodup
  ones : ∀ y ∈ m, y.2 = 1
  mem : ∀ k, k ∈ keysM m ↔ ∃ i : Nat, k = (i : Int) ∧ i < n ∧ p i
theorem SetM.len {n : Nat} {m : List (Int × Int)} {p : Nat → Prop} (h : SetM n m p) : m.length ≤ n := by
  have h1 := sortI_listP h.nodup h.mem
  have h2 := congrArg List.length h1
  rw [(sortI_perm _).length_eq] at h2
  have h3 := @listP_len n p
  simp only [keysM, List.length_map] at h2
  omega
theorem SetM.at {n : Nat} {m : List (Int × Int)} {p : Nat → Prop} (h : SetM n m p) (k : Nat) (hk : k < n) : Option.getD (mfind eqI m (k : Int)) (0 : Int) = if pb (p k) then 1 else 0 := by
  cases hf : mfind eqI m (k : Int) with
  | none =>
    have h1 := find_no hf
    rw [h.mem] at h1
    rw [pb_f (fun hp => h1 ⟨k, rfl, hk, hp⟩)]
    rfl
  | some v =>
    have h1 := find_val hf
    have h2 : (k : Int) ∈ keysM m := List.mem_map.2 ⟨_, h1, rfl⟩
    obtain ⟨i, h3, h4, h5⟩ := (h.mem _).1 h2
    have : k = i := by omega
    subst this
    rw [pb_t h5]
    exact h.ones _ h1
theorem SetM.sorted {n : Nat} {m : List (Int × Int)} {p : Nat → Prop} (h : SetM n m p) (hn : n ≤ 1000000) : F_rules_sorted (m, ()) = some (listP n p, ()) := by
  rw [q_sorted m (by have := h.len; omega)]
  have := sortI_listP h.nodup h.mem
  unfold keysM at this
  rw [this]
/-! ### The graph -/
def idxN (g : G) (x : NodeD) : Int := Option.getD (mfind eqS (nums g) x.2.2.1) 0
def callM (g : G) (body : List NodeD) : Nat → List (Int × Int)
  | 0 => []
  | k + 1 => if (List.getD body k zNode).1 = 6 then mput eqI (callM g body k) (idxN g (List.getD body k zNode)) (Option.getD (mfind eqI (callM g body k) (idxN g (List.getD body k zNode))) 0 + 1) else callM g body k
theorem callM_nodup {g : G} {body : List NodeD} : ∀ k, (keysM (callM g body k)).Nodup
  | 0 => by simp [callM, keysM]
  | k + 1 => by
    unfold callM
    split
    · exact nodup_put (callM_nodup k)
    · exact callM_nodup k
theorem callM_mem {g : G} {body : List NodeD} {x : Int} : ∀ k, x ∈ keysM (callM g body k) ↔ ∃ i, i < k ∧ (List.getD body i zNode).1 = 6 ∧ x = idxN g (List.getD body i zNode)
  | 0 => by simp [callM, keysM]
  | k + 1 => by
    unfold callM
    split
    · rename_i h6
      rw [mem_put, callM_mem k]
      constructor
      · rintro (h | ⟨i, h1, h2⟩)
        · exact ⟨k, by omega, h6, h⟩
        · exact ⟨i, by omega, h2⟩
      · rintro ⟨i, h1, h2, h3⟩
        by_cases hi : i = k
        · subst hi; exact Or.inl h3
        · exact Or.inr ⟨i, by omega, h2, h3⟩
    · rename_i h6
      rw [callM_mem k]
      constructor
      · rintro ⟨i, h1, h2⟩; exact ⟨i, by omega, h2⟩
      · rintro ⟨i, h1, h2, h3⟩
        by_cases hi : i = k
        · subst hi; exact absurd h2 h6
        · exact ⟨i, by omega, h2, h3⟩
theorem callM_val {g : G} {body : List NodeD} : ∀ k x, 0 ≤ Option.getD (mfind eqI (callM g body k) x) (0 : Int) ∧ Option.getD (mfind eqI (callM g body k) x) (0 : Int) ≤ (k : Int)
  | 0, x => by simp [callM, mfind]
  | k + 1, x => by
    unfold callM
    split
    · rw [find_put]
      split
      · have := callM_val (g := g) (body := body) k (idxN g (List.getD body k zNode))
        simp only [Option.getD_some]
        omega
      · have := callM_val (g := g) (body := body) k x
        omega
    · have := callM_val (g := g) (body := body) k x
      omega
theorem callM_len {g : G} {body : List NodeD} : ∀ k, (callM g body k).length ≤ k
  | 0 => by simp [callM]
  | k + 1 => by
    unfold callM
    split
    · exact Nat.le_trans len_put (by have := @callM_len g body k; omega)
    · have := @callM_len g body k; omega
theorem E_row {g : G} (hg : RG g) {r : Nat} (hr : r < g.length) (x : Int) : x ∈ keysM (callM g (rth g r).2.1 (rth g r).2.1.length) ↔ ∃ i : Nat, x = (i : Int) ∧ i < g.length ∧ E g r i := by
  rw [callM_mem]
  constructor
  · rintro ⟨i, h1, h2, rfl⟩
    have hm : List.getD (rth g r).2.1 i zNode ∈ ((rth g r).2.1 : List NodeD) := by
      rw [List.getD_eq_getElem?_getD, List.getElem?_eq_getElem h1]
      exact List.getElem_mem h1
    obtain ⟨j, hj⟩ := hg.calls _ (getD_memR hr) _ hm h2
    refine ⟨j, ?_, (findR_at hj).1, _, hm, h2, hj⟩
    unfold idxN
    rw [nums_find, hj]
    rfl
  · rintro ⟨i, rfl, h1, n, hn, h6, hf⟩
    obtain ⟨j, hj, rfl⟩ := List.getElem_of_mem hn
    have e : List.getD (rth g r).2.1 j zNode = (rth g r).2.1[j] := by
      rw [List.getD_eq_getElem?_getD, List.getElem?_eq_getElem hj]
      rfl
    refine ⟨j, hj, by rw [e]; exact h6, ?_⟩
    unfold idxN
    rw [e, nums_find, hf]
    rfl
/-- The rows of a graph. -/
noncomputable def adjG (n : Nat) (e : Nat → Nat → Prop) : List (List Int) := genR n fun r => listP n (e r)
theorem adjG_len {n : Nat} {e : Nat → Nat → Prop} : (adjG n e).length = n := genR_len
theorem adjG_at {n : Nat} {e : Nat → Nat → Prop} {r : Nat} (h : r < n) : List.getD (adjG n e) r [] = listP n (e r) := genR_get h
theorem q_graph {g : G} (hg : RG g) : F_rules_graph ((g, ()), ()) = some (adjG g.length (E g), ()) := by
  have hl := hg.len
  unfold F_rules_graph
  simp only [toPb]
  rw [q_numbers g (by omega), bind_t]
  dsimp only
  rw [need_pos ⟨by omega, by omega, by omega, by omega⟩, Int.toNat_natCast]
  have hP : (List.replicate g.length ([] : List Int)).length = g.length := List.length_replicate
  refine loop_up (σ := (Int × Unit) × List (List Int) × Unit) (ρ := List (List Int) × Unit) g.length (fun i => (((i : Int), ()), gone (List.replicate g.length []) (fun r => listP g.length (E g r)) i, ())) rfl ?_ ?_
  · intro i hi
    dsimp only
    have hb := good_len (hg.good i hi)
    have hfold : List.getD g i zRule = rth g i := rfl
    rw [pos (by omega), need_pos ⟨by omega, by omega⟩, Int.toNat_natCast, hfold]
    refine loop_up (σ := (Int × Unit) × List (Int × Int) × List (List Int) × Unit) (rth g i).2.1.length (fun k => (((k : Int), ()), callM g (rth g i).2.1 k, gone (List.replicate g.length []) (fun r => listP g.length (E g r)) i, ())) rfl ?_ ?_
    · intro k hk
      dsimp only
      rw [pos (by omega), need_pos ⟨by omega, by omega⟩, Int.toNat_natCast]
      show sel _ (need (Fits _ (Option.getD (mfind eqI (callM g (rth g i).2.1 k) (idxN g _)) 0 + 1)) (need _ (some (Sum.inl (_, mput eqI (callM g (rth g i).2.1 k) (idxN g _) (Option.getD (mfind eqI (callM g (rth g i).2.1 k) (idxN g _)) 0 + 1), _))))) _ = _
      have hv := callM_val (g := g) (body := (rth g i).2.1) k (idxN g (List.getD (rth g i).2.1 k zNode))
      by_cases h6 : (List.getD (rth g i).2.1 k zNode).1 = 6
      · rw [pos h6, need64 (by omega) (by omega), need64 (by omega) (by omega), cast_succ, callM, if_pos h6]
      · rw [neg h6, need64 (by omega) (by omega), cast_succ, callM, if_neg h6]
    · dsimp only
      have hS : sortI (keysM (callM g (rth g i).2.1 (rth g i).2.1.length)) = listP g.length (E g i) := sortI_listP (callM_nodup _) (E_row hg hi)
      have hL := callM_len (g := g) (body := (rth g i).2.1) (rth g i).2.1.length
      rw [neg (by omega), q_sorted _ (by omega)]
      change Option.bind (Option.bind (some (sortI (keysM (callM g (rth g i).2.1 (rth g i).2.1.length)), ())) _) _ = _
      rw [hS, bind_t]
      dsimp only
      have hgl : (gone (List.replicate g.length []) (fun r => listP g.length (E g r)) i).length = g.length := by rw [gone_len (by omega), hP]
      rw [need_pos ⟨by omega, by omega⟩, need_pos (by omega), need64 (by omega) (by omega), bind_t, cast_succ]
      rw [Nat.zero_add, ← gone_set (f := fun r => listP g.length (E g r)) (by omega)]
  · dsimp only
    rw [neg (by omega)]
    have := @gone_all _ (List.replicate g.length ([] : List Int)) (fun r => listP g.length (E g r))
    rw [hP] at this
    rw [this]
    rfl
end Go.Proofs

/-! Chapter 8: what is reached. -/
namespace Go.Proofs
open Go Go.Abs
/-- A way of calls, of none or more. -/
inductive Rt (e : Nat → Nat → Prop) : Nat → Nat → Prop
  | refl (r : Nat) : Rt e r r
  | tail {r q p : Nat} : Rt e r q → e q p → Rt e r p
theorem Rt.trans {e : Nat → Nat → Prop} {a b c : Nat} (h1 : Rt e a b) (h2 : Rt e b c) : Rt e a c := by
  induction h2 with
  | refl => exact h1
  | tail _ h ih => exact Rt.tail ih h
theorem Rt.one {e : Nat → Nat → Prop} {a b : Nat} (h : e a b) : Rt e a b := Rt.tail (Rt.refl a) h
theorem Rt.lt {e : Nat → Nat → Prop} {n : Nat} (he : ∀ r q, e r q → q < n) {a b : Nat} (h : Rt e a b) (ha : a < n) : b < n := by
  cases h with
  | refl => exact ha
  | tail _ h => exact he _ _ h
/-- What is reached from a list. -/
def From (e : Nat → Nat → Prop) (fr : List Int) (i : Nat) : Prop := ∃ j : Nat, (j : Int) ∈ fr ∧ Rt e j i
structure InvR (n : Nat) (e : Nat → Nat → Prop) (fr : List Int) (l : Nat) (W : List Int) (m : List (Int × Int)) : Prop where
  le : l ≤ W.length
  sz : l ≤ fr.length + m.length * n
  work : ∀ k ∈ List.take l W, ∃ i : Nat, k = (i : Int) ∧ i < n ∧ From e fr i
  nodup : (keysM m).Nodup
  ones : ∀ y ∈ m, y.2 = 1
  seen : ∀ k ∈ keysM m, ∃ i : Nat, k = (i : Int) ∧ i < n ∧ From e fr i
  start : ∀ k ∈ fr, k ∈ keysM m ∨ k ∈ List.take l W
  next : ∀ r : Nat, r < n → (r : Int) ∈ keysM m → ∀ q, e r q → (q : Int) ∈ keysM m ∨ (q : Int) ∈ List.take l W
theorem InvR.end {n : Nat} {e : Nat → Nat → Prop} {fr W : List Int} {m : List (Int × Int)} (he : ∀ r q, e r q → q < n) (hf : ∀ k ∈ fr, ∃ i : Nat, k = (i : Int) ∧ i < n) (h : InvR n e fr 0 W m) : SetM n m (From e fr) := by
  refine ⟨h.nodup, h.ones, fun k => ⟨h.seen k, ?_⟩⟩
  rintro ⟨i, rfl, _, j, hj, hr⟩
  induction hr with
  | refl =>
    rcases h.start _ hj with h | h
    · exact h
    · simp at h
  | tail h1 h2 ih =>
    have hq : ∀ {a b : Nat}, Rt e a b → a < n → b < n := fun h h' => Rt.lt he h h'
    obtain ⟨j', e1, e2⟩ := hf _ hj
    have : j = j' := by omega
    subst this
    rcases h.next _ (hq h1 e2) (ih (hq h1 e2)) _ h2 with h | h
    · exact h
    · simp at h
end Go.Proofs

/-! Chapter 8: looked, Calls, Reach, groups, ready, Again. -/
namespace Go.Proofs
open Go Go.Abs
theorem in_getD {α : Type} {l : List α} {x : α} (d : α) (h : x ∈ l) : ∃ k, k < l.length ∧ List.getD l k d = x := by
  obtain ⟨j, hj, rfl⟩ := List.getElem_of_mem h
  exact ⟨j, hj, by rw [List.getD_eq_getElem?_getD, List.getElem?_eq_getElem hj]; rfl⟩
/-! ### Looked, Calls, Reach -/
noncomputable def lookE (g : G) (r : Int) : Int := if (chkG g).2 ≠ 0 then (chkG g).2 else if r < 0 ∨ r ≥ (g.length : Int) then 1 else 0
theorem lookE_ok {g : G} {r : Int} (h : lookE g r = 0) : RG g ∧ 0 ≤ r ∧ r < (g.length : Int) := by
  unfold lookE at h
  split at h
  · contradiction
  · rename_i h1
    split at h
    · cases h
    · exact ⟨rg_of (by unfold RightG; simpa using h1), by omega, by omega⟩
theorem lookE_in {g : G} (hg : RightG g) {r : Nat} (hr : r < g.length) : lookE g (r : Int) = 0 := by
  unfold lookE
  rw [if_neg (by simpa [RightG] using hg), if_neg (by omega)]
theorem q_looked8 (g : G) (r : Int) : F_rules_looked ((g, ()), r, ()) = some (lookE g r, (if lookE g r = 0 then adjG g.length (E g) else []), ()) := by
  unfold F_rules_looked lookE
  simp only [toPb]
  rw [q_checkG, bind_t]
  dsimp only [outE]
  by_cases h : (chkG g).2 = 0
  · rw [npos h, if_neg (by simpa using h)]
    by_cases h2 : r < 0
    · rw [pos h2, bind_t, sel_t, if_pos (Or.inl h2)]
      rfl
    by_cases h3 : r ≥ (g.length : Int)
    · rw [neg h2, bind_t, pb_t h3, sel_t, if_pos (Or.inr h3)]
      rfl
    rw [neg h2, bind_t, pb_f h3, sel_f, if_neg (by omega), q_graph (rg_of h)]
    rfl
  · rw [nneg h, if_pos h, if_neg h]
theorem q_calls8 (g : G) (r : Int) : F_rules_Calls ((g, ()), r, ()) = some ((if lookE g r = 0 then listP g.length (E g (Int.toNat r)) else []), lookE g r, ()) := by
  unfold F_rules_Calls
  simp only [toPb]
  rw [q_looked8, bind_t]
  dsimp only
  by_cases h : lookE g r = 0
  · obtain ⟨h1, h2, h3⟩ := lookE_ok h
    rw [npos h, if_pos h, if_pos h, adjG_len, need_pos ⟨by omega, by omega⟩, need_pos (by omega), Nat.zero_add, adjG_at (by omega), h]
  · rw [nneg h, if_neg h]
/-! ### Groups -/
/-- Each comes to the other. -/
def Mut (e : Nat → Nat → Prop) (r q : Nat) : Prop := Rt e r q ∧ Rt e q r
theorem Mut.refl {e : Nat → Nat → Prop} (r : Nat) : Mut e r r := ⟨Rt.refl r, Rt.refl r⟩
theorem Mut.symm {e : Nat → Nat → Prop} {r q : Nat} (h : Mut e r q) : Mut e q r := ⟨h.2, h.1⟩
theorem Mut.trans {e : Nat → Nat → Prop} {r q p : Nat} (h : Mut e r q) (h2 : Mut e q p) : Mut e r p := ⟨h.1.trans h2.1, h2.2.trans h.2⟩
theorem least {P : Nat → Prop} (h : ∃ x, P x) : ∃ v, P v ∧ ∀ k, P k → v ≤ k := by
  obtain ⟨x, hx⟩ := h
  induction x using Nat.strongRecOn with
  | _ x ih =>
    by_cases h2 : ∃ y, y < x ∧ P y
    · obtain ⟨y, h3, h4⟩ := h2
      exact ih y h3 h4
    · exact ⟨x, hx, fun k hk => Nat.le_of_not_lt fun hlt => h2 ⟨k, hlt, hk⟩⟩
noncomputable def lead (e : Nat → Nat → Prop) (r : Nat) : Nat := Classical.choose (least ⟨r, Mut.refl (e := e) r⟩)
end Go.Proofs

/-! Chapter 8: ready, Groups, Again. -/
namespace Go.Proofs
open Go Go.Abs
def Ready (n : Nat) (e : Nat → Nat → Prop) (told : Nat → Prop) (l : Nat) : Prop := ∀ r, r < n → lead e r = l → ∀ q, e r q → lead e q = l ∨ told (lead e q)
/-! ### Groups -/
/-- Leaders in an order in which each is ready when told. -/
inductive OrdL (n : Nat) (e : Nat → Nat → Prop) : List Nat → Prop
  | nil : OrdL n e []
  | snoc {L : List Nat} {l : Nat} : OrdL n e L → l < n → lead e l = l → l ∉ L → Ready n e (· ∈ L) l → OrdL n e (L ++ [l])
theorem OrdL.lead {n : Nat} {e : Nat → Nat → Prop} {L : List Nat} (h : OrdL n e L) : ∀ l ∈ L, l < n ∧ lead e l = l := by
  induction h with
  | nil => simp
  | snoc _ h1 h2 _ _ ih =>
    intro l hl
    rcases List.mem_append.1 hl with h | h
    · exact ih l h
    · simp only [List.mem_singleton] at h; subst h; exact ⟨h1, h2⟩
theorem OrdL.nodup {n : Nat} {e : Nat → Nat → Prop} {L : List Nat} (h : OrdL n e L) : L.Nodup := by
  induction h with
  | nil => simp
  | snoc _ _ _ h3 _ ih =>
    rw [List.nodup_append]
    exact ⟨ih, by simp, fun a ha b hb => by simp only [List.mem_singleton] at hb; subst hb; exact fun c => h3 (c ▸ ha)⟩
/-! ### Again -/
end Go.Proofs
