/- Part of the proof of the law's row: YtnoeomlanbdjeaaWq10h. -/
import Derived.Test.YtnoeomlanbdjeaaWq10c
set_option linter.all false
set_option linter.unusedVariables false
set_option linter.unusedSimpArgs false
/-! Chapter 10: a rule, a grammar looked at; the loops of the book. -/
namespace Go.Proofs
open Go Go.Abs
set_option linter.unusedSimpArgs false
noncomputable abbrev cN (g : G) : NodeD → Bool := callN g (fixN g)
noncomputable abbrev bodyR (g : G) (i : Nat) : List NodeD := (rth g i).2.1
theorem body_ok {g : G} (hg : RG g) {i : Nat} (hi : i < g.length) : (chkP (bodyR g i)).2 = 0 ∧ 0 < (bodyR g i).length ∧ (bodyR g i).length ≤ 2048 := by
  obtain ⟨h1, h2, h3⟩ := good_pos hg hi
  exact ⟨h1, h2, by show (rth g i).2.1.length ≤ 2048; omega⟩
/-- The heads of a rule, by the program. -/
noncomputable def headP (g : G) (i : Nat) : List Bool := (valP g (bodyR g i) ((bodyR g i).length - 1)).1
theorem node_call {g : G} (hg : RG g) {i : Nat} (hi : i < g.length) {k : Nat} (hk : k < (bodyR g i).length) (h6 : (nth (bodyR g i) k).1 = 6) : findR g (nth (bodyR g i) k).2.2.1 = some (numQ g (nth (bodyR g i) k)) := by
  have hmem : rth g i ∈ g := getD_in hi
  obtain ⟨q, hq⟩ := hg.calls _ hmem (nth (bodyR g i) k) (by
    unfold nth
    rw [Int.toNat_natCast]
    exact getD_in hk) h6
  unfold numQ
  rw [hq]
  rfl
theorem stk_last {β : Type} {z : β} {f : NodeD → β → β → β} {p : List NodeD} (hp : (chkP p).2 = 0) : stkOf z f p p.length = [valOf z f p (p.length - 1)] := by
  obtain ⟨_, _, _, h4, h5⟩ := chk_len hp
  have e : p.length - 1 + 1 = p.length := by omega
  unfold stkOf
  rw [← e, ends_succ hp (by omega)]
  have : beginP p ((p.length - 1 : Nat) : Int) = 0 := by rw [show ((p.length - 1 : Nat) : Int) = (p.length : Int) - 1 by omega]; exact h5
  rw [this]
  simp [ends_zero]
theorem q_frule {g : G} (hg : RG g) {i : Nat} (hi : i < g.length) {hs : List (List Bool)} {ls : List SpotD} (h1 : hs.length ≤ 1000) (h2 : ls.length ≤ 1000000) :
    F_ford_looked_rule (bodyR g i, (i : Int), nums g, (), fixE g, hs, ls, ()) = some ((), fixE g, hs ++ [headP g i], ls ++ loopsK (cN g) (bodyR g i) (i : Int) (bodyR g i).length, ()) := by
  obtain ⟨hp, hpos, hlen⟩ := body_ok hg hi
  have hn := hg.len
  have hcall := fun k hk h6 => node_call hg hi (k := k) hk h6
  have hEl := (fix_rg hg).1
  unfold headP
  generalize bodyR g i = p at *
  unfold F_ford_looked_rule
  simp only [toPb]
  refine loop_up (σ := (Int × Unit) × List pieceD × Unit × lookedD) p.length (fun k => (((k : Int), ()), stkOf zpiece (fP g) p k, (), fixE g, hs, ls ++ loopsK (cN g) p (i : Int) k, ())) ?_ ?_ ?_
  · simp [stkOf, ends_zero, loopsK]
  · intro k hk
    obtain ⟨s1, s2, s3, s4⟩ := stk_step zpiece (fP g) p hp hk
    have hsl := stk_len zpiece (fP g) p hp (show k ≤ p.length by omega)
    have hz := kid_zero zpiece p (k := k)
    have ha2 := arity_le (nth p k).1
    have ha := (node_ok (look_of hp hk)).1
    have hv : valP g p k = fP g (nth p k) (kidA zpiece p k (valsOf zpiece (fP g) p k)) (kidB zpiece p k (valsOf zpiece (fP g) p k)) := valOf_is _ _ _ _
    have hll := loopsK_len (c := cN g) (p := p) (r := (i : Int)) k
    have hnth : List.getD p k zNode = nth p (k : Int) := by simp [nth]
    dsimp only
    simp only [Int.toNat_natCast, hnth]
    generalize stkOf zpiece (fP g) p k = L at s1 s2 s3 s4 hsl ⊢
    have fin : ∀ V A, V = valP g p k → A = ls ++ loopsK (cN g) p (i : Int) (k + 1) → (need ((0 : Int) ≤ (0 : Int) ∧ ((0 : Int) ≤ (↑(List.length L) : Int) - arity (nth p k).1 ∧ (0 : Int) + ((↑(List.length L) : Int) - arity (nth p k).1) ≤ (↑(List.length L) : Int))) (need ((1 : Nat) ≤ (1 : Nat) ∧ (Int.toNat ((↑(List.length L) : Int) - arity (nth p k).1) ≤ List.length L ∧ (Int.toNat ((↑(List.length L) : Int) - arity (nth p k).1) + (1 : Nat)) * (201 : Nat) ≤ (140737488355328 : Nat))) (need (Fits Go.IntKind.i64 ((k : Int) + (1 : Int))) (some (Sum.inl (((k : Int) + (1 : Int), ()), List.take (Int.toNat ((↑(List.length L) : Int) - arity (nth p k).1)) L ++ [V], (), fixE g, hs, A, ()) : ((Int × Unit) × List pieceD × Unit × lookedD) ⊕ (Unit × List Em × List (List Bool) × List SpotD × Unit)))))) =
        some (Sum.inl ((((k + 1 : Nat) : Int), ()), stkOf zpiece (fP g) p (k + 1), (), fixE g, hs, ls ++ loopsK (cN g) p (i : Int) (k + 1), ())) := by
      rintro V A rfl rfl
      have e : Int.toNat ((↑(List.length L) : Int) - arity (nth p k).1) = L.length - (arity (nth p k).1).toNat := by omega
      rw [need_pos (by omega), need_pos (by omega), need64 (by omega) (by omega), cast_succ, ← s2, e]
    have noloop : ¬ (((nth p k).1 = 9 ∨ (nth p k).1 = 10 ∨ (nth p k).1 = 15) ∧ valN (cN g) p (k - 1) = true) → loopsK (cN g) p (i : Int) (k + 1) = loopsK (cN g) p (i : Int) k := by
      intro h
      rw [loopsK, if_neg h, List.append_nil]
    rw [pos (by omega), need_pos (by omega), q_arity, bind_t]
    dsimp only
    rw [need64 (by omega) (by omega), need64 (by omega) (by omega)]
    rcases arity_cases hp hk with h | h | h
    · have hzz := hz h (valsOf zpiece (fP g) p k)
      rw [hzz.1, hzz.2] at hv
      have e6 : ¬ ((nth p k).1 = 9 ∨ (nth p k).1 = 10 ∨ (nth p k).1 = 15) := by
        rcases arity_0 h with e | e | e | e | e | e | e <;> omega
      rw [pos (by omega), q_leaf h (q := numQ g (nth p k)) (ce := cN g (nth p k)) (fun h6 => ?_), bind_t, bind_t]
      · exact fin _ _ hv.symm (by rw [noloop (fun h => e6 h.1)])
      · have hf := hcall k hk h6
        have hlt := numQ_lt hg (nth p k)
        refine ⟨by rw [nums_find, hf]; rfl, by omega, by omega, ?_⟩
        rw [fixE_fst hg _ hlt]
        rfl
    · obtain ⟨m1, _⟩ := (ends_kids hp hk).2.1 h
      have g1 := s3 h
      have e1 : 0 + Int.toNat ((↑(List.length L) : Int) - arity (nth p k).1) = L.length - 1 := by omega
      have hA : kidA zpiece p k (valsOf zpiece (fP g) p k) = valP g p (k - 1) := kidA_one _ _ _ h m1
      rw [hA] at hv
      have hsnd := valP_snd (g := g) hp (k - 1) (by omega)
      rw [neg (by omega), pos (by omega), q_repeats, bind_t]
      dsimp only
      rw [e1, g1]
      have fin2 : ∀ A, A = ls ++ loopsK (cN g) p (i : Int) (k + 1) → (need ((0 : Int) ≤ (↑(List.length L) : Int) - arity (nth p k).1 ∧ (↑(List.length L) : Int) - arity (nth p k).1 < (↑(List.length L) : Int)) (need (L.length - 1 < List.length L) (Option.bind (F_ford_one (nth p k, valP g p (k - 1), ())) (fun (y3 : pieceD × Unit) => some (Sum.inl ((), y3.1, L, (), fixE g, hs, A, ()) : (Unit × pieceD × List pieceD × Unit × List EmptinessD × List (List Bool) × List shapeD × Unit) ⊕ (((Int × Unit) × List pieceD × Unit × lookedD) ⊕ (Unit × List Em × List (List Bool) × List SpotD × Unit))))))) = some (Sum.inl ((), valP g p k, L, (), fixE g, hs, ls ++ loopsK (cN g) p (i : Int) (k + 1), ())) := by
        rintro A rfl
        rw [need_pos (by omega), need_pos (by omega), q_one10 h (q := numQ g (nth p k)) (ce := cN g (nth p k)) (b := kidB zpiece p k (valsOf zpiece (fP g) p k)), bind_t, hv]
      by_cases hr : (nth p k).1 = 9 ∨ (nth p k).1 = 10 ∨ (nth p k).1 = 15
      · rw [pb_t hr, sel_t, need_pos (by omega), need_pos (by omega), bind_t, hsnd]
        cases hy : valN (cN g) p (k - 1) with
        | true =>
          rw [sel_t, need_pos (by rw [List.length_append]; omega), bind_t]
          dsimp only
          rw [g1, fin2 _ (by rw [loopsK, if_pos ⟨hr, hy⟩, List.append_assoc]), bind_t]
          exact fin _ _ rfl rfl
        | false =>
          rw [sel_f, bind_t]
          dsimp only
          rw [g1, fin2 _ (by rw [noloop (fun h => by rw [hy] at h; cases h.2)]), bind_t]
          exact fin _ _ rfl rfl
      · rw [pb_f hr, sel_f, bind_t, sel_f, bind_t]
        dsimp only
        rw [g1, fin2 _ (by rw [noloop (fun h => hr h.1)]), bind_t]
        exact fin _ _ rfl rfl
    · obtain ⟨k1, k2, k3, _⟩ := (ends_kids hp hk).2.2 h
      obtain ⟨g1, g2⟩ := s4 h
      have e1 : 0 + Int.toNat ((↑(List.length L) : Int) - arity (nth p k).1) = L.length - 2 := by omega
      have e2 : 0 + Int.toNat ((↑(List.length L) : Int) - arity (nth p k).1 + 1) = L.length - 1 := by omega
      have e6 : ¬ ((nth p k).1 = 9 ∨ (nth p k).1 = 10 ∨ (nth p k).1 = 15) := by
        rcases arity_78 h with e | e <;> omega
      rw [kidA_two _ _ _ h k2 k3, kidB_two _ _ _ h k1] at hv
      rw [neg (by omega), neg (by omega), need_pos (by omega), need_pos (by omega), need64 (by omega) (by omega), need_pos (by omega), need_pos (by omega), e1, e2, g1, g2, q_two10 h (valP_len hp _ (by omega)) (q := numQ g (nth p k)) (ce := cN g (nth p k)), bind_t, bind_t]
      exact fin _ _ hv.symm (by rw [noloop (fun h => e6 h.1)])
  · dsimp only
    rw [neg (by omega), stk_last hp]
    rw [need_pos (by simp), need_pos (by simp), need_pos (by omega), bind_t]
    rfl
/-- All loops, up to a rule. -/
noncomputable def loopsTo (g : G) : Nat → List SpotD
  | 0 => []
  | i + 1 => loopsTo g i ++ loopsK (cN g) (bodyR g i) (i : Int) (bodyR g i).length
theorem loopsTo_len {g : G} (hg : RG g) : ∀ i, i ≤ g.length → (loopsTo g i).length ≤ i * 2048
  | 0, _ => Nat.le_refl _
  | i + 1, h => by
    have h1 := loopsTo_len hg i (by omega)
    obtain ⟨_, _, h2⟩ := body_ok hg (show i < g.length by omega)
    have h3 := loopsK_len (c := cN g) (p := bodyR g i) (r := (i : Int)) (bodyR g i).length
    rw [loopsTo, List.length_append]
    omega
noncomputable def lookD (g : G) : lookedD := (fixE g, genR g.length (headP g), loopsTo g g.length, ())
end Go.Proofs

/-! Chapter 10: a grammar looked at; the loops by the book. -/
namespace Go.Proofs
open Go Go.Abs
set_option linter.unusedSimpArgs false
theorem nums_new {g : G} (hg : RG g) {i : Nat} (hi : i < g.length) : mfind eqS (numsF g i) (rth g i).1 = none := by
  rw [numsF_find (by omega)]
  have h2 := (hg.good i hi).2.1
  cases hf : findF (rth g i).1 (List.take i g) 0 with
  | none => rfl
  | some k =>
    exfalso
    apply h2
    have key : ∀ s, findF s (List.take i g) 0 = some k → findR g s = some k := fun s hs => by
      unfold findR
      conv => lhs; rw [← List.take_append_drop i g]
      rw [findF_append, hs]
    have e : findR g (rth g i).1 = some k := key _ hf
    obtain ⟨_, k2, _⟩ := findF_some hf
    rw [List.length_take] at k2
    unfold numR
    rw [e]
    show (k : Int) < (i : Int)
    omega
theorem nums_step {g : G} (hg : RG g) {i : Nat} (hi : i < g.length) : mput eqS (numsF g i) (rth g i).1 (i : Int) = numsF g (i + 1) := by
  have hf := nums_new hg hi
  rw [mput_new hf]
  show _ = if mfind eqS (numsF g i) (rth g i).1 = none then _ else _
  rw [if_pos hf]
  rfl
/-- What `look` tells. -/
noncomputable def look10 (g : G) : lookedD × SpotD × Int × Unit := if (chkG g).2 = 0 then (lookD g, zSpot, 0, ()) else (zlooked, (chkG g).1, (chkG g).2, ())
theorem q_look (g : G) : F_ford_look ((g, ()), ()) = some (look10 g) := by
  unfold F_ford_look look10
  simp only [toPb, q_checkG, bind_t]
  dsimp only [outE]
  by_cases h : (chkG g).2 = 0
  · have hg := rg_of h
    have hn := hg.len
    rw [npos h, if_pos h]
    refine loop_up (σ := (Int × Unit) × List (ByteArray × Int) × shapeD × Unit × List shapeD × List (List Bool) × List EmptinessD × GrammarD × Unit) g.length (fun i => (((i : Int), ()), numsF g i, zSpot, (), [], [], [], (g, ()), ())) rfl ?_ ?_
    · intro i hi
      dsimp only
      simp only [Int.toNat_natCast]
      rw [pos (by omega), need_pos (by omega), need64 (by omega) (by omega), show List.getD g i zRule = rth g i from rfl, nums_step hg hi, cast_succ]
    · dsimp only
      have e2 : fixG g = fixE g := by unfold fixG; rw [if_pos h]
      rw [neg (by omega), q_eRules, bind_t]
      dsimp only
      rw [npos h, e2]
      rw [show numsF g g.length = nums g from rfl]
      rw [show ∀ {A B : Type} {X : Option A} {v : A} {f : A → B}, X = some v → Option.bind X (fun val => some (f val)) = some (f v) from fun h => by rw [h, bind_t]]
      refine loop_up (σ := (Int × Unit) × List (ByteArray × Int) × Unit × List shapeD × List (List Bool) × List EmptinessD × shapeD × Unit × List shapeD × List (List Bool) × List EmptinessD × Unit) g.length (fun i => (((i : Int), ()), nums g, (), loopsTo g i, genR i (headP g), fixE g, zSpot, (), [], [], [], ())) rfl ?_ ?_
      · intro i hi
        have l1 := loopsTo_len hg i (by omega)
        dsimp only
        simp only [Int.toNat_natCast]
        rw [pos (by omega), need_pos (by omega), show (List.getD g i zRule).2.1 = bodyR g i from rfl, q_frule hg hi (by rw [genR_len]; omega) (by omega), bind_t]
        dsimp only
        rw [need64 (by omega) (by omega), cast_succ, genR_succ]
        rfl
      · dsimp only
        rw [neg (by omega)]
        rfl
  · rw [nneg h, if_neg h]
end Go.Proofs

/-! Chapter 10: the heads by the book. -/
namespace Go.Proofs
open Go Go.Abs
set_option linter.unusedSimpArgs false
theorem ends_rise {p : List NodeD} (hp : (chkP p).2 = 0) : ∀ {k : Nat}, k ≤ p.length → (endsI p k).Pairwise (· < ·) := by
  intro k
  induction k using Nat.strongRecOn with
  | _ k ih =>
    intro hk
    rw [endsI]
    split
    · rename_i h
      rw [List.pairwise_append]
      refine ⟨ih _ h.2 (by omega), List.pairwise_singleton _ _, fun a ha b hb => ?_⟩
      rw [List.mem_singleton] at hb
      have := ends_lt hp (k := (beginP p ((k : Int) - 1)).toNat) (by omega) a ha
      omega
    · exact List.Pairwise.nil
/-- Is a rule a head of a part? -/
def HD (g : G) (p : List NodeD) (k q : Nat) : Prop := List.getD (valP g p k).1 q false = true
/-- What is wanted of a node's parts. -/
noncomputable def partV (n : NodeD) (may : List Bool) (K : List Nat) (j : Nat) : Bool := pb (¬ n.1 = 7 ∨ j = 0) || List.getD may (List.getD K 0 0) false
noncomputable def wantK (n : NodeD) (may : List Bool) (K : List Nat) (W : List Bool) : Nat → List Bool
  | 0 => W
  | j + 1 => List.set (wantK n may K W j) (List.getD K j 0) (partV n may K j)
theorem wantK_len {n : NodeD} {may : List Bool} {K : List Nat} {W : List Bool} : ∀ j, (wantK n may K W j).length = W.length
  | 0 => rfl
  | j + 1 => by rw [wantK, List.length_set, wantK_len j]
theorem wantK_at {n : NodeD} {may : List Bool} {K : List Nat} {W : List Bool} (hK : K.Pairwise (· < ·)) (hb : ∀ x ∈ K, x < W.length) : ∀ m, m ≤ K.length → ∀ x, List.getD (wantK n may K W m) x false = true ↔ (∃ j, j < m ∧ List.getD K j 0 = x ∧ partV n may K j = true) ∨ ((∀ j, j < m → List.getD K j 0 ≠ x) ∧ List.getD W x false = true)
  | 0, _, x => by
    constructor
    · exact fun h => .inr ⟨fun j hj => by omega, h⟩
    · rintro (⟨j, hj, _⟩ | ⟨_, h⟩)
      · omega
      · exact h
  | m + 1, hm, x => by
    have ih := wantK_at (n := n) (may := may) hK hb m (by omega) x
    have hlt : List.getD K m 0 < (wantK n may K W m).length := by rw [wantK_len]; exact hb _ (getD_in (by omega))
    rw [wantK, setD_at hlt]
    by_cases e : List.getD K m 0 = x
    · rw [if_pos e]
      constructor
      · exact fun h => .inl ⟨m, by omega, e, h⟩
      · rintro (⟨j, hj, h1, h2⟩ | ⟨h, _⟩)
        · by_cases ej : j = m
          · subst ej; exact h2
          · exfalso
            have hlt2 := List.pairwise_iff_getElem.1 hK j m (by omega) (by omega) (by omega)
            have e1 : List.getD K j 0 = List.getD K m 0 := by rw [h1, e]
            rw [List.getD_eq_getElem?_getD, List.getD_eq_getElem?_getD, List.getElem?_eq_getElem (by omega), List.getElem?_eq_getElem (by omega)] at e1
            simp only [Option.getD_some] at e1
            omega
        · exact absurd e (h m (by omega))
    · rw [if_neg e, ih]
      constructor
      · rintro (⟨j, hj, h⟩ | ⟨h1, h2⟩)
        · exact .inl ⟨j, by omega, h⟩
        · refine .inr ⟨fun j hj => ?_, h2⟩
          by_cases ej : j = m
          · subst ej; exact e
          · exact h1 j (by omega)
      · rintro (⟨j, hj, h1, h2⟩ | ⟨h1, h2⟩)
        · refine .inl ⟨j, ?_, h1, h2⟩
          by_cases ej : j = m
          · subst ej; exact absurd h1 e
          · omega
        · exact .inr ⟨fun j hj => h1 j (by omega), h2⟩
/-- A part's heads, by its own parts. -/
theorem HD_step {g : G} (hg : RG g) {p : List NodeD} (hp : (chkP p).2 = 0) {may : List Bool} (hmay : ∀ j, j < p.length → List.getD may j false = valN (cN g) p j) {k : Nat} (hk : k < p.length) {K : List Nat} (hK : castL K = partsP p (k : Int)) {q : Nat} (hq : q < 200) :
    HD g p k q ↔ ((nth p k).1 = 6 ∧ q = numQ g (nth p k)) ∨ (¬ (((nth p k).1 = 14 ∨ (nth p k).1 = 16) ∧ (nth p k).2.1 = 0) ∧ ∃ j, j < K.length ∧ partV (nth p k) may K j = true ∧ HD g p (List.getD K j 0) q) := by
  have hv : valP g p k = fP g (nth p k) (kidA zpiece p k (valsOf zpiece (fP g) p k)) (kidB zpiece p k (valsOf zpiece (fP g) p k)) := valOf_is _ _ _ _
  have hn := numQ_lt hg (nth p k)
  have hlen := hg.len
  have castinj : ∀ {a b : List Nat}, castL a = castL b → a = b := fun {a b} h => by
    unfold castL at h
    exact (List.map_inj_right (fun x y h => by omega)).1 h
  unfold HD
  rw [hv]
  show List.getD (headsH (nth p k) (numQ g (nth p k)) _ _ _) q false = true ↔ _
  rcases arity_cases hp hk with h | h | h
  · have hz := kid_zero zpiece p h (valsOf zpiece (fP g) p k)
    rw [hz.1, hz.2]
    have e0 : K = [] := by
      have : partsP p (k : Int) = [] := by unfold partsP; rw [if_neg (by omega), if_neg (by omega)]
      rw [this] at hK
      exact castinj (b := []) hK
    subst e0
    have hno : ¬ ∃ j, j < ([] : List Nat).length ∧ partV (nth p k) may [] j = true ∧ List.getD (valP g p (List.getD [] j 0)).1 q false = true := fun ⟨j, hj, _⟩ => by simp at hj
    by_cases h6 : (nth p k).1 = 6
    · unfold headsH
      rw [if_pos h6, setD_at (by rw [noB_len]; omega)]
      constructor
      · intro h
        split at h
        · rename_i e; exact .inl ⟨h6, e.symm⟩
        · rw [noB_at] at h; cases h
      · rintro (⟨_, e⟩ | ⟨_, h⟩)
        · rw [if_pos e.symm]
        · exact absurd h hno
    · have e : headsH (nth p k) (numQ g (nth p k)) zpiece.1 zpiece.1 zpiece.2.1 = noB := by
        unfold headsH
        rw [if_neg h6, if_neg (by intro e; rw [e] at h; exact absurd h (by decide)), if_neg (by intro e; rw [e] at h; exact absurd h (by decide))]
        split <;> rfl
      rw [e, noB_at]
      constructor
      · intro h; cases h
      · rintro (⟨h, _⟩ | ⟨_, h⟩)
        · exact absurd h h6
        · exact absurd h hno
  · obtain ⟨e1, m1⟩ := kids_one h hp hk
    have e0 : K = [k - 1] := by
      rw [e1] at hK
      exact castinj (b := [k - 1]) hK
    subst e0
    rw [kidA_one _ _ _ h m1]
    have hn7 : ¬ (nth p k).1 = 6 ∧ ¬ (nth p k).1 = 7 ∧ ¬ (nth p k).1 = 8 := by rcases arity_1 h with e | e | e | e | e | e | e | e | e | e | e | e | e | e <;> omega
    unfold headsH
    rw [if_neg hn7.1, if_neg hn7.2.2, if_neg hn7.2.1]
    have hp0 : partV (nth p k) may [k - 1] 0 = true := by unfold partV; rw [pb_t (.inr rfl), Bool.true_or]
    by_cases hs : ((nth p k).1 = 14 ∨ (nth p k).1 = 16) ∧ (nth p k).2.1 = 0
    · rw [if_pos hs, noB_at]
      constructor
      · intro h; cases h
      · rintro (⟨h, _⟩ | ⟨h, _⟩)
        · exact absurd h hn7.1
        · exact absurd hs h
    · rw [if_neg hs]
      constructor
      · exact fun h => .inr ⟨hs, 0, by simp, hp0, h⟩
      · rintro (⟨h, _⟩ | ⟨_, j, hj, _, h⟩)
        · exact absurd h hn7.1
        · have : j = 0 := by simp at hj; exact hj
          subst this
          exact h
  · obtain ⟨e1, m1, m2⟩ := kids_two h hp hk
    obtain ⟨_, k2, k3, _⟩ := (ends_kids hp hk).2.2 h
    rw [kidA_two _ _ _ h k2 k3, kidB_two _ _ _ h m1]
    generalize (beginP p ((k : Int) - 1) - 1).toNat = a at e1 m2 ⊢
    have e0 : K = [a, k - 1] := by
      rw [e1] at hK
      exact castinj (b := [a, k - 1]) hK
    subst e0
    have ha : (valOf zpiece (fP g) p a).2.1 = valN (cN g) p a := valP_snd hp a (by omega)
    have hp0 : partV (nth p k) may [a, k - 1] 0 = true := by unfold partV; rw [pb_t (.inr rfl), Bool.true_or]
    have hj : ∀ {P : Nat → Prop}, (∃ j, j < [a, k - 1].length ∧ P j) ↔ P 0 ∨ P 1 := fun {P} => by
      constructor
      · rintro ⟨j, h1, h2⟩
        have : j = 0 ∨ j = 1 := by simp at h1; omega
        rcases this with rfl | rfl
        · exact .inl h2
        · exact .inr h2
      · rintro (h | h)
        · exact ⟨0, by simp, h⟩
        · exact ⟨1, by simp, h⟩
    rw [hj]
    have hs : ¬ (((nth p k).1 = 14 ∨ (nth p k).1 = 16) ∧ (nth p k).2.1 = 0) := by rcases arity_78 h with e | e <;> omega
    have h6 : ¬ (nth p k).1 = 6 := by rcases arity_78 h with e | e <;> omega
    unfold headsH
    rw [if_neg h6]
    have hout : ∀ {P Q : Prop}, (P ↔ Q) → (P ↔ ((nth p k).1 = 6 ∧ q = numQ g (nth p k)) ∨ (¬ (((nth p k).1 = 14 ∨ (nth p k).1 = 16) ∧ (nth p k).2.1 = 0) ∧ Q)) := fun h => ⟨fun x => .inr ⟨hs, h.1 x⟩, fun x => by
      rcases x with ⟨x, _⟩ | ⟨_, x⟩
      · exact absurd x h6
      · exact h.2 x⟩
    apply hout
    rcases arity_78 h with e | e
    · have hp1 : partV (nth p k) may [a, k - 1] 1 = valN (cN g) p a := by
        unfold partV
        rw [pb_f (by rintro (h | h); exact h e; omega), Bool.false_or]
        exact hmay a (by omega)
      rw [if_neg (by omega), if_pos e, hp0, hp1, ha]
      cases valN (cN g) p a with
      | true =>
        rw [if_pos rfl, join_at hq, Bool.or_eq_true]
        exact ⟨fun x => x.imp (fun h => ⟨rfl, h⟩) (fun h => ⟨rfl, h⟩), fun x => x.imp (fun h => h.2) (fun h => h.2)⟩
      | false =>
        rw [if_neg (by simp)]
        exact ⟨fun x => .inl ⟨rfl, x⟩, fun x => by
          rcases x with ⟨_, x⟩ | ⟨x, _⟩
          · exact x
          · cases x⟩
    · have hp1 : partV (nth p k) may [a, k - 1] 1 = true := by
        unfold partV
        rw [pb_t (.inl (by omega)), Bool.true_or]
      rw [if_pos e, hp0, hp1, join_at hq, Bool.or_eq_true]
      exact ⟨fun x => x.imp (fun h => ⟨rfl, h⟩) (fun h => ⟨rfl, h⟩), fun x => x.imp (fun h => h.2) (fun h => h.2)⟩
end Go.Proofs

/-! Chapter 10: the heads by the book are those of the program. -/
namespace Go.Proofs
open Go Go.Abs
set_option linter.unusedSimpArgs false
/-- What is known ahead of the nodes below a place. -/
structure InvH (g : G) (p : List NodeD) (k : Nat) (W O : List Bool) : Prop where
  wl : W.length = p.length
  ol : O.length = g.length
  is : ∀ q, q < g.length → (HD g p (p.length - 1) q ↔ List.getD O q false = true ∨ ∃ j, j < k ∧ List.getD W j false = true ∧ HD g p j q)
  ends : ∀ j, j < k → List.getD W j false = true → j ∈ endsI p k
theorem InvH.skip {g : G} {p : List NodeD} (hp : (chkP p).2 = 0) {k : Nat} (hk : k < p.length) {W O : List Bool} (h : InvH g p (k + 1) W O) (hs : ∀ q, q < g.length → ¬ (List.getD W k false = true ∧ HD g p k q)) : InvH g p k W O := by
  obtain ⟨B, Q, e1, e2, _⟩ := ends_parts hp hk
  refine ⟨h.wl, h.ol, fun q hq => ?_, fun j hj hw => ?_⟩
  · rw [h.is q hq]
    constructor
    · rintro (h1 | ⟨j, hj, h1, h2⟩)
      · exact .inl h1
      · by_cases e : j = k
        · subst e; exact absurd ⟨h1, h2⟩ (hs q hq)
        · exact .inr ⟨j, by omega, h1, h2⟩
    · rintro (h1 | ⟨j, hj, h1, h2⟩)
      · exact .inl h1
      · exact .inr ⟨j, by omega, h1, h2⟩
  · have := h.ends j (by omega) hw
    rw [e2, List.mem_append] at this
    rw [e1, List.mem_append]
    rcases this with h | h
    · exact .inl h
    · rw [List.mem_singleton] at h; omega
theorem InvH.step {g : G} (hg : RG g) {p : List NodeD} (hp : (chkP p).2 = 0) {may : List Bool} (hmay : ∀ j, j < p.length → List.getD may j false = valN (cN g) p j) {k : Nat} (hk : k < p.length) {W O O' : List Bool} (h : InvH g p (k + 1) W O) (hw : List.getD W k false = true) (hs : ¬ (((nth p k).1 = 14 ∨ (nth p k).1 = 16) ∧ (nth p k).2.1 = 0)) (ho : O' = if (nth p k).1 = 6 then List.set O (numQ g (nth p k)) true else O) {K : List Nat} (hK : castL K = partsP p (k : Int)) : InvH g p k (wantK (nth p k) may K W K.length) O' := by
  have hlen := hg.len
  obtain ⟨B, Q, e1, e2, e3, _⟩ := ends_parts hp hk
  have eQ : Q = K := (List.map_inj_right (fun x y h => by omega)).1 (show List.map (fun x : Nat => (x : Int)) Q = List.map (fun x : Nat => (x : Int)) K by rw [show List.map (fun x : Nat => (x : Int)) Q = castL Q from rfl, e3, ← hK]; rfl)
  subst eQ
  have hr := ends_rise hp (show k ≤ p.length by omega)
  rw [e1, List.pairwise_append] at hr
  obtain ⟨_, hQr, hBQ⟩ := hr
  have hQk : ∀ x ∈ Q, x < k := fun x hx => ends_lt hp (k := k) (by omega) x (by rw [e1, List.mem_append]; exact .inr hx)
  have hat := wantK_at (n := nth p k) (may := may) (W := W) hQr (fun x hx => by rw [h.wl]; have := hQk x hx; omega) Q.length (Nat.le_refl _)
  have hWB : ∀ j, j < k → List.getD W j false = true → j ∈ B := fun j hj hw => by
    have := h.ends j (by omega) hw
    rw [e2, List.mem_append] at this
    rcases this with h | h
    · exact h
    · rw [List.mem_singleton] at h; omega
  have hnum := numQ_lt hg (nth p k)
  have hO : ∀ q, q < g.length → (List.getD O' q false = true ↔ List.getD O q false = true ∨ ((nth p k).1 = 6 ∧ q = numQ g (nth p k))) := fun q hq => by
    rw [ho]
    split
    · rename_i h6
      rw [setD_at (by rw [h.ol]; omega)]
      constructor
      · intro h
        split at h
        · rename_i e; exact .inr ⟨h6, e.symm⟩
        · exact .inl h
      · rintro (h | ⟨_, e⟩)
        · split <;> first | rfl | exact h
        · rw [if_pos e.symm]
    · rename_i h6
      exact ⟨.inl, fun x => x.elim (fun x => x) (fun x => absurd x.1 h6)⟩
  refine ⟨by rw [wantK_len, h.wl], by rw [ho]; split; rw [List.length_set]; exact h.ol; exact h.ol, fun q hq => ?_, fun j hj hw => ?_⟩
  · rw [h.is q hq, hO q hq]
    have hstep := HD_step hg hp hmay hk hK (q := q) (by omega)
    constructor
    · rintro (h1 | ⟨j, hj, h1, h2⟩)
      · exact .inl (.inl h1)
      · by_cases e : j = k
        · subst e
          rcases hstep.1 h2 with h3 | ⟨_, i, hi, h3, h4⟩
          · exact .inl (.inr h3)
          · exact .inr ⟨List.getD Q i 0, hQk _ (getD_in hi), (hat _).2 (.inl ⟨i, hi, rfl, h3⟩), h4⟩
        · refine .inr ⟨j, by omega, (hat j).2 (.inr ⟨fun i hi he => ?_, h1⟩), h2⟩
          have := hBQ j (hWB j (by omega) h1) _ (getD_in (d := 0) hi)
          omega
    · rintro ((h1 | h1) | ⟨j, hj, h1, h2⟩)
      · exact .inl h1
      · exact .inr ⟨k, by omega, hw, hstep.2 (.inl h1)⟩
      · rcases (hat j).1 h1 with ⟨i, hi, e, h3⟩ | ⟨_, h3⟩
        · subst e
          exact .inr ⟨k, by omega, hw, hstep.2 (.inr ⟨hs, i, hi, h3, h2⟩)⟩
        · exact .inr ⟨j, by omega, h3, h2⟩
  · rw [e1, List.mem_append]
    rcases (hat j).1 hw with ⟨i, hi, e, _⟩ | ⟨_, h3⟩
    · subst e
      exact .inr (getD_in hi)
    · exact .inl (hWB j hj h3)
end Go.Proofs

/-! Chapter 10: how far it is. -/
namespace Go.Proofs
open Go Go.Abs
set_option linter.unusedSimpArgs false
/-- A way of so many steps. -/
def Way (e : Nat → Nat → Prop) (to : Nat) : Nat → Nat → Prop
  | 0, _ => False
  | 1, r => e r to
  | k + 2, r => ∃ q, e r q ∧ Way e to (k + 1) q
theorem way_succ {e : Nat → Nat → Prop} {to k r : Nat} (h : 1 ≤ k) : Way e to (k + 1) r ↔ ∃ q, e r q ∧ Way e to k q := by
  obtain ⟨k, rfl⟩ := Nat.exists_eq_add_of_le h
  rw [Nat.add_comm 1 k]
  exact Iff.rfl
open Classical in
/-- The length of the shortest way, of one step at least; 0: there is none. -/
noncomputable def dst (e : Nat → Nat → Prop) (to r : Nat) : Nat := if h : ∃ k, Way e to k r then Classical.choose (least h) else 0
theorem dst_none {e : Nat → Nat → Prop} {to r : Nat} : dst e to r = 0 ↔ ∀ k, ¬ Way e to k r := by
  unfold dst
  split
  · rename_i h
    obtain ⟨h1, h2⟩ := Classical.choose_spec (least h)
    generalize Classical.choose (least h) = v at h1 h2 ⊢
    constructor
    · intro e; subst e; exact absurd h1 (fun h => h)
    · exact fun h3 => absurd h1 (h3 v)
  · rename_i h
    exact ⟨fun _ k hk => h ⟨k, hk⟩, fun _ => rfl⟩
theorem dst_is {e : Nat → Nat → Prop} {to r k : Nat} (hk : 1 ≤ k) : dst e to r = k ↔ Way e to k r ∧ ∀ j, Way e to j r → k ≤ j := by
  unfold dst
  split
  · rename_i h
    obtain ⟨h1, h2⟩ := Classical.choose_spec (least h)
    generalize Classical.choose (least h) = v at h1 h2 ⊢
    constructor
    · rintro rfl; exact ⟨h1, h2⟩
    · rintro ⟨h3, h4⟩
      have := h2 k h3
      have := h4 v h1
      omega
  · rename_i h
    constructor
    · intro e; omega
    · rintro ⟨h3, _⟩; exact absurd ⟨k, h3⟩ h
theorem dst_way {e : Nat → Nat → Prop} {to r k : Nat} (h : Way e to k r) : 1 ≤ dst e to r ∧ dst e to r ≤ k := by
  have h0 : dst e to r ≠ 0 := fun h0 => dst_none.1 h0 k h
  have h1 : 1 ≤ dst e to r := by omega
  exact ⟨h1, ((dst_is h1).1 rfl).2 k h⟩
theorem way_dst {e : Nat → Nat → Prop} {to r : Nat} (h : dst e to r ≠ 0) : Way e to (dst e to r) r := ((dst_is (show 1 ≤ dst e to r by omega)).1 rfl).1
theorem dst_one {e : Nat → Nat → Prop} {to r : Nat} : dst e to r = 1 ↔ e r to := by
  rw [dst_is (Nat.le_refl 1)]
  constructor
  · exact fun h => h.1
  · refine fun h => ⟨h, fun j hj => ?_⟩
    cases j with
    | zero => exact absurd hj (fun h => h)
    | succ j => omega
theorem dst_next {e : Nat → Nat → Prop} {to r k : Nat} (hk : 1 ≤ k) (hr : ¬ (1 ≤ dst e to r ∧ dst e to r ≤ k)) : dst e to r = k + 1 ↔ ∃ q, e r q ∧ dst e to q = k := by
  constructor
  · intro h
    have hw := way_dst (e := e) (to := to) (r := r) (by omega)
    rw [h, way_succ hk] at hw
    obtain ⟨q, h1, h2⟩ := hw
    refine ⟨q, h1, ?_⟩
    obtain ⟨h3, h4⟩ := dst_way h2
    have h5 : Way e to (dst e to q + 1) r := (way_succ h3).2 ⟨q, h1, way_dst (by omega)⟩
    have := dst_way h5
    omega
  · rintro ⟨q, h1, h2⟩
    have h5 : Way e to (k + 1) r := (way_succ hk).2 ⟨q, h1, by rw [← h2]; exact way_dst (by omega)⟩
    have := dst_way h5
    omega
theorem dst_prev {e : Nat → Nat → Prop} {to r k : Nat} (h : dst e to r = k + 1) (hk : 1 ≤ k) : ∃ q, e r q ∧ dst e to q = k := (dst_next hk (by omega)).1 h
theorem dst_level {e : Nat → Nat → Prop} {n to : Nat} (he : ∀ r q, e r q → q < n) : ∀ {k r}, r < n → dst e to r = k → ∀ j, 1 ≤ j → j ≤ k → ∃ q, q < n ∧ dst e to q = j
  | 0, _, _, _, j, h1, h2 => by omega
  | k + 1, r, hr, h, j, h1, h2 => by
    by_cases ej : j = k + 1
    · exact ⟨r, hr, by omega⟩
    · obtain ⟨q, h3, h4⟩ := dst_prev h (by omega)
      exact dst_level he (he _ _ h3) h4 j h1 (by omega)
theorem dst_le {e : Nat → Nat → Prop} {n to r : Nat} (he : ∀ r q, e r q → q < n) (hr : r < n) : dst e to r ≤ n := by
  have h : ∀ j : Nat, ∃ q, (1 ≤ j → j ≤ dst e to r → q < n ∧ dst e to q = j) := fun j => by
    by_cases hj : 1 ≤ j ∧ j ≤ dst e to r
    · obtain ⟨q, hq⟩ := dst_level he hr rfl j hj.1 hj.2
      exact ⟨q, fun _ _ => hq⟩
    · exact ⟨0, fun h1 h2 => absurd ⟨h1, h2⟩ hj⟩
  have h2 : ((List.range (dst e to r)).map fun j => Classical.choose (h (j + 1))).length ≤ n := by
    refine nodup_len ?_ ?_
    · rw [List.nodup_iff_pairwise_ne, List.pairwise_map]
      refine List.Pairwise.imp_of_mem ?_ (List.pairwise_lt_range (n := dst e to r))
      intro a b ha hb hab he2
      rw [List.mem_range] at ha hb
      have h3 := (Classical.choose_spec (h (a + 1)) (by omega) (by omega)).2
      have h4 := (Classical.choose_spec (h (b + 1)) (by omega) (by omega)).2
      rw [he2, h4] at h3
      omega
    · intro l hl
      rw [List.mem_map] at hl
      obtain ⟨j, hj, rfl⟩ := hl
      rw [List.mem_range] at hj
      exact (Classical.choose_spec (h (j + 1)) (by omega) (by omega)).1
  simpa using h2
/-- What is known of the distances, up to so many steps. -/
noncomputable def farI (e : Nat → Nat → Prop) (to s r : Nat) : Int := if dst e to r ≤ s then (dst e to r : Int) else 0
theorem farI_same {e : Nat → Nat → Prop} {to s r : Nat} (h : dst e to r ≠ s + 1) : farI e to (s + 1) r = farI e to s r := by
  unfold farI
  by_cases h1 : dst e to r ≤ s
  · rw [if_pos h1, if_pos (by omega)]
  · rw [if_neg h1, if_neg (by omega)]
theorem farI_zero {e : Nat → Nat → Prop} {to s r : Nat} : farI e to s r = 0 ↔ ¬ (1 ≤ dst e to r ∧ dst e to r ≤ s) := by
  unfold farI
  split <;> omega
theorem farI_at {e : Nat → Nat → Prop} {to s r : Nat} (hs : 1 ≤ s) : farI e to s r = (s : Int) ↔ dst e to r = s := by
  unfold farI
  split <;> omega
theorem farI_at2 {e : Nat → Nat → Prop} {to s r : Nat} (hs : 1 ≤ s) : farI e to (s + 1) r = (s : Int) ↔ dst e to r = s := by
  unfold farI
  split <;> omega
theorem gone_or {α : Type} {p : List α} {f : Nat → α} {i j : Nat} {d : α} (hi : i ≤ p.length) : List.getD (gone p f i) j d = f j ∨ List.getD (gone p f i) j d = List.getD p j d := by
  by_cases h : j < i
  · exact .inl (gone_lt h)
  · right
    unfold gone
    rw [List.getD_eq_getElem?_getD, List.getD_eq_getElem?_getD, List.getElem?_append_right (by rw [genR_len]; omega), genR_len, List.getElem?_drop]
    congr 2
    omega
end Go.Proofs
