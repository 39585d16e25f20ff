/- Part of the proof of the law's row: YtcbagcfidfdmeaaDoorWq18x. -/
import Derived.Test.YtcbagcfidfdmeaaDoorWq18v
import Derived.Test.YtcbagcfidfdmeaaDoorWqKit2
set_option linter.all false
set_option linter.unusedVariables false
set_option linter.unusedSimpArgs false
/-! Chapter 18: the law of places. -/
namespace Go.Proofs
open Go Go.Abs
theorem law_LinkPlaces (p : List InstrD) (h : p.length * 80 ≤ 140737488351232) : F_law18_LinkPlaces (p, ()) = some (true, ()) := by
  unfold F_law18_LinkPlaces
  simp only [toPb]
  rw [q_link p h, bind_t]
  by_cases h0 : (linkR p).2.1 = 0
  · rw [npos h0, bind_t]
    by_cases h400 : (p.length : Int) > 400
    · rw [pos h400, q_lives18]
      rfl
    rw [neg h400]
    obtain ⟨h1, h2, h3⟩ := link_zero h0
    obtain ⟨hlen, hmem, hst⟩ := lay_right h1
    rw [h3]
    have hall : (linkL (standsP p).1 (List.take p.length p)).length = (outP p).length := by rw [List.take_length]; rfl
    refine (loopC_gh (γ := Nat) (σ := (Int × Int × Bool × Unit) × List InstrD × Unit) (ρ := Bool × Unit) (I := fun i s => s.1.1 = (i : Int) ∧ i ≤ p.length ∧ s.1.2.1 = ((linkL (standsP p).1 (List.take i p)).length : Int) ∧ s.2.1 = outP p) (μ := fun g => p.length - g) (F := fun _ => (true, ())) ?_ 0 _ ⟨rfl, by omega, rfl, rfl⟩)
    rintro i ⟨⟨i', a, b, ⟨⟩⟩, L, ⟨⟩⟩ ⟨e, hi, ea, eL⟩
    simp only at e hi ea eL ⊢
    subst e eL
    have hmany := link_many (l := (standsP p).1) (p := p) i hi
    have hle := link_len (l := (standsP p).1) (p := p) i hi
    by_cases hlt : i < p.length
    · rw [pos (by omega), need_pos ⟨by omega, by omega⟩]
      simp only [Int.toNat_natCast, getD_ith]
      by_cases h21 : (ith p i).1 = 21
      · obtain ⟨ha0, ha1⟩ := mem_label (hmem i hlt).1 h21
        have hlab := label_at hmem hlt h21
        have hpl : placeR p (ith p i).2.1 = (a, 0, ()) := by
          unfold placeR
          rw [if_pos h0, if_neg (by rw [hlab]; omega), hlab, ← hmany, ← ea]
        rw [pos h21]
        rw [q_place p _ h, bind_t, hpl, npos rfl, bind_t, npos rfl, need64 (by omega) (by omega)]
        refine .inl ⟨i + 1, (((i : Int) + 1, a, b, ()), outP p, ()), rfl, ⟨by simp, by omega, ?_, rfl⟩, by omega, by trivial⟩
        show a = _
        rw [ea, link_succ hlt]
        unfold linkF
        rw [if_pos h21]
      · rw [neg h21]
        obtain ⟨ho, hol⟩ := out_ith (l := (standsP p).1) hlt h21
        have ho : ith (outP p) (linkL (standsP p).1 (List.take i p)).length = linkX (standsP p).1 (linkL (standsP p).1 (List.take i p)).length (ith p i) := ho
        have hol : (linkL (standsP p).1 (List.take i p)).length < (outP p).length := hol
        have hop : (linkX (standsP p).1 (linkL (standsP p).1 (List.take i p)).length (ith p i)).1 = (ith p i).1 := by unfold linkX; split <;> rfl
        have hnext : a + 1 = ((linkL (standsP p).1 (List.take (i + 1) p)).length : Int) := by
          rw [link_succ hlt]
          unfold linkF
          rw [if_neg h21, List.length_append]
          simp only [List.length_singleton]
          omega
        have hat : a.toNat = (linkL (standsP p).1 (List.take i p)).length := by omega
        rw [neg (p := a ≥ _) (by omega), need_pos ⟨by omega, by omega⟩, need_pos (by omega)]
        rw [bind_t]
        rw [npos (by rw [Nat.zero_add, hat, ho, hop])]
        rw [q_targets, bind_t]
        have hfin : ∀ (b' : Bool), (need (Fits IntKind.i64 (a + 1)) (need (Fits IntKind.i64 ((i : Int) + 1)) (some (Sum.inl (((i : Int) + 1, a + 1, b', ()), outP p, ())))) : Option (((Int × Int × Bool × Unit) × List InstrD × Unit) ⊕ (Bool × Unit))) = some (Sum.inl (((i : Int) + 1, a + 1, b', ()), outP p, ())) := fun b' => by
          rw [need64 (by omega) (by omega), need64 (by omega) (by omega)]
        refine .inl ⟨i + 1, (((i : Int) + 1, a + 1, b, ()), outP p, ()), ?_, ⟨by simp, by omega, hnext, rfl⟩, by omega, by trivial⟩
        cases hg : goesB (ith p i).1 with
        | true =>
          have hv := mem_goes (hmem i hlt).1 hg
          have e2 : (linkX (standsP p).1 (linkL (standsP p).1 (List.take i p)).length (ith p i)).2.1 = List.getD (standsP p).1 (ith p i).2.1.toNat 0 - ((linkL (standsP p).1 (List.take i p)).length : Int) := by unfold linkX; rw [if_pos hg]
          have hck := ((check_right h2).2.2 _ hol).2.2 (by rw [ho, hop]; exact hg)
          rw [ho, e2] at hck
          have hgl := stands_get p (ith p i).2.1.toNat
          have hpl : placeR p (ith p i).2.1 = (List.getD (standsP p).1 (ith p i).2.1.toNat 0, 0, ()) := by
            unfold placeR
            rw [if_pos h0, if_neg (by omega)]
          simp only [sel_t]
          rw [q_place p _ h, bind_t, hpl, npos rfl, need_pos ⟨by omega, by omega⟩, need_pos (by omega)]
          rw [Nat.zero_add, hat, ho, e2, need64 (by omega) (by omega), bind_t]
          rw [npos (by omega)]
          exact hfin b
        | false =>
          simp only [sel_f]
          rw [need_pos ⟨by omega, by omega⟩, need_pos (by omega), Nat.zero_add, hat, ho]
          have : linkX (standsP p).1 (linkL (standsP p).1 (List.take i p)).length (ith p i) = ith p i := by unfold linkX; rw [hg]; rfl
          rw [this, eqb_refl _ (by rfl)]
          exact hfin b
    · rw [neg (by omega)]
      right
      have : a = ((outP p).length : Int) := by rw [ea, ← hall, show i = p.length by omega]
      rw [pos this, q_lives18]
      rfl
  · rw [nneg h0, bind_t, sel_t, q_lives18]
    rfl
end Go.Proofs

/-! Chapter 18: labels of other numbers. -/
namespace Go.Proofs
open Go Go.Abs
def labB (x : InstrD) : Prop := x.1 = 21 ∨ goesB x.1 = true
instance (x : InstrD) : Decidable (labB x) := by unfold labB; infer_instance
def turnX (f t : Int) (x : InstrD) : InstrD := if labB x ∧ x.2.1 = f then (x.1, t, x.2.2) else x
theorem turn_op (f t : Int) (x : InstrD) : (turnX f t x).1 = x.1 := by unfold turnX; split <;> rfl
theorem turn_same (f : Int) (x : InstrD) : turnX f f x = x := by
  unfold turnX
  split
  · rename_i h; rw [← h.2]
  · rfl
theorem mem_turn {f t : Int} {x : InstrD} (ht : 0 ≤ t ∧ t < 16384) (h : memE x = 0) : memE (turnX f t x) = 0 := by
  unfold turnX
  split
  · rename_i hc
    rcases hc.1 with h21 | hg
    · obtain ⟨op, a, r⟩ := x
      simp only at h21
      subst h21
      unfold memE at h ⊢
      simp only [if_true] at h ⊢
      split at h
      · rename_i h2
        have := eqI_iff.1 h2.1
        simp only [Prod.mk.injEq, true_and] at this
        rw [if_pos]
        refine ⟨?_, ht⟩
        rw [eqI_iff, this]
      · cases h
    · unfold memE at h ⊢
      have hb := isB_of (goes_is hg)
      rw [if_neg (by omega), if_neg (by rw [goes_is hg]; simp)] at h
      rw [if_neg (show ¬ x.1 = 21 by omega), if_neg (show ¬ isB x.1 = false by rw [goes_is hg]; simp), fits_target hg]
      split at h
      · rename_i h2
        rw [if_pos ⟨h2.1, fun _ => ht⟩]
      · cases h
  · exact h
theorem mem_lab2 {x : InstrD} (h : memE x = 0) (hl : labB x) : 0 ≤ x.2.1 ∧ x.2.1 < 16384 := by
  rcases hl with h1 | h1
  · exact mem_label h h1
  · exact mem_goes h h1
def sgN (f t : Int) (v : Nat) : Nat := if (v : Int) = f then t.toNat else v
def RelL (f t : Int) (l l' : List Int) : Prop := l.length = 16384 ∧ l'.length = 16384 ∧ ∀ v : Nat, v < 16384 → (v : Int) ≠ t → List.getD l' (sgN f t v) 0 = List.getD l v 0
theorem turn_sg {f t : Int} {x : InstrD} (h : memE x = 0) (hl : labB x) : (turnX f t x).2.1.toNat = sgN f t x.2.1.toNat := by
  have := mem_lab2 h hl
  unfold turnX sgN
  by_cases hf : x.2.1 = f
  · rw [if_pos ⟨hl, hf⟩, if_pos (by omega)]
  · rw [if_neg (fun h => hf h.2), if_neg (by omega)]
theorem rel_get {f t : Int} {l l' : List Int} (hr : RelL f t l l') {x : InstrD} (h : memE x = 0) (hl : labB x) (hn : x.2.1 ≠ t) : List.getD l' (turnX f t x).2.1.toNat 0 = List.getD l x.2.1.toNat 0 := by
  have := mem_lab2 h hl
  rw [turn_sg h hl]
  exact hr.2.2 _ (by omega) (by omega)
theorem lay1_turn {f t : Int} (ht : 0 ≤ t ∧ t < 16384) {L : List Int} {M : Int} : ∀ {p : List InstrD} {k : Int} {l l' : List Int} {m : Int}, RelL f t l l' → (∀ x ∈ p, labB x → x.2.1 ≠ t) → lay1 p k (l, m) = .inr (L, M) → ∃ L', lay1 (p.map (turnX f t)) k (l', m) = .inr (L', M) ∧ RelL f t L L' ∧ ∀ x ∈ p, memE x = 0
  | [], k, l, l', m, hr, _, h => by
    cases h
    exact ⟨l', rfl, hr, fun x hx => by cases hx⟩
  | x :: p, k, l, l', m, hr, hc, h => by
    rw [lay1] at h
    split at h
    · cases h
    · rename_i hm
      have hm : memE x = 0 := by simpa using hm
      split at h
      · cases h
      · rename_i hn
        rw [List.map_cons, lay1]
        rw [if_neg (by rw [mem_turn ht hm]; simp)]
        have hnext : RelL f t (stF (l, m) x).1 (stF (l', m) (turnX f t x)).1 ∧ (stF (l, m) x).2 = (stF (l', m) (turnX f t x)).2 := by
          unfold stF
          rw [turn_op]
          by_cases h21 : x.1 = 21
          · have hx := mem_label hm h21
            have hx2 := mem_label (mem_turn (f := f) ht hm) (by rw [turn_op]; exact h21)
            rw [if_pos h21, if_pos h21, if_pos hx, if_pos hx2]
            simp only
            refine ⟨⟨by simp [hr.1], by simp [hr.2.1], fun v hv hvt => ?_⟩, trivial⟩
            have h1 := hr.1
            have h2 := hr.2.1
            rw [getD_set (by omega), getD_set (by omega), turn_sg hm (.inl h21)]
            have hxt := hc x (by simp) (.inl h21)
            by_cases he : x.2.1.toNat = v
            · rw [if_pos he, if_pos (by rw [he])]
            · rw [if_neg he, if_neg, hr.2.2 v hv hvt]
              intro h3
              unfold sgN at h3
              split at h3 <;> split at h3 <;> omega
          · rw [if_neg h21, if_neg h21]
            exact ⟨hr, rfl⟩
        rw [if_neg]
        · have e1 : stF (l, m) x = ((stF (l, m) x).1, (stF (l, m) x).2) := rfl
          have e2 : stF (l', m) (turnX f t x) = ((stF (l', m) (turnX f t x)).1, (stF (l, m) x).2) := by rw [hnext.2]
          rw [e1] at h
          rw [e2]
          obtain ⟨L', h1, h2, h3⟩ := lay1_turn ht hnext.1 (fun y hy => hc y (by simp [hy])) h
          refine ⟨L', h1, h2, fun y hy => ?_⟩
          rcases List.mem_cons.1 hy with rfl | hy
          · exact hm
          · exact h3 y hy
        · rintro ⟨h1, h2⟩
          rw [turn_op] at h1
          rw [rel_get hr hm (.inl h1) (hc x (by simp) (.inl h1))] at h2
          exact hn ⟨h1, h2⟩
theorem lay2_turn {f t : Int} {L L' : List Int} {M : Int} (hr : RelL f t L L') : ∀ {p : List InstrD} {k : Int}, (∀ x ∈ p, labB x → x.2.1 ≠ t) → (∀ x ∈ p, memE x = 0) → lay2 (L, M) p k = none → lay2 (L', M) (p.map (turnX f t)) k = none
  | [], k, _, _, _ => rfl
  | x :: p, k, hc, hm, h => by
    rw [lay2] at h
    split at h
    · cases h
    · rename_i hb
      rw [List.map_cons, lay2, if_neg]
      · exact lay2_turn hr (fun y hy => hc y (by simp [hy])) (fun y hy => hm y (by simp [hy])) h
      · intro h2
        unfold badT at h2 hb
        rw [turn_op] at h2
        rw [rel_get hr (hm x (by simp)) (.inr h2.1) (hc x (by simp) (.inr h2.1))] at h2
        exact hb h2
theorem link_turn {f t : Int} {L L' : List Int} (hr : RelL f t L L') : ∀ {p : List InstrD}, (∀ x ∈ p, labB x → x.2.1 ≠ t) → (∀ x ∈ p, memE x = 0) → ∀ out, (p.map (turnX f t)).foldl (linkF L') out = p.foldl (linkF L) out
  | [], _, _, _ => rfl
  | x :: p, hc, hm, out => by
    rw [List.map_cons, List.foldl_cons, List.foldl_cons, link_turn hr (fun y hy => hc y (by simp [hy])) (fun y hy => hm y (by simp [hy]))]
    congr 1
    unfold linkF
    rw [turn_op]
    split
    · rfl
    · rename_i h21
      congr 2
      unfold linkX
      rw [turn_op]
      split
      · rename_i hg
        rw [rel_get hr (hm x (by simp)) (.inr hg) (hc x (by simp) (.inr hg))]
        congr 2
        unfold turnX
        split <;> rfl
      · rename_i hg
        unfold turnX
        rw [if_neg]
        rintro ⟨h | h, _⟩
        · exact h21 h
        · exact hg h
theorem turn_link {f t : Int} {p : List InstrD} (ht : 0 ≤ t ∧ t < 16384) (h : (linkR p).2.1 = 0) (hc : ∀ x ∈ p, labB x → x.2.1 ≠ t) : linkR (p.map (turnX f t)) = linkR p := by
  obtain ⟨h1, h2, h3⟩ := link_zero h
  obtain ⟨hlen, hmem, hst⟩ := lay_right h1
  have hl : ¬ (p.length : Int) > 16384 := by omega
  unfold layR at h1 hst
  rw [if_neg hl] at h1 hst
  cases hl1 : lay1 p 0 (stI, 0) with
  | inl r =>
    rw [hl1] at h1
    have e0 : lay1 p 0 (stI, 0) = lay1 (List.drop 0 p) ((0 : Nat) : Int) (standsP (List.take 0 p)) := rfl
    rw [e0] at hl1
    exact absurd h1 (lay1_left _ 0 rfl (by omega) r hl1)
  | inr st =>
    obtain ⟨L, M⟩ := st
    rw [hl1] at h1 hst
    have hL : L = (standsP p).1 := hst
    have h2n : lay2 (L, M) p 0 = none := by
      cases hl2 : lay2 (L, M) p 0 with
      | none => rfl
      | some r =>
        have := lay2_some hl2
        have h1 : ((lay2 (L, M) p 0).getD (0, 0)).2 = 0 := h1
        rw [hl2] at h1
        have h1 : r.2 = 0 := h1
        omega
    have hr0 : RelL f t stI stI := by
      have hlen : stI.length = 16384 := List.length_replicate ..
      refine ⟨hlen, hlen, fun v hv _ => ?_⟩
      have : ∀ v, v < 16384 → List.getD stI v 0 = -1 := fun v hv => by
        unfold stI
        rw [List.getD_eq_getElem?_getD, List.getElem?_replicate, if_pos hv]
        rfl
      rw [this v hv, this]
      unfold sgN
      split <;> omega
    obtain ⟨L', g1, g2, g3⟩ := lay1_turn ht hr0 hc hl1
    have g4 := lay2_turn g2 hc g3 h2n
    have hlen' : ¬ ((p.map (turnX f t)).length : Int) > 16384 := by rw [List.length_map]; exact hl
    have e : layR (p.map (turnX f t)) = pack (L', M) (0, 0) := by
      unfold layR
      rw [if_neg hlen', g1]
      show pack (L', M) ((lay2 (L', M) (p.map (turnX f t)) 0).getD (0, 0)) = _
      rw [g4]
      rfl
    have h0' : (layR (p.map (turnX f t))).2.2.1 = 0 := by rw [e]; rfl
    obtain ⟨_, _, hst'⟩ := lay_right h0'
    rw [e] at hst'
    have hst' : L' = (standsP (p.map (turnX f t))).1 := hst'
    have ho : outP (p.map (turnX f t)) = outP p := by
      unfold outP linkL
      rw [← hst', ← hL]
      exact link_turn g2 hc g3 []
    rw [h3]
    unfold linkR
    rw [if_neg (by rw [h0']; simp), ho, if_pos h2]
theorem law_LinkNumbers (p : List InstrD) (f t : Int) (h : p.length * 80 ≤ 140737488351232) : F_law18_LinkNumbers ((p, f, t, ()), ()) = some (true, ()) := by
  unfold F_law18_LinkNumbers
  simp only [toPb]
  rw [q_link p h, bind_t]
  by_cases h0 : (linkR p).2.1 = 0
  · rw [npos h0, bind_t]
    by_cases ht : 0 ≤ t ∧ t < 16384
    · rw [pb_f (by omega), sel_f, bind_t, pb_f (by omega), sel_f]
      refine (loopC_gh (γ := Nat) (σ := (Int × Bool × Unit) × List InstrD × List InstrD × TurnedD × Unit) (ρ := Bool × Unit) (I := fun i s => s.1.1 = (i : Int) ∧ i ≤ p.length ∧ s.2.1 = (List.take i p).map (turnX f t) ∧ s.2.2.1 = (linkR p).2.2.1 ∧ s.2.2.2.1 = (p, f, t, ()) ∧ (f = t ∨ ∀ x ∈ List.take i p, labB x → x.2.1 ≠ t)) (μ := fun g => p.length - g) (F := fun _ => (true, ())) ?_ 0 _ ⟨rfl, by omega, rfl, rfl, rfl, .inr (fun x hx => by simp at hx)⟩)
      rintro i ⟨⟨i', b, ⟨⟩⟩, T, X, r, ⟨⟩⟩ ⟨e, hi, eT, eX, er, hc⟩
      simp only at e hi eT eX er hc ⊢
      subst e eX er
      dsimp only
      by_cases hlt : i < p.length
      · rw [pos (by omega), need_pos ⟨by omega, by omega⟩]
        simp only [Int.toNat_natCast, getD_ith]
        have hB : (sel (pb ((ith p i).1 = 21)) (some true) (Option.bind (F_ref16_Targets ((ith p i).1, ())) fun y2 => some y2.1)) = some (pb (labB (ith p i))) := by
          rw [q_targets, bind_t]
          by_cases h21 : (ith p i).1 = 21
          · rw [pos h21, pb_t (show labB _ from .inl h21)]
          · rw [neg h21]
            congr 1
            rw [Bool.eq_iff_iff, pb_iff]
            exact ⟨fun h => .inr h, fun h => h.resolve_left h21⟩
        rw [hB, bind_t]
        by_cases hl : labB (ith p i) ∧ (ith p i).2.1 = t ∧ f ≠ t
        · rw [pos hl.1, bind_t, pos hl.2.1, bind_t]
          right
          rw [nneg hl.2.2, q_lives18]
          rfl
        · have e4 : Option.bind (sel (pb (labB (ith p i))) (some (pb ((ith p i).2.1 = t))) (some false)) (fun v3 => sel v3 (some (!pb (f = t))) (some false)) = some false := by
            by_cases h1 : labB (ith p i)
            · rw [pos h1, bind_t]
              by_cases h2 : (ith p i).2.1 = t
              · rw [pos h2, pb_t (show f = t from Classical.byContradiction fun h3 => hl ⟨h1, h2, h3⟩)]
                rfl
              · rw [neg h2]
            · rw [neg h1]
              rfl
          rw [← Go.Abs.bind_assoc, e4, bind_t, sel_f]
          have e5 : ∀ {R : Type} (k : (Unit × InstrD × List InstrD × List InstrD × TurnedD × Unit ⊕ (Int × Bool × Unit) × List InstrD × List InstrD × TurnedD × Unit ⊕ (Bool × Unit)) → Option R), Option.bind (Option.bind (sel (pb (labB (ith p i))) (some (pb ((ith p i).2.1 = f))) (some false)) (fun v5 => sel v5 (some (Sum.inl ((), ((ith p i).1, t, (ith p i).2.2), T, (linkR p).2.2.1, (p, f, t, ()), ()))) (some (Sum.inl ((), ith p i, T, (linkR p).2.2.1, (p, f, t, ()), ()))))) k = k (Sum.inl ((), turnX f t (ith p i), T, (linkR p).2.2.1, (p, f, t, ()), ())) := by
            intro R k
            unfold turnX
            by_cases h1 : labB (ith p i)
            · rw [pos h1, bind_t]
              by_cases h2 : (ith p i).2.1 = f
              · rw [pos h2, if_pos ⟨h1, h2⟩]; rfl
              · rw [neg h2, if_neg (fun h => h2 h.2)]; rfl
            · rw [neg h1, bind_t, if_neg (fun h => h1 h.1)]; rfl
          rw [e5]
          have hT : T.length = i := by rw [eT, List.length_map, List.length_take]; omega
          simp only
          rw [need_pos ⟨Nat.le_refl _, by omega⟩, need64 (by omega) (by omega)]
          refine .inl ⟨i + 1, (((i : Int) + 1, b, ()), T ++ [turnX f t (ith p i)], (linkR p).2.2.1, (p, f, t, ()), ()), rfl, ⟨by simp, by omega, ?_, rfl, rfl, ?_⟩, by omega, by trivial⟩
          · rw [take_ith hlt, List.map_append, ← eT]
            rfl
          · rcases hc with hc | hc
            · exact .inl hc
            · by_cases hft : f = t
              · exact .inl hft
              · refine .inr fun x hx hlx => ?_
                rw [take_ith hlt, List.mem_append] at hx
                rcases hx with hx | hx
                · exact hc x hx hlx
                · obtain rfl := List.mem_singleton.1 hx
                  exact fun h => hl ⟨hlx, h, hft⟩
      · rw [neg (by omega)]
        right
        rw [eT, show i = p.length by omega, List.take_length]
        have hi : i = p.length := by omega
        rw [hi, List.take_length] at hc
        have hlk : linkR (p.map (turnX f t)) = linkR p := by
          rcases hc with hc | hc
          · rw [hc, show turnX t t = id from funext (turn_same t), List.map_id]
          · exact turn_link ht h0 hc
        rw [q_link _ (by rw [List.length_map]; exact h), hlk, bind_t, pos h0]
        have hle := linkR_len p
        rw [q_sameC _ (by omega), q_lives18]
        rfl
    · by_cases h1 : t < 0
      · rw [pb_t h1, sel_t, bind_t, sel_t, q_lives18]
        rfl
      · rw [pb_f h1, sel_f, bind_t, pb_t (by omega), sel_t, q_lives18]
        rfl
  · rw [nneg h0, bind_t, sel_t, bind_t, sel_t, q_lives18]
    rfl
end Go.Proofs
