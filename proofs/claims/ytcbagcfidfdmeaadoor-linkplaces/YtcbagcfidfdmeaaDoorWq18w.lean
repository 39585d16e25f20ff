/- Part of the proof of the law's row: YtcbagcfidfdmeaaDoorWq18w. -/
import Derived.Test.YtcbagcfidfdmeaaDoorWq18v
import Derived.Test.YtcbagcfidfdmeaaDoorWqKit2
set_option linter.all false
set_option linter.unusedVariables false
set_option linter.unusedSimpArgs false
/-! Chapter 18: the law of places. -/
namespace Go.Proofs
open Go Go.Abs
theorem law_LinkPlaces (p : List InstrD) (h : p.length * 80 ≤ 140737488351232) : F_law18_LinkPlaces (p, ()) = some (true, ()) := by
  unfold F_law18_LinkPlaces
  simp only [toPb]
  rw [q_link p h, bind_t]
  by_cases h0 : (linkR p).2.1 = 0
  · rw [npos h0, bind_t]
    by_cases h400 : (p.length : Int) > 400
    · rw [pos h400, q_lives18]
      rfl
    rw [neg h400]
    obtain ⟨h1, h2, h3⟩ := link_zero h0
    obtain ⟨hlen, hmem, hst⟩ := lay_right h1
    rw [h3]
    have hall : (linkL (standsP p).1 (List.take p.length p)).length = (outP p).length := by rw [List.take_length]; rfl
    refine (loopC_gh (γ := Nat) (σ := (Int × Int × Bool × Unit) × List InstrD × Unit) (ρ := Bool × Unit) (I := fun i s => s.1.1 = (i : Int) ∧ i ≤ p.length ∧ s.1.2.1 = ((linkL (standsP p).1 (List.take i p)).length : Int) ∧ s.2.1 = outP p) (μ := fun g => p.length - g) (F := fun _ => (true, ())) ?_ 0 _ ⟨rfl, by omega, rfl, rfl⟩)
    rintro i ⟨⟨i', a, b, ⟨⟩⟩, L, ⟨⟩⟩ ⟨e, hi, ea, eL⟩
    simp only at e hi ea eL ⊢
    subst e eL
    have hmany := link_many (l := (standsP p).1) (p := p) i hi
    have hle := link_len (l := (standsP p).1) (p := p) i hi
    by_cases hlt : i < p.length
    · rw [pos (by omega), need_pos ⟨by omega, by omega⟩]
      simp only [Int.toNat_natCast, getD_ith]
      by_cases h21 : (ith p i).1 = 21
      · obtain ⟨ha0, ha1⟩ := mem_label (hmem i hlt).1 h21
        have hlab := label_at hmem hlt h21
        have hpl : placeR p (ith p i).2.1 = (a, 0, ()) := by
          unfold placeR
          rw [if_pos h0, if_neg (by rw [hlab]; omega), hlab, ← hmany, ← ea]
        rw [pos h21]
        rw [q_place p _ h, bind_t, hpl, npos rfl, bind_t, npos rfl, need64 (by omega) (by omega)]
        refine .inl ⟨i + 1, (((i : Int) + 1, a, b, ()), outP p, ()), rfl, ⟨by simp, by omega, ?_, rfl⟩, by omega, by trivial⟩
        show a = _
        rw [ea, link_succ hlt]
        unfold linkF
        rw [if_pos h21]
      · rw [neg h21]
        obtain ⟨ho, hol⟩ := out_ith (l := (standsP p).1) hlt h21
        have ho : ith (outP p) (linkL (standsP p).1 (List.take i p)).length = linkX (standsP p).1 (linkL (standsP p).1 (List.take i p)).length (ith p i) := ho
        have hol : (linkL (standsP p).1 (List.take i p)).length < (outP p).length := hol
        have hop : (linkX (standsP p).1 (linkL (standsP p).1 (List.take i p)).length (ith p i)).1 = (ith p i).1 := by unfold linkX; split <;> rfl
        have hnext : a + 1 = ((linkL (standsP p).1 (List.take (i + 1) p)).length : Int) := by
          rw [link_succ hlt]
          unfold linkF
          rw [if_neg h21, List.length_append]
          simp only [List.length_singleton]
          omega
        have hat : a.toNat = (linkL (standsP p).1 (List.take i p)).length := by omega
        rw [neg (p := a ≥ _) (by omega), need_pos ⟨by omega, by omega⟩, need_pos (by omega)]
        rw [bind_t]
        rw [npos (by rw [Nat.zero_add, hat, ho, hop])]
        rw [q_targets, bind_t]
        have hfin : ∀ (b' : Bool), (need (Fits IntKind.i64 (a + 1)) (need (Fits IntKind.i64 ((i : Int) + 1)) (some (Sum.inl (((i : Int) + 1, a + 1, b', ()), outP p, ())))) : Option (((Int × Int × Bool × Unit) × List InstrD × Unit) ⊕ (Bool × Unit))) = some (Sum.inl (((i : Int) + 1, a + 1, b', ()), outP p, ())) := fun b' => by
          rw [need64 (by omega) (by omega), need64 (by omega) (by omega)]
        refine .inl ⟨i + 1, (((i : Int) + 1, a + 1, b, ()), outP p, ()), ?_, ⟨by simp, by omega, hnext, rfl⟩, by omega, by trivial⟩
        cases hg : goesB (ith p i).1 with
        | true =>
          have hv := mem_goes (hmem i hlt).1 hg
          have e2 : (linkX (standsP p).1 (linkL (standsP p).1 (List.take i p)).length (ith p i)).2.1 = List.getD (standsP p).1 (ith p i).2.1.toNat 0 - ((linkL (standsP p).1 (List.take i p)).length : Int) := by unfold linkX; rw [if_pos hg]
          have hck := ((check_right h2).2.2 _ hol).2.2 (by rw [ho, hop]; exact hg)
          rw [ho, e2] at hck
          have hgl := stands_get p (ith p i).2.1.toNat
          have hpl : placeR p (ith p i).2.1 = (List.getD (standsP p).1 (ith p i).2.1.toNat 0, 0, ()) := by
            unfold placeR
            rw [if_pos h0, if_neg (by omega)]
          simp only [sel_t]
          rw [q_place p _ h, bind_t, hpl, npos rfl, need_pos ⟨by omega, by omega⟩, need_pos (by omega)]
          rw [Nat.zero_add, hat, ho, e2, need64 (by omega) (by omega), bind_t]
          rw [npos (by omega)]
          exact hfin b
        | false =>
          simp only [sel_f]
          rw [need_pos ⟨by omega, by omega⟩, need_pos (by omega), Nat.zero_add, hat, ho]
          have : linkX (standsP p).1 (linkL (standsP p).1 (List.take i p)).length (ith p i) = ith p i := by unfold linkX; rw [hg]; rfl
          rw [this, eqb_refl _ (by rfl)]
          exact hfin b
    · rw [neg (by omega)]
      right
      have : a = ((outP p).length : Int) := by rw [ea, ← hall, show i = p.length by omega]
      rw [pos this, q_lives18]
      rfl
  · rw [nneg h0, bind_t, sel_t, q_lives18]
    rfl
end Go.Proofs
