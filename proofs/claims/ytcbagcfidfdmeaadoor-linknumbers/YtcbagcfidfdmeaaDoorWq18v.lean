/- Part of the proof of the law's row: YtcbagcfidfdmeaaDoorWq18v. -/
import Derived.Test.YtcbagcfidfdmeaaDoorWq18t
set_option linter.all false
set_option linter.unusedVariables false
set_option linter.unusedSimpArgs false
/-! Chapter 18: Unlink gives no more labels than there were. -/
namespace Go.Proofs
open Go Go.Abs
theorem stands_later {p : List InstrD} {i v : Nat} (hi : i ≤ p.length) : ∀ d, i + d ≤ p.length → List.getD (standsP (List.take (i + d) p)).1 v 0 = List.getD (standsP (List.take i p)).1 v 0 ∨ List.getD (standsP (List.take (i + d) p)).1 v 0 ≥ (standsP (List.take i p)).2
  | 0, _ => .inl rfl
  | d + 1, h => by
    have ih := stands_later (v := v) hi d (by omega)
    have hmono : ∀ d, i + d ≤ p.length → (standsP (List.take i p)).2 ≤ (standsP (List.take (i + d) p)).2 := by
      intro d
      induction d with
      | zero => intro _; exact Int.le_refl _
      | succ d ih =>
        intro hd
        have := ih (by omega)
        rw [show i + (d + 1) = (i + d) + 1 by omega, stands_succ (by omega)]
        unfold stF
        split <;> simp only <;> omega
    have hm := hmono d (by omega)
    have hlen := stands_len (List.take (i + d) p)
    rw [show i + (d + 1) = (i + d) + 1 by omega, stands_succ (by omega)]
    unfold stF
    split
    · split
      · rename_i h0
        rw [getD_set (by omega)]
        split
        · exact .inr hm
        · exact ih
      · exact ih
    · exact ih
theorem link_many {l : List Int} {p : List InstrD} : ∀ i, i ≤ p.length → ((linkL l (List.take i p)).length : Int) = (standsP (List.take i p)).2
  | 0, _ => rfl
  | i + 1, h => by
    have ih := link_many (l := l) (p := p) i (by omega)
    rw [link_succ (by omega), stands_succ (by omega)]
    unfold linkF stF
    split
    · exact ih
    · rw [List.length_append]
      simp only [List.length_cons, List.length_nil]
      omega
theorem hit_ex {p : List InstrD} {k : Nat} : ∀ n, hitB p n k = true → ∃ j, j < n ∧ goesB (ith p j).1 = true ∧ aimP p j = k
  | 0, h => by cases h
  | n + 1, h => by
    have h' : (hitB p n k || (goesB (ith p n).1 && decide (aimP p n = k))) = true := h
    rw [Bool.or_eq_true, Bool.and_eq_true, decide_eq_true_eq] at h'
    rcases h' with h1 | ⟨h1, h2⟩
    · obtain ⟨j, a, b, c⟩ := hit_ex n h1
      exact ⟨j, by omega, b, c⟩
    · exact ⟨n, by omega, h1, h2⟩
theorem out_at {l : List Int} {p : List InstrD} : ∀ i, i ≤ p.length → ∀ j, j < (linkL l (List.take i p)).length → ∃ i', i' < p.length ∧ ith (linkL l (List.take i p)) j = linkX l j (ith p i')
  | 0, _, j, hj => by simp [linkL] at hj
  | i + 1, h, j, hj => by
    rw [link_succ (by omega)] at hj ⊢
    unfold linkF at hj ⊢
    by_cases h21 : (ith p i).1 = 21
    · rw [if_pos h21] at hj ⊢
      exact out_at i (by omega) j hj
    · rw [if_neg h21] at hj ⊢
      rw [List.length_append, List.length_singleton] at hj
      by_cases hlt : j < (linkL l (List.take i p)).length
      · obtain ⟨i', h1, h2⟩ := out_at (l := l) (p := p) i (by omega) j hlt
        refine ⟨i', h1, ?_⟩
        rw [← h2]
        unfold ith
        rw [List.getD_eq_getElem?_getD, List.getElem?_append_left hlt, ← List.getD_eq_getElem?_getD]
      · have he : j = (linkL l (List.take i p)).length := by omega
        refine ⟨i, by omega, ?_⟩
        unfold ith
        rw [List.getD_eq_getElem?_getD, List.getElem?_append_right (by omega), he, Nat.sub_self]
        rfl
theorem hit_lab {p : List InstrD} (hm : ∀ j, j < p.length → memE (ith p j) = 0) (hc : (checkI (outP p)).2 = 0) {k : Nat} (hk : hitP (outP p) k = true) : ∃ v, v < 16384 ∧ List.getD (standsP p).1 v 0 = (k : Int) := by
  obtain ⟨j, h1, h2, h3⟩ := hit_ex _ hk
  have ha := ((check_right hc).2.2 j h1).2.2 h2
  have hj : j < (linkL (standsP p).1 (List.take p.length p)).length := by rw [List.take_length]; exact h1
  obtain ⟨i', hi', he⟩ := out_at p.length (Nat.le_refl _) j hj
  rw [List.take_length] at he
  have he : ith (outP p) j = linkX (standsP p).1 j (ith p i') := he
  have hop : (linkX (standsP p).1 j (ith p i')).1 = (ith p i').1 := by unfold linkX; split <;> rfl
  have hg : goesB (ith p i').1 = true := by rw [he, hop] at h2; exact h2
  have hv := mem_goes (hm i' hi') hg
  have e2 : (linkX (standsP p).1 j (ith p i')).2.1 = List.getD (standsP p).1 (ith p i').2.1.toNat 0 - (j : Int) := by unfold linkX; rw [if_pos hg]
  unfold aimP at h3
  rw [he, e2] at ha h3
  exact ⟨(ith p i').2.1.toNat, by omega, by omega⟩
theorem few {p : List InstrD} (hm : ∀ j, j < p.length → memE (ith p j) = 0) (hc : (checkI (outP p)).2 = 0) : ∀ i, i ≤ p.length → numP (outP p) (standsP (List.take i p)).2.toNat + (standsP (List.take i p)).2.toNat ≤ i ∧ ((∃ v, v < 16384 ∧ List.getD (standsP (List.take i p)).1 v 0 = (standsP (List.take i p)).2) → numP (outP p) (standsP (List.take i p)).2.toNat + (standsP (List.take i p)).2.toNat + 1 ≤ i)
  | 0, _ => ⟨Nat.le_refl _, fun ⟨v, hv, h⟩ => by
    have h1 : List.getD stI v 0 = -1 := by
      unfold stI
      rw [List.getD_eq_getElem?_getD, List.getElem?_replicate, if_pos hv]
      rfl
    have h2 : List.getD stI v 0 = 0 := h
    omega⟩
  | i + 1, h => by
    obtain ⟨h1, h2⟩ := few hm hc i (by omega)
    have hmany := stands_many (p := p) i (by omega)
    have hmem := stands_mem (p := p) i (by omega)
    rw [stands_succ (by omega)]
    unfold stF
    by_cases h21 : (ith p i).1 = 21
    · rw [if_pos h21]
      exact ⟨by simp only; omega, fun _ => by simp only; omega⟩
    · rw [if_neg h21]
      simp only
      have e : ((standsP (List.take i p)).2 + 1).toNat = (standsP (List.take i p)).2.toNat + 1 := by omega
      rw [e]
      have hnum : numP (outP p) ((standsP (List.take i p)).2.toNat + 1) = numP (outP p) (standsP (List.take i p)).2.toNat + (if hitP (outP p) (standsP (List.take i p)).2.toNat = true then 1 else 0) := rfl
      rw [hnum]
      refine ⟨?_, fun ⟨v, hv, hvv⟩ => ?_⟩
      · by_cases hh : hitP (outP p) (standsP (List.take i p)).2.toNat = true
        · rw [if_pos hh]
          obtain ⟨v, hv, hvv⟩ := hit_lab hm hc hh
          have hl := stands_later (p := p) (i := i + 1) (v := v) (by omega) (p.length - (i + 1)) (by omega)
          rw [show i + 1 + (p.length - (i + 1)) = p.length by omega, List.take_length, stands_succ (by omega), hvv] at hl
          unfold stF at hl
          rw [if_neg h21] at hl
          have := h2 ⟨v, hv, by rcases hl with hl | hl <;> (simp only at hl; omega)⟩
          omega
        · rw [if_neg hh]
          omega
      · exfalso
        have hle : ∀ i, i ≤ p.length → ∀ v, v < 16384 → List.getD (standsP (List.take i p)).1 v 0 ≤ (standsP (List.take i p)).2 := by
          intro i
          induction i with
          | zero =>
            intro _ v hv
            show List.getD stI v 0 ≤ 0
            unfold stI
            rw [List.getD_eq_getElem?_getD, List.getElem?_replicate, if_pos hv]
            decide
          | succ i ih =>
            intro hi v hv
            have := ih (by omega) v hv
            have hlen := stands_len (List.take i p)
            rw [stands_succ (by omega)]
            unfold stF
            split
            · split
              · simp only
                rw [getD_set (by omega)]
                split <;> omega
              · exact this
            · simp only; omega
        have := hle i (by omega) v hv
        omega
theorem unlink_few {p : List InstrD} (h : (linkR p).2.1 = 0) : (outU (outP p) (outP p).length).length ≤ p.length := by
  obtain ⟨h1, h2, h3⟩ := link_zero h
  obtain ⟨hlen, hmem, hst⟩ := lay_right h1
  have hf := (few (fun j hj => (hmem j hj).1) h2 p.length (Nat.le_refl _)).1
  have hm := link_many (l := (standsP p).1) (p := p) p.length (Nat.le_refl _)
  rw [List.take_length] at hf hm
  have hm : ((outP p).length : Int) = (standsP p).2 := hm
  rw [outU_len]
  rw [← hm, Int.toNat_natCast] at hf
  omega
theorem law_LinkTwice (p : List InstrD) (h : p.length * 80 ≤ 140737488351232) : F_law18_LinkTwice (p, ()) = some (true, ()) := by
  unfold F_law18_LinkTwice
  simp only
  rw [q_link p h, bind_t]
  by_cases h0 : (linkR p).2.1 = 0
  · obtain ⟨h1, h2, h3⟩ := link_zero h0
    have hle := linkR_len p
    have hfew := unlink_few h0
    rw [h3] at hle
    have hle' : (outP p).length ≤ p.length := hle
    have hu : unlinkR (outP p) = (0, 0, outU (outP p) (outP p).length, ()) := by unfold unlinkR; rw [if_pos h2]
    rw [sel_npos h0, h3, q_unlink _ (by show (outP p).length * 80 ≤ _; omega), bind_t, hu]
    rw [sel_npos rfl, bind_t, sel_neg (by show ¬ ((outU (outP p) (outP p).length).length : Int) > (p.length : Int); omega), q_link _ (by show (outU (outP p) (outP p).length).length * 80 ≤ _; omega), link_back h2, bind_t]
    rw [sel_pos rfl, q_sameC _ (by omega), q_lives18]
    rfl
  · rw [sel_nneg h0, link_non h0, q_lcheck p h, bind_t, q_lives18]
    simp only [bind_t, decide_true, sel_t]
    rfl
end Go.Proofs

/-! Chapter 18: the law of places. -/
namespace Go.Proofs
open Go Go.Abs
theorem label_stands {p : List InstrD} (hmem : ∀ j, j < p.length → memE (ith p j) = 0 ∧ ((ith p j).1 = 21 → List.getD (standsP (List.take j p)).1 (ith p j).2.1.toNat 0 < 0)) {v : Nat} (hv : v < 16384) : ∀ d i, i + d ≤ p.length → List.getD (standsP (List.take i p)).1 v 0 ≥ 0 → List.getD (standsP (List.take (i + d) p)).1 v 0 = List.getD (standsP (List.take i p)).1 v 0
  | 0, i, _, _ => rfl
  | d + 1, i, h, h0 => by
    have ih := label_stands hmem hv d i (by omega) h0
    have hlen := stands_len (List.take (i + d) p)
    rw [← Nat.add_assoc, stands_succ (by omega)]
    unfold stF
    split
    · rename_i h21
      have hneg := (hmem (i + d) (by omega)).2 h21
      split
      · simp only
        rw [getD_set (by omega), if_neg, ih]
        intro e
        rw [e, ih] at hneg
        omega
      · exact ih
    · exact ih
theorem label_at {p : List InstrD} (hmem : ∀ j, j < p.length → memE (ith p j) = 0 ∧ ((ith p j).1 = 21 → List.getD (standsP (List.take j p)).1 (ith p j).2.1.toNat 0 < 0)) {i : Nat} (hi : i < p.length) (h21 : (ith p i).1 = 21) : List.getD (standsP p).1 (ith p i).2.1.toNat 0 = (standsP (List.take i p)).2 := by
  obtain ⟨h0, h1⟩ := mem_label (hmem i hi).1 h21
  have hlen := stands_len (List.take i p)
  have hmany := stands_many (p := p) i (by omega)
  have hs : List.getD (standsP (List.take (i + 1) p)).1 (ith p i).2.1.toNat 0 = (standsP (List.take i p)).2 := by
    rw [stands_succ hi]
    unfold stF
    rw [if_pos h21, if_pos ⟨h0, h1⟩]
    simp only
    rw [getD_set (by omega), if_pos rfl]
  have := label_stands hmem (v := (ith p i).2.1.toNat) (by omega) (p.length - (i + 1)) (i + 1) (by omega) (by rw [hs]; omega)
  rw [show i + 1 + (p.length - (i + 1)) = p.length by omega, List.take_length] at this
  rw [this, hs]
theorem link_pre {l : List Int} {p : List InstrD} {i : Nat} (hi : i ≤ p.length) : ∀ d, i + d ≤ p.length → ∃ r, linkL l (List.take (i + d) p) = linkL l (List.take i p) ++ r
  | 0, _ => ⟨[], by simp⟩
  | d + 1, h => by
    obtain ⟨r, hr⟩ := link_pre (l := l) hi d (by omega)
    rw [← Nat.add_assoc, link_succ (by omega), hr]
    unfold linkF
    split
    · exact ⟨r, rfl⟩
    · exact ⟨_, List.append_assoc ..⟩
theorem out_ith {l : List Int} {p : List InstrD} {i : Nat} (hi : i < p.length) (h21 : ¬ (ith p i).1 = 21) : ith (linkL l p) (linkL l (List.take i p)).length = linkX l (linkL l (List.take i p)).length (ith p i) ∧ (linkL l (List.take i p)).length < (linkL l p).length := by
  obtain ⟨r, hr⟩ := link_pre (l := l) (p := p) (i := i + 1) (by omega) (p.length - (i + 1)) (by omega)
  rw [show i + 1 + (p.length - (i + 1)) = p.length by omega, List.take_length, link_succ hi] at hr
  unfold linkF at hr
  rw [if_neg h21] at hr
  rw [hr]
  unfold ith
  refine ⟨?_, by simp⟩
  rw [List.append_assoc, List.getD_eq_getElem?_getD, List.getElem?_append_right (by omega), Nat.sub_self]
  rfl
end Go.Proofs
