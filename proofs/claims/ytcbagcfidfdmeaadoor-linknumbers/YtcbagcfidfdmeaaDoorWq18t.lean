/- Part of the proof of the law's row: YtcbagcfidfdmeaaDoorWq18t. -/
import Derived.Test.YtcbagcfidfdmeaaDoorWq18o
set_option linter.all false
set_option linter.unusedVariables false
set_option linter.unusedSimpArgs false
/-! Chapter 18: Unlink. -/
namespace Go.Proofs
open Go Go.Abs
theorem q_unlink (p : List InstrD) (hp : p.length * 80 ≤ 140737488351232) : F_link_Unlink (p, ()) = some (unlinkR p) := by
  unfold F_link_Unlink unlinkR
  simp only
  rw [q_icheck, bind_t]
  by_cases h0 : (checkI p).2 = 0
  · obtain ⟨hn, hpos, hck⟩ := check_right h0
    rw [sel_npos h0, if_pos h0, need_pos ⟨by omega, by omega, by omega, by omega⟩]
    refine (loopC_gh (γ := Nat) (σ := (Int × Unit) × List Int × List InstrD × Unit) (ρ := Int × Int × List InstrD × Unit) (I := fun i s => s.1.1 = (i : Int) ∧ i ≤ p.length ∧ s.2.1.length = p.length ∧ (∀ k, k < p.length → List.getD s.2.1 k 0 = if hitB p i k = true then 1 else 0)) (μ := fun g => p.length - g) (F := fun _ => (0, 0, outU p p.length, ())) ?_ 0 _ ⟨rfl, by omega, by rw [List.length_replicate]; omega, fun k hk => by rw [List.getD_eq_getElem?_getD, List.getElem?_replicate, if_pos (by omega)]; rfl⟩)
    rintro i ⟨⟨i', ⟨⟩⟩, L, c, ⟨⟩⟩ ⟨e, hi, hL, hl⟩
    simp only at e hi hL hl ⊢
    subst e
    by_cases hlt : i < p.length
    · rw [sel_pos (by omega), need_pos ⟨by omega, by omega⟩]
      simp only [Int.toNat_natCast, getD_ith]
      rw [q_goes, bind_t]
      simp only
      cases hg : goesB (ith p i).1 with
      | false =>
        simp only [sel_f]
        rw [need64 (by omega) (by omega)]
        refine .inl ⟨i + 1, (((i : Int) + 1, ()), L, c, ()), rfl, ⟨by simp, by omega, hL, fun k hk => ?_⟩, by omega, by trivial⟩
        show List.getD L k 0 = if (hitB p i k || (goesB (ith p i).1 && _)) = true then 1 else 0
        rw [hg, Bool.false_and, Bool.or_false]
        exact hl k hk
      | true =>
        obtain ⟨ha0, ha1⟩ := (hck i hlt).2.2 hg
        simp only [sel_t]
        rw [need64 (by omega) (by omega), need_pos ⟨ha0, by omega⟩, need_pos (by omega), need64 (by omega) (by omega), Nat.zero_add]
        refine .inl ⟨i + 1, (((i : Int) + 1, ()), List.set L (aimP p i) 1, c, ()), rfl, ⟨by simp, by omega, by rw [List.length_set]; exact hL, fun k hk => ?_⟩, by omega, by trivial⟩
        show List.getD (List.set L (aimP p i) 1) k 0 = if (hitB p i k || (goesB (ith p i).1 && decide (aimP p i = k))) = true then 1 else 0
        rw [getD_set (by unfold aimP; omega), hg, Bool.true_and]
        by_cases hk2 : aimP p i = k
        · rw [if_pos hk2, decide_eq_true hk2, Bool.or_true, if_pos rfl]
        · rw [if_neg hk2, decide_eq_false hk2, Bool.or_false]
          exact hl k hk
    · have he : i = p.length := by omega
      subst he
      rw [sel_neg (by omega)]
      right
      rw [bind_id_some]
      refine map_inr ?_
      refine (loopC_gh (γ := Nat) (σ := shapeD × List Int × List InstrD × Unit) (ρ := Int × Int × List InstrD × Unit) (I := fun i s => s.1.1 = (i : Int) ∧ i ≤ p.length ∧ s.1.2.1 = (numP p i : Int) ∧ s.2.1.length = p.length ∧ (∀ k, k < p.length → List.getD s.2.1 k 0 = if hitP p k = true then (if k < i then (numP p k : Int) + 1 else 1) else 0)) (μ := fun g => p.length - g) (F := fun _ => (0, 0, outU p p.length, ())) ?_ 0 _ ⟨rfl, by omega, rfl, hL, fun k hk => by simp only; rw [hl k hk]; rfl⟩)
      clear hl
      rintro i ⟨⟨i', m, ⟨⟩⟩, M, c', ⟨⟩⟩ ⟨e, hi, em, hM, hm⟩
      simp only at e hi em hM hm ⊢
      subst e
      have hnp := numP_le (p := p) i
      by_cases hlt : i < p.length
      · rw [sel_pos (by omega), need_pos ⟨by omega, by omega⟩, need_pos (by omega)]
        simp only [Int.toNat_natCast, Nat.zero_add]
        have hmi := hm i hlt
        rw [if_neg (Nat.lt_irrefl i)] at hmi
        by_cases hh : hitP p i = true
        · rw [if_pos hh] at hmi
          erw [sel_pos (p := List.getD M i 0 > 0) (by omega)]
          rw [need64 (by omega) (by omega), need_pos ⟨by omega, by omega⟩, need_pos (by omega), need64 (by omega) (by omega)]
          refine .inl ⟨i + 1, (((i : Int) + 1, m + 1, ()), List.set M i (m + 1), c', ()), rfl, ⟨by simp, by omega, ?_, by rw [List.length_set]; exact hM, fun k hk => ?_⟩, by omega, by trivial⟩
          · show m + 1 = ((numP p i + (if hitP p i = true then 1 else 0) : Nat) : Int)
            rw [if_pos hh]; omega
          · show List.getD (List.set M i (m + 1)) k 0 = _
            rw [getD_set (by omega)]
            by_cases hk2 : i = k
            · rw [if_pos hk2, ← hk2, if_pos hh, if_pos (by omega), em]
            · rw [if_neg hk2, hm k hk]
              by_cases h3 : k < i
              · rw [if_pos h3, if_pos (show k < i + 1 by omega)]
              · rw [if_neg h3, if_neg (show ¬ k < i + 1 by omega)]
        · rw [if_neg hh] at hmi
          erw [sel_neg (p := List.getD M i 0 > 0) (by omega)]
          rw [need64 (by omega) (by omega)]
          refine .inl ⟨i + 1, (((i : Int) + 1, m, ()), M, c', ()), rfl, ⟨by simp, by omega, ?_, hM, fun k hk => ?_⟩, by omega, by trivial⟩
          · show m = ((numP p i + (if hitP p i = true then 1 else 0) : Nat) : Int)
            rw [if_neg hh]; omega
          · show List.getD M k 0 = _
            rw [hm k hk]
            by_cases hk2 : i = k
            · rw [← hk2, if_neg hh, if_neg hh]
            · by_cases h3 : k < i
              · rw [if_pos h3, if_pos (show k < i + 1 by omega)]
              · rw [if_neg h3, if_neg (show ¬ k < i + 1 by omega)]
      · have he : i = p.length := by omega
        subst he
        rw [sel_neg (by omega)]
        right
        rw [bind_id_some]
        refine map_inr ?_
        have hm' : ∀ k, k < p.length → List.getD M k 0 = if hitP p k = true then (numP p k : Int) + 1 else 0 := fun k hk => by rw [hm k hk, if_pos hk]
        clear hm
        refine (loopC_gh (γ := Nat) (σ := (Int × Unit) × List InstrD × List Int × List InstrD × Unit) (ρ := Int × Int × List InstrD × Unit) (I := fun i s => s.1.1 = (i : Int) ∧ i ≤ p.length ∧ s.2.1 = outU p i ∧ s.2.2.1 = M) (μ := fun g => p.length - g) (F := fun _ => (0, 0, outU p p.length, ())) ?_ 0 _ ⟨rfl, by omega, rfl, rfl⟩)
        rintro i ⟨⟨i', ⟨⟩⟩, out, M', c2, ⟨⟩⟩ ⟨e, hi, eo, eM⟩
        simp only at e hi eo eM ⊢
        subst e eM
        have holen : out.length = i + numP p i := by rw [eo, outU_len]
        have hnp := numP_le (p := p) i
        by_cases hlt : i < p.length
        · rw [sel_pos (by omega), need_pos ⟨by omega, by omega⟩, need_pos ⟨by omega, by omega⟩, need_pos (by omega)]
          simp only [Int.toNat_natCast, Nat.zero_add, getD_ith]
          have hmi := hm' i hlt
          have hpre : (sel (decide (List.getD M' i 0 > 0)) (need (0 ≤ (i : Int) ∧ (i : Int) < (M'.length : Int)) (need (i < M'.length) (need (Fits IntKind.i64 (List.getD M' i 0 - 1)) (need (1 ≤ 1 ∧ (out.length + 1) * 80 ≤ 140737488355328) (some (Sum.inl ((), ith p i, out ++ [labI (List.getD M' i 0 - 1)], M', c2, ()))))))) (some (Sum.inl ((), ith p i, out, M', c2, ()))) : Option ((Unit × InstrD × List InstrD × List Int × List InstrD × Unit) ⊕ (((Int × Unit) × List InstrD × List Int × List InstrD × Unit) ⊕ (Int × Int × List InstrD × Unit)))) = some (Sum.inl ((), ith p i, out ++ preU p i, M', c2, ())) := by
            by_cases hh : hitP p i = true
            · rw [if_pos hh] at hmi
              rw [sel_pos (by omega), need_pos ⟨by omega, by omega⟩, need_pos (by omega), need64 (by omega) (by omega), need_pos ⟨by omega, by omega⟩, hmi]
              unfold preU
              rw [if_pos hh, show (numP p i : Int) + 1 - 1 = (numP p i : Int) by omega]
            · rw [if_neg hh] at hmi
              rw [sel_neg (by omega)]
              unfold preU
              rw [if_neg hh, List.append_nil]
          have hplen : (preU p i).length ≤ 1 := by unfold preU; split <;> simp
          have hend : ∀ v, v = unX p i → out ++ preU p i ++ [v] = outU p (i + 1) := fun v hv => by rw [hv, eo]; rfl
          refine .inl ⟨i + 1, (((i : Int) + 1, ()), outU p (i + 1), M', c2, ()), ?_, ⟨by simp, by omega, rfl, rfl⟩, by omega, by trivial⟩
          refine Eq.trans (congrArg (fun z => Option.bind z _) hpre) ?_
          rw [bind_t]
          simp only
          rw [q_goes, bind_t]
          simp only
          cases hg : goesB (ith p i).1 with
          | false =>
            simp only [sel_f, bind_t]
            rw [need_pos ⟨by omega, by rw [List.length_append]; omega⟩, need64 (by omega) (by omega), hend _ (by unfold unX; rw [hg]; rfl)]
          | true =>
            obtain ⟨ha0, ha1⟩ := (hck i hlt).2.2 hg
            have hat : aimP p i < p.length := by unfold aimP; omega
            have hma := hm' (aimP p i) hat
            rw [if_pos (hit_aim hlt hg)] at hma
            have hna := numP_le (p := p) (aimP p i)
            have hma' : List.getD M' (((i : Int) + (ith p i).2.1).toNat) 0 = (numP p (aimP p i) : Int) + 1 := hma
            simp only [sel_t]
            rw [need64 (by omega) (by omega), need_pos ⟨ha0, by omega⟩, need_pos (by omega), hma', need64 (by omega) (by omega), bind_t]
            simp only
            rw [need_pos ⟨by omega, by rw [List.length_append]; omega⟩, need64 (by omega) (by omega), hend _ (by unfold unX; rw [if_pos hg, show (numP p (aimP p i) : Int) + 1 - 1 = (numP p (aimP p i) : Int) by omega])]
        · rw [sel_neg (by omega)]
          right
          rw [eo, show i = p.length by omega]
  · rw [sel_nneg h0, if_neg h0]
end Go.Proofs

/-! Chapter 18: Unlink by the book. -/
namespace Go.Proofs
open Go Go.Abs
theorem q_unlink18 (p : List InstrD) (hp : p.length * 80 ≤ 140737488351232) : F_ref18_Unlink (p, ()) = some (unlinkR p) := by
  unfold F_ref18_Unlink unlinkR
  simp only
  rw [q_icheckR, bind_t]
  by_cases h0 : (checkI p).2 = 0
  · obtain ⟨hn, hpos, hck⟩ := check_right h0
    rw [sel_npos h0, if_pos h0, need_pos ⟨by omega, by omega, by omega, by omega⟩]
    refine (loopC_gh (γ := Nat) (σ := (Int × Unit) × List Bool × List InstrD × Unit) (ρ := Int × Int × List InstrD × Unit) (I := fun i s => s.1.1 = (i : Int) ∧ i ≤ p.length ∧ s.2.1.length = p.length ∧ (∀ k, k < p.length → List.getD s.2.1 k false = hitB p i k)) (μ := fun g => p.length - g) (F := fun _ => (0, 0, outU p p.length, ())) ?_ 0 _ ⟨rfl, by omega, by rw [List.length_replicate]; omega, fun k hk => by rw [List.getD_eq_getElem?_getD, List.getElem?_replicate, if_pos (by omega)]; rfl⟩)
    rintro i ⟨⟨i', ⟨⟩⟩, L, c, ⟨⟩⟩ ⟨e, hi, hL, hl⟩
    simp only at e hi hL hl ⊢
    subst e
    by_cases hlt : i < p.length
    · rw [sel_pos (by omega), need_pos ⟨by omega, by omega⟩]
      simp only [Int.toNat_natCast, getD_ith]
      rw [q_targets, bind_t]
      simp only
      cases hg : goesB (ith p i).1 with
      | false =>
        simp only [sel_f]
        rw [need64 (by omega) (by omega)]
        refine .inl ⟨i + 1, (((i : Int) + 1, ()), L, c, ()), rfl, ⟨by simp, by omega, hL, fun k hk => ?_⟩, by omega, by trivial⟩
        show List.getD L k false = (hitB p i k || (goesB (ith p i).1 && _))
        rw [hg, Bool.false_and, Bool.or_false]
        exact hl k hk
      | true =>
        obtain ⟨ha0, ha1⟩ := (hck i hlt).2.2 hg
        simp only [sel_t]
        rw [need_pos ⟨by omega, by omega⟩, need64 (by omega) (by omega), need_pos ⟨ha0, by omega⟩, need_pos (by omega), need64 (by omega) (by omega), Nat.zero_add]
        refine .inl ⟨i + 1, (((i : Int) + 1, ()), List.set L (aimP p i) true, c, ()), rfl, ⟨by simp, by omega, by rw [List.length_set]; exact hL, fun k hk => ?_⟩, by omega, by trivial⟩
        show List.getD (List.set L (aimP p i) true) k false = (hitB p i k || (goesB (ith p i).1 && decide (aimP p i = k)))
        rw [getD_set (by unfold aimP; omega), hg, Bool.true_and]
        by_cases hk2 : aimP p i = k
        · rw [if_pos hk2, decide_eq_true hk2, Bool.or_true]
        · rw [if_neg hk2, decide_eq_false hk2, Bool.or_false]
          exact hl k hk
    · have he : i = p.length := by omega
      subst he
      rw [sel_neg (by omega)]
      right
      rw [bind_id_some]
      refine map_inr ?_
      rw [need_pos ⟨by omega, by omega, by omega, by omega⟩]
      have hh' : ∀ k, k < p.length → List.getD L k false = hitP p k := hl
      clear hl
      refine (loopC_gh (γ := Nat) (σ := shapeD × List Int × List Bool × List InstrD × Unit) (ρ := Int × Int × List InstrD × Unit) (I := fun i s => s.1.1 = (i : Int) ∧ i ≤ p.length ∧ s.1.2.1 = (numP p i : Int) ∧ s.2.1.length = p.length ∧ s.2.2.1 = L ∧ (∀ k, k < i → hitP p k = true → List.getD s.2.1 k 0 = (numP p k : Int))) (μ := fun g => p.length - g) (F := fun _ => (0, 0, outU p p.length, ())) ?_ 0 _ ⟨rfl, by omega, rfl, by rw [List.length_replicate]; omega, rfl, fun k hk => by omega⟩)
      rintro i ⟨⟨i', m, ⟨⟩⟩, M, L', c', ⟨⟩⟩ ⟨e, hi, em, hM, eL, hm⟩
      simp only at e hi em hM eL hm ⊢
      subst e eL
      have hnp := numP_le (p := p) i
      by_cases hlt : i < p.length
      · rw [sel_pos (by omega), need_pos ⟨by omega, by omega⟩, need_pos (by omega)]
        simp only [Int.toNat_natCast, Nat.zero_add]
        rw [hh' i hlt]
        by_cases hh : hitP p i = true
        · rw [hh, sel_t, need_pos ⟨by omega, by omega⟩, need_pos (by omega), need64 (by omega) (by omega), need64 (by omega) (by omega)]
          refine .inl ⟨i + 1, (((i : Int) + 1, m + 1, ()), List.set M i m, L', c', ()), rfl, ⟨by simp, by omega, ?_, by rw [List.length_set]; exact hM, rfl, fun k hk hkh => ?_⟩, by omega, by trivial⟩
          · show m + 1 = ((numP p i + (if hitP p i = true then 1 else 0) : Nat) : Int)
            rw [if_pos hh]; omega
          · show List.getD (List.set M i m) k 0 = _
            rw [getD_set (by omega)]
            by_cases hk2 : i = k
            · rw [if_pos hk2, ← hk2, em]
            · rw [if_neg hk2]
              exact hm k (by omega) hkh
        · have hf : hitP p i = false := by simpa using hh
          rw [hf, sel_f, need64 (by omega) (by omega)]
          refine .inl ⟨i + 1, (((i : Int) + 1, m, ()), M, L', c', ()), rfl, ⟨by simp, by omega, ?_, hM, rfl, fun k hk hkh => ?_⟩, by omega, by trivial⟩
          · show m = ((numP p i + (if hitP p i = true then 1 else 0) : Nat) : Int)
            rw [if_neg hh]; omega
          · have : k ≠ i := fun h => hh (by rw [← h]; exact hkh)
            exact hm k (by omega) hkh
      · have he : i = p.length := by omega
        subst he
        rw [sel_neg (by omega)]
        right
        rw [bind_id_some]
        refine map_inr ?_
        refine (loopC_gh (γ := Nat) (σ := (Int × Unit) × List InstrD × List Int × List Bool × List InstrD × Unit) (ρ := Int × Int × List InstrD × Unit) (I := fun i s => s.1.1 = (i : Int) ∧ i ≤ p.length ∧ s.2.1 = outU p i ∧ s.2.2.1 = M ∧ s.2.2.2.1 = L') (μ := fun g => p.length - g) (F := fun _ => (0, 0, outU p p.length, ())) ?_ 0 _ ⟨rfl, by omega, rfl, rfl, rfl⟩)
        rintro i ⟨⟨i', ⟨⟩⟩, out, M', L2, c2, ⟨⟩⟩ ⟨e, hi, eo, eM, eL⟩
        simp only at e hi eo eM eL ⊢
        subst e eM eL
        have holen : out.length = i + numP p i := by rw [eo, outU_len]
        have hnp := numP_le (p := p) i
        by_cases hlt : i < p.length
        · rw [sel_pos (by omega), need_pos ⟨by omega, by omega⟩, need_pos ⟨by omega, by omega⟩, need_pos (by omega)]
          simp only [Int.toNat_natCast, Nat.zero_add, getD_ith]
          have hpre : (sel (List.getD L2 i false) (need (0 ≤ (i : Int) ∧ (i : Int) < (M'.length : Int)) (need (i < M'.length) (need (1 ≤ 1 ∧ (out.length + 1) * 80 ≤ 140737488355328) (some (Sum.inl ((), ith p i, out ++ [labI (List.getD M' i 0)], M', L2, c2, ())))))) (some (Sum.inl ((), ith p i, out, M', L2, c2, ()))) : Option ((Unit × InstrD × List InstrD × List Int × List Bool × List InstrD × Unit) ⊕ (((Int × Unit) × List InstrD × List Int × List Bool × List InstrD × Unit) ⊕ (Int × Int × List InstrD × Unit)))) = some (Sum.inl ((), ith p i, out ++ preU p i, M', L2, c2, ())) := by
            rw [hh' i hlt]
            by_cases hh : hitP p i = true
            · rw [hh, sel_t, need_pos ⟨by omega, by omega⟩, need_pos (by omega), need_pos ⟨by omega, by omega⟩, hm i hlt hh]
              unfold preU
              rw [if_pos hh]
            · have hf : hitP p i = false := by simpa using hh
              rw [hf, sel_f]
              unfold preU
              rw [if_neg hh, List.append_nil]
          have hplen : (preU p i).length ≤ 1 := by unfold preU; split <;> simp
          have hend : ∀ v, v = unX p i → out ++ preU p i ++ [v] = outU p (i + 1) := fun v hv => by rw [hv, eo]; rfl
          refine .inl ⟨i + 1, (((i : Int) + 1, ()), outU p (i + 1), M', L2, c2, ()), ?_, ⟨by simp, by omega, rfl, rfl, rfl⟩, by omega, by trivial⟩
          refine Eq.trans (congrArg (fun z => Option.bind z _) hpre) ?_
          rw [bind_t]
          simp only
          rw [q_targets, bind_t]
          simp only
          cases hg : goesB (ith p i).1 with
          | false =>
            simp only [sel_f, bind_t]
            rw [need_pos ⟨by omega, by rw [List.length_append]; omega⟩, need64 (by omega) (by omega), hend _ (by unfold unX; rw [hg]; rfl)]
          | true =>
            obtain ⟨ha0, ha1⟩ := (hck i hlt).2.2 hg
            have hat : aimP p i < p.length := by unfold aimP; omega
            have hma := hm (aimP p i) hat (hit_aim hlt hg)
            have hma' : List.getD M' (((i : Int) + (ith p i).2.1).toNat) 0 = (numP p (aimP p i) : Int) := hma
            simp only [sel_t]
            rw [need64 (by omega) (by omega), need_pos ⟨ha0, by omega⟩, need_pos (by omega), hma', bind_t]
            simp only
            rw [need_pos ⟨by omega, by rw [List.length_append]; omega⟩, need64 (by omega) (by omega), hend _ (by unfold unX; rw [if_pos hg])]
        · rw [sel_neg (by omega)]
          right
          rw [eo, show i = p.length by omega]
  · rw [sel_nneg h0, if_neg h0]
theorem unlinkR_len (p : List InstrD) : (unlinkR p).2.2.1.length ≤ 16384 := by
  unfold unlinkR
  by_cases h0 : (checkI p).2 = 0
  · rw [if_pos h0]
    have := numP_le (p := p) p.length
    have := (check_right h0).1
    show (outU p p.length).length ≤ 16384
    rw [outU_len]
    omega
  · rw [if_neg h0]
    simp
theorem law_LinkUnlinks (p : List InstrD) (h : p.length * 80 ≤ 140737488351232) : F_law18_LinkUnlinks (p, ()) = some (true, ()) := by
  unfold F_law18_LinkUnlinks
  simp only
  rw [q_lendC p (by omega), bind_t]
  simp only [lentI_take, List.length_append, List.length_cons, List.length_nil]
  simp (disch := omega) only [need_pos]
  have := unlinkR_len p
  rw [q_unlink p h, q_unlink18 p h, q_lives18]
  simp only [bind_t, decide_true, sel_t]
  rw [q_sameC _ (by omega)]
  simp only [bind_t, sel_t]
  rw [q_keptC p (by omega)]
  rfl
end Go.Proofs

/-! Chapter 18: the law of what Link and Unlink give. -/
namespace Go.Proofs
open Go Go.Abs
theorem q_spoilC (v : Int) (p : List InstrD) (h : p.length ≤ 16384) : F_book_SpoilCode (v, p, ()) = some () := by
  unfold F_book_SpoilCode
  refine (loopC_gh (γ := Nat) (σ := (Int × Unit) × List InstrD × Unit) (ρ := Unit) (I := fun i s => s.1.1 = (i : Int) ∧ i ≤ p.length ∧ s.2.1.length = p.length) (μ := fun g => p.length - g) (F := fun _ => ()) ?_ 0 _ ⟨rfl, by omega, rfl⟩)
  rintro i ⟨⟨i', ⟨⟩⟩, L, ⟨⟩⟩ ⟨e, hi, hL⟩
  simp only at e hi hL ⊢
  subst e
  by_cases hlt : i < p.length
  · rw [sel_pos (by omega), need_pos ⟨by omega, by omega⟩, need_pos (by omega), need64 (by omega) (by omega)]
    exact .inl ⟨i + 1, (((i : Int) + 1, ()), _, ()), rfl, ⟨by simp, by omega, by rw [List.length_set]; exact hL⟩, by omega, by trivial⟩
  · rw [sel_neg (by omega), need_pos ⟨by omega, by omega⟩]
    exact .inr rfl
theorem law_LinkOwn (p : List InstrD) (h : p.length * 80 ≤ 140737488351232) : F_law18_LinkOwn (p, ()) = some (true, ()) := by
  unfold F_law18_LinkOwn
  simp only
  rw [q_lendC p (by omega), bind_t]
  refine (loopC_gh (γ := Nat) (σ := (Int × (Nat × Nat) × Unit) × List InstrD × Unit) (ρ := Bool × Unit) (I := fun i s => s.1.1 = (i : Int) ∧ i ≤ 2 ∧ s.1.2.1 = (0, p.length) ∧ s.2.1 = p ++ [markI]) (μ := fun g => 2 - g) (F := fun _ => (true, ())) ?_ 0 _ ⟨rfl, by omega, rfl, rfl⟩)
  rintro i ⟨⟨i', ⟨o, k⟩, ⟨⟩⟩, L, ⟨⟩⟩ ⟨e, hi, eok, eL⟩
  simp only at e hi eok eL ⊢
  have ho : o = 0 := congrArg Prod.fst eok
  have hk : k = p.length := congrArg Prod.snd eok
  subst e ho hk eL
  have hl1 : (linkR p).2.2.1.length ≤ 16384 := by
    by_cases h0 : (linkR p).2.1 = 0
    · have := linkR_len p
      have := (lay_right (link_zero h0).1).1
      omega
    · rw [link_non h0]
      simp
  have hl2 := unlinkR_len p
  have hn : 0 + p.length ≤ (p ++ [markI]).length := by simp
  by_cases hlt : i < 2
  · rw [sel_pos (by omega), need_pos hn, lentI_take, q_link p h, bind_t]
    rw [q_spoilC _ _ hl1, bind_t, need_pos hn, q_unlink p h, bind_t]
    rw [q_spoilC _ _ hl2, bind_t, need64 (by omega) (by omega)]
    exact .inl ⟨i + 1, (((i : Int) + 1, (0, p.length), ()), p ++ [markI], ()), rfl, ⟨by simp, by omega, rfl, rfl⟩, by omega, by trivial⟩
  · rw [sel_neg (by omega), law_LinkLinks p 0 h, bind_t]
    right
    rw [sel_t, law_LinkUnlinks p h, bind_t, bind_t]
    simp only [sel_t]
    rw [need_pos hn, q_keptC p (by omega)]
    rfl
end Go.Proofs

/-! Chapter 18: Link undoes Unlink. -/
namespace Go.Proofs
open Go Go.Abs
theorem lay1_app : ∀ {xs ys : List InstrD} {k : Int} {st st' : StL}, lay1 xs k st = .inr st' → lay1 (xs ++ ys) k st = lay1 ys (k + (xs.length : Int)) st'
  | [], ys, k, st, st', h => by
    cases h
    simp
  | x :: xs, ys, k, st, st', h => by
    rw [lay1] at h
    rw [List.cons_append, lay1]
    split at h
    · cases h
    · rename_i h1
      rw [if_neg h1]
      split at h
      · cases h
      · rename_i h2
        rw [if_neg h2, lay1_app h]
        congr 1
        simp only [List.length_cons]
        omega
theorem lay1_one {x : InstrD} {k : Int} {st : StL} (h1 : memE x = 0) (h2 : ¬ (x.1 = 21 ∧ List.getD st.1 x.2.1.toNat 0 ≥ 0)) : lay1 [x] k st = .inr (stF st x) := by
  rw [lay1, if_neg (fun h => h h1), if_neg h2]
  rfl
theorem mem_lab {v : Nat} (h : v < 16384) : memE (labI (v : Int)) = 0 := by
  unfold memE
  rw [if_pos (show (labI (v : Int)).1 = 21 from rfl)]
  rw [if_pos ⟨eqI_iff.2 rfl, by show (0 : Int) ≤ (v : Int); omega, by show (v : Int) < 16384; omega⟩]
theorem is_not {op : Int} (h : isB op = true) : op ≠ 21 := by
  intro e
  rw [e] at h
  exact absurd h (by decide)
theorem numP_lt {p : List InstrD} {k : Nat} (hk : hitP p k = true) : ∀ i, k < i → numP p k < numP p i
  | 0, h => absurd h (Nat.not_lt_zero _)
  | i + 1, h => by
    show numP p k < numP p i + (if hitP p i = true then 1 else 0)
    rcases Nat.lt_or_eq_of_le (Nat.le_of_lt_succ h) with h | h
    · have := numP_lt hk i h
      omega
    · rw [← h, if_pos hk]
      omega
theorem mem_unX {p : List InstrD} (hc : (checkI p).2 = 0) {i : Nat} (hi : i < p.length) : memE (unX p i) = 0 ∧ (unX p i).1 = (ith p i).1 := by
  obtain ⟨hn, hpos, hck⟩ := check_right hc
  obtain ⟨h1, h2, h3⟩ := hck i hi
  have e1 : (unX p i).1 = (ith p i).1 := by unfold unX; split <;> rfl
  refine ⟨?_, e1⟩
  unfold memE
  rw [if_neg (by rw [e1]; exact is_not h1), if_neg (by rw [e1, h1]; simp)]
  rw [if_pos]
  refine ⟨?_, fun hg => ?_⟩
  · unfold unX
    split
    · rename_i hg
      rw [fits_target hg]
      exact h2
    · exact h2
  · rw [e1] at hg
    have ha := h3 hg
    have := numP_le (p := p) (aimP p i)
    unfold unX
    rw [if_pos hg]
    unfold aimP at *
    show (0 : Int) ≤ (_ : Nat) ∧ ((_ : Nat) : Int) < 16384
    omega
theorem unlink_lay {p : List InstrD} (hc : (checkI p).2 = 0) : ∀ i, i ≤ p.length → ∃ l, lay1 (outU p i) 0 (stI, 0) = .inr (l, (i : Int)) ∧ l.length = 16384 ∧ (∀ k, k < i → hitP p k = true → List.getD l (numP p k) 0 = (k : Int)) ∧ (∀ v, numP p i ≤ v → v < 16384 → List.getD l v 0 = -1)
  | 0, _ => ⟨stI, rfl, List.length_replicate .., fun k hk => absurd hk (Nat.not_lt_zero _), fun v _ hv => by
    unfold stI
    rw [List.getD_eq_getElem?_getD, List.getElem?_replicate, if_pos hv]
    rfl⟩
  | i + 1, hi => by
    obtain ⟨l, h1, hl, h2, h3⟩ := unlink_lay hc i (by omega)
    obtain ⟨hm, he⟩ := mem_unX hc (i := i) (by omega)
    have hn := (check_right hc).1
    have hb := ((check_right hc).2.2 i (by omega)).1
    have hnp := numP_le (p := p) i
    have hn21 : (unX p i).1 ≠ 21 := by rw [he]; exact is_not hb
    have hx : ∀ l' k, lay1 [unX p i] k (l', (i : Int)) = .inr (l', ((i + 1 : Nat) : Int)) := by
      intro l' k
      rw [lay1_one hm (fun h => hn21 h.1)]
      unfold stF
      rw [if_neg hn21]
      rfl
    show ∃ l, lay1 (outU p i ++ preU p i ++ [unX p i]) 0 (stI, 0) = _ ∧ _
    rw [List.append_assoc, lay1_app h1]
    by_cases hh : hitP p i = true
    · have e : preU p i = [labI (numP p i : Int)] := by unfold preU; rw [if_pos hh]
      have hnum : numP p (i + 1) = numP p i + 1 := by show numP p i + (if hitP p i = true then 1 else 0) = _; rw [if_pos hh]
      have hg := h3 (numP p i) (Nat.le_refl _) (by omega)
      have hst : stF (l, (i : Int)) (labI (numP p i : Int)) = (List.set l (numP p i) (i : Int), (i : Int)) := by
        unfold stF
        rw [if_pos (show (labI (numP p i : Int)).1 = 21 from rfl), if_pos (show 0 ≤ (labI (numP p i : Int)).2.1 ∧ (labI (numP p i : Int)).2.1 < 16384 from ⟨by show (0 : Int) ≤ (numP p i : Int); omega, by show (numP p i : Int) < 16384; omega⟩)]
        rfl
      refine ⟨List.set l (numP p i) (i : Int), ?_, by rw [List.length_set]; exact hl, fun k hk hkh => ?_, fun v hv1 hv2 => ?_⟩
      · rw [e, lay1_app (lay1_one (mem_lab (by omega)) (fun h => by
          have h4 : List.getD l (numP p i) 0 ≥ 0 := h.2
          omega)), hst, hx]
      · rw [getD_set (by omega)]
        rcases Nat.lt_or_eq_of_le (Nat.le_of_lt_succ hk) with hlt | heq
        · have := numP_lt hkh i hlt
          rw [if_neg (by omega)]
          exact h2 k hlt hkh
        · rw [heq, if_pos rfl]
      · rw [getD_set (by omega), if_neg (by omega)]
        exact h3 v (by omega) hv2
    · have e : preU p i = [] := by unfold preU; rw [if_neg hh]
      have hnum : numP p (i + 1) = numP p i := by show numP p i + (if hitP p i = true then 1 else 0) = _; rw [if_neg hh]; rfl
      refine ⟨l, ?_, hl, fun k hk hkh => ?_, fun v hv1 hv2 => h3 v (by omega) hv2⟩
      · rw [e, List.nil_append, hx]
      · rcases Nat.lt_or_eq_of_le (Nat.le_of_lt_succ hk) with hlt | heq
        · exact h2 k hlt hkh
        · exact absurd (by rw [← heq]; exact hkh) hh
end Go.Proofs

/-! Chapter 18: the law of Link after Unlink. -/
namespace Go.Proofs
open Go Go.Abs
theorem linkL_app (l : List Int) (xs ys : List InstrD) : linkL l (xs ++ ys) = ys.foldl (linkF l) (linkL l xs) := by
  unfold linkL
  rw [List.foldl_append]
theorem unX_back {p : List InstrD} (hc : (checkI p).2 = 0) {l : List Int} (hl : ∀ k, k < p.length → hitP p k = true → List.getD l (numP p k) 0 = (k : Int)) {i : Nat} (hi : i < p.length) : linkX l i (unX p i) = ith p i := by
  unfold linkX
  rw [(mem_unX hc hi).2]
  by_cases hg : goesB (ith p i).1 = true
  · rw [if_pos hg]
    have ha := ((check_right hc).2.2 i hi).2.2 hg
    have hat : aimP p i < p.length := by unfold aimP; omega
    have := hl (aimP p i) hat (hit_aim hi hg)
    unfold unX
    rw [if_pos hg]
    show ((ith p i).1, List.getD l ((numP p (aimP p i) : Int)).toNat 0 - (i : Int), (ith p i).2.2) = ith p i
    rw [Int.toNat_natCast, this, show (aimP p i : Int) - (i : Int) = (ith p i).2.1 by unfold aimP; omega]
  · rw [if_neg hg]
    unfold unX
    rw [if_neg hg]
theorem link_outU {p : List InstrD} (hc : (checkI p).2 = 0) {l : List Int} (hl : ∀ k, k < p.length → hitP p k = true → List.getD l (numP p k) 0 = (k : Int)) : ∀ i, i ≤ p.length → linkL l (outU p i) = List.take i p
  | 0, _ => rfl
  | i + 1, hi => by
    have ih := link_outU hc hl i (by omega)
    show linkL l (outU p i ++ preU p i ++ [unX p i]) = _
    have e1 : linkL l (outU p i ++ preU p i) = List.take i p := by
      rw [linkL_app, ih]
      unfold preU
      split
      · show linkF l (List.take i p) (labI (numP p i : Int)) = _
        unfold linkF
        rw [if_pos (show (labI (numP p i : Int)).1 = 21 from rfl)]
      · rfl
    rw [linkL_app, e1]
    show linkF l (List.take i p) (unX p i) = _
    have hlen : (List.take i p).length = i := by rw [List.length_take]; omega
    unfold linkF
    rw [if_neg (by rw [(mem_unX hc (by omega)).2]; exact is_not ((check_right hc).2.2 i (by omega)).1), hlen, unX_back hc hl (by omega), take_ith (by omega)]
theorem lay2_app {st : StL} : ∀ {xs ys : List InstrD} {k : Int}, lay2 st xs k = none → lay2 st (xs ++ ys) k = lay2 st ys (k + (xs.length : Int))
  | [], ys, k, _ => by simp
  | x :: xs, ys, k, h => by
    rw [lay2] at h
    rw [List.cons_append, lay2]
    split at h
    · cases h
    · rename_i h1
      rw [if_neg h1, lay2_app h]
      congr 1
      simp only [List.length_cons]
      omega
theorem lay2_outU {p : List InstrD} (hc : (checkI p).2 = 0) {l : List Int} (hl : ∀ k, k < p.length → hitP p k = true → List.getD l (numP p k) 0 = (k : Int)) : ∀ i, i ≤ p.length → lay2 (l, (p.length : Int)) (outU p i) 0 = none
  | 0, _ => rfl
  | i + 1, hi => by
    have ih := lay2_outU hc hl i (by omega)
    show lay2 _ (outU p i ++ preU p i ++ [unX p i]) 0 = none
    rw [List.append_assoc, lay2_app ih]
    have hx : ∀ k, lay2 (l, (p.length : Int)) [unX p i] k = none := by
      intro k
      rw [lay2, if_neg]
      · rfl
      · intro hb
        have hg : goesB (ith p i).1 = true := by
          have := hb.1
          rwa [(mem_unX hc (by omega)).2] at this
        have ha := ((check_right hc).2.2 i (by omega)).2.2 hg
        have hat : aimP p i < p.length := by unfold aimP; omega
        have h1 := hl (aimP p i) hat (hit_aim (by omega) hg)
        have h2 := hb.2
        unfold unX at h2
        rw [if_pos hg] at h2
        have h3 : List.getD l ((numP p (aimP p i) : Int)).toNat 0 < 0 ∨ List.getD l ((numP p (aimP p i) : Int)).toNat 0 = (p.length : Int) := h2
        rw [Int.toNat_natCast, h1] at h3
        omega
    unfold preU
    split
    · rw [List.singleton_append, lay2, if_neg (by intro hb; have := hb.1; exact absurd this (by show ¬ goesB 21 = true; decide))]
      exact hx _
    · exact hx _
theorem link_back {p : List InstrD} (hc : (checkI p).2 = 0) : linkR (outU p p.length) = (0, 0, p, ()) := by
  obtain ⟨l, h1, hl, h2, h3⟩ := unlink_lay hc p.length (Nat.le_refl _)
  have hn := (check_right hc).1
  have hnp := numP_le (p := p) p.length
  have hlen := outU_len (p := p) p.length
  have hst : (l, (p.length : Int)) = standsP (outU p p.length) := (lay1_right (p := outU p p.length) _ 0 rfl (Nat.zero_le _) _ h1).2
  have hr : (layR (outU p p.length)).2.2.1 = 0 := by
    unfold layR
    rw [if_neg (by omega), h1]
    show (pack _ ((lay2 (l, (p.length : Int)) (outU p p.length) 0).getD (0, 0))).2.2.1 = 0
    rw [lay2_outU hc h2 _ (Nat.le_refl _)]
    rfl
  have hout : outP (outU p p.length) = p := by
    unfold outP
    rw [← hst]
    show linkL l _ = p
    rw [link_outU hc h2 _ (Nat.le_refl _), List.take_length]
  unfold linkR
  rw [if_neg (fun h => h hr), hout, if_pos hc]
theorem law_LinkBack (p : List InstrD) (h : p.length * 80 ≤ 140737488351232) : F_law18_LinkBack (p, ()) = some (true, ()) := by
  unfold F_law18_LinkBack
  simp only
  rw [q_unlink p h, bind_t]
  by_cases hc : (checkI p).2 = 0
  · have e : unlinkR p = (0, 0, outU p p.length, ()) := by unfold unlinkR; rw [if_pos hc]
    have hlen := unlinkR_len p
    rw [e] at hlen ⊢
    have hlen' : (outU p p.length).length ≤ 16384 := hlen
    have hn := (check_right hc).1
    rw [sel_npos rfl, sel_neg (by show ¬ ((outU p p.length).length : Int) > 16384; omega), q_link _ (by show (outU p p.length).length * 80 ≤ _; omega), link_back hc, bind_t]
    rw [sel_pos rfl, q_sameC p (by omega), q_lives18]
    rfl
  · have e : unlinkR p = ((checkI p).1, (checkI p).2, [], ()) := by unfold unlinkR; rw [if_neg hc]
    rw [e]
    simp only
    rw [sel_nneg hc, q_icheckR, bind_t, q_lives18]
    simp only [bind_t, decide_true, sel_t]
    rfl
end Go.Proofs
