/- Part of the proof of the law's row: YtaghpbhnclclaaaDoorWq18q. -/
import Derived.Test.YtaghpbhnclclaaaDoorWq18o
set_option linter.all false
set_option linter.unusedVariables false
set_option linter.unusedSimpArgs false
/-! Chapter 18: Unlink. -/
namespace Go.Proofs
open Go Go.Abs
theorem q_unlink (p : List InstrD) (hp : p.length * 80 ≤ 140737488351232) : F_link_Unlink (p, ()) = some (unlinkR p) := by
  unfold F_link_Unlink unlinkR
  simp only
  rw [q_icheck, bind_t]
  by_cases h0 : (checkI p).2 = 0
  · obtain ⟨hn, hpos, hck⟩ := check_right h0
    rw [sel_npos h0, if_pos h0, need_pos ⟨by omega, by omega, by omega, by omega⟩]
    refine (loopC_gh (γ := Nat) (σ := (Int × Unit) × List Int × List InstrD × Unit) (ρ := Int × Int × List InstrD × Unit) (I := fun i s => s.1.1 = (i : Int) ∧ i ≤ p.length ∧ s.2.1.length = p.length ∧ (∀ k, k < p.length → List.getD s.2.1 k 0 = if hitB p i k = true then 1 else 0)) (μ := fun g => p.length - g) (F := fun _ => (0, 0, outU p p.length, ())) ?_ 0 _ ⟨rfl, by omega, by rw [List.length_replicate]; omega, fun k hk => by rw [List.getD_eq_getElem?_getD, List.getElem?_replicate, if_pos (by omega)]; rfl⟩)
    rintro i ⟨⟨i', ⟨⟩⟩, L, c, ⟨⟩⟩ ⟨e, hi, hL, hl⟩
    simp only at e hi hL hl ⊢
    subst e
    by_cases hlt : i < p.length
    · rw [sel_pos (by omega), need_pos ⟨by omega, by omega⟩]
      simp only [Int.toNat_natCast, getD_ith]
      rw [q_goes, bind_t]
      simp only
      cases hg : goesB (ith p i).1 with
      | false =>
        simp only [sel_f]
        rw [need64 (by omega) (by omega)]
        refine .inl ⟨i + 1, (((i : Int) + 1, ()), L, c, ()), rfl, ⟨by simp, by omega, hL, fun k hk => ?_⟩, by omega, by trivial⟩
        show List.getD L k 0 = if (hitB p i k || (goesB (ith p i).1 && _)) = true then 1 else 0
        rw [hg, Bool.false_and, Bool.or_false]
        exact hl k hk
      | true =>
        obtain ⟨ha0, ha1⟩ := (hck i hlt).2.2 hg
        simp only [sel_t]
        rw [need64 (by omega) (by omega), need_pos ⟨ha0, by omega⟩, need_pos (by omega), need64 (by omega) (by omega), Nat.zero_add]
        refine .inl ⟨i + 1, (((i : Int) + 1, ()), List.set L (aimP p i) 1, c, ()), rfl, ⟨by simp, by omega, by rw [List.length_set]; exact hL, fun k hk => ?_⟩, by omega, by trivial⟩
        show List.getD (List.set L (aimP p i) 1) k 0 = if (hitB p i k || (goesB (ith p i).1 && decide (aimP p i = k))) = true then 1 else 0
        rw [getD_set (by unfold aimP; omega), hg, Bool.true_and]
        by_cases hk2 : aimP p i = k
        · rw [if_pos hk2, decide_eq_true hk2, Bool.or_true, if_pos rfl]
        · rw [if_neg hk2, decide_eq_false hk2, Bool.or_false]
          exact hl k hk
    · have he : i = p.length := by omega
      subst he
      rw [sel_neg (by omega)]
      right
      rw [bind_id_some]
      refine map_inr ?_
      refine (loopC_gh (γ := Nat) (σ := shapeD × List Int × List InstrD × Unit) (ρ := Int × Int × List InstrD × Unit) (I := fun i s => s.1.1 = (i : Int) ∧ i ≤ p.length ∧ s.1.2.1 = (numP p i : Int) ∧ s.2.1.length = p.length ∧ (∀ k, k < p.length → List.getD s.2.1 k 0 = if hitP p k = true then (if k < i then (numP p k : Int) + 1 else 1) else 0)) (μ := fun g => p.length - g) (F := fun _ => (0, 0, outU p p.length, ())) ?_ 0 _ ⟨rfl, by omega, rfl, hL, fun k hk => by simp only; rw [hl k hk]; rfl⟩)
      clear hl
      rintro i ⟨⟨i', m, ⟨⟩⟩, M, c', ⟨⟩⟩ ⟨e, hi, em, hM, hm⟩
      simp only at e hi em hM hm ⊢
      subst e
      have hnp := numP_le (p := p) i
      by_cases hlt : i < p.length
      · rw [sel_pos (by omega), need_pos ⟨by omega, by omega⟩, need_pos (by omega)]
        simp only [Int.toNat_natCast, Nat.zero_add]
        have hmi := hm i hlt
        rw [if_neg (Nat.lt_irrefl i)] at hmi
        by_cases hh : hitP p i = true
        · rw [if_pos hh] at hmi
          erw [sel_pos (p := List.getD M i 0 > 0) (by omega)]
          rw [need64 (by omega) (by omega), need_pos ⟨by omega, by omega⟩, need_pos (by omega), need64 (by omega) (by omega)]
          refine .inl ⟨i + 1, (((i : Int) + 1, m + 1, ()), List.set M i (m + 1), c', ()), rfl, ⟨by simp, by omega, ?_, by rw [List.length_set]; exact hM, fun k hk => ?_⟩, by omega, by trivial⟩
          · show m + 1 = ((numP p i + (if hitP p i = true then 1 else 0) : Nat) : Int)
            rw [if_pos hh]; omega
          · show List.getD (List.set M i (m + 1)) k 0 = _
            rw [getD_set (by omega)]
            by_cases hk2 : i = k
            · rw [if_pos hk2, ← hk2, if_pos hh, if_pos (by omega), em]
            · rw [if_neg hk2, hm k hk]
              by_cases h3 : k < i
              · rw [if_pos h3, if_pos (show k < i + 1 by omega)]
              · rw [if_neg h3, if_neg (show ¬ k < i + 1 by omega)]
        · rw [if_neg hh] at hmi
          erw [sel_neg (p := List.getD M i 0 > 0) (by omega)]
          rw [need64 (by omega) (by omega)]
          refine .inl ⟨i + 1, (((i : Int) + 1, m, ()), M, c', ()), rfl, ⟨by simp, by omega, ?_, hM, fun k hk => ?_⟩, by omega, by trivial⟩
          · show m = ((numP p i + (if hitP p i = true then 1 else 0) : Nat) : Int)
            rw [if_neg hh]; omega
          · show List.getD M k 0 = _
            rw [hm k hk]
            by_cases hk2 : i = k
            · rw [← hk2, if_neg hh, if_neg hh]
            · by_cases h3 : k < i
              · rw [if_pos h3, if_pos (show k < i + 1 by omega)]
              · rw [if_neg h3, if_neg (show ¬ k < i + 1 by omega)]
      · have he : i = p.length := by omega
        subst he
        rw [sel_neg (by omega)]
        right
        rw [bind_id_some]
        refine map_inr ?_
        have hm' : ∀ k, k < p.length → List.getD M k 0 = if hitP p k = true then (numP p k : Int) + 1 else 0 := fun k hk => by rw [hm k hk, if_pos hk]
        clear hm
        refine (loopC_gh (γ := Nat) (σ := (Int × Unit) × List InstrD × List Int × List InstrD × Unit) (ρ := Int × Int × List InstrD × Unit) (I := fun i s => s.1.1 = (i : Int) ∧ i ≤ p.length ∧ s.2.1 = outU p i ∧ s.2.2.1 = M) (μ := fun g => p.length - g) (F := fun _ => (0, 0, outU p p.length, ())) ?_ 0 _ ⟨rfl, by omega, rfl, rfl⟩)
        rintro i ⟨⟨i', ⟨⟩⟩, out, M', c2, ⟨⟩⟩ ⟨e, hi, eo, eM⟩
        simp only at e hi eo eM ⊢
        subst e eM
        have holen : out.length = i + numP p i := by rw [eo, outU_len]
        have hnp := numP_le (p := p) i
        by_cases hlt : i < p.length
        · rw [sel_pos (by omega), need_pos ⟨by omega, by omega⟩, need_pos ⟨by omega, by omega⟩, need_pos (by omega)]
          simp only [Int.toNat_natCast, Nat.zero_add, getD_ith]
          have hmi := hm' i hlt
          have hpre : (sel (decide (List.getD M' i 0 > 0)) (need (0 ≤ (i : Int) ∧ (i : Int) < (M'.length : Int)) (need (i < M'.length) (need (Fits IntKind.i64 (List.getD M' i 0 - 1)) (need (1 ≤ 1 ∧ (out.length + 1) * 80 ≤ 140737488355328) (some (Sum.inl ((), ith p i, out ++ [labI (List.getD M' i 0 - 1)], M', c2, ()))))))) (some (Sum.inl ((), ith p i, out, M', c2, ()))) : Option ((Unit × InstrD × List InstrD × List Int × List InstrD × Unit) ⊕ (((Int × Unit) × List InstrD × List Int × List InstrD × Unit) ⊕ (Int × Int × List InstrD × Unit)))) = some (Sum.inl ((), ith p i, out ++ preU p i, M', c2, ())) := by
            by_cases hh : hitP p i = true
            · rw [if_pos hh] at hmi
              rw [sel_pos (by omega), need_pos ⟨by omega, by omega⟩, need_pos (by omega), need64 (by omega) (by omega), need_pos ⟨by omega, by omega⟩, hmi]
              unfold preU
              rw [if_pos hh, show (numP p i : Int) + 1 - 1 = (numP p i : Int) by omega]
            · rw [if_neg hh] at hmi
              rw [sel_neg (by omega)]
              unfold preU
              rw [if_neg hh, List.append_nil]
          have hplen : (preU p i).length ≤ 1 := by unfold preU; split <;> simp
          have hend : ∀ v, v = unX p i → out ++ preU p i ++ [v] = outU p (i + 1) := fun v hv => by rw [hv, eo]; rfl
          refine .inl ⟨i + 1, (((i : Int) + 1, ()), outU p (i + 1), M', c2, ()), ?_, ⟨by simp, by omega, rfl, rfl⟩, by omega, by trivial⟩
          refine Eq.trans (congrArg (fun z => Option.bind z _) hpre) ?_
          rw [bind_t]
          simp only
          rw [q_goes, bind_t]
          simp only
          cases hg : goesB (ith p i).1 with
          | false =>
            simp only [sel_f, bind_t]
            rw [need_pos ⟨by omega, by rw [List.length_append]; omega⟩, need64 (by omega) (by omega), hend _ (by unfold unX; rw [hg]; rfl)]
          | true =>
            obtain ⟨ha0, ha1⟩ := (hck i hlt).2.2 hg
            have hat : aimP p i < p.length := by unfold aimP; omega
            have hma := hm' (aimP p i) hat
            rw [if_pos (hit_aim hlt hg)] at hma
            have hna := numP_le (p := p) (aimP p i)
            have hma' : List.getD M' (((i : Int) + (ith p i).2.1).toNat) 0 = (numP p (aimP p i) : Int) + 1 := hma
            simp only [sel_t]
            rw [need64 (by omega) (by omega), need_pos ⟨ha0, by omega⟩, need_pos (by omega), hma', need64 (by omega) (by omega), bind_t]
            simp only
            rw [need_pos ⟨by omega, by rw [List.length_append]; omega⟩, need64 (by omega) (by omega), hend _ (by unfold unX; rw [if_pos hg, show (numP p (aimP p i) : Int) + 1 - 1 = (numP p (aimP p i) : Int) by omega])]
        · rw [sel_neg (by omega)]
          right
          rw [eo, show i = p.length by omega]
  · rw [sel_nneg h0, if_neg h0]
end Go.Proofs

/-! Chapter 18: Unlink by the book. -/
namespace Go.Proofs
open Go Go.Abs
theorem q_unlink18 (p : List InstrD) (hp : p.length * 80 ≤ 140737488351232) : F_ref18_Unlink (p, ()) = some (unlinkR p) := by
  unfold F_ref18_Unlink unlinkR
  simp only
  rw [q_icheckR, bind_t]
  by_cases h0 : (checkI p).2 = 0
  · obtain ⟨hn, hpos, hck⟩ := check_right h0
    rw [sel_npos h0, if_pos h0, need_pos ⟨by omega, by omega, by omega, by omega⟩]
    refine (loopC_gh (γ := Nat) (σ := (Int × Unit) × List Bool × List InstrD × Unit) (ρ := Int × Int × List InstrD × Unit) (I := fun i s => s.1.1 = (i : Int) ∧ i ≤ p.length ∧ s.2.1.length = p.length ∧ (∀ k, k < p.length → List.getD s.2.1 k false = hitB p i k)) (μ := fun g => p.length - g) (F := fun _ => (0, 0, outU p p.length, ())) ?_ 0 _ ⟨rfl, by omega, by rw [List.length_replicate]; omega, fun k hk => by rw [List.getD_eq_getElem?_getD, List.getElem?_replicate, if_pos (by omega)]; rfl⟩)
    rintro i ⟨⟨i', ⟨⟩⟩, L, c, ⟨⟩⟩ ⟨e, hi, hL, hl⟩
    simp only at e hi hL hl ⊢
    subst e
    by_cases hlt : i < p.length
    · rw [sel_pos (by omega), need_pos ⟨by omega, by omega⟩]
      simp only [Int.toNat_natCast, getD_ith]
      rw [q_targets, bind_t]
      simp only
      cases hg : goesB (ith p i).1 with
      | false =>
        simp only [sel_f]
        rw [need64 (by omega) (by omega)]
        refine .inl ⟨i + 1, (((i : Int) + 1, ()), L, c, ()), rfl, ⟨by simp, by omega, hL, fun k hk => ?_⟩, by omega, by trivial⟩
        show List.getD L k false = (hitB p i k || (goesB (ith p i).1 && _))
        rw [hg, Bool.false_and, Bool.or_false]
        exact hl k hk
      | true =>
        obtain ⟨ha0, ha1⟩ := (hck i hlt).2.2 hg
        simp only [sel_t]
        rw [need_pos ⟨by omega, by omega⟩, need64 (by omega) (by omega), need_pos ⟨ha0, by omega⟩, need_pos (by omega), need64 (by omega) (by omega), Nat.zero_add]
        refine .inl ⟨i + 1, (((i : Int) + 1, ()), List.set L (aimP p i) true, c, ()), rfl, ⟨by simp, by omega, by rw [List.length_set]; exact hL, fun k hk => ?_⟩, by omega, by trivial⟩
        show List.getD (List.set L (aimP p i) true) k false = (hitB p i k || (goesB (ith p i).1 && decide (aimP p i = k)))
        rw [getD_set (by unfold aimP; omega), hg, Bool.true_and]
        by_cases hk2 : aimP p i = k
        · rw [if_pos hk2, decide_eq_true hk2, Bool.or_true]
        · rw [if_neg hk2, decide_eq_false hk2, Bool.or_false]
          exact hl k hk
    · have he : i = p.length := by omega
      subst he
      rw [sel_neg (by omega)]
      right
      rw [bind_id_some]
      refine map_inr ?_
      rw [need_pos ⟨by omega, by omega, by omega, by omega⟩]
      have hh' : ∀ k, k < p.length → List.getD L k false = hitP p k := hl
      clear hl
      refine (loopC_gh (γ := Nat) (σ := shapeD × List Int × List Bool × List InstrD × Unit) (ρ := Int × Int × List InstrD × Unit) (I := fun i s => s.1.1 = (i : Int) ∧ i ≤ p.length ∧ s.1.2.1 = (numP p i : Int) ∧ s.2.1.length = p.length ∧ s.2.2.1 = L ∧ (∀ k, k < i → hitP p k = true → List.getD s.2.1 k 0 = (numP p k : Int))) (μ := fun g => p.length - g) (F := fun _ => (0, 0, outU p p.length, ())) ?_ 0 _ ⟨rfl, by omega, rfl, by rw [List.length_replicate]; omega, rfl, fun k hk => by omega⟩)
      rintro i ⟨⟨i', m, ⟨⟩⟩, M, L', c', ⟨⟩⟩ ⟨e, hi, em, hM, eL, hm⟩
      simp only at e hi em hM eL hm ⊢
      subst e eL
      have hnp := numP_le (p := p) i
      by_cases hlt : i < p.length
      · rw [sel_pos (by omega), need_pos ⟨by omega, by omega⟩, need_pos (by omega)]
        simp only [Int.toNat_natCast, Nat.zero_add]
        rw [hh' i hlt]
        by_cases hh : hitP p i = true
        · rw [hh, sel_t, need_pos ⟨by omega, by omega⟩, need_pos (by omega), need64 (by omega) (by omega), need64 (by omega) (by omega)]
          refine .inl ⟨i + 1, (((i : Int) + 1, m + 1, ()), List.set M i m, L', c', ()), rfl, ⟨by simp, by omega, ?_, by rw [List.length_set]; exact hM, rfl, fun k hk hkh => ?_⟩, by omega, by trivial⟩
          · show m + 1 = ((numP p i + (if hitP p i = true then 1 else 0) : Nat) : Int)
            rw [if_pos hh]; omega
          · show List.getD (List.set M i m) k 0 = _
            rw [getD_set (by omega)]
            by_cases hk2 : i = k
            · rw [if_pos hk2, ← hk2, em]
            · rw [if_neg hk2]
              exact hm k (by omega) hkh
        · have hf : hitP p i = false := by simpa using hh
          rw [hf, sel_f, need64 (by omega) (by omega)]
          refine .inl ⟨i + 1, (((i : Int) + 1, m, ()), M, L', c', ()), rfl, ⟨by simp, by omega, ?_, hM, rfl, fun k hk hkh => ?_⟩, by omega, by trivial⟩
          · show m = ((numP p i + (if hitP p i = true then 1 else 0) : Nat) : Int)
            rw [if_neg hh]; omega
          · have : k ≠ i := fun h => hh (by rw [← h]; exact hkh)
            exact hm k (by omega) hkh
      · have he : i = p.length := by omega
        subst he
        rw [sel_neg (by omega)]
        right
        rw [bind_id_some]
        refine map_inr ?_
        refine (loopC_gh (γ := Nat) (σ := (Int × Unit) × List InstrD × List Int × List Bool × List InstrD × Unit) (ρ := Int × Int × List InstrD × Unit) (I := fun i s => s.1.1 = (i : Int) ∧ i ≤ p.length ∧ s.2.1 = outU p i ∧ s.2.2.1 = M ∧ s.2.2.2.1 = L') (μ := fun g => p.length - g) (F := fun _ => (0, 0, outU p p.length, ())) ?_ 0 _ ⟨rfl, by omega, rfl, rfl, rfl⟩)
        rintro i ⟨⟨i', ⟨⟩⟩, out, M', L2, c2, ⟨⟩⟩ ⟨e, hi, eo, eM, eL⟩
        simp only at e hi eo eM eL ⊢
        subst e eM eL
        have holen : out.length = i + numP p i := by rw [eo, outU_len]
        have hnp := numP_le (p := p) i
        by_cases hlt : i < p.length
        · rw [sel_pos (by omega), need_pos ⟨by omega, by omega⟩, need_pos ⟨by omega, by omega⟩, need_pos (by omega)]
          simp only [Int.toNat_natCast, Nat.zero_add, getD_ith]
          have hpre : (sel (List.getD L2 i false) (need (0 ≤ (i : Int) ∧ (i : Int) < (M'.length : Int)) (need (i < M'.length) (need (1 ≤ 1 ∧ (out.length + 1) * 80 ≤ 140737488355328) (some (Sum.inl ((), ith p i, out ++ [labI (List.getD M' i 0)], M', L2, c2, ())))))) (some (Sum.inl ((), ith p i, out, M', L2, c2, ()))) : Option ((Unit × InstrD × List InstrD × List Int × List Bool × List InstrD × Unit) ⊕ (((Int × Unit) × List InstrD × List Int × List Bool × List InstrD × Unit) ⊕ (Int × Int × List InstrD × Unit)))) = some (Sum.inl ((), ith p i, out ++ preU p i, M', L2, c2, ())) := by
            rw [hh' i hlt]
            by_cases hh : hitP p i = true
            · rw [hh, sel_t, need_pos ⟨by omega, by omega⟩, need_pos (by omega), need_pos ⟨by omega, by omega⟩, hm i hlt hh]
              unfold preU
              rw [if_pos hh]
            · have hf : hitP p i = false := by simpa using hh
              rw [hf, sel_f]
              unfold preU
              rw [if_neg hh, List.append_nil]
          have hplen : (preU p i).length ≤ 1 := by unfold preU; split <;> simp
          have hend : ∀ v, v = unX p i → out ++ preU p i ++ [v] = outU p (i + 1) := fun v hv => by rw [hv, eo]; rfl
          refine .inl ⟨i + 1, (((i : Int) + 1, ()), outU p (i + 1), M', L2, c2, ()), ?_, ⟨by simp, by omega, rfl, rfl, rfl⟩, by omega, by trivial⟩
          refine Eq.trans (congrArg (fun z => Option.bind z _) hpre) ?_
          rw [bind_t]
          simp only
          rw [q_targets, bind_t]
          simp only
          cases hg : goesB (ith p i).1 with
          | false =>
            simp only [sel_f, bind_t]
            rw [need_pos ⟨by omega, by rw [List.length_append]; omega⟩, need64 (by omega) (by omega), hend _ (by unfold unX; rw [hg]; rfl)]
          | true =>
            obtain ⟨ha0, ha1⟩ := (hck i hlt).2.2 hg
            have hat : aimP p i < p.length := by unfold aimP; omega
            have hma := hm (aimP p i) hat (hit_aim hlt hg)
            have hma' : List.getD M' (((i : Int) + (ith p i).2.1).toNat) 0 = (numP p (aimP p i) : Int) := hma
            simp only [sel_t]
            rw [need64 (by omega) (by omega), need_pos ⟨ha0, by omega⟩, need_pos (by omega), hma', bind_t]
            simp only
            rw [need_pos ⟨by omega, by rw [List.length_append]; omega⟩, need64 (by omega) (by omega), hend _ (by unfold unX; rw [if_pos hg])]
        · rw [sel_neg (by omega)]
          right
          rw [eo, show i = p.length by omega]
  · rw [sel_nneg h0, if_neg h0]
theorem unlinkR_len (p : List InstrD) : (unlinkR p).2.2.1.length ≤ 16384 := by
  unfold unlinkR
  by_cases h0 : (checkI p).2 = 0
  · rw [if_pos h0]
    have := numP_le (p := p) p.length
    have := (check_right h0).1
    show (outU p p.length).length ≤ 16384
    rw [outU_len]
    omega
  · rw [if_neg h0]
    simp
theorem law_LinkUnlinks (p : List InstrD) (h : p.length * 80 ≤ 140737488351232) : F_law18_LinkUnlinks (p, ()) = some (true, ()) := by
  unfold F_law18_LinkUnlinks
  simp only
  rw [q_lendC p (by omega), bind_t]
  simp only [lentI_take, List.length_append, List.length_cons, List.length_nil]
  simp (disch := omega) only [need_pos]
  have := unlinkR_len p
  rw [q_unlink p h, q_unlink18 p h, q_lives18]
  simp only [bind_t, decide_true, sel_t]
  rw [q_sameC _ (by omega)]
  simp only [bind_t, sel_t]
  rw [q_keptC p (by omega)]
  rfl
end Go.Proofs
