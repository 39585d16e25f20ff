/- Part of the proof of the law's row: YtnoeomlanbdjeaaWq10o. -/
import Derived.Test.YtnoeomlanbdjeaaWq10n
set_option linter.all false
set_option linter.unusedVariables false
set_option linter.unusedSimpArgs false
/-! Chapter 10: the order by the book. -/
namespace Go.Proofs
open Go Go.Abs
set_option linter.unusedSimpArgs false
theorem q_rOrder (g : G) : F_ref10_Order ((g, ()), ()) = some ((vd10 g).2.1, order10 g, ()) := by
 unfold F_ref10_Order order10
 simp only [toPb]
 rw [q_rCheck, bind_t]
 dsimp only
 by_cases hv : (vd10 g).2.1 = 0
 ·obtain ⟨h0, _, _⟩ := vd_zero hv
  have hg := rg_of h0
  have hn := hg.len
  rw [npos hv, if_pos hv, hv, q_allHeads hg, bind_t]
  dsimp only
  have hl : (hsR g).length = g.length := hsR_len
  have hat := hsR_at (g := g)
  have hrow := hsR_row (g := g)
  generalize hsR g = hs at hl hat hrow ⊢
  simp only [hl, Int.toNat_natCast]
  rw [need_pos (by omega)]
  have h00 : List.replicate g.length false = toldG g.length [] := getD_ext false List.length_replicate toldG_len fun i hi => by
   rw [toldG_at hi, pb_f (by simp)]
   exact zero_at _ _
  refine loop_one (σ := (Int × Unit) × List Int × List Bool × List (List Bool) × Unit)
   (fun s => ∃ k i : Nat, s = (((i : Int), ()), castL (ordF (Hd g) g.length k), toldG g.length (ordF (Hd g) g.length k), hs, ()) ∧ (ordF (Hd g) g.length k).length = k ∧ i ≤ g.length ∧ ∀ j, j < i → ¬ Free (Hd g) g.length (ordF (Hd g) g.length k) j)
   (fun s => (g.length - s.2.1.length) * (g.length + 1) + (g.length - Int.toNat s.1.1)) ?_ _ ⟨0, 0, by rw [h00]; rfl, rfl, Nat.zero_le _, fun j hj => by omega⟩
  rintro s ⟨k, i, rfl, hk, hi, hno⟩
  obtain ⟨o1, o2, _⟩ := ordF_ok (e := Hd g) (n := g.length) k
  have hkn : k ≤ g.length := by rw [← hk]; exact nodup_len o1 o2
  have hin := fun r (h : Free (Hd g) g.length (ordF (Hd g) g.length k) r) (h2 : ∀ q, q < r → ¬ Free (Hd g) g.length (ordF (Hd g) g.length k) q) => ordF_next h h2
  have hend := fun h => ordF_end (e := Hd g) hkn h
  have hfull := fun h => full_no (e := Hd g) o1 o2 h
  have hstay : ∀ i2 : Nat, i2 ≤ g.length → (∀ j, j < i2 → ¬ Free (Hd g) g.length (ordF (Hd g) g.length k) j) → ∃ k' i' : Nat, ((((i2 : Int), ()), castL (ordF (Hd g) g.length k), toldG g.length (ordF (Hd g) g.length k), hs, ()) : (Int × Unit) × List Int × List Bool × List (List Bool) × Unit) = (((i' : Int), ()), castL (ordF (Hd g) g.length k'), toldG g.length (ordF (Hd g) g.length k'), hs, ()) ∧ (ordF (Hd g) g.length k').length = k' ∧ i' ≤ g.length ∧ ∀ j, j < i' → ¬ Free (Hd g) g.length (ordF (Hd g) g.length k') j := fun i2 h1 h2 => ⟨k, i2, rfl, hk, h1, h2⟩
  generalize ordF (Hd g) g.length k = L at hk o1 o2 hin hend hfull hno hstay ⊢
  have hcl : (castL L).length = k := by rw [castL_len, hk]
  have htl : (toldG g.length L).length = g.length := toldG_len
  have ht : ∀ q, q < g.length → List.getD (toldG g.length L) q false = pb (q ∈ L) := fun q hq => toldG_at hq
  dsimp only
  simp only [hl, Int.toNat_natCast, Nat.zero_add]
  by_cases hlt : i < g.length
  ·have hkl : Free (Hd g) g.length L i → k < g.length := fun h => by
    refine Classical.byContradiction fun h2 => hfull (by omega) ⟨i, h⟩
   have hrl := hrow i hlt
   rw [pos (by omega), need_pos (by omega), need_pos (by omega), ht i hlt]
   have inner : ∀ X, X = (if pb (Free (Hd g) g.length L i) = true then (((0 : Int), ()), castL L ++ [(i : Int)], List.set (toldG g.length L) i true, hs, ()) else ((((i : Int) + 1), ()), castL L, toldG g.length L, hs, ())) → loopC (fun (s1 : (Int × Bool × Unit) × List Int × List Bool × List (List Bool) × Unit) => Option.bind (sel s1.1.2.1 (some (pb (s1.1.1 < (↑(List.length s1.2.2.2.1) : Int)))) (some false)) (fun (v : Bool) => sel v (need ((0 : Int) ≤ (i : Int) ∧ (i : Int) < (↑(List.length s1.2.2.2.1) : Int)) (need (i < List.length s1.2.2.2.1) (need ((0 : Int) ≤ s1.1.1 ∧ s1.1.1 < (↑(List.length (List.getD s1.2.2.2.1 i [])) : Int)) (Option.bind (sel (!List.getD (List.getD s1.2.2.2.1 i []) (Int.toNat s1.1.1) false) (some true) (need ((0 : Int) ≤ s1.1.1 ∧ s1.1.1 < (↑(List.length s1.2.2.1) : Int)) (need (Int.toNat s1.1.1 < List.length s1.2.2.1) (some (List.getD s1.2.2.1 (Int.toNat s1.1.1) false))))) (fun (v1 : Bool) => need (Fits Go.IntKind.i64 (s1.1.1 + (1 : Int))) (some (Sum.inl ((s1.1.1 + (1 : Int), v1, ()), s1.2.1, s1.2.2.1, s1.2.2.2.1, ())))))))) (Option.bind (sel s1.1.2.1 (need ((0 : Int) ≤ (i : Int) ∧ (i : Int) < (↑(List.length s1.2.2.1) : Int)) (need (i < List.length s1.2.2.1) (need ((1 : Nat) ≤ (1 : Nat) ∧ (List.length s1.2.1 + (1 : Nat)) * (8 : Nat) ≤ (140737488355328 : Nat)) (need (Fits Go.IntKind.i64 (0 : Int)) (some (Sum.inl (((0 : Int), ()), s1.2.1 ++ [(i : Int)], List.set s1.2.2.1 i true, s1.2.2.2.1, ()) : ((Int × Unit) × List Int × List Bool × List (List Bool) × Unit) ⊕ (Int × List Int × Unit))))))) (need (Fits Go.IntKind.i64 ((i : Int) + (1 : Int))) (some (Sum.inl (((i : Int) + (1 : Int), ()), s1.2.1, s1.2.2.1, s1.2.2.2.1, ()))))) (fun val => some (Sum.inr val))))) (((0 : Int), !pb (i ∈ L), ()), castL L, toldG g.length L, hs, ()) = some (Sum.inl X) := by
    rintro X rfl
    refine loop_one (σ := (Int × Bool × Unit) × List Int × List Bool × List (List Bool) × Unit)
     (fun s => ∃ (q : Nat) (b : Bool), s = (((q : Int), b, ()), castL L, toldG g.length L, hs, ()) ∧ q ≤ g.length ∧ b = pb (i ∉ L ∧ ∀ j, j < q → Hd g i j → j ∈ L))
     (fun s => g.length - Int.toNat s.1.1) ?_ _ ⟨0, _, rfl, Nat.zero_le _, ?_⟩
    ·rintro s ⟨q, b, rfl, hq, hb⟩
     dsimp only
     simp only [hl, Int.toNat_natCast]
     by_cases hcase : b = true ∧ q < g.length
     ·obtain ⟨hb1, hqn⟩ := hcase
      refine .inl ?_
      rw [hb1] at hb
      obtain ⟨b1, b2⟩ := pb_iff.1 hb.symm
      have hmeas : g.length - Int.toNat ((q : Int) + 1) < g.length - q := by omega
      have hs1 : ∀ v, v = pb (Hd g i q → q ∈ L) → v = pb (i ∉ L ∧ ∀ j, j < q + 1 → Hd g i j → j ∈ L) := fun v hv => by
       rw [hv]
       exact pb_congr ⟨fun h => ⟨b1, fun j hj => by
        by_cases e : j = q
        ·subst e; exact h
        ·exact b2 j (by omega)⟩, fun h => h.2 q (by omega)⟩
      rw [hb1, sel_t, bind_t, pb_t (show (q : Int) < (g.length : Int) by omega), sel_t, need_pos (by omega), need_pos (by omega), need_pos (by omega), hat i q hlt hqn, ht q hqn]
      by_cases h1 : Hd g i q
      ·exact ⟨_, by rw [pb_t h1, Bool.not_true, sel_f, need_pos (by omega), need_pos (by omega), bind_t, need64 (by omega) (by omega)], ⟨q + 1, pb (q ∈ L), by rw [cast_succ], hqn, hs1 _ (pb_congr ⟨fun h _ => h, fun h => h h1⟩)⟩, hmeas⟩
      ·exact ⟨_, by rw [pb_f h1, Bool.not_false, sel_t, bind_t, need64 (by omega) (by omega)], ⟨q + 1, true, by rw [cast_succ], hqn, hs1 _ (pb_t (fun h => absurd h h1)).symm⟩, hmeas⟩
     ·refine .inr ?_
      cases b with
      | false =>
        have hnf : ¬ Free (Hd g) g.length L i := fun h => pb_iff_f.1 hb.symm ⟨h.2.1, fun j hj h1 => h.2.2 j (by omega) h1⟩
        rw [sel_f, bind_t, sel_f, sel_f, need64 (by omega) (by omega), bind_t, pb_f hnf, if_neg (by simp)]
      | true =>
        have hqe : ¬ q < g.length := fun h => hcase ⟨rfl, h⟩
        obtain ⟨b1, b2⟩ := pb_iff.1 hb.symm
        have hf : Free (Hd g) g.length L i := ⟨hlt, b1, fun j hj => b2 j (by omega)⟩
        have := hkl hf
        rw [sel_t, bind_t, pb_f (show ¬ (q : Int) < (g.length : Int) by omega), sel_f, sel_t, need_pos (by omega), need_pos (by omega), need_pos (by omega), need64 (by omega) (by omega), bind_t, pb_t hf, if_pos rfl]
    ·by_cases h1 : i ∈ L
     ·rw [pb_t h1, pb_f (fun h => h.1 h1)]
      rfl
     ·rw [pb_f h1, pb_t ⟨h1, fun j hj => by omega⟩]
      rfl
   refine .inl ⟨_, inner _ rfl, ?_, ?_⟩
   ·by_cases hf : Free (Hd g) g.length L i
    ·rw [pb_t hf, if_pos rfl]
     have hnext := hin i hf hno
     refine ⟨k + 1, 0, ?_, ?_, Nat.zero_le _, fun j hj => by omega⟩
     ·rw [hnext, castL_snoc, toldG_set]
      rfl
     ·rw [hnext, List.length_append, hk]
      rfl
    ·rw [pb_f hf, if_neg (by simp)]
     have := hstay (i + 1) (by omega) fun j hj => by
      by_cases e : j = i
      ·subst e; exact hf
      ·exact hno j (by omega)
     rw [cast_succ] at this
     exact this
   ·by_cases hf : Free (Hd g) g.length L i
    ·rw [pb_t hf, if_pos rfl]
     have h1 := hkl hf
     dsimp only
     rw [List.length_append, hcl]
     have e1 : g.length - k = (g.length - (k + 1)) + 1 := by omega
     rw [show (k + [(i : Int)].length) = k + 1 from rfl, e1, Nat.add_mul, Nat.one_mul]
     have : Int.toNat (0 : Int) = 0 := rfl
     rw [this]
     omega
    ·rw [pb_f hf, if_neg (by simp)]
     dsimp only
     rw [hcl]
     omega
  ·refine .inr ?_
   have : i = g.length := by omega
   rw [neg (by omega), ← hend (fun ⟨r, h⟩ => hno r (by have := h.1; omega) h)]
 ·rw [nneg hv, if_neg hv]
theorem order10_len (g : G) : (order10 g).length ≤ 200 := by
 unfold order10
 split
 ·rename_i h
  have := (rg_of (vd_zero h).1).len
  have := (ordF_ok (e := Hd g) (n := g.length) g.length).2.2
  rw [castL_len]
  unfold ordE
  omega
 ·exact Nat.zero_le _
theorem law_FordOrders (g : G) (h : SzG g) : F_law10_FordOrders ((g, ()), ()) = some (true, ()) := by
 have hl := order10_len g
 unfold F_law10_FordOrders
 dsimp only
 rw [show (fun (y : RuleD) => ((y.1, (y.2.1, List.length y.2.1), ()) : RuleLD)) = liftR from rfl, show (fun (y : RuleLD) => ((y.1, List.take y.2.1.2 y.2.1.1, ()) : RuleD)) = plainR from rfl, q_lendG g h, bind_t]
 dsimp only
 simp only [toPb]
 rw [plain_lent, plain_lift, q_fOrder, bind_t, q_rOrder, bind_t, q_lives10, bind_t]
 dsimp only
 rw [sel_t, q_ints _ (by omega), bind_t, bind_t, sel_t, pb_t rfl, bind_t, sel_t, q_keptG g h, bind_t, bind_t]
end Go.Proofs
