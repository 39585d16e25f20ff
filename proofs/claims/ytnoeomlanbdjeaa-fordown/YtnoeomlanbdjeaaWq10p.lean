/- Part of the proof of the law's row: YtnoeomlanbdjeaaWq10p. -/
import Derived.Test.YtnoeomlanbdjeaaWq10m
set_option linter.all false
set_option linter.unusedVariables false
set_option linter.unusedSimpArgs false
/-! Chapter 10: the order. -/
namespace Go.Proofs
open Go Go.Abs
set_option linter.unusedSimpArgs false
def Free (e : Nat → Nat → Prop) (n : Nat) (L : List Nat) (r : Nat) : Prop := r < n ∧ r ∉ L ∧ ∀ q, q < n → e r q → q ∈ L
open Classical in
noncomputable def ordF (e : Nat → Nat → Prop) (n : Nat) : Nat → List Nat
 | 0 => []
 | k + 1 => if h : ∃ r, Free e n (ordF e n k) r then ordF e n k ++ [Classical.choose (least h)] else ordF e n k
theorem ordF_next {e : Nat → Nat → Prop} {n k r : Nat} (h : Free e n (ordF e n k) r) (h2 : ∀ q, q < r → ¬ Free e n (ordF e n k) q) : ordF e n (k + 1) = ordF e n k ++ [r] := by
 have hx : ∃ r, Free e n (ordF e n k) r := ⟨r, h⟩
 rw [ordF, dif_pos hx]
 obtain ⟨h3, h4⟩ := Classical.choose_spec (least hx)
 generalize Classical.choose (least hx) = v at h3 h4 ⊢
 have : v = r := by
  have h5 := h4 r h
  refine Classical.byContradiction fun hne => ?_
  exact h2 v (by omega) h3
 rw [this]
theorem ordF_stay {e : Nat → Nat → Prop} {n k : Nat} (h : ¬ ∃ r, Free e n (ordF e n k) r) : ∀ m, ordF e n (k + m) = ordF e n k
 | 0 => rfl
 | m + 1 => by
   have ih := ordF_stay h m
   rw [show k + (m + 1) = k + m + 1 from rfl, ordF, dif_neg (by rw [ih]; exact h), ih]
theorem ordF_ok {e : Nat → Nat → Prop} {n : Nat} : ∀ k, (ordF e n k).Nodup ∧ (∀ r ∈ ordF e n k, r < n) ∧ (ordF e n k).length ≤ k
 | 0 => ⟨List.nodup_nil, fun r h => absurd h List.not_mem_nil, Nat.le_refl _⟩
 | k + 1 => by
   obtain ⟨h1, h2, h3⟩ := ordF_ok (e := e) (n := n) k
   rw [ordF]
   split
   ·rename_i hx
    have h4 := (Classical.choose_spec (least hx)).1
    generalize Classical.choose (least hx) = v at h4
    refine ⟨?_, fun r hr => ?_, by rw [List.length_append]; simp; omega⟩
    ·rw [List.nodup_append]
     refine ⟨h1, by simp, fun a ha b hb => ?_⟩
     rw [List.mem_singleton] at hb
     subst hb
     intro e2
     subst e2
     exact h4.2.1 ha
    ·rw [List.mem_append] at hr
     rcases hr with hr | hr
     ·exact h2 r hr
     ·rw [List.mem_singleton] at hr
      rw [hr]; exact h4.1
   ·exact ⟨h1, h2, by omega⟩
noncomputable def ordE (e : Nat → Nat → Prop) (n : Nat) : List Nat := ordF e n n
theorem ordF_end {e : Nat → Nat → Prop} {n k : Nat} (hk : k ≤ n) (h : ¬ ∃ r, Free e n (ordF e n k) r) : ordF e n k = ordE e n := by
 obtain ⟨d, hd⟩ := Nat.exists_eq_add_of_le hk
 have := ordF_stay h d
 unfold ordE
 rw [← this, hd]
theorem full_no {e : Nat → Nat → Prop} {n : Nat} {L : List Nat} (h1 : L.Nodup) (h2 : ∀ r ∈ L, r < n) (h3 : L.length = n) : ¬ ∃ r, Free e n L r := by
 rintro ⟨r, hr, hn, _⟩
 have : (r :: L).length ≤ n := nodup_len (List.nodup_cons.2 ⟨hn, h1⟩) (fun x hx => by
  rw [List.mem_cons] at hx
  rcases hx with rfl | hx
  ·exact hr
  ·exact h2 x hx)
 rw [List.length_cons] at this
 omega
theorem castL_snoc (L : List Nat) (r : Nat) : castL (L ++ [r]) = castL L ++ [(r : Int)] := castL_app L [r]
noncomputable def order10 (g : G) : List Int := if (vd10 g).2.1 = 0 then castL (ordE (Hd g) g.length) else []
theorem vd_zero {g : G} (h : (vd10 g).2.1 = 0) : (chkG g).2 = 0 ∧ cycG g = [] ∧ loopsTo g g.length = [] := by
 unfold vd10 at h
 by_cases h0 : (chkG g).2 = 0
 ·rw [if_neg (fun h2 => h2 h0)] at h
  split at h
  ·exact absurd (show (100 : Int) = 0 from h) (by decide)
  ·rename_i h1
   split at h
   ·exact absurd (show (101 : Int) = 0 from h) (by decide)
   ·rename_i h2
    exact ⟨h0, List.length_eq_zero_iff.1 (by omega), List.length_eq_zero_iff.1 (by omega)⟩
 ·rw [if_pos h0] at h
  exact absurd h h0
theorem q_fOrder (g : G) : F_ford_Order ((g, ()), ()) = some ((vd10 g).2.1, order10 g, ()) := by
 unfold F_ford_Order order10
 simp only [toPb]
 rw [q_fCheck, bind_t]
 dsimp only
 by_cases hv : (vd10 g).2.1 = 0
 ·obtain ⟨h0, _, _⟩ := vd_zero hv
  have hg := rg_of h0
  have hn := hg.len
  rw [npos hv, if_pos hv, hv, q_look, bind_t]
  unfold look10
  rw [if_pos h0]
  dsimp only
  have hl : (hsI g).length = g.length := hsI_len
  have hdflt : (Ty.dflt (Ty.arr (200 : Nat) Ty.bool) : List Bool) = toldG 200 [] := getD_ext false List.length_replicate toldG_len fun i hi => by
   rw [toldG_at hi, pb_f (by simp)]
   exact zero_at _ _
  show loopC _ ((), [], (Ty.dflt (Ty.arr (200 : Nat) Ty.bool)), (fixE g, hsI g, loopsTo g g.length, ()), ()) = _
  have hat := hsI_at (g := g)
  generalize hsI g = hs at hl hat ⊢
  generalize loopsTo g g.length = ls
  generalize fixE g = E
  refine loop_one (σ := Unit × List Int × List Bool × lookedD × Unit)
   (fun s => ∃ k, s = ((), castL (ordF (Hd g) g.length k), toldG 200 (ordF (Hd g) g.length k), (E, hs, ls, ()), ()) ∧ (ordF (Hd g) g.length k).length = k)
   (fun s => g.length - s.2.1.length) ?_ _ ⟨0, by rw [hdflt]; rfl, rfl⟩
  rintro s ⟨k, rfl, hk⟩
  obtain ⟨o1, o2, _⟩ := ordF_ok (e := Hd g) (n := g.length) k
  have hkn : k ≤ g.length := by rw [← hk]; exact nodup_len o1 o2
  have hin := fun r (h : Free (Hd g) g.length (ordF (Hd g) g.length k) r) (h2 : ∀ q, q < r → ¬ Free (Hd g) g.length (ordF (Hd g) g.length k) q) => ordF_next h h2
  have hend := fun h => ordF_end (e := Hd g) hkn h
  have hfull := fun h => full_no (e := Hd g) o1 o2 h
  generalize ordF (Hd g) g.length k = L at hk o1 o2 hin hend hfull ⊢
  have hcl : (castL L).length = k := by rw [castL_len, hk]
  have htl : (toldG 200 L).length = 200 := toldG_len
  have ht : ∀ q, q < 200 → List.getD (toldG 200 L) q false = pb (q ∈ L) := fun q hq => toldG_at hq
  dsimp only
  by_cases hlt : k < g.length
  ·have step : ∀ r, r < g.length → ∀ (X : _), X = (if pb (Free (Hd g) g.length L r) = true then (Sum.inr (Sum.inl ((), castL L ++ [(r : Int)], List.set (toldG 200 L) r true, (E, hs, ls, ()), ())) : ((Int × Unit) × List Int × List Bool × lookedD × Unit) ⊕ ((Unit × List Int × List Bool × lookedD × Unit) ⊕ (Int × List Int × Unit))) else Sum.inl (((r : Int) + 1, ()), castL L, toldG 200 L, (E, hs, ls, ()), ())) → sel (List.getD (toldG 200 L) r false) (need (Fits Go.IntKind.i64 ((r : Int) + (1 : Int))) (some (Sum.inl (((r : Int) + (1 : Int), ()), castL L, toldG 200 L, (E, hs, ls, ()), ()))))
     (loopC (fun (s2 : (Int × Bool × Unit) × List Int × List Bool × lookedD × Unit) => sel (pb (s2.1.1 < (↑(List.length g) : Int))) (Option.bind (sel s2.1.2.1 (need ((0 : Int) ≤ (r : Int) ∧ (r : Int) < (↑(List.length s2.2.2.2.1.2.1) : Int)) (need ((0 : Int) ≤ s2.1.1 ∧ s2.1.1 < (200 : Int)) (Option.bind (sel (!List.getD (List.getD s2.2.2.2.1.2.1 r (Ty.dflt (Ty.arr (200 : Nat) Ty.bool))) (Int.toNat s2.1.1) false) (some true) (need ((0 : Int) ≤ s2.1.1 ∧ s2.1.1 < (200 : Int)) (need (Int.toNat s2.1.1 < (200 : Nat)) (some (List.getD s2.2.2.1 (Int.toNat s2.1.1) false))))) (fun (v : Bool) => some v)))) (some false)) (fun (v1 : Bool) => need (Fits Go.IntKind.i64 (s2.1.1 + (1 : Int))) (some (Sum.inl ((s2.1.1 + (1 : Int), v1, ()), s2.2.1, s2.2.2.1, (s2.2.2.2.1.1, s2.2.2.2.1.2.1, s2.2.2.2.1.2.2.1, ()), ()))))) (Option.bind (sel s2.1.2.1 (need ((0 : Int) ≤ (r : Int) ∧ (r : Int) < (200 : Int)) (need (r < (200 : Nat)) (need ((1 : Nat) ≤ (1 : Nat) ∧ (List.length s2.2.1 + (1 : Nat)) * (8 : Nat) ≤ (140737488355328 : Nat)) (some (Sum.inr (Sum.inl ((), s2.2.1 ++ [(r : Int)], List.set s2.2.2.1 r true, (s2.2.2.2.1.1, s2.2.2.2.1.2.1, s2.2.2.2.1.2.2.1, ()), ()))))))) (need (Fits Go.IntKind.i64 ((r : Int) + (1 : Int))) (some (Sum.inl (((r : Int) + (1 : Int), ()), s2.2.1, s2.2.2.1, (s2.2.2.2.1.1, s2.2.2.2.1.2.1, s2.2.2.2.1.2.2.1, ()), ()))))) (fun val => some (Sum.inr val)))) (((0 : Int), true, ()), castL L, toldG 200 L, (E, hs, ls, ()), ())) = some X := by
    rintro r hr X rfl
    rw [ht r (by omega)]
    by_cases hm : r ∈ L
    ·rw [pb_t hm, sel_t, need64 (by omega) (by omega), pb_f (fun h => h.2.1 hm), if_neg (by simp)]
    ·rw [pb_f hm, sel_f]
     refine loop_up (σ := (Int × Bool × Unit) × List Int × List Bool × lookedD × Unit) g.length (fun q => (((q : Int), pb (∀ j, j < q → Hd g r j → j ∈ L), ()), castL L, toldG 200 L, (E, hs, ls, ()), ())) (by rw [pb_t (fun j hj => by omega)]; rfl) ?_ ?_
     ·intro q hq
      have hs1 : pb (∀ j, j < q + 1 → Hd g r j → j ∈ L) = (pb (∀ j, j < q → Hd g r j → j ∈ L) && pb (Hd g r q → q ∈ L)) := by
       apply Bool.eq_iff_iff.2
       rw [Bool.and_eq_true, pb_iff, pb_iff, pb_iff]
       constructor
       ·exact fun h => ⟨fun j hj => h j (by omega), h q (by omega)⟩
       ·rintro ⟨h1, h2⟩ j hj
        by_cases e : j = q
        ·subst e; exact h2
        ·exact h1 j (by omega)
      dsimp only
      simp only [Int.toNat_natCast]
      rw [pos (by omega), hs1]
      cases pb (∀ j, j < q → Hd g r j → j ∈ L) with
      | false => rw [sel_f, bind_t, need64 (by omega) (by omega), cast_succ, Bool.false_and]
      | true =>
        rw [sel_t, need_pos (by omega), need_pos (by omega), hat r q hr hq, ht q (by omega)]
        by_cases h1 : Hd g r q
        ·rw [pb_t h1, Bool.not_true, sel_f, need_pos (by omega), need_pos (by omega), bind_t, bind_t, need64 (by omega) (by omega), cast_succ, Bool.true_and]
         rw [pb_congr (show (Hd g r q → q ∈ L) ↔ q ∈ L from ⟨fun h => h h1, fun h _ => h⟩)]
        ·rw [pb_f h1, Bool.not_false, sel_t, bind_t, bind_t, need64 (by omega) (by omega), cast_succ, Bool.true_and, pb_t (fun h => absurd h h1)]
     ·dsimp only
      rw [neg (by omega)]
      by_cases h1 : ∀ j, j < g.length → Hd g r j → j ∈ L
      ·rw [pb_t h1, sel_t, need_pos (by omega), need_pos (by omega), need_pos (by omega), bind_t, pb_t (show Free (Hd g) g.length L r from ⟨hr, hm, h1⟩), if_pos rfl]
      ·rw [pb_f h1, sel_f, need64 (by omega) (by omega), bind_t, pb_f (fun h => h1 h.2.2), if_neg (by simp)]
   rw [pos (by omega)]
   by_cases hx : ∃ r, Free (Hd g) g.length L r
   ·obtain ⟨r, h1, h2⟩ := least hx
    have hno : ∀ q, q < r → ¬ Free (Hd g) g.length L q := fun q hq h3 => by have := h2 q h3; omega
    have hnext := hin r h1 hno
    have hrn := h1.1
    refine .inl ⟨((), castL L ++ [(r : Int)], List.set (toldG 200 L) r true, (E, hs, ls, ()), ()), loop_up (σ := (Int × Unit) × List Int × List Bool × lookedD × Unit) r (fun i => (((i : Int), ()), castL L, toldG 200 L, (E, hs, ls, ()), ())) rfl ?_ ?_, ⟨k + 1, ?_, ?_⟩, ?_⟩
    ·intro i hi
     dsimp only
     simp only [Int.toNat_natCast]
     rw [pos (by omega), need_pos (by omega), need_pos (by omega)]
     refine step i (by omega) _ ?_
     rw [pb_f (hno i hi), if_neg (by simp), cast_succ]
    ·dsimp only
     simp only [Int.toNat_natCast]
     rw [pos (by omega), need_pos (by omega), need_pos (by omega)]
     refine step r hrn _ ?_
     rw [pb_t h1, if_pos rfl]
    ·rw [hnext, castL_snoc, toldG_set]
    ·rw [hnext, List.length_append, hk]
     rfl
    ·dsimp only
     rw [List.length_append, hcl]
     simp
     omega
   ·refine .inr ?_
    refine loop_up (σ := (Int × Unit) × List Int × List Bool × lookedD × Unit) g.length (fun i => (((i : Int), ()), castL L, toldG 200 L, (E, hs, ls, ()), ())) rfl ?_ ?_
    ·intro i hi
     dsimp only
     simp only [Int.toNat_natCast]
     rw [pos (by omega), need_pos (by omega), need_pos (by omega)]
     refine step i (by omega) _ ?_
     rw [pb_f (fun h => hx ⟨i, h⟩), if_neg (by simp), cast_succ]
    ·dsimp only
     rw [neg (by omega), ← hend hx]
  ·refine .inr ?_
   rw [neg (by omega), ← hend (hfull (by omega))]
 ·rw [nneg hv, if_neg hv]
end Go.Proofs
/-! Chapter 10: the order by the book. -/
namespace Go.Proofs
open Go Go.Abs
set_option linter.unusedSimpArgs false
theorem q_rOrder (g : G) : F_ref10_Order ((g, ()), ()) = some ((vd10 g).2.1, order10 g, ()) := by
 unfold F_ref10_Order order10
 simp only [toPb]
 rw [q_rCheck, bind_t]
 dsimp only
 by_cases hv : (vd10 g).2.1 = 0
 ·obtain ⟨h0, _, _⟩ := vd_zero hv
  have hg := rg_of h0
  have hn := hg.len
  rw [npos hv, if_pos hv, hv, q_allHeads hg, bind_t]
  dsimp only
  have hl : (hsR g).length = g.length := hsR_len
  have hat := hsR_at (g := g)
  have hrow := hsR_row (g := g)
  generalize hsR g = hs at hl hat hrow ⊢
  simp only [hl, Int.toNat_natCast]
  rw [need_pos (by omega)]
  have h00 : List.replicate g.length false = toldG g.length [] := getD_ext false List.length_replicate toldG_len fun i hi => by
   rw [toldG_at hi, pb_f (by simp)]
   exact zero_at _ _
  refine loop_one (σ := (Int × Unit) × List Int × List Bool × List (List Bool) × Unit)
   (fun s => ∃ k i : Nat, s = (((i : Int), ()), castL (ordF (Hd g) g.length k), toldG g.length (ordF (Hd g) g.length k), hs, ()) ∧ (ordF (Hd g) g.length k).length = k ∧ i ≤ g.length ∧ ∀ j, j < i → ¬ Free (Hd g) g.length (ordF (Hd g) g.length k) j)
   (fun s => (g.length - s.2.1.length) * (g.length + 1) + (g.length - Int.toNat s.1.1)) ?_ _ ⟨0, 0, by rw [h00]; rfl, rfl, Nat.zero_le _, fun j hj => by omega⟩
  rintro s ⟨k, i, rfl, hk, hi, hno⟩
  obtain ⟨o1, o2, _⟩ := ordF_ok (e := Hd g) (n := g.length) k
  have hkn : k ≤ g.length := by rw [← hk]; exact nodup_len o1 o2
  have hin := fun r (h : Free (Hd g) g.length (ordF (Hd g) g.length k) r) (h2 : ∀ q, q < r → ¬ Free (Hd g) g.length (ordF (Hd g) g.length k) q) => ordF_next h h2
  have hend := fun h => ordF_end (e := Hd g) hkn h
  have hfull := fun h => full_no (e := Hd g) o1 o2 h
  have hstay : ∀ i2 : Nat, i2 ≤ g.length → (∀ j, j < i2 → ¬ Free (Hd g) g.length (ordF (Hd g) g.length k) j) → ∃ k' i' : Nat, ((((i2 : Int), ()), castL (ordF (Hd g) g.length k), toldG g.length (ordF (Hd g) g.length k), hs, ()) : (Int × Unit) × List Int × List Bool × List (List Bool) × Unit) = (((i' : Int), ()), castL (ordF (Hd g) g.length k'), toldG g.length (ordF (Hd g) g.length k'), hs, ()) ∧ (ordF (Hd g) g.length k').length = k' ∧ i' ≤ g.length ∧ ∀ j, j < i' → ¬ Free (Hd g) g.length (ordF (Hd g) g.length k') j := fun i2 h1 h2 => ⟨k, i2, rfl, hk, h1, h2⟩
  generalize ordF (Hd g) g.length k = L at hk o1 o2 hin hend hfull hno hstay ⊢
  have hcl : (castL L).length = k := by rw [castL_len, hk]
  have htl : (toldG g.length L).length = g.length := toldG_len
  have ht : ∀ q, q < g.length → List.getD (toldG g.length L) q false = pb (q ∈ L) := fun q hq => toldG_at hq
  dsimp only
  simp only [hl, Int.toNat_natCast, Nat.zero_add]
  by_cases hlt : i < g.length
  ·have hkl : Free (Hd g) g.length L i → k < g.length := fun h => by
    refine Classical.byContradiction fun h2 => hfull (by omega) ⟨i, h⟩
   have hrl := hrow i hlt
   rw [pos (by omega), need_pos (by omega), need_pos (by omega), ht i hlt]
   have inner : ∀ X, X = (if pb (Free (Hd g) g.length L i) = true then (((0 : Int), ()), castL L ++ [(i : Int)], List.set (toldG g.length L) i true, hs, ()) else ((((i : Int) + 1), ()), castL L, toldG g.length L, hs, ())) → loopC (fun (s1 : (Int × Bool × Unit) × List Int × List Bool × List (List Bool) × Unit) => Option.bind (sel s1.1.2.1 (some (pb (s1.1.1 < (↑(List.length s1.2.2.2.1) : Int)))) (some false)) (fun (v : Bool) => sel v (need ((0 : Int) ≤ (i : Int) ∧ (i : Int) < (↑(List.length s1.2.2.2.1) : Int)) (need (i < List.length s1.2.2.2.1) (need ((0 : Int) ≤ s1.1.1 ∧ s1.1.1 < (↑(List.length (List.getD s1.2.2.2.1 i [])) : Int)) (Option.bind (sel (!List.getD (List.getD s1.2.2.2.1 i []) (Int.toNat s1.1.1) false) (some true) (need ((0 : Int) ≤ s1.1.1 ∧ s1.1.1 < (↑(List.length s1.2.2.1) : Int)) (need (Int.toNat s1.1.1 < List.length s1.2.2.1) (some (List.getD s1.2.2.1 (Int.toNat s1.1.1) false))))) (fun (v1 : Bool) => need (Fits Go.IntKind.i64 (s1.1.1 + (1 : Int))) (some (Sum.inl ((s1.1.1 + (1 : Int), v1, ()), s1.2.1, s1.2.2.1, s1.2.2.2.1, ())))))))) (Option.bind (sel s1.1.2.1 (need ((0 : Int) ≤ (i : Int) ∧ (i : Int) < (↑(List.length s1.2.2.1) : Int)) (need (i < List.length s1.2.2.1) (need ((1 : Nat) ≤ (1 : Nat) ∧ (List.length s1.2.1 + (1 : Nat)) * (8 : Nat) ≤ (140737488355328 : Nat)) (need (Fits Go.IntKind.i64 (0 : Int)) (some (Sum.inl (((0 : Int), ()), s1.2.1 ++ [(i : Int)], List.set s1.2.2.1 i true, s1.2.2.2.1, ()) : ((Int × Unit) × List Int × List Bool × List (List Bool) × Unit) ⊕ (Int × List Int × Unit))))))) (need (Fits Go.IntKind.i64 ((i : Int) + (1 : Int))) (some (Sum.inl (((i : Int) + (1 : Int), ()), s1.2.1, s1.2.2.1, s1.2.2.2.1, ()))))) (fun val => some (Sum.inr val))))) (((0 : Int), !pb (i ∈ L), ()), castL L, toldG g.length L, hs, ()) = some (Sum.inl X) := by
    rintro X rfl
    refine loop_one (σ := (Int × Bool × Unit) × List Int × List Bool × List (List Bool) × Unit)
     (fun s => ∃ (q : Nat) (b : Bool), s = (((q : Int), b, ()), castL L, toldG g.length L, hs, ()) ∧ q ≤ g.length ∧ b = pb (i ∉ L ∧ ∀ j, j < q → Hd g i j → j ∈ L))
     (fun s => g.length - Int.toNat s.1.1) ?_ _ ⟨0, _, rfl, Nat.zero_le _, ?_⟩
    ·rintro s ⟨q, b, rfl, hq, hb⟩
     dsimp only
     simp only [hl, Int.toNat_natCast]
     by_cases hcase : b = true ∧ q < g.length
     ·obtain ⟨hb1, hqn⟩ := hcase
      refine .inl ?_
      rw [hb1] at hb
      obtain ⟨b1, b2⟩ := pb_iff.1 hb.symm
      have hmeas : g.length - Int.toNat ((q : Int) + 1) < g.length - q := by omega
      have hs1 : ∀ v, v = pb (Hd g i q → q ∈ L) → v = pb (i ∉ L ∧ ∀ j, j < q + 1 → Hd g i j → j ∈ L) := fun v hv => by
       rw [hv]
       exact pb_congr ⟨fun h => ⟨b1, fun j hj => by
        by_cases e : j = q
        ·subst e; exact h
        ·exact b2 j (by omega)⟩, fun h => h.2 q (by omega)⟩
      rw [hb1, sel_t, bind_t, pb_t (show (q : Int) < (g.length : Int) by omega), sel_t, need_pos (by omega), need_pos (by omega), need_pos (by omega), hat i q hlt hqn, ht q hqn]
      by_cases h1 : Hd g i q
      ·exact ⟨_, by rw [pb_t h1, Bool.not_true, sel_f, need_pos (by omega), need_pos (by omega), bind_t, need64 (by omega) (by omega)], ⟨q + 1, pb (q ∈ L), by rw [cast_succ], hqn, hs1 _ (pb_congr ⟨fun h _ => h, fun h => h h1⟩)⟩, hmeas⟩
      ·exact ⟨_, by rw [pb_f h1, Bool.not_false, sel_t, bind_t, need64 (by omega) (by omega)], ⟨q + 1, true, by rw [cast_succ], hqn, hs1 _ (pb_t (fun h => absurd h h1)).symm⟩, hmeas⟩
     ·refine .inr ?_
      cases b with
      | false =>
        have hnf : ¬ Free (Hd g) g.length L i := fun h => pb_iff_f.1 hb.symm ⟨h.2.1, fun j hj h1 => h.2.2 j (by omega) h1⟩
        rw [sel_f, bind_t, sel_f, sel_f, need64 (by omega) (by omega), bind_t, pb_f hnf, if_neg (by simp)]
      | true =>
        have hqe : ¬ q < g.length := fun h => hcase ⟨rfl, h⟩
        obtain ⟨b1, b2⟩ := pb_iff.1 hb.symm
        have hf : Free (Hd g) g.length L i := ⟨hlt, b1, fun j hj => b2 j (by omega)⟩
        have := hkl hf
        rw [sel_t, bind_t, pb_f (show ¬ (q : Int) < (g.length : Int) by omega), sel_f, sel_t, need_pos (by omega), need_pos (by omega), need_pos (by omega), need64 (by omega) (by omega), bind_t, pb_t hf, if_pos rfl]
    ·by_cases h1 : i ∈ L
     ·rw [pb_t h1, pb_f (fun h => h.1 h1)]
      rfl
     ·rw [pb_f h1, pb_t ⟨h1, fun j hj => by omega⟩]
      rfl
   refine .inl ⟨_, inner _ rfl, ?_, ?_⟩
   ·by_cases hf : Free (Hd g) g.length L i
    ·rw [pb_t hf, if_pos rfl]
     have hnext := hin i hf hno
     refine ⟨k + 1, 0, ?_, ?_, Nat.zero_le _, fun j hj => by omega⟩
     ·rw [hnext, castL_snoc, toldG_set]
      rfl
     ·rw [hnext, List.length_append, hk]
      rfl
    ·rw [pb_f hf, if_neg (by simp)]
     have := hstay (i + 1) (by omega) fun j hj => by
      by_cases e : j = i
      ·subst e; exact hf
      ·exact hno j (by omega)
     rw [cast_succ] at this
     exact this
   ·by_cases hf : Free (Hd g) g.length L i
    ·rw [pb_t hf, if_pos rfl]
     have h1 := hkl hf
     dsimp only
     rw [List.length_append, hcl]
     have e1 : g.length - k = (g.length - (k + 1)) + 1 := by omega
     rw [show (k + [(i : Int)].length) = k + 1 from rfl, e1, Nat.add_mul, Nat.one_mul]
     have : Int.toNat (0 : Int) = 0 := rfl
     rw [this]
     omega
    ·rw [pb_f hf, if_neg (by simp)]
     dsimp only
     rw [hcl]
     omega
  ·refine .inr ?_
   have : i = g.length := by omega
   rw [neg (by omega), ← hend (fun ⟨r, h⟩ => hno r (by have := h.1; omega) h)]
 ·rw [nneg hv, if_neg hv]
theorem order10_len (g : G) : (order10 g).length ≤ 200 := by
 unfold order10
 split
 ·rename_i h
  have := (rg_of (vd_zero h).1).len
  have := (ordF_ok (e := Hd g) (n := g.length) g.length).2.2
  rw [castL_len]
  unfold ordE
  omega
 ·exact Nat.zero_le _
theorem law_FordOrders (g : G) (h : SzG g) : F_law10_FordOrders ((g, ()), ()) = some (true, ()) := by
 have hl := order10_len g
 unfold F_law10_FordOrders
 dsimp only
 rw [show (fun (y : RuleD) => ((y.1, (y.2.1, List.length y.2.1), ()) : RuleLD)) = liftR from rfl, show (fun (y : RuleLD) => ((y.1, List.take y.2.1.2 y.2.1.1, ()) : RuleD)) = plainR from rfl, q_lendG g h, bind_t]
 dsimp only
 simp only [toPb]
 rw [plain_lent, plain_lift, q_fOrder, bind_t, q_rOrder, bind_t, q_lives10, bind_t]
 dsimp only
 rw [sel_t, q_ints _ (by omega), bind_t, bind_t, sel_t, pb_t rfl, bind_t, sel_t, q_keptG g h, bind_t, bind_t]
end Go.Proofs
/-! Chapter 10: what comes out is the caller's own. -/
namespace Go.Proofs
open Go Go.Abs
set_option linter.unusedSimpArgs false
theorem q_spoil (v : Int) (l : List Int) (h : l.length ≤ 1000000) : F_book_SpoilInts (v, l, ()) = some () := by
 unfold F_book_SpoilInts
 simp only [toPb]
 refine loop_up (σ := (Int × Unit) × List Int × Unit) l.length (fun i => (((i : Int), ()), gone l (fun _ => v) i, ())) rfl ?_ ?_
 ·intro i hi
  have hgl : (gone l (fun _ => v) i).length = l.length := gone_len (by omega)
  dsimp only
  simp only [Int.toNat_natCast, Nat.zero_add, hgl]
  rw [pos (by omega), need_pos (by omega), need_pos hi, need64 (by omega) (by omega), cast_succ, ← gone_set (f := fun _ => v) hi]
 ·have hgl : (gone l (fun _ => v) l.length).length = l.length := gone_len (by omega)
  dsimp only
  rw [hgl, neg (by omega), need_pos (by omega), bind_t]
theorem law_FordOwn (g : G) (r : Int) (h : SzG g) : F_law10_FordOwn ((g, ()), r, ()) = some (true, ()) := by
 have l1 := vd10_len g
 have l2 := heads10_len g r
 have l3 := order10_len g
 unfold F_law10_FordOwn
 dsimp only
 rw [show (fun (y : RuleD) => ((y.1, (y.2.1, List.length y.2.1), ()) : RuleLD)) = liftR from rfl, show (fun (y : RuleLD) => ((y.1, List.take y.2.1.2 y.2.1.1, ()) : RuleD)) = plainR from rfl, q_lendG g h, bind_t]
 dsimp only
 simp only [toPb]
 refine loop_up (σ := (Int × Unit) × GrammarLD × GrammarLD × Unit) 2 (fun i => (((i : Int), ()), ((lentG g, g.length), ()), ((List.map liftR g, g.length), ()), ())) rfl ?_ ?_
 ·intro i hi
  dsimp only
  rw [pos (by omega), plain_lent, q_fCheck, bind_t]
  dsimp only
  rw [q_spoil _ _ (by omega), bind_t, q_fHeads, bind_t]
  dsimp only
  rw [q_spoil _ _ (by omega), bind_t, q_fOrder, bind_t]
  dsimp only
  rw [q_spoil _ _ (by omega), bind_t, need64 (by omega) (by omega), cast_succ]
 ·dsimp only
  rw [neg (by omega), plain_lift, law_FordChecks g h, bind_t]
  dsimp only
  rw [sel_t, law_FordHeads g r h, bind_t, bind_t, sel_t, law_FordOrders g h, bind_t, bind_t, sel_t, q_keptG g h, bind_t, bind_t, bind_t]
end Go.Proofs
