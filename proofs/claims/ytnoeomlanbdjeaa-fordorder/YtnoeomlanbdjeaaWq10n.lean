/- Part of the proof of the law's row: YtnoeomlanbdjeaaWq10n. -/
import Derived.Test.YtnoeomlanbdjeaaWq10h
set_option linter.all false
set_option linter.unusedVariables false
set_option linter.unusedSimpArgs false
/-! Chapter 10: the distances, by the program and by the book. -/
namespace Go.Proofs
open Go Go.Abs
set_option linter.unusedSimpArgs false
theorem pb_ex_succ {P : Nat → Prop} {r : Nat} : pb (∃ j, j < r + 1 ∧ P j) = (pb (∃ j, j < r ∧ P j) || pb (P r)) := by
  apply Bool.eq_iff_iff.2
  rw [Bool.or_eq_true, pb_iff, pb_iff, pb_iff]
  constructor
  · rintro ⟨j, hj, h⟩
    by_cases e : j = r
    · subst e; exact .inr h
    · exact .inl ⟨j, by omega, h⟩
  · rintro (⟨j, hj, h⟩ | h)
    · exact ⟨j, by omega, h⟩
    · exact ⟨r, by omega, h⟩
theorem q_dist {n : Nat} {e : Nat → Nat → Prop} {E : List Em} {hs : List (List Bool)} {ls : List SpotD} (hl : hs.length = n) (hn : n ≤ 200) (he : ∀ r q, e r q → q < n) (hh : ∀ r q, r < n → q < n → List.getD (List.getD hs r (Ty.dflt (Ty.arr (200 : Nat) Ty.bool))) q false = pb (e r q)) {to : Nat} (ht : to < n) :
    F_ford_looked_distances ((E, hs, ls, ()), (to : Int), ()) = some (genR n (fun r => (dst e to r : Int)), ()) := by
  unfold F_ford_looked_distances
  simp only [toPb]
  simp only [hl, Int.toNat_natCast]
  rw [need_pos (by omega)]
  have h0 : genR n (farI e to 0) = List.replicate n (0 : Int) := getD_ext 0 genR_len List.length_replicate fun i hi => by
    rw [genR_get hi, zero_at]
    unfold farI
    split <;> omega
  rw [← h0]
  have key : ∀ k r, r < n → farI e to k r = 0 → (dst e to r = k + 1 ↔ (k = 0 ∧ e r to) ∨ ∃ q, q < n ∧ 1 ≤ k ∧ e r q ∧ dst e to q = k) := fun k r hr hz => by
    rw [farI_zero] at hz
    by_cases hk : k = 0
    · subst hk
      rw [dst_one]
      exact ⟨fun h => .inl ⟨rfl, h⟩, fun h => h.elim (fun h => h.2) (fun ⟨q, _, h, _⟩ => by omega)⟩
    · rw [dst_next (by omega) hz]
      exact ⟨fun ⟨q, h1, h2⟩ => .inr ⟨q, he _ _ h1, by omega, h1, h2⟩, fun h => h.elim (fun h => absurd h.1 hk) (fun ⟨q, _, _, h1, h2⟩ => ⟨q, h1, h2⟩)⟩
  refine loop_one (σ := (Int × Bool × Unit) × List Int × lookedD × Unit)
    (fun s => ∃ (k : Nat) (b : Bool), s = ((((k + 1 : Nat) : Int), b, ()), genR n (farI e to k), (E, hs, ls, ()), ()) ∧ (b = true → k ≤ n) ∧ (b = false → 1 ≤ k ∧ ∀ r, r < n → dst e to r ≠ k))
    (fun s => if s.1.2.1 = true then n + 3 - Int.toNat s.1.1 else 0) ?_ _ ⟨0, true, rfl, fun _ => Nat.zero_le _, fun h => by cases h⟩
  rintro s ⟨k, b, rfl, hbt, hbf⟩
  dsimp only
  cases b with
  | false =>
    refine .inr ?_
    obtain ⟨h1, h2⟩ := hbf rfl
    have : genR n (farI e to k) = genR n (fun r => (dst e to r : Int)) := genR_ext fun r hr => by
      unfold farI
      rw [if_pos]
      refine Classical.byContradiction fun h => ?_
      obtain ⟨q, hq, h3⟩ := dst_level (to := to) he hr rfl k h1 (by omega)
      exact h2 q hq h3
    rw [sel_f, this]
  | true =>
    refine .inl ?_
    have hkn := hbt rfl
    rw [sel_t]
    refine ⟨_, loop_up (σ := (Int × Bool × Unit) × List Int × lookedD × Unit) n (fun r => (((r : Int), pb (∃ j, j < r ∧ dst e to j = k + 1), ()), gone (genR n (farI e to k)) (farI e to (k + 1)) r, (E, hs, ls, ()), ())) (by rw [pb_f (by rintro ⟨j, hj, _⟩; omega), gone_zero]; rfl) ?_ ?_, ⟨k + 1, pb (∃ j, j < n ∧ dst e to j = k + 1), rfl, fun h => ?_, fun h => ⟨by omega, fun r hr h2 => pb_iff_f.1 h ⟨r, hr, h2⟩⟩⟩, ?_⟩
    · intro r hr
      have hgl : (gone (genR n (farI e to k)) (farI e to (k + 1)) r).length = n := by rw [gone_len (by rw [genR_len]; omega), genR_len]
      have hat : List.getD (gone (genR n (farI e to k)) (farI e to (k + 1)) r) r 0 = farI e to k r := by rw [gone_at, genR_get hr]
      have hatq : ∀ q, q < n → 1 ≤ k → (List.getD (gone (genR n (farI e to k)) (farI e to (k + 1)) r) q 0 = (k : Int) ↔ dst e to q = k) := fun q hq hk => by
        rcases gone_or (p := genR n (farI e to k)) (f := farI e to (k + 1)) (i := r) (j := q) (d := (0 : Int)) (by rw [genR_len]; omega) with h | h
        · rw [h, farI_at2 hk]
        · rw [h, genR_get hq, farI_at hk]
      have hset : dst e to r = k + 1 → List.set (gone (genR n (farI e to k)) (farI e to (k + 1)) r) r (((k + 1 : Nat)) : Int) = gone (genR n (farI e to k)) (farI e to (k + 1)) (r + 1) := fun h => by
        rw [← gone_set (by rw [genR_len]; exact hr)]
        congr 1
        exact ((farI_at (by omega)).2 h).symm
      have hkeep : dst e to r ≠ k + 1 → gone (genR n (farI e to k)) (farI e to (k + 1)) r = gone (genR n (farI e to k)) (farI e to (k + 1)) (r + 1) := fun h => gone_keep (d := 0) (by rw [genR_len]; exact hr) (by rw [genR_get hr]; exact farI_same h)
      have htr : dst e to r = k + 1 → pb (∃ j, j < r + 1 ∧ dst e to j = k + 1) = true := fun h => pb_t ⟨r, by omega, h⟩
      have hfa : dst e to r ≠ k + 1 → pb (∃ j, j < r + 1 ∧ dst e to j = k + 1) = pb (∃ j, j < r ∧ dst e to j = k + 1) := fun h => by rw [pb_ex_succ, pb_f h, Bool.or_false]
      dsimp only
      simp only [Int.toNat_natCast, Nat.zero_add]
      generalize gone (genR n (farI e to k)) (farI e to (k + 1)) r = F at hgl hat hatq hset hkeep ⊢
      rw [pos (by omega), need_pos (by omega), need_pos (by omega), hat]
      by_cases hz : farI e to k r = 0
      · rw [npos hz]
        have hky := key k r hr hz
        have v1 : Option.bind (sel (pb (((k + 1 : Nat) : Int) = (1 : Int))) (need ((0 : Int) ≤ (r : Int) ∧ (r : Int) < (↑(List.length hs) : Int)) (need ((0 : Int) ≤ (to : Int) ∧ (to : Int) < (200 : Int)) (some (List.getD (List.getD hs r (Ty.dflt (Ty.arr (200 : Nat) Ty.bool))) to false)))) (some false)) (fun v => some v) = some (pb (k = 0 ∧ e r to)) := by
          by_cases hk : k = 0
          · rw [pos (by omega), need_pos (by omega), need_pos (by omega), hh r to hr ht, bind_t]
            congr 1
            exact pb_congr ⟨fun h => ⟨hk, h⟩, fun h => h.2⟩
          · rw [neg (by omega), bind_t, pb_f (fun h => hk h.1)]
        have v2 : ∀ {A : Type} (f : Bool → Option A), Option.bind (sel (pb (((k + 1 : Nat) : Int) = (1 : Int))) (need ((0 : Int) ≤ (r : Int) ∧ (r : Int) < (↑(List.length hs) : Int)) (need ((0 : Int) ≤ (to : Int) ∧ (to : Int) < (200 : Int)) (some (List.getD (List.getD hs r (Ty.dflt (Ty.arr (200 : Nat) Ty.bool))) to false)))) (some false)) f = f (pb (k = 0 ∧ e r to)) := by
          intro A f
          have hX : ∀ {X : Option Bool} {w : Bool}, Option.bind X (fun v => some v) = some w → Option.bind X f = f w := fun {X w} h => by
            cases X with
            | none => simp at h
            | some x => simp only [bind_t] at h ⊢; cases h; rfl
          exact hX v1
        rw [v2]
        by_cases h1 : k = 0 ∧ e r to
        · have hd := hky.2 (.inl h1)
          have e1 : (1 : Int) = ((k + 1 : Nat) : Int) := by omega
          rw [pb_t h1, sel_t, need_pos (by omega), need_pos (by omega), need64 (by omega) (by omega), htr hd, e1, hset hd, ← e1, cast_succ]
        · rw [pb_f h1, sel_f]
          have hin := loop_all (σ := (Int × Bool × Unit) × List Int × lookedD × Unit) (ρ := (((Int × Bool × Unit) × List Int × lookedD × Unit) ⊕ (((Int × Bool × Unit) × List Int × lookedD × Unit) ⊕ (List Int × Unit)))) n (fun q => (((q : Int), pb (∃ j, j < r ∧ dst e to j = k + 1), ()), F, (E, hs, ls, ()), ())) (fun q => ¬ (1 ≤ k ∧ e r q ∧ dst e to q = k)) (bad := Sum.inl (((r : Int) + 1, true, ()), List.set F r ((k + 1 : Nat) : Int), (E, hs, ls, ()), ())) (fin := Sum.inl (((r : Int) + 1, pb (∃ j, j < r ∧ dst e to j = k + 1), ()), F, (E, hs, ls, ()), ())) (B := fun (s2 : (Int × Bool × Unit) × List Int × lookedD × Unit) => sel (pb (s2.1.1 < (↑n : Int))) (Option.bind (sel (pb (((k + 1 : Nat) : Int) > (1 : Int))) (need ((0 : Int) ≤ (r : Int) ∧ (r : Int) < (↑(List.length s2.2.2.1.2.1) : Int)) (need ((0 : Int) ≤ s2.1.1 ∧ s2.1.1 < (200 : Int)) (some (List.getD (List.getD s2.2.2.1.2.1 r (Ty.dflt (Ty.arr (200 : Nat) Ty.bool))) (Int.toNat s2.1.1) false)))) (some false)) (fun (v1 : Bool) => Option.bind (sel v1 (need ((0 : Int) ≤ s2.1.1 ∧ s2.1.1 < (↑(List.length s2.2.1) : Int)) (need (Int.toNat s2.1.1 < List.length s2.2.1) (need (Fits Go.IntKind.i64 (((k + 1 : Nat) : Int) - (1 : Int))) (some (pb (List.getD s2.2.1 (Int.toNat s2.1.1) (0 : Int) = ((k + 1 : Nat) : Int) - (1 : Int))))))) (some false)) (fun (v2 : Bool) => sel v2 (need ((0 : Int) ≤ (r : Int) ∧ (r : Int) < (↑(List.length s2.2.1) : Int)) (need (r < List.length s2.2.1) (Option.bind (need (Fits Go.IntKind.i64 ((r : Int) + (1 : Int))) (some (Sum.inl (((r : Int) + (1 : Int), true, ()), List.set s2.2.1 r ((k + 1 : Nat) : Int), (s2.2.2.1.1, s2.2.2.1.2.1, s2.2.2.1.2.2.1, ()), ())))) (fun val => some (Sum.inr val))))) (need (Fits Go.IntKind.i64 (s2.1.1 + (1 : Int))) (some (Sum.inl ((s2.1.1 + (1 : Int), s2.1.2.1, ()), s2.2.1, (s2.2.2.1.1, s2.2.2.1.2.1, s2.2.2.1.2.2.1, ()), ()))))))) (Option.bind (need (Fits Go.IntKind.i64 ((r : Int) + (1 : Int))) (some (Sum.inl (((r : Int) + (1 : Int), s2.1.2.1, ()), s2.2.1, (s2.2.2.1.1, s2.2.2.1.2.1, s2.2.2.1.2.2.1, ()), ())))) (fun val1 => some (Sum.inr val1)))) (s0 := (((0 : Int), pb (∃ j, j < r ∧ dst e to j = k + 1), ()), F, (E, hs, ls, ()), ())) rfl ?_ ?_
          · have hin2 := hin
            refine Eq.trans hin2 ?_
            by_cases h2 : ∃ q, q < n ∧ 1 ≤ k ∧ e r q ∧ dst e to q = k
            · have hd := hky.2 (.inr h2)
              obtain ⟨q, hq, h3⟩ := h2
              rw [pb_f (fun h => h q hq h3), if_neg (by simp), htr hd, hset hd, cast_succ]
            · have hd : dst e to r ≠ k + 1 := fun h => (hky.1 h).elim h1 h2
              rw [pb_t (fun q hq h3 => h2 ⟨q, hq, h3⟩), if_pos rfl, hfa hd, ← hkeep hd, cast_succ]
          · intro q hq
            dsimp only
            simp only [Int.toNat_natCast]
            rw [pos (by omega)]
            have ek : ((k + 1 : Nat) : Int) - 1 = (k : Int) := by omega
            rw [ek]
            have nope : ¬ (1 ≤ k ∧ e r q ∧ dst e to q = k) → some (if pb (¬ (1 ≤ k ∧ e r q ∧ dst e to q = k)) = true then (Sum.inl ((((q + 1 : Nat) : Int), pb (∃ j, j < r ∧ dst e to j = k + 1), ()), F, (E, hs, ls, ()), ()) : ((Int × Bool × Unit) × List Int × lookedD × Unit) ⊕ (((Int × Bool × Unit) × List Int × lookedD × Unit) ⊕ (((Int × Bool × Unit) × List Int × lookedD × Unit) ⊕ (List Int × Unit)))) else Sum.inr (Sum.inl (((r : Int) + 1, true, ()), List.set F r ((k + 1 : Nat) : Int), (E, hs, ls, ()), ()))) = some (Sum.inl (((q : Int) + 1, pb (∃ j, j < r ∧ dst e to j = k + 1), ()), F, (E, hs, ls, ()), ())) := fun h => by rw [pb_t h, if_pos rfl, cast_succ]
            by_cases hk : 1 ≤ k
            · rw [pos (by omega), need_pos (by omega), need_pos (by omega), hh r q hr hq, bind_t]
              by_cases h2 : e r q
              · rw [pb_t h2, sel_t, need_pos (by omega), need_pos (by omega), need64 (by omega) (by omega), bind_t]
                by_cases h3 : List.getD F q 0 = (k : Int)
                · have h4 := (hatq q hq hk).1 h3
                  rw [pb_t h3, sel_t, need_pos (by omega), need_pos (by omega), need64 (by omega) (by omega), bind_t, pb_f (p := ¬ (1 ≤ k ∧ e r q ∧ dst e to q = k)) (fun h => h ⟨hk, h2, h4⟩), if_neg (by simp)]
                · rw [pb_f h3, sel_f, need64 (by omega) (by omega), nope (fun h => h3 ((hatq q hq hk).2 h.2.2))]
              · rw [pb_f h2, sel_f, bind_t, sel_f, need64 (by omega) (by omega), nope (fun h => h2 h.2.1)]
            · rw [neg (by omega), bind_t, sel_f, bind_t, sel_f, need64 (by omega) (by omega), nope (fun h => hk h.1)]
          · dsimp only
            rw [neg (by omega), need64 (by omega) (by omega), bind_t]
      · have hd : dst e to r ≠ k + 1 := fun h => hz (farI_zero.2 (by omega))
        rw [nneg hz, need64 (by omega) (by omega), hfa hd, ← hkeep hd, cast_succ]
    · dsimp only
      have e9 : gone (genR n (farI e to k)) (farI e to (k + 1)) n = genR n (farI e to (k + 1)) := by
        have := gone_all (p := genR n (farI e to k)) (f := farI e to (k + 1))
        rwa [genR_len] at this
      rw [neg (by omega), need64 (by omega) (by omega), bind_t, e9]
      rfl
    · obtain ⟨r, hr, h2⟩ := pb_iff.1 h
      have := dst_le (to := to) he hr
      omega
    · dsimp only
      rw [if_pos rfl]
      split <;> omega
end Go.Proofs

/-! Chapter 10: the cycle. -/
namespace Go.Proofs
open Go Go.Abs
set_option linter.unusedSimpArgs false
theorem loop_down {σ ρ γ : Type} {B : σ → Option (σ ⊕ ρ)} (f : Nat → γ → σ) (F : Nat → γ → ρ) (I : Nat → γ → Prop) (step : ∀ k x, I (k + 1) x → ∃ y, B (f (k + 1) x) = some (.inl (f k y)) ∧ I k y ∧ F (k + 1) x = F k y) (fin : ∀ x, I 0 x → B (f 0 x) = some (.inr (F 0 x))) : ∀ k x, I k x → loopC B (f k x) = some (F k x)
  | 0, x, h => by rw [loopC_eq, fin x h]
  | k + 1, x, h => by
    obtain ⟨y, h1, h2, h3⟩ := step k x h
    rw [loopC_eq, h1, h3]
    exact loop_down f F I step fin k y h2
open Classical in
/-- The next one of the way. -/
noncomputable def nextQ (e : Nat → Nat → Prop) (to at_ left : Nat) : Nat := if h : ∃ q, e at_ q ∧ dst e to q = left then Classical.choose (least h) else 0
theorem nextQ_is {e : Nat → Nat → Prop} {to at_ left : Nat} (h : ∃ q, e at_ q ∧ dst e to q = left) : (e at_ (nextQ e to at_ left) ∧ dst e to (nextQ e to at_ left) = left) ∧ ∀ q, e at_ q ∧ dst e to q = left → nextQ e to at_ left ≤ q := by
  unfold nextQ
  rw [dif_pos h]
  exact Classical.choose_spec (least h)
/-- The rest of the way. -/
noncomputable def cycT (e : Nat → Nat → Prop) (to : Nat) : Nat → Nat → List Int
  | _, 0 => []
  | at_, k + 1 => (nextQ e to at_ (k + 1) : Int) :: cycT e to (nextQ e to at_ (k + 1)) k
/-- Does a rule stand behind itself? -/
def Self (e : Nat → Nat → Prop) (n r : Nat) : Prop := r < n ∧ dst e r r ≠ 0
open Classical in
noncomputable def cyc (e : Nat → Nat → Prop) (n : Nat) : List Int :=
  if h : ∃ r, Self e n r then ((Classical.choose (least h) : Nat) : Int) :: cycT e (Classical.choose (least h)) (Classical.choose (least h)) (dst e (Classical.choose (least h)) (Classical.choose (least h)) - 1) else []
theorem cyc_none {e : Nat → Nat → Prop} {n : Nat} (h : ¬ ∃ r, Self e n r) : cyc e n = [] := by unfold cyc; rw [dif_neg h]
theorem cyc_some {e : Nat → Nat → Prop} {n r : Nat} (h : Self e n r) (h2 : ∀ q, q < r → ¬ Self e n q) : cyc e n = (r : Int) :: cycT e r r (dst e r r - 1) := by
  have hx : ∃ r, Self e n r := ⟨r, h⟩
  unfold cyc
  rw [dif_pos hx]
  obtain ⟨h3, h4⟩ := Classical.choose_spec (least hx)
  generalize Classical.choose (least hx) = v at h3 h4 ⊢
  have : v = r := by
    have h5 := h4 r h
    refine Classical.byContradiction fun hne => ?_
    exact h2 v (by omega) h3
  rw [this]
theorem q_cycle {n : Nat} {e : Nat → Nat → Prop} {E : List Em} {hs : List (List Bool)} {ls : List SpotD} (hl : hs.length = n) (hn : n ≤ 200) (he : ∀ r q, e r q → q < n) (hh : ∀ r q, r < n → q < n → List.getD (List.getD hs r (Ty.dflt (Ty.arr (200 : Nat) Ty.bool))) q false = pb (e r q)) :
    F_ford_looked_cycle ((E, hs, ls, ()), ()) = some (cyc e n, ()) := by
  unfold F_ford_looked_cycle
  simp only [toPb]
  simp only [hl]
  refine loop_one (σ := (Int × Unit) × lookedD × Unit)
    (fun s => ∃ r : Nat, s = (((r : Int), ()), (E, hs, ls, ()), ()) ∧ r ≤ n ∧ ∀ q, q < r → ¬ Self e n q)
    (fun s => n - Int.toNat s.1.1) ?_ _ ⟨0, rfl, Nat.zero_le _, fun q hq => by omega⟩
  rintro s ⟨r, rfl, hr, hno⟩
  dsimp only
  by_cases hlt : r < n
  · have hat : ∀ q, q < n → List.getD (genR n fun q => (dst e r q : Int)) q 0 = (dst e r q : Int) := fun q hq => genR_get hq
    have hfl : (genR n fun q => (dst e r q : Int)).length = n := genR_len
    have hdle : ∀ q, q < n → dst e r q ≤ n := fun q hq => dst_le he hq
    rw [pos (by omega), q_dist hl hn he hh hlt, bind_t]
    dsimp only
    generalize (genR n fun q => (dst e r q : Int)) = F at hat hfl ⊢
    simp only [Int.toNat_natCast, Nat.zero_add]
    rw [hat r hlt, need_pos (by omega), need_pos (by omega)]
    by_cases h0 : dst e r r = 0
    · refine .inl ⟨_, by rw [pos (by omega), need64 (by omega) (by omega)], ⟨r + 1, by rw [cast_succ], by omega, fun q hq => ?_⟩, by dsimp only; omega⟩
      by_cases eq : q = r
      · subst eq; exact fun h => h.2 h0
      · exact hno q (by omega)
    · refine .inr ?_
      have hd := hdle r hlt
      rw [neg (by omega), need_pos (by omega), need_pos (by omega), need64 (by omega) (by omega), cyc_some ⟨hlt, h0⟩ hno]
      have ed : (dst e r r : Int) - 1 = ((dst e r r - 1 : Nat) : Int) := by omega
      rw [ed]
      refine loop_down (γ := Nat × List Int) (fun left (x : Nat × List Int) => ((((left : Nat) : Int), (x.1 : Int), ()), x.2, F, (E, hs, ls, ()), ())) (fun left x => Sum.inr (x.2 ++ cycT e r x.1 left, ())) (fun left x => dst e r x.1 = left + 1 ∧ x.1 < n ∧ x.2.length + left ≤ 1000) ?_ ?_ (dst e r r - 1) (r, [(r : Int)]) ⟨by dsimp only; omega, hlt, by simp; omega⟩
      · rintro left ⟨at_, out⟩ ⟨h1, h2, h3⟩
        dsimp only at h1 h2 h3 ⊢
        obtain ⟨⟨n1, n2⟩, n3⟩ := nextQ_is (dst_prev h1 (by omega))
        have hc : cycT e r at_ (left + 1) = (nextQ e r at_ (left + 1) : Int) :: cycT e r (nextQ e r at_ (left + 1)) left := rfl
        rw [hc]
        generalize nextQ e r at_ (left + 1) = q0 at n1 n2 n3 ⊢
        have hq0 := he _ _ n1
        refine ⟨(q0, out ++ [(q0 : Int)]), ?_, ⟨n2, hq0, by simp; omega⟩, by dsimp only; rw [List.append_assoc]; rfl⟩
        rw [pos (by omega)]
        refine loop_up (σ := shapeD × List Int × List Int × lookedD × Unit) q0 (fun q => (((q : Int), (at_ : Int), ()), out, F, (E, hs, ls, ()), ())) rfl ?_ ?_
        · intro q hq
          dsimp only
          simp only [Int.toNat_natCast, hl]
          rw [pos (by omega), need_pos (by omega), need_pos (by omega), hh at_ q h2 (by omega)]
          by_cases g1 : e at_ q
          · rw [pb_t g1, sel_t, need_pos (by omega), need_pos (by omega), bind_t, hat q (by omega), pb_f (by
              intro h
              have := n3 q ⟨g1, by omega⟩
              omega), sel_f, need64 (by omega) (by omega), cast_succ]
          · rw [pb_f g1, sel_f, bind_t, sel_f, need64 (by omega) (by omega), cast_succ]
        · dsimp only
          simp only [Int.toNat_natCast, hl]
          have el : ((left + 1 : Nat) : Int) - 1 = (left : Int) := by omega
          rw [pos (by omega), need_pos (by omega), need_pos (by omega), hh at_ q0 h2 hq0, pb_t n1, sel_t, need_pos (by omega), need_pos (by omega), bind_t, hat q0 hq0, pb_t (by omega), sel_t, need_pos (by omega), need64 (by omega) (by omega), bind_t, el]
      · rintro ⟨at_, out⟩ ⟨h1, h2, h3⟩
        dsimp only
        rw [neg (by omega)]
        rw [show cycT e r at_ 0 = [] from rfl, List.append_nil]
  · refine .inr ?_
    rw [neg (by omega), cyc_none]
    rintro ⟨q, hq⟩
    exact hno q (by have := hq.1; omega) hq
end Go.Proofs

/-! Chapter 10: the verdicts. -/
namespace Go.Proofs
open Go Go.Abs
set_option linter.unusedSimpArgs false
/-- Is a rule a head of another? -/
def Hd (g : G) (r q : Nat) : Prop := r < g.length ∧ q < g.length ∧ List.getD (headP g r) q false = true
theorem Hd_lt (g : G) : ∀ r q, Hd g r q → q < g.length := fun _ _ h => h.2.1
theorem hd_at {g : G} {r q : Nat} (hr : r < g.length) (hq : q < g.length) : List.getD (headP g r) q false = pb (Hd g r q) := by
  apply Bool.eq_iff_iff.2
  rw [pb_iff]
  exact ⟨fun h => ⟨hr, hq, h⟩, fun h => h.2.2⟩
noncomputable def hsI (g : G) : List (List Bool) := genR g.length (headP g)
theorem hsI_len {g : G} : (hsI g).length = g.length := genR_len
theorem hsI_at {g : G} : ∀ r q, r < g.length → q < g.length → List.getD (List.getD (hsI g) r (Ty.dflt (Ty.arr (200 : Nat) Ty.bool))) q false = pb (Hd g r q) := fun r q hr hq => by
  have : List.getD (hsI g) r (Ty.dflt (Ty.arr (200 : Nat) Ty.bool)) = headP g r := genR_get hr
  rw [this, hd_at hr hq]
noncomputable def cycG (g : G) : List Int := cyc (Hd g) g.length
theorem q_cycG {g : G} (hg : RG g) : F_ford_looked_cycle (lookD g, ()) = some (cycG g, ()) := q_cycle hsI_len hg.len (Hd_lt g) hsI_at
/-- What there is to tell of a grammar. -/
noncomputable def vd10 (g : G) : SpotD × Int × List Int :=
  if (chkG g).2 ≠ 0 then ((chkG g).1, (chkG g).2, [])
  else if (cycG g).length > 0 then (zSpot, 100, cycG g)
  else if (loopsTo g g.length).length > 0 then (List.getD (loopsTo g g.length) 0 zSpot, 101, [])
  else (zSpot, 0, [])
theorem q_fCheck (g : G) : F_ford_Check ((g, ()), ()) = some ((vd10 g).1, (vd10 g).2.1, (vd10 g).2.2, ()) := by
  unfold F_ford_Check vd10
  simp only [toPb]
  rw [q_look, bind_t]
  unfold look10
  by_cases h : (chkG g).2 = 0
  · have hg := rg_of h
    rw [if_pos h, if_neg (show ¬ ((chkG g).2 ≠ 0) from fun h2 => h2 h)]
    dsimp only
    rw [npos rfl]
    show Option.bind (F_ford_looked_cycle (lookD g, ())) _ = _
    rw [q_cycG hg, bind_t]
    dsimp only
    by_cases h1 : (cycG g).length > 0
    · rw [pos (by omega), if_pos h1]
    · rw [neg (by omega), if_neg h1]
      show sel (pb ((↑(List.length (loopsTo g g.length)) : Int) > (0 : Int))) _ _ = _
      by_cases h2 : (loopsTo g g.length).length > 0
      · rw [pos (by omega), if_pos h2]
        show need ((0 : Int) ≤ (0 : Int) ∧ (0 : Int) < (↑(List.length (loopsTo g g.length)) : Int)) _ = _
        rw [need_pos (by omega)]
        rfl
      · rw [neg (by omega), if_neg h2]
  · rw [if_neg h, if_pos h]
    dsimp only
    rw [nneg h]
def wkN (k : Int) (s : ByteArray) : NodeD := (k, (0 : Int), s, ((0 : Int), (0 : Int), (0 : Int), (0 : Int), ()), ())
def wkA : G := [(byt [115], [wkN 3 zStr], ())]
def wkB : G := [(byt [115], [wkN 6 (byt [115])], ())]
theorem wkA_c : chkP [wkN 3 zStr] = (0, 0) := by kernel_rfl
theorem wkB_c : chkP [wkN 6 (byt [115])] = (0, 0) := by kernel_rfl
theorem wkA_chk : (chkG wkA).2 = 0 := by
  have hn : nameB (byt [115]) = true := by kernel_rfl
  have g0 : ¬ badName wkA (rth wkA 0) := fun h => by
    have h2 : nameB (byt [115]) = false := h.1
    rw [hn] at h2; cases h2
  have hf : findR wkA (rth wkA 0).1 = some 0 := by
    show findR wkA (byt [115]) = some 0
    unfold findR wkA findF
    rw [if_pos rfl]
  have r0 : ¬ numR wkA (rth wkA 0).1 < ((0 : Nat) : Int) := by
    unfold numR
    rw [hf]
    decide
  have c0 : ¬ (chkP (rth wkA 0).2.1).2 ≠ 0 := fun h => h (congrArg (·.2) wkA_c)
  have l0 : ¬ (0 : Int) + ((rth wkA 0).2.1.length : Int) > 2048 := by
    show ¬ (0 : Int) + ((1 : Nat) : Int) > 2048
    decide
  unfold chkG
  rw [if_neg (by decide), if_neg (by decide)]
  show (restG wkA (scanG wkA 1 0 0)).2 = 0
  rw [scanG, if_neg g0, if_neg r0, if_neg c0, if_neg l0, scanG]
  show (spotE (unkG wkA wkA 0)).2 = 0
  have : unkG wkA wkA 0 = none := by
    show unkG wkA [(byt [115], [wkN 3 zStr], ())] 0 = none
    rw [unkG, unkN, if_neg (fun h => by have h2 : (3 : Int) = 6 := h.1; omega), unkN, unkG]
  rw [this]
  rfl
theorem wkB_find : findR wkB (byt [115]) = some 0 := by
  unfold findR wkB findF
  rw [if_pos rfl]
theorem wkB_chk : (chkG wkB).2 = 0 := by
  have hn : nameB (byt [115]) = true := by kernel_rfl
  have g0 : ¬ badName wkB (rth wkB 0) := fun h => by
    have h2 : nameB (byt [115]) = false := h.1
    rw [hn] at h2; cases h2
  have r0 : ¬ numR wkB (rth wkB 0).1 < ((0 : Nat) : Int) := by
    unfold numR
    rw [show findR wkB (rth wkB 0).1 = some 0 from wkB_find]
    decide
  have c0 : ¬ (chkP (rth wkB 0).2.1).2 ≠ 0 := fun h => h (congrArg (·.2) wkB_c)
  have l0 : ¬ (0 : Int) + ((rth wkB 0).2.1.length : Int) > 2048 := by
    show ¬ (0 : Int) + ((1 : Nat) : Int) > 2048
    decide
  unfold chkG
  rw [if_neg (by decide), if_neg (by decide)]
  show (restG wkB (scanG wkB 1 0 0)).2 = 0
  rw [scanG, if_neg g0, if_neg r0, if_neg c0, if_neg l0, scanG]
  show (spotE (unkG wkB wkB 0)).2 = 0
  have : unkG wkB wkB 0 = none := by
    show unkG wkB [(byt [115], [wkN 6 (byt [115])], ())] 0 = none
    rw [unkG, unkN, if_neg (fun h => by have h2 : findR wkB (byt [115]) = none := h.2; rw [wkB_find] at h2; cases h2), unkN, unkG]
  rw [this]
  rfl
theorem wkA_head : headP wkA 0 = noB := by
  show (valP wkA [wkN 3 zStr] 0).1 = noB
  rw [show valP wkA [wkN 3 zStr] 0 = fP wkA (nth [wkN 3 zStr] (0 : Nat)) zpiece zpiece from valOf_is _ _ _ _]
  show headsH (wkN 3 zStr) (numQ wkA (wkN 3 zStr)) zpiece.1 zpiece.1 zpiece.2.1 = noB
  unfold headsH
  rw [if_neg (by decide), if_neg (by decide), if_neg (by decide), if_neg (by decide)]
  rfl
theorem wkB_head : headP wkB 0 = List.set noB 0 true := by
  show (valP wkB [wkN 6 (byt [115])] 0).1 = _
  rw [show valP wkB [wkN 6 (byt [115])] 0 = fP wkB (nth [wkN 6 (byt [115])] (0 : Nat)) zpiece zpiece from valOf_is _ _ _ _]
  show headsH (wkN 6 (byt [115])) (numQ wkB (wkN 6 (byt [115]))) zpiece.1 zpiece.1 zpiece.2.1 = List.set noB 0 true
  unfold headsH
  rw [if_pos (by rfl)]
  have : numQ wkB (wkN 6 (byt [115])) = 0 := by
    unfold numQ
    rw [show findR wkB (wkN 6 (byt [115])).2.2.1 = some 0 from wkB_find]
    rfl
  rw [this]
theorem wkA_vd : (vd10 wkA).2.1 = 0 := by
  have hno : ∀ r q, ¬ Hd wkA r q := fun r q h => by
    have hr : r = 0 := by have h1 : r < 1 := h.1; omega
    have h2 := h.2.2
    subst hr
    rw [wkA_head, noB_at] at h2
    cases h2
  have hw : ∀ k r to, ¬ Way (Hd wkA) to k r := fun k r to h => by
    cases k with
    | zero => exact h
    | succ k =>
      cases k with
      | zero => exact hno _ _ h
      | succ k => obtain ⟨q, h1, _⟩ := h; exact hno _ _ h1
  have hc : cycG wkA = [] := cyc_none (fun ⟨r, h⟩ => h.2 (dst_none.2 fun k => hw k r r))
  have hl : loopsTo wkA 1 = [] := by
    show [] ++ loopsK (cN wkA) [wkN 3 zStr] 0 1 = []
    rw [loopsK, if_neg (fun h => by
      have h1 : (3 : Int) = 9 ∨ (3 : Int) = 10 ∨ (3 : Int) = 15 := h.1
      omega)]
    rfl
  unfold vd10
  rw [if_neg (fun h => h wkA_chk), hc, if_neg (by decide), show loopsTo wkA wkA.length = [] from hl, if_neg (by decide)]
theorem wkB_vd : (vd10 wkB).2.1 = 100 ∧ (vd10 wkB).2.2.length = 1 := by
  have h0 : Hd wkB 0 0 := ⟨by decide, by decide, by rw [wkB_head, setD_at (by rw [noB_len]; omega), if_pos rfl]⟩
  have hd : dst (Hd wkB) 0 0 = 1 := dst_one.2 h0
  have hc : cycG wkB = [0] := by
    unfold cycG
    rw [cyc_some (r := 0) ⟨by decide, by rw [hd]; decide⟩ (fun q hq => by omega), hd]
    rfl
  unfold vd10
  rw [if_neg (fun h => h wkB_chk), hc, if_pos (by decide)]
  exact ⟨rfl, rfl⟩
theorem q_lives10 : F_law10_lives () = some (true, ()) := by
  unfold F_law10_lives
  simp only [toPb]
  rw [show F_ford_Check (([(byt [115], [((3 : Int), (0 : Int), zStr, ((0 : Int), (0 : Int), (0 : Int), (0 : Int), ()), ())], ())], ()), ()) = _ from q_fCheck wkA, bind_t, show F_ford_Check (([(byt [115], [((6 : Int), (0 : Int), byt [115], ((0 : Int), (0 : Int), (0 : Int), (0 : Int), ()), ())], ())], ()), ()) = _ from q_fCheck wkB, bind_t]
  dsimp only
  obtain ⟨h1, h2⟩ := wkB_vd
  rw [wkA_vd, h1, h2, pos rfl, pb_t rfl, bind_t, sel_t, pb_t (show ((1 : Nat) : Int) = 1 from rfl), bind_t]
end Go.Proofs

/-! Chapter 10: heads and loops. -/
namespace Go.Proofs
open Go Go.Abs
set_option linter.unusedSimpArgs false
theorem q_mlist {m : List Bool} {n : Nat} {p : Nat → Prop} (hn : n ≤ 200) (h : ∀ i, i < n → List.getD m i false = pb (p i)) : F_ford_marks_list (m, (n : Int), ()) = some (listP n p, ()) := by
  unfold F_ford_marks_list
  simp only [toPb]
  refine loop_up (σ := (Int × Unit) × List Int × List Bool × Unit) n (fun i => (((i : Int), ()), listP i p, m, ())) rfl ?_ ?_
  · intro i hi
    have hl := listP_len (n := i) (p := p)
    dsimp only
    simp only [Int.toNat_natCast]
    rw [pos (by omega), need_pos (by omega), need_pos (by omega), h i hi, listP_succ]
    cases pb (p i) with
    | true => rw [sel_t, need_pos (by omega), need64 (by omega) (by omega), cast_succ, if_pos rfl]
    | false => rw [sel_f, need64 (by omega) (by omega), cast_succ, if_neg (by simp), List.append_nil]
  · dsimp only
    rw [neg (by omega)]
/-- The heads of a rule, told. -/
noncomputable def heads10 (g : G) (r : Int) : List Int := if lookE g r = 0 then listP g.length (Hd g (Int.toNat r)) else []
theorem q_fHeads (g : G) (r : Int) : F_ford_Heads ((g, ()), r, ()) = some (lookE g r, heads10 g r, ()) := by
  unfold F_ford_Heads
  simp only [toPb]
  rw [q_look, bind_t]
  unfold look10 heads10
  by_cases h : (chkG g).2 = 0
  · have hg := rg_of h
    rw [if_pos h]
    dsimp only
    rw [npos rfl, look_or h]
    by_cases h2 : lookE g r = 0
    · obtain ⟨_, h3, h4⟩ := lookE_ok h2
      rw [if_pos h2, if_pos h2]
      have hl : ((lookD g).2.1).length = g.length := hsI_len
      have hlt : Int.toNat r < g.length := by omega
      have hrow : List.getD (lookD g).2.1 (Int.toNat r) (Ty.dflt (Ty.arr (200 : Nat) Ty.bool)) = headP g (Int.toNat r) := genR_get hlt
      rw [need_pos (by omega), hrow, q_mlist hg.len (fun i hi => hd_at hlt hi), bind_t, h2]
    · rw [if_neg h2, if_neg h2, look_one h h2]
  · rw [if_neg h]
    dsimp only
    rw [nneg h, look_bad h, if_neg h]
/-- The loops, told. -/
noncomputable def loops10 (g : G) : List SpotD := if (chkG g).2 = 0 then loopsTo g g.length else []
theorem q_fLoops (g : G) : F_ford_Loops ((g, ()), ()) = some (loops10 g, (chkG g).2, ()) := by
  unfold F_ford_Loops
  simp only [toPb]
  rw [q_look, bind_t]
  unfold look10 loops10
  by_cases h : (chkG g).2 = 0
  · rw [if_pos h, if_pos h]
    dsimp only
    rw [npos rfl, h]
    rfl
  · rw [if_neg h, if_neg h]
    dsimp only
    rw [nneg h]
end Go.Proofs

/-! Chapter 10: the order. -/
namespace Go.Proofs
open Go Go.Abs
set_option linter.unusedSimpArgs false
/-- A rule that may be told next. -/
def Free (e : Nat → Nat → Prop) (n : Nat) (L : List Nat) (r : Nat) : Prop := r < n ∧ r ∉ L ∧ ∀ q, q < n → e r q → q ∈ L
open Classical in
noncomputable def ordF (e : Nat → Nat → Prop) (n : Nat) : Nat → List Nat
  | 0 => []
  | k + 1 => if h : ∃ r, Free e n (ordF e n k) r then ordF e n k ++ [Classical.choose (least h)] else ordF e n k
theorem ordF_next {e : Nat → Nat → Prop} {n k r : Nat} (h : Free e n (ordF e n k) r) (h2 : ∀ q, q < r → ¬ Free e n (ordF e n k) q) : ordF e n (k + 1) = ordF e n k ++ [r] := by
  have hx : ∃ r, Free e n (ordF e n k) r := ⟨r, h⟩
  rw [ordF, dif_pos hx]
  obtain ⟨h3, h4⟩ := Classical.choose_spec (least hx)
  generalize Classical.choose (least hx) = v at h3 h4 ⊢
  have : v = r := by
    have h5 := h4 r h
    refine Classical.byContradiction fun hne => ?_
    exact h2 v (by omega) h3
  rw [this]
theorem ordF_stay {e : Nat → Nat → Prop} {n k : Nat} (h : ¬ ∃ r, Free e n (ordF e n k) r) : ∀ m, ordF e n (k + m) = ordF e n k
  | 0 => rfl
  | m + 1 => by
    have ih := ordF_stay h m
    rw [show k + (m + 1) = k + m + 1 from rfl, ordF, dif_neg (by rw [ih]; exact h), ih]
theorem ordF_ok {e : Nat → Nat → Prop} {n : Nat} : ∀ k, (ordF e n k).Nodup ∧ (∀ r ∈ ordF e n k, r < n) ∧ (ordF e n k).length ≤ k
  | 0 => ⟨List.nodup_nil, fun r h => absurd h List.not_mem_nil, Nat.le_refl _⟩
  | k + 1 => by
    obtain ⟨h1, h2, h3⟩ := ordF_ok (e := e) (n := n) k
    rw [ordF]
    split
    · rename_i hx
      have h4 := (Classical.choose_spec (least hx)).1
      generalize Classical.choose (least hx) = v at h4
      refine ⟨?_, fun r hr => ?_, by rw [List.length_append]; simp; omega⟩
      · rw [List.nodup_append]
        refine ⟨h1, by simp, fun a ha b hb => ?_⟩
        rw [List.mem_singleton] at hb
        subst hb
        intro e2
        subst e2
        exact h4.2.1 ha
      · rw [List.mem_append] at hr
        rcases hr with hr | hr
        · exact h2 r hr
        · rw [List.mem_singleton] at hr
          rw [hr]; exact h4.1
    · exact ⟨h1, h2, by omega⟩
/-- The order in the end. -/
noncomputable def ordE (e : Nat → Nat → Prop) (n : Nat) : List Nat := ordF e n n
theorem ordF_end {e : Nat → Nat → Prop} {n k : Nat} (hk : k ≤ n) (h : ¬ ∃ r, Free e n (ordF e n k) r) : ordF e n k = ordE e n := by
  obtain ⟨d, hd⟩ := Nat.exists_eq_add_of_le hk
  have := ordF_stay h d
  unfold ordE
  rw [← this, hd]
theorem ordF_full {e : Nat → Nat → Prop} {n : Nat} : (ordF e n n).length = n ∨ ¬ ∃ r, Free e n (ordF e n n) r := by
  have key : ∀ k, (ordF e n k).length = k ∨ ¬ ∃ r, Free e n (ordF e n k) r := by
    intro k
    induction k with
    | zero => exact .inl rfl
    | succ k ih =>
      by_cases hx : ∃ r, Free e n (ordF e n k) r
      · rcases ih with ih | ih
        · left
          rw [ordF, dif_pos hx, List.length_append, ih]
          rfl
        · exact absurd hx ih
      · right
        have := ordF_stay hx 1
        rw [this]
        exact hx
  exact key n
theorem full_no {e : Nat → Nat → Prop} {n : Nat} {L : List Nat} (h1 : L.Nodup) (h2 : ∀ r ∈ L, r < n) (h3 : L.length = n) : ¬ ∃ r, Free e n L r := by
  rintro ⟨r, hr, hn, _⟩
  have : (r :: L).length ≤ n := nodup_len (List.nodup_cons.2 ⟨hn, h1⟩) (fun x hx => by
    rw [List.mem_cons] at hx
    rcases hx with rfl | hx
    · exact hr
    · exact h2 x hx)
  rw [List.length_cons] at this
  omega
theorem castL_snoc (L : List Nat) (r : Nat) : castL (L ++ [r]) = castL L ++ [(r : Int)] := castL_app L [r]
/-- What a grammar's order is. -/
noncomputable def order10 (g : G) : List Int := if (vd10 g).2.1 = 0 then castL (ordE (Hd g) g.length) else []
theorem vd_zero {g : G} (h : (vd10 g).2.1 = 0) : (chkG g).2 = 0 ∧ cycG g = [] ∧ loopsTo g g.length = [] := by
  unfold vd10 at h
  by_cases h0 : (chkG g).2 = 0
  · rw [if_neg (fun h2 => h2 h0)] at h
    split at h
    · exact absurd (show (100 : Int) = 0 from h) (by decide)
    · rename_i h1
      split at h
      · exact absurd (show (101 : Int) = 0 from h) (by decide)
      · rename_i h2
        exact ⟨h0, List.length_eq_zero_iff.1 (by omega), List.length_eq_zero_iff.1 (by omega)⟩
  · rw [if_pos h0] at h
    exact absurd h h0
theorem q_fOrder (g : G) : F_ford_Order ((g, ()), ()) = some ((vd10 g).2.1, order10 g, ()) := by
  unfold F_ford_Order order10
  simp only [toPb]
  rw [q_fCheck, bind_t]
  dsimp only
  by_cases hv : (vd10 g).2.1 = 0
  · obtain ⟨h0, _, _⟩ := vd_zero hv
    have hg := rg_of h0
    have hn := hg.len
    rw [npos hv, if_pos hv, hv, q_look, bind_t]
    unfold look10
    rw [if_pos h0]
    dsimp only
    have hl : (hsI g).length = g.length := hsI_len
    have hdflt : (Ty.dflt (Ty.arr (200 : Nat) Ty.bool) : List Bool) = toldG 200 [] := getD_ext false List.length_replicate toldG_len fun i hi => by
      rw [toldG_at hi, pb_f (by simp)]
      exact zero_at _ _
    show loopC _ ((), [], (Ty.dflt (Ty.arr (200 : Nat) Ty.bool)), (fixE g, hsI g, loopsTo g g.length, ()), ()) = _
    have hat := hsI_at (g := g)
    generalize hsI g = hs at hl hat ⊢
    generalize loopsTo g g.length = ls
    generalize fixE g = E
    refine loop_one (σ := Unit × List Int × List Bool × lookedD × Unit)
      (fun s => ∃ k, s = ((), castL (ordF (Hd g) g.length k), toldG 200 (ordF (Hd g) g.length k), (E, hs, ls, ()), ()) ∧ (ordF (Hd g) g.length k).length = k)
      (fun s => g.length - s.2.1.length) ?_ _ ⟨0, by rw [hdflt]; rfl, rfl⟩
    rintro s ⟨k, rfl, hk⟩
    obtain ⟨o1, o2, _⟩ := ordF_ok (e := Hd g) (n := g.length) k
    have hkn : k ≤ g.length := by rw [← hk]; exact nodup_len o1 o2
    have hin := fun r (h : Free (Hd g) g.length (ordF (Hd g) g.length k) r) (h2 : ∀ q, q < r → ¬ Free (Hd g) g.length (ordF (Hd g) g.length k) q) => ordF_next h h2
    have hend := fun h => ordF_end (e := Hd g) hkn h
    have hfull := fun h => full_no (e := Hd g) o1 o2 h
    generalize ordF (Hd g) g.length k = L at hk o1 o2 hin hend hfull ⊢
    have hcl : (castL L).length = k := by rw [castL_len, hk]
    have htl : (toldG 200 L).length = 200 := toldG_len
    have ht : ∀ q, q < 200 → List.getD (toldG 200 L) q false = pb (q ∈ L) := fun q hq => toldG_at hq
    dsimp only
    by_cases hlt : k < g.length
    · have step : ∀ r, r < g.length → ∀ (X : _), X = (if pb (Free (Hd g) g.length L r) = true then (Sum.inr (Sum.inl ((), castL L ++ [(r : Int)], List.set (toldG 200 L) r true, (E, hs, ls, ()), ())) : ((Int × Unit) × List Int × List Bool × lookedD × Unit) ⊕ ((Unit × List Int × List Bool × lookedD × Unit) ⊕ (Int × List Int × Unit))) else Sum.inl (((r : Int) + 1, ()), castL L, toldG 200 L, (E, hs, ls, ()), ())) → sel (List.getD (toldG 200 L) r false) (need (Fits Go.IntKind.i64 ((r : Int) + (1 : Int))) (some (Sum.inl (((r : Int) + (1 : Int), ()), castL L, toldG 200 L, (E, hs, ls, ()), ()))))
          (loopC (fun (s2 : (Int × Bool × Unit) × List Int × List Bool × lookedD × Unit) => sel (pb (s2.1.1 < (↑(List.length g) : Int))) (Option.bind (sel s2.1.2.1 (need ((0 : Int) ≤ (r : Int) ∧ (r : Int) < (↑(List.length s2.2.2.2.1.2.1) : Int)) (need ((0 : Int) ≤ s2.1.1 ∧ s2.1.1 < (200 : Int)) (Option.bind (sel (!List.getD (List.getD s2.2.2.2.1.2.1 r (Ty.dflt (Ty.arr (200 : Nat) Ty.bool))) (Int.toNat s2.1.1) false) (some true) (need ((0 : Int) ≤ s2.1.1 ∧ s2.1.1 < (200 : Int)) (need (Int.toNat s2.1.1 < (200 : Nat)) (some (List.getD s2.2.2.1 (Int.toNat s2.1.1) false))))) (fun (v : Bool) => some v)))) (some false)) (fun (v1 : Bool) => need (Fits Go.IntKind.i64 (s2.1.1 + (1 : Int))) (some (Sum.inl ((s2.1.1 + (1 : Int), v1, ()), s2.2.1, s2.2.2.1, (s2.2.2.2.1.1, s2.2.2.2.1.2.1, s2.2.2.2.1.2.2.1, ()), ()))))) (Option.bind (sel s2.1.2.1 (need ((0 : Int) ≤ (r : Int) ∧ (r : Int) < (200 : Int)) (need (r < (200 : Nat)) (need ((1 : Nat) ≤ (1 : Nat) ∧ (List.length s2.2.1 + (1 : Nat)) * (8 : Nat) ≤ (140737488355328 : Nat)) (some (Sum.inr (Sum.inl ((), s2.2.1 ++ [(r : Int)], List.set s2.2.2.1 r true, (s2.2.2.2.1.1, s2.2.2.2.1.2.1, s2.2.2.2.1.2.2.1, ()), ()))))))) (need (Fits Go.IntKind.i64 ((r : Int) + (1 : Int))) (some (Sum.inl (((r : Int) + (1 : Int), ()), s2.2.1, s2.2.2.1, (s2.2.2.2.1.1, s2.2.2.2.1.2.1, s2.2.2.2.1.2.2.1, ()), ()))))) (fun val => some (Sum.inr val)))) (((0 : Int), true, ()), castL L, toldG 200 L, (E, hs, ls, ()), ())) = some X := by
        rintro r hr X rfl
        rw [ht r (by omega)]
        by_cases hm : r ∈ L
        · rw [pb_t hm, sel_t, need64 (by omega) (by omega), pb_f (fun h => h.2.1 hm), if_neg (by simp)]
        · rw [pb_f hm, sel_f]
          refine loop_up (σ := (Int × Bool × Unit) × List Int × List Bool × lookedD × Unit) g.length (fun q => (((q : Int), pb (∀ j, j < q → Hd g r j → j ∈ L), ()), castL L, toldG 200 L, (E, hs, ls, ()), ())) (by rw [pb_t (fun j hj => by omega)]; rfl) ?_ ?_
          · intro q hq
            have hs1 : pb (∀ j, j < q + 1 → Hd g r j → j ∈ L) = (pb (∀ j, j < q → Hd g r j → j ∈ L) && pb (Hd g r q → q ∈ L)) := by
              apply Bool.eq_iff_iff.2
              rw [Bool.and_eq_true, pb_iff, pb_iff, pb_iff]
              constructor
              · exact fun h => ⟨fun j hj => h j (by omega), h q (by omega)⟩
              · rintro ⟨h1, h2⟩ j hj
                by_cases e : j = q
                · subst e; exact h2
                · exact h1 j (by omega)
            dsimp only
            simp only [Int.toNat_natCast]
            rw [pos (by omega), hs1]
            cases pb (∀ j, j < q → Hd g r j → j ∈ L) with
            | false => rw [sel_f, bind_t, need64 (by omega) (by omega), cast_succ, Bool.false_and]
            | true =>
              rw [sel_t, need_pos (by omega), need_pos (by omega), hat r q hr hq, ht q (by omega)]
              by_cases h1 : Hd g r q
              · rw [pb_t h1, Bool.not_true, sel_f, need_pos (by omega), need_pos (by omega), bind_t, bind_t, need64 (by omega) (by omega), cast_succ, Bool.true_and]
                rw [pb_congr (show (Hd g r q → q ∈ L) ↔ q ∈ L from ⟨fun h => h h1, fun h _ => h⟩)]
              · rw [pb_f h1, Bool.not_false, sel_t, bind_t, bind_t, need64 (by omega) (by omega), cast_succ, Bool.true_and, pb_t (fun h => absurd h h1)]
          · dsimp only
            rw [neg (by omega)]
            by_cases h1 : ∀ j, j < g.length → Hd g r j → j ∈ L
            · rw [pb_t h1, sel_t, need_pos (by omega), need_pos (by omega), need_pos (by omega), bind_t, pb_t (show Free (Hd g) g.length L r from ⟨hr, hm, h1⟩), if_pos rfl]
            · rw [pb_f h1, sel_f, need64 (by omega) (by omega), bind_t, pb_f (fun h => h1 h.2.2), if_neg (by simp)]
      rw [pos (by omega)]
      by_cases hx : ∃ r, Free (Hd g) g.length L r
      · obtain ⟨r, h1, h2⟩ := least hx
        have hno : ∀ q, q < r → ¬ Free (Hd g) g.length L q := fun q hq h3 => by have := h2 q h3; omega
        have hnext := hin r h1 hno
        have hrn := h1.1
        refine .inl ⟨((), castL L ++ [(r : Int)], List.set (toldG 200 L) r true, (E, hs, ls, ()), ()), loop_up (σ := (Int × Unit) × List Int × List Bool × lookedD × Unit) r (fun i => (((i : Int), ()), castL L, toldG 200 L, (E, hs, ls, ()), ())) rfl ?_ ?_, ⟨k + 1, ?_, ?_⟩, ?_⟩
        · intro i hi
          dsimp only
          simp only [Int.toNat_natCast]
          rw [pos (by omega), need_pos (by omega), need_pos (by omega)]
          refine step i (by omega) _ ?_
          rw [pb_f (hno i hi), if_neg (by simp), cast_succ]
        · dsimp only
          simp only [Int.toNat_natCast]
          rw [pos (by omega), need_pos (by omega), need_pos (by omega)]
          refine step r hrn _ ?_
          rw [pb_t h1, if_pos rfl]
        · rw [hnext, castL_snoc, toldG_set]
        · rw [hnext, List.length_append, hk]
          rfl
        · dsimp only
          rw [List.length_append, hcl]
          simp
          omega
      · refine .inr ?_
        refine loop_up (σ := (Int × Unit) × List Int × List Bool × lookedD × Unit) g.length (fun i => (((i : Int), ()), castL L, toldG 200 L, (E, hs, ls, ()), ())) rfl ?_ ?_
        · intro i hi
          dsimp only
          simp only [Int.toNat_natCast]
          rw [pos (by omega), need_pos (by omega), need_pos (by omega)]
          refine step i (by omega) _ ?_
          rw [pb_f (fun h => hx ⟨i, h⟩), if_neg (by simp), cast_succ]
        · dsimp only
          rw [neg (by omega), ← hend hx]
    · refine .inr ?_
      rw [neg (by omega), ← hend (hfull (by omega))]
  · rw [nneg hv, if_neg hv]
end Go.Proofs
