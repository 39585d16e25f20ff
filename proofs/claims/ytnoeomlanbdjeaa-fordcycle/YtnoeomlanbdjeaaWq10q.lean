/- Part of the proof of the law's row: YtnoeomlanbdjeaaWq10q. -/
import Derived.Test.YtnoeomlanbdjeaaWq10h
set_option linter.all false
set_option linter.unusedVariables false
set_option linter.unusedSimpArgs false
/-! Chapter 10: the distances, by the program and by the book. -/
namespace Go.Proofs
open Go Go.Abs
set_option linter.unusedSimpArgs false
theorem pb_ex_succ {P : Nat → Prop} {r : Nat} : pb (∃ j, j < r + 1 ∧ P j) = (pb (∃ j, j < r ∧ P j) || pb (P r)) := by
  apply Bool.eq_iff_iff.2
  rw [Bool.or_eq_true, pb_iff, pb_iff, pb_iff]
  constructor
  · rintro ⟨j, hj, h⟩
    by_cases e : j = r
    · subst e; exact .inr h
    · exact .inl ⟨j, by omega, h⟩
  · rintro (⟨j, hj, h⟩ | h)
    · exact ⟨j, by omega, h⟩
    · exact ⟨r, by omega, h⟩
theorem q_dist {n : Nat} {e : Nat → Nat → Prop} {E : List Em} {hs : List (List Bool)} {ls : List SpotD} (hl : hs.length = n) (hn : n ≤ 200) (he : ∀ r q, e r q → q < n) (hh : ∀ r q, r < n → q < n → List.getD (List.getD hs r (Ty.dflt (Ty.arr (200 : Nat) Ty.bool))) q false = pb (e r q)) {to : Nat} (ht : to < n) :
    F_ford_looked_distances ((E, hs, ls, ()), (to : Int), ()) = some (genR n (fun r => (dst e to r : Int)), ()) := by
  unfold F_ford_looked_distances
  simp only [toPb]
  simp only [hl, Int.toNat_natCast]
  rw [need_pos (by omega)]
  have h0 : genR n (farI e to 0) = List.replicate n (0 : Int) := getD_ext 0 genR_len List.length_replicate fun i hi => by
    rw [genR_get hi, zero_at]
    unfold farI
    split <;> omega
  rw [← h0]
  have key : ∀ k r, r < n → farI e to k r = 0 → (dst e to r = k + 1 ↔ (k = 0 ∧ e r to) ∨ ∃ q, q < n ∧ 1 ≤ k ∧ e r q ∧ dst e to q = k) := fun k r hr hz => by
    rw [farI_zero] at hz
    by_cases hk : k = 0
    · subst hk
      rw [dst_one]
      exact ⟨fun h => .inl ⟨rfl, h⟩, fun h => h.elim (fun h => h.2) (fun ⟨q, _, h, _⟩ => by omega)⟩
    · rw [dst_next (by omega) hz]
      exact ⟨fun ⟨q, h1, h2⟩ => .inr ⟨q, he _ _ h1, by omega, h1, h2⟩, fun h => h.elim (fun h => absurd h.1 hk) (fun ⟨q, _, _, h1, h2⟩ => ⟨q, h1, h2⟩)⟩
  refine loop_one (σ := (Int × Bool × Unit) × List Int × lookedD × Unit)
    (fun s => ∃ (k : Nat) (b : Bool), s = ((((k + 1 : Nat) : Int), b, ()), genR n (farI e to k), (E, hs, ls, ()), ()) ∧ (b = true → k ≤ n) ∧ (b = false → 1 ≤ k ∧ ∀ r, r < n → dst e to r ≠ k))
    (fun s => if s.1.2.1 = true then n + 3 - Int.toNat s.1.1 else 0) ?_ _ ⟨0, true, rfl, fun _ => Nat.zero_le _, fun h => by cases h⟩
  rintro s ⟨k, b, rfl, hbt, hbf⟩
  dsimp only
  cases b with
  | false =>
    refine .inr ?_
    obtain ⟨h1, h2⟩ := hbf rfl
    have : genR n (farI e to k) = genR n (fun r => (dst e to r : Int)) := genR_ext fun r hr => by
      unfold farI
      rw [if_pos]
      refine Classical.byContradiction fun h => ?_
      obtain ⟨q, hq, h3⟩ := dst_level (to := to) he hr rfl k h1 (by omega)
      exact h2 q hq h3
    rw [sel_f, this]
  | true =>
    refine .inl ?_
    have hkn := hbt rfl
    rw [sel_t]
    refine ⟨_, loop_up (σ := (Int × Bool × Unit) × List Int × lookedD × Unit) n (fun r => (((r : Int), pb (∃ j, j < r ∧ dst e to j = k + 1), ()), gone (genR n (farI e to k)) (farI e to (k + 1)) r, (E, hs, ls, ()), ())) (by rw [pb_f (by rintro ⟨j, hj, _⟩; omega), gone_zero]; rfl) ?_ ?_, ⟨k + 1, pb (∃ j, j < n ∧ dst e to j = k + 1), rfl, fun h => ?_, fun h => ⟨by omega, fun r hr h2 => pb_iff_f.1 h ⟨r, hr, h2⟩⟩⟩, ?_⟩
    · intro r hr
      have hgl : (gone (genR n (farI e to k)) (farI e to (k + 1)) r).length = n := by rw [gone_len (by rw [genR_len]; omega), genR_len]
      have hat : List.getD (gone (genR n (farI e to k)) (farI e to (k + 1)) r) r 0 = farI e to k r := by rw [gone_at, genR_get hr]
      have hatq : ∀ q, q < n → 1 ≤ k → (List.getD (gone (genR n (farI e to k)) (farI e to (k + 1)) r) q 0 = (k : Int) ↔ dst e to q = k) := fun q hq hk => by
        rcases gone_or (p := genR n (farI e to k)) (f := farI e to (k + 1)) (i := r) (j := q) (d := (0 : Int)) (by rw [genR_len]; omega) with h | h
        · rw [h, farI_at2 hk]
        · rw [h, genR_get hq, farI_at hk]
      have hset : dst e to r = k + 1 → List.set (gone (genR n (farI e to k)) (farI e to (k + 1)) r) r (((k + 1 : Nat)) : Int) = gone (genR n (farI e to k)) (farI e to (k + 1)) (r + 1) := fun h => by
        rw [← gone_set (by rw [genR_len]; exact hr)]
        congr 1
        exact ((farI_at (by omega)).2 h).symm
      have hkeep : dst e to r ≠ k + 1 → gone (genR n (farI e to k)) (farI e to (k + 1)) r = gone (genR n (farI e to k)) (farI e to (k + 1)) (r + 1) := fun h => gone_keep (d := 0) (by rw [genR_len]; exact hr) (by rw [genR_get hr]; exact farI_same h)
      have htr : dst e to r = k + 1 → pb (∃ j, j < r + 1 ∧ dst e to j = k + 1) = true := fun h => pb_t ⟨r, by omega, h⟩
      have hfa : dst e to r ≠ k + 1 → pb (∃ j, j < r + 1 ∧ dst e to j = k + 1) = pb (∃ j, j < r ∧ dst e to j = k + 1) := fun h => by rw [pb_ex_succ, pb_f h, Bool.or_false]
      dsimp only
      simp only [Int.toNat_natCast, Nat.zero_add]
      generalize gone (genR n (farI e to k)) (farI e to (k + 1)) r = F at hgl hat hatq hset hkeep ⊢
      rw [pos (by omega), need_pos (by omega), need_pos (by omega), hat]
      by_cases hz : farI e to k r = 0
      · rw [npos hz]
        have hky := key k r hr hz
        have v1 : Option.bind (sel (pb (((k + 1 : Nat) : Int) = (1 : Int))) (need ((0 : Int) ≤ (r : Int) ∧ (r : Int) < (↑(List.length hs) : Int)) (need ((0 : Int) ≤ (to : Int) ∧ (to : Int) < (200 : Int)) (some (List.getD (List.getD hs r (Ty.dflt (Ty.arr (200 : Nat) Ty.bool))) to false)))) (some false)) (fun v => some v) = some (pb (k = 0 ∧ e r to)) := by
          by_cases hk : k = 0
          · rw [pos (by omega), need_pos (by omega), need_pos (by omega), hh r to hr ht, bind_t]
            congr 1
            exact pb_congr ⟨fun h => ⟨hk, h⟩, fun h => h.2⟩
          · rw [neg (by omega), bind_t, pb_f (fun h => hk h.1)]
        have v2 : ∀ {A : Type} (f : Bool → Option A), Option.bind (sel (pb (((k + 1 : Nat) : Int) = (1 : Int))) (need ((0 : Int) ≤ (r : Int) ∧ (r : Int) < (↑(List.length hs) : Int)) (need ((0 : Int) ≤ (to : Int) ∧ (to : Int) < (200 : Int)) (some (List.getD (List.getD hs r (Ty.dflt (Ty.arr (200 : Nat) Ty.bool))) to false)))) (some false)) f = f (pb (k = 0 ∧ e r to)) := by
          intro A f
          have hX : ∀ {X : Option Bool} {w : Bool}, Option.bind X (fun v => some v) = some w → Option.bind X f = f w := fun {X w} h => by
            cases X with
            | none => simp at h
            | some x => simp only [bind_t] at h ⊢; cases h; rfl
          exact hX v1
        rw [v2]
        by_cases h1 : k = 0 ∧ e r to
        · have hd := hky.2 (.inl h1)
          have e1 : (1 : Int) = ((k + 1 : Nat) : Int) := by omega
          rw [pb_t h1, sel_t, need_pos (by omega), need_pos (by omega), need64 (by omega) (by omega), htr hd, e1, hset hd, ← e1, cast_succ]
        · rw [pb_f h1, sel_f]
          have hin := loop_all (σ := (Int × Bool × Unit) × List Int × lookedD × Unit) (ρ := (((Int × Bool × Unit) × List Int × lookedD × Unit) ⊕ (((Int × Bool × Unit) × List Int × lookedD × Unit) ⊕ (List Int × Unit)))) n (fun q => (((q : Int), pb (∃ j, j < r ∧ dst e to j = k + 1), ()), F, (E, hs, ls, ()), ())) (fun q => ¬ (1 ≤ k ∧ e r q ∧ dst e to q = k)) (bad := Sum.inl (((r : Int) + 1, true, ()), List.set F r ((k + 1 : Nat) : Int), (E, hs, ls, ()), ())) (fin := Sum.inl (((r : Int) + 1, pb (∃ j, j < r ∧ dst e to j = k + 1), ()), F, (E, hs, ls, ()), ())) (B := fun (s2 : (Int × Bool × Unit) × List Int × lookedD × Unit) => sel (pb (s2.1.1 < (↑n : Int))) (Option.bind (sel (pb (((k + 1 : Nat) : Int) > (1 : Int))) (need ((0 : Int) ≤ (r : Int) ∧ (r : Int) < (↑(List.length s2.2.2.1.2.1) : Int)) (need ((0 : Int) ≤ s2.1.1 ∧ s2.1.1 < (200 : Int)) (some (List.getD (List.getD s2.2.2.1.2.1 r (Ty.dflt (Ty.arr (200 : Nat) Ty.bool))) (Int.toNat s2.1.1) false)))) (some false)) (fun (v1 : Bool) => Option.bind (sel v1 (need ((0 : Int) ≤ s2.1.1 ∧ s2.1.1 < (↑(List.length s2.2.1) : Int)) (need (Int.toNat s2.1.1 < List.length s2.2.1) (need (Fits Go.IntKind.i64 (((k + 1 : Nat) : Int) - (1 : Int))) (some (pb (List.getD s2.2.1 (Int.toNat s2.1.1) (0 : Int) = ((k + 1 : Nat) : Int) - (1 : Int))))))) (some false)) (fun (v2 : Bool) => sel v2 (need ((0 : Int) ≤ (r : Int) ∧ (r : Int) < (↑(List.length s2.2.1) : Int)) (need (r < List.length s2.2.1) (Option.bind (need (Fits Go.IntKind.i64 ((r : Int) + (1 : Int))) (some (Sum.inl (((r : Int) + (1 : Int), true, ()), List.set s2.2.1 r ((k + 1 : Nat) : Int), (s2.2.2.1.1, s2.2.2.1.2.1, s2.2.2.1.2.2.1, ()), ())))) (fun val => some (Sum.inr val))))) (need (Fits Go.IntKind.i64 (s2.1.1 + (1 : Int))) (some (Sum.inl ((s2.1.1 + (1 : Int), s2.1.2.1, ()), s2.2.1, (s2.2.2.1.1, s2.2.2.1.2.1, s2.2.2.1.2.2.1, ()), ()))))))) (Option.bind (need (Fits Go.IntKind.i64 ((r : Int) + (1 : Int))) (some (Sum.inl (((r : Int) + (1 : Int), s2.1.2.1, ()), s2.2.1, (s2.2.2.1.1, s2.2.2.1.2.1, s2.2.2.1.2.2.1, ()), ())))) (fun val1 => some (Sum.inr val1)))) (s0 := (((0 : Int), pb (∃ j, j < r ∧ dst e to j = k + 1), ()), F, (E, hs, ls, ()), ())) rfl ?_ ?_
          · have hin2 := hin
            refine Eq.trans hin2 ?_
            by_cases h2 : ∃ q, q < n ∧ 1 ≤ k ∧ e r q ∧ dst e to q = k
            · have hd := hky.2 (.inr h2)
              obtain ⟨q, hq, h3⟩ := h2
              rw [pb_f (fun h => h q hq h3), if_neg (by simp), htr hd, hset hd, cast_succ]
            · have hd : dst e to r ≠ k + 1 := fun h => (hky.1 h).elim h1 h2
              rw [pb_t (fun q hq h3 => h2 ⟨q, hq, h3⟩), if_pos rfl, hfa hd, ← hkeep hd, cast_succ]
          · intro q hq
            dsimp only
            simp only [Int.toNat_natCast]
            rw [pos (by omega)]
            have ek : ((k + 1 : Nat) : Int) - 1 = (k : Int) := by omega
            rw [ek]
            have nope : ¬ (1 ≤ k ∧ e r q ∧ dst e to q = k) → some (if pb (¬ (1 ≤ k ∧ e r q ∧ dst e to q = k)) = true then (Sum.inl ((((q + 1 : Nat) : Int), pb (∃ j, j < r ∧ dst e to j = k + 1), ()), F, (E, hs, ls, ()), ()) : ((Int × Bool × Unit) × List Int × lookedD × Unit) ⊕ (((Int × Bool × Unit) × List Int × lookedD × Unit) ⊕ (((Int × Bool × Unit) × List Int × lookedD × Unit) ⊕ (List Int × Unit)))) else Sum.inr (Sum.inl (((r : Int) + 1, true, ()), List.set F r ((k + 1 : Nat) : Int), (E, hs, ls, ()), ()))) = some (Sum.inl (((q : Int) + 1, pb (∃ j, j < r ∧ dst e to j = k + 1), ()), F, (E, hs, ls, ()), ())) := fun h => by rw [pb_t h, if_pos rfl, cast_succ]
            by_cases hk : 1 ≤ k
            · rw [pos (by omega), need_pos (by omega), need_pos (by omega), hh r q hr hq, bind_t]
              by_cases h2 : e r q
              · rw [pb_t h2, sel_t, need_pos (by omega), need_pos (by omega), need64 (by omega) (by omega), bind_t]
                by_cases h3 : List.getD F q 0 = (k : Int)
                · have h4 := (hatq q hq hk).1 h3
                  rw [pb_t h3, sel_t, need_pos (by omega), need_pos (by omega), need64 (by omega) (by omega), bind_t, pb_f (p := ¬ (1 ≤ k ∧ e r q ∧ dst e to q = k)) (fun h => h ⟨hk, h2, h4⟩), if_neg (by simp)]
                · rw [pb_f h3, sel_f, need64 (by omega) (by omega), nope (fun h => h3 ((hatq q hq hk).2 h.2.2))]
              · rw [pb_f h2, sel_f, bind_t, sel_f, need64 (by omega) (by omega), nope (fun h => h2 h.2.1)]
            · rw [neg (by omega), bind_t, sel_f, bind_t, sel_f, need64 (by omega) (by omega), nope (fun h => hk h.1)]
          · dsimp only
            rw [neg (by omega), need64 (by omega) (by omega), bind_t]
      · have hd : dst e to r ≠ k + 1 := fun h => hz (farI_zero.2 (by omega))
        rw [nneg hz, need64 (by omega) (by omega), hfa hd, ← hkeep hd, cast_succ]
    · dsimp only
      have e9 : gone (genR n (farI e to k)) (farI e to (k + 1)) n = genR n (farI e to (k + 1)) := by
        have := gone_all (p := genR n (farI e to k)) (f := farI e to (k + 1))
        rwa [genR_len] at this
      rw [neg (by omega), need64 (by omega) (by omega), bind_t, e9]
      rfl
    · obtain ⟨r, hr, h2⟩ := pb_iff.1 h
      have := dst_le (to := to) he hr
      omega
    · dsimp only
      rw [if_pos rfl]
      split <;> omega
end Go.Proofs

/-! Chapter 10: the cycle. -/
namespace Go.Proofs
open Go Go.Abs
set_option linter.unusedSimpArgs false
theorem loop_down {σ ρ γ : Type} {B : σ → Option (σ ⊕ ρ)} (f : Nat → γ → σ) (F : Nat → γ → ρ) (I : Nat → γ → Prop) (step : ∀ k x, I (k + 1) x → ∃ y, B (f (k + 1) x) = some (.inl (f k y)) ∧ I k y ∧ F (k + 1) x = F k y) (fin : ∀ x, I 0 x → B (f 0 x) = some (.inr (F 0 x))) : ∀ k x, I k x → loopC B (f k x) = some (F k x)
  | 0, x, h => by rw [loopC_eq, fin x h]
  | k + 1, x, h => by
    obtain ⟨y, h1, h2, h3⟩ := step k x h
    rw [loopC_eq, h1, h3]
    exact loop_down f F I step fin k y h2
open Classical in
/-- The next one of the way. -/
noncomputable def nextQ (e : Nat → Nat → Prop) (to at_ left : Nat) : Nat := if h : ∃ q, e at_ q ∧ dst e to q = left then Classical.choose (least h) else 0
theorem nextQ_is {e : Nat → Nat → Prop} {to at_ left : Nat} (h : ∃ q, e at_ q ∧ dst e to q = left) : (e at_ (nextQ e to at_ left) ∧ dst e to (nextQ e to at_ left) = left) ∧ ∀ q, e at_ q ∧ dst e to q = left → nextQ e to at_ left ≤ q := by
  unfold nextQ
  rw [dif_pos h]
  exact Classical.choose_spec (least h)
/-- The rest of the way. -/
noncomputable def cycT (e : Nat → Nat → Prop) (to : Nat) : Nat → Nat → List Int
  | _, 0 => []
  | at_, k + 1 => (nextQ e to at_ (k + 1) : Int) :: cycT e to (nextQ e to at_ (k + 1)) k
/-- Does a rule stand behind itself? -/
def Self (e : Nat → Nat → Prop) (n r : Nat) : Prop := r < n ∧ dst e r r ≠ 0
open Classical in
noncomputable def cyc (e : Nat → Nat → Prop) (n : Nat) : List Int :=
  if h : ∃ r, Self e n r then ((Classical.choose (least h) : Nat) : Int) :: cycT e (Classical.choose (least h)) (Classical.choose (least h)) (dst e (Classical.choose (least h)) (Classical.choose (least h)) - 1) else []
theorem cyc_none {e : Nat → Nat → Prop} {n : Nat} (h : ¬ ∃ r, Self e n r) : cyc e n = [] := by unfold cyc; rw [dif_neg h]
theorem cyc_some {e : Nat → Nat → Prop} {n r : Nat} (h : Self e n r) (h2 : ∀ q, q < r → ¬ Self e n q) : cyc e n = (r : Int) :: cycT e r r (dst e r r - 1) := by
  have hx : ∃ r, Self e n r := ⟨r, h⟩
  unfold cyc
  rw [dif_pos hx]
  obtain ⟨h3, h4⟩ := Classical.choose_spec (least hx)
  generalize Classical.choose (least hx) = v at h3 h4 ⊢
  have : v = r := by
    have h5 := h4 r h
    refine Classical.byContradiction fun hne => ?_
    exact h2 v (by omega) h3
  rw [this]
theorem cycT_len {e : Nat → Nat → Prop} {to : Nat} : ∀ k at_, (cycT e to at_ k).length = k
  | 0, _ => rfl
  | k + 1, at_ => by rw [cycT, List.length_cons, cycT_len k]
theorem q_cycle {n : Nat} {e : Nat → Nat → Prop} {E : List Em} {hs : List (List Bool)} {ls : List SpotD} (hl : hs.length = n) (hn : n ≤ 200) (he : ∀ r q, e r q → q < n) (hh : ∀ r q, r < n → q < n → List.getD (List.getD hs r (Ty.dflt (Ty.arr (200 : Nat) Ty.bool))) q false = pb (e r q)) :
    F_ford_looked_cycle ((E, hs, ls, ()), ()) = some (cyc e n, ()) := by
  unfold F_ford_looked_cycle
  simp only [toPb]
  simp only [hl]
  refine loop_one (σ := (Int × Unit) × lookedD × Unit)
    (fun s => ∃ r : Nat, s = (((r : Int), ()), (E, hs, ls, ()), ()) ∧ r ≤ n ∧ ∀ q, q < r → ¬ Self e n q)
    (fun s => n - Int.toNat s.1.1) ?_ _ ⟨0, rfl, Nat.zero_le _, fun q hq => by omega⟩
  rintro s ⟨r, rfl, hr, hno⟩
  dsimp only
  by_cases hlt : r < n
  · have hat : ∀ q, q < n → List.getD (genR n fun q => (dst e r q : Int)) q 0 = (dst e r q : Int) := fun q hq => genR_get hq
    have hfl : (genR n fun q => (dst e r q : Int)).length = n := genR_len
    have hdle : ∀ q, q < n → dst e r q ≤ n := fun q hq => dst_le he hq
    rw [pos (by omega), q_dist hl hn he hh hlt, bind_t]
    dsimp only
    generalize (genR n fun q => (dst e r q : Int)) = F at hat hfl ⊢
    simp only [Int.toNat_natCast, Nat.zero_add]
    rw [hat r hlt, need_pos (by omega), need_pos (by omega)]
    by_cases h0 : dst e r r = 0
    · refine .inl ⟨_, by rw [pos (by omega), need64 (by omega) (by omega)], ⟨r + 1, by rw [cast_succ], by omega, fun q hq => ?_⟩, by dsimp only; omega⟩
      by_cases eq : q = r
      · subst eq; exact fun h => h.2 h0
      · exact hno q (by omega)
    · refine .inr ?_
      have hd := hdle r hlt
      rw [neg (by omega), need_pos (by omega), need_pos (by omega), need64 (by omega) (by omega), cyc_some ⟨hlt, h0⟩ hno]
      have ed : (dst e r r : Int) - 1 = ((dst e r r - 1 : Nat) : Int) := by omega
      rw [ed]
      refine loop_down (γ := Nat × List Int) (fun left (x : Nat × List Int) => ((((left : Nat) : Int), (x.1 : Int), ()), x.2, F, (E, hs, ls, ()), ())) (fun left x => Sum.inr (x.2 ++ cycT e r x.1 left, ())) (fun left x => dst e r x.1 = left + 1 ∧ x.1 < n ∧ x.2.length + left ≤ 1000) ?_ ?_ (dst e r r - 1) (r, [(r : Int)]) ⟨by dsimp only; omega, hlt, by simp; omega⟩
      · rintro left ⟨at_, out⟩ ⟨h1, h2, h3⟩
        dsimp only at h1 h2 h3 ⊢
        obtain ⟨⟨n1, n2⟩, n3⟩ := nextQ_is (dst_prev h1 (by omega))
        have hc : cycT e r at_ (left + 1) = (nextQ e r at_ (left + 1) : Int) :: cycT e r (nextQ e r at_ (left + 1)) left := rfl
        rw [hc]
        generalize nextQ e r at_ (left + 1) = q0 at n1 n2 n3 ⊢
        have hq0 := he _ _ n1
        refine ⟨(q0, out ++ [(q0 : Int)]), ?_, ⟨n2, hq0, by simp; omega⟩, by dsimp only; rw [List.append_assoc]; rfl⟩
        rw [pos (by omega)]
        refine loop_up (σ := shapeD × List Int × List Int × lookedD × Unit) q0 (fun q => (((q : Int), (at_ : Int), ()), out, F, (E, hs, ls, ()), ())) rfl ?_ ?_
        · intro q hq
          dsimp only
          simp only [Int.toNat_natCast, hl]
          rw [pos (by omega), need_pos (by omega), need_pos (by omega), hh at_ q h2 (by omega)]
          by_cases g1 : e at_ q
          · rw [pb_t g1, sel_t, need_pos (by omega), need_pos (by omega), bind_t, hat q (by omega), pb_f (by
              intro h
              have := n3 q ⟨g1, by omega⟩
              omega), sel_f, need64 (by omega) (by omega), cast_succ]
          · rw [pb_f g1, sel_f, bind_t, sel_f, need64 (by omega) (by omega), cast_succ]
        · dsimp only
          simp only [Int.toNat_natCast, hl]
          have el : ((left + 1 : Nat) : Int) - 1 = (left : Int) := by omega
          rw [pos (by omega), need_pos (by omega), need_pos (by omega), hh at_ q0 h2 hq0, pb_t n1, sel_t, need_pos (by omega), need_pos (by omega), bind_t, hat q0 hq0, pb_t (by omega), sel_t, need_pos (by omega), need64 (by omega) (by omega), bind_t, el]
      · rintro ⟨at_, out⟩ ⟨h1, h2, h3⟩
        dsimp only
        rw [neg (by omega)]
        rw [show cycT e r at_ 0 = [] from rfl, List.append_nil]
  · refine .inr ?_
    rw [neg (by omega), cyc_none]
    rintro ⟨q, hq⟩
    exact hno q (by have := hq.1; omega) hq
end Go.Proofs

/-! Chapter 10: the verdicts. -/
namespace Go.Proofs
open Go Go.Abs
set_option linter.unusedSimpArgs false
/-- Is a rule a head of another? -/
def Hd (g : G) (r q : Nat) : Prop := r < g.length ∧ q < g.length ∧ List.getD (headP g r) q false = true
theorem Hd_lt (g : G) : ∀ r q, Hd g r q → q < g.length := fun _ _ h => h.2.1
theorem hd_at {g : G} {r q : Nat} (hr : r < g.length) (hq : q < g.length) : List.getD (headP g r) q false = pb (Hd g r q) := by
  apply Bool.eq_iff_iff.2
  rw [pb_iff]
  exact ⟨fun h => ⟨hr, hq, h⟩, fun h => h.2.2⟩
noncomputable def hsI (g : G) : List (List Bool) := genR g.length (headP g)
theorem hsI_len {g : G} : (hsI g).length = g.length := genR_len
theorem hsI_at {g : G} : ∀ r q, r < g.length → q < g.length → List.getD (List.getD (hsI g) r (Ty.dflt (Ty.arr (200 : Nat) Ty.bool))) q false = pb (Hd g r q) := fun r q hr hq => by
  have : List.getD (hsI g) r (Ty.dflt (Ty.arr (200 : Nat) Ty.bool)) = headP g r := genR_get hr
  rw [this, hd_at hr hq]
noncomputable def cycG (g : G) : List Int := cyc (Hd g) g.length
theorem q_cycG {g : G} (hg : RG g) : F_ford_looked_cycle (lookD g, ()) = some (cycG g, ()) := q_cycle hsI_len hg.len (Hd_lt g) hsI_at
/-- What there is to tell of a grammar. -/
noncomputable def vd10 (g : G) : SpotD × Int × List Int :=
  if (chkG g).2 ≠ 0 then ((chkG g).1, (chkG g).2, [])
  else if (cycG g).length > 0 then (zSpot, 100, cycG g)
  else if (loopsTo g g.length).length > 0 then (List.getD (loopsTo g g.length) 0 zSpot, 101, [])
  else (zSpot, 0, [])
theorem q_fCheck (g : G) : F_ford_Check ((g, ()), ()) = some ((vd10 g).1, (vd10 g).2.1, (vd10 g).2.2, ()) := by
  unfold F_ford_Check vd10
  simp only [toPb]
  rw [q_look, bind_t]
  unfold look10
  by_cases h : (chkG g).2 = 0
  · have hg := rg_of h
    rw [if_pos h, if_neg (show ¬ ((chkG g).2 ≠ 0) from fun h2 => h2 h)]
    dsimp only
    rw [npos rfl]
    show Option.bind (F_ford_looked_cycle (lookD g, ())) _ = _
    rw [q_cycG hg, bind_t]
    dsimp only
    by_cases h1 : (cycG g).length > 0
    · rw [pos (by omega), if_pos h1]
    · rw [neg (by omega), if_neg h1]
      show sel (pb ((↑(List.length (loopsTo g g.length)) : Int) > (0 : Int))) _ _ = _
      by_cases h2 : (loopsTo g g.length).length > 0
      · rw [pos (by omega), if_pos h2]
        show need ((0 : Int) ≤ (0 : Int) ∧ (0 : Int) < (↑(List.length (loopsTo g g.length)) : Int)) _ = _
        rw [need_pos (by omega)]
        rfl
      · rw [neg (by omega), if_neg h2]
  · rw [if_neg h, if_pos h]
    dsimp only
    rw [nneg h]
theorem eqbS (x y : SpotD) : Ty.eqb (Ty.st [Ty.int Go.IntKind.i64, Ty.int Go.IntKind.i64]) x y = pb (x = y) := by
  by_cases h : x = y
  · rw [pb_t h, h]; exact eqb_refl (t := Ty.st [Ty.int Go.IntKind.i64, Ty.int Go.IntKind.i64]) y rfl
  · rw [pb_f h]
    cases e : Ty.eqb (Ty.st [Ty.int Go.IntKind.i64, Ty.int Go.IntKind.i64]) x y with
    | false => rfl
    | true => exact absurd (eqb_eq (t := Ty.st [Ty.int Go.IntKind.i64, Ty.int Go.IntKind.i64]) e) h
def wkN (k : Int) (s : ByteArray) : NodeD := (k, (0 : Int), s, ((0 : Int), (0 : Int), (0 : Int), (0 : Int), ()), ())
def wkA : G := [(byt [115], [wkN 3 zStr], ())]
def wkB : G := [(byt [115], [wkN 6 (byt [115])], ())]
theorem wkA_c : chkP [wkN 3 zStr] = (0, 0) := by kernel_rfl
theorem wkB_c : chkP [wkN 6 (byt [115])] = (0, 0) := by kernel_rfl
theorem wkA_chk : (chkG wkA).2 = 0 := by
  have hn : nameB (byt [115]) = true := by kernel_rfl
  have g0 : ¬ badName wkA (rth wkA 0) := fun h => by
    have h2 : nameB (byt [115]) = false := h.1
    rw [hn] at h2; cases h2
  have hf : findR wkA (rth wkA 0).1 = some 0 := by
    show findR wkA (byt [115]) = some 0
    unfold findR wkA findF
    rw [if_pos rfl]
  have r0 : ¬ numR wkA (rth wkA 0).1 < ((0 : Nat) : Int) := by
    unfold numR
    rw [hf]
    decide
  have c0 : ¬ (chkP (rth wkA 0).2.1).2 ≠ 0 := fun h => h (congrArg (·.2) wkA_c)
  have l0 : ¬ (0 : Int) + ((rth wkA 0).2.1.length : Int) > 2048 := by
    show ¬ (0 : Int) + ((1 : Nat) : Int) > 2048
    decide
  unfold chkG
  rw [if_neg (by decide), if_neg (by decide)]
  show (restG wkA (scanG wkA 1 0 0)).2 = 0
  rw [scanG, if_neg g0, if_neg r0, if_neg c0, if_neg l0, scanG]
  show (spotE (unkG wkA wkA 0)).2 = 0
  have : unkG wkA wkA 0 = none := by
    show unkG wkA [(byt [115], [wkN 3 zStr], ())] 0 = none
    rw [unkG, unkN, if_neg (fun h => by have h2 : (3 : Int) = 6 := h.1; omega), unkN, unkG]
  rw [this]
  rfl
theorem wkB_find : findR wkB (byt [115]) = some 0 := by
  unfold findR wkB findF
  rw [if_pos rfl]
theorem wkB_chk : (chkG wkB).2 = 0 := by
  have hn : nameB (byt [115]) = true := by kernel_rfl
  have g0 : ¬ badName wkB (rth wkB 0) := fun h => by
    have h2 : nameB (byt [115]) = false := h.1
    rw [hn] at h2; cases h2
  have r0 : ¬ numR wkB (rth wkB 0).1 < ((0 : Nat) : Int) := by
    unfold numR
    rw [show findR wkB (rth wkB 0).1 = some 0 from wkB_find]
    decide
  have c0 : ¬ (chkP (rth wkB 0).2.1).2 ≠ 0 := fun h => h (congrArg (·.2) wkB_c)
  have l0 : ¬ (0 : Int) + ((rth wkB 0).2.1.length : Int) > 2048 := by
    show ¬ (0 : Int) + ((1 : Nat) : Int) > 2048
    decide
  unfold chkG
  rw [if_neg (by decide), if_neg (by decide)]
  show (restG wkB (scanG wkB 1 0 0)).2 = 0
  rw [scanG, if_neg g0, if_neg r0, if_neg c0, if_neg l0, scanG]
  show (spotE (unkG wkB wkB 0)).2 = 0
  have : unkG wkB wkB 0 = none := by
    show unkG wkB [(byt [115], [wkN 6 (byt [115])], ())] 0 = none
    rw [unkG, unkN, if_neg (fun h => by have h2 : findR wkB (byt [115]) = none := h.2; rw [wkB_find] at h2; cases h2), unkN, unkG]
  rw [this]
  rfl
theorem wkA_head : headP wkA 0 = noB := by
  show (valP wkA [wkN 3 zStr] 0).1 = noB
  rw [show valP wkA [wkN 3 zStr] 0 = fP wkA (nth [wkN 3 zStr] (0 : Nat)) zpiece zpiece from valOf_is _ _ _ _]
  show headsH (wkN 3 zStr) (numQ wkA (wkN 3 zStr)) zpiece.1 zpiece.1 zpiece.2.1 = noB
  unfold headsH
  rw [if_neg (by decide), if_neg (by decide), if_neg (by decide), if_neg (by decide)]
  rfl
theorem wkB_head : headP wkB 0 = List.set noB 0 true := by
  show (valP wkB [wkN 6 (byt [115])] 0).1 = _
  rw [show valP wkB [wkN 6 (byt [115])] 0 = fP wkB (nth [wkN 6 (byt [115])] (0 : Nat)) zpiece zpiece from valOf_is _ _ _ _]
  show headsH (wkN 6 (byt [115])) (numQ wkB (wkN 6 (byt [115]))) zpiece.1 zpiece.1 zpiece.2.1 = List.set noB 0 true
  unfold headsH
  rw [if_pos (by rfl)]
  have : numQ wkB (wkN 6 (byt [115])) = 0 := by
    unfold numQ
    rw [show findR wkB (wkN 6 (byt [115])).2.2.1 = some 0 from wkB_find]
    rfl
  rw [this]
theorem wkA_vd : (vd10 wkA).2.1 = 0 := by
  have hno : ∀ r q, ¬ Hd wkA r q := fun r q h => by
    have hr : r = 0 := by have h1 : r < 1 := h.1; omega
    have h2 := h.2.2
    subst hr
    rw [wkA_head, noB_at] at h2
    cases h2
  have hw : ∀ k r to, ¬ Way (Hd wkA) to k r := fun k r to h => by
    cases k with
    | zero => exact h
    | succ k =>
      cases k with
      | zero => exact hno _ _ h
      | succ k => obtain ⟨q, h1, _⟩ := h; exact hno _ _ h1
  have hc : cycG wkA = [] := cyc_none (fun ⟨r, h⟩ => h.2 (dst_none.2 fun k => hw k r r))
  have hl : loopsTo wkA 1 = [] := by
    show [] ++ loopsK (cN wkA) [wkN 3 zStr] 0 1 = []
    rw [loopsK, if_neg (fun h => by
      have h1 : (3 : Int) = 9 ∨ (3 : Int) = 10 ∨ (3 : Int) = 15 := h.1
      omega)]
    rfl
  unfold vd10
  rw [if_neg (fun h => h wkA_chk), hc, if_neg (by decide), show loopsTo wkA wkA.length = [] from hl, if_neg (by decide)]
theorem wkB_vd : (vd10 wkB).2.1 = 100 ∧ (vd10 wkB).2.2.length = 1 := by
  have h0 : Hd wkB 0 0 := ⟨by decide, by decide, by rw [wkB_head, setD_at (by rw [noB_len]; omega), if_pos rfl]⟩
  have hd : dst (Hd wkB) 0 0 = 1 := dst_one.2 h0
  have hc : cycG wkB = [0] := by
    unfold cycG
    rw [cyc_some (r := 0) ⟨by decide, by rw [hd]; decide⟩ (fun q hq => by omega), hd]
    rfl
  unfold vd10
  rw [if_neg (fun h => h wkB_chk), hc, if_pos (by decide)]
  exact ⟨rfl, rfl⟩
theorem q_lives10 : F_law10_lives () = some (true, ()) := by
  unfold F_law10_lives
  simp only [toPb]
  rw [show F_ford_Check (([(byt [115], [((3 : Int), (0 : Int), zStr, ((0 : Int), (0 : Int), (0 : Int), (0 : Int), ()), ())], ())], ()), ()) = _ from q_fCheck wkA, bind_t, show F_ford_Check (([(byt [115], [((6 : Int), (0 : Int), byt [115], ((0 : Int), (0 : Int), (0 : Int), (0 : Int), ()), ())], ())], ()), ()) = _ from q_fCheck wkB, bind_t]
  dsimp only
  obtain ⟨h1, h2⟩ := wkB_vd
  rw [wkA_vd, h1, h2, pos rfl, pb_t rfl, bind_t, sel_t, pb_t (show ((1 : Nat) : Int) = 1 from rfl), bind_t]
end Go.Proofs

/-! Chapter 10: heads and loops. -/
namespace Go.Proofs
open Go Go.Abs
set_option linter.unusedSimpArgs false
theorem q_mlist {m : List Bool} {n : Nat} {p : Nat → Prop} (hn : n ≤ 200) (h : ∀ i, i < n → List.getD m i false = pb (p i)) : F_ford_marks_list (m, (n : Int), ()) = some (listP n p, ()) := by
  unfold F_ford_marks_list
  simp only [toPb]
  refine loop_up (σ := (Int × Unit) × List Int × List Bool × Unit) n (fun i => (((i : Int), ()), listP i p, m, ())) rfl ?_ ?_
  · intro i hi
    have hl := listP_len (n := i) (p := p)
    dsimp only
    simp only [Int.toNat_natCast]
    rw [pos (by omega), need_pos (by omega), need_pos (by omega), h i hi, listP_succ]
    cases pb (p i) with
    | true => rw [sel_t, need_pos (by omega), need64 (by omega) (by omega), cast_succ, if_pos rfl]
    | false => rw [sel_f, need64 (by omega) (by omega), cast_succ, if_neg (by simp), List.append_nil]
  · dsimp only
    rw [neg (by omega)]
/-- The heads of a rule, told. -/
noncomputable def heads10 (g : G) (r : Int) : List Int := if lookE g r = 0 then listP g.length (Hd g (Int.toNat r)) else []
theorem q_fHeads (g : G) (r : Int) : F_ford_Heads ((g, ()), r, ()) = some (lookE g r, heads10 g r, ()) := by
  unfold F_ford_Heads
  simp only [toPb]
  rw [q_look, bind_t]
  unfold look10 heads10
  by_cases h : (chkG g).2 = 0
  · have hg := rg_of h
    rw [if_pos h]
    dsimp only
    rw [npos rfl, look_or h]
    by_cases h2 : lookE g r = 0
    · obtain ⟨_, h3, h4⟩ := lookE_ok h2
      rw [if_pos h2, if_pos h2]
      have hl : ((lookD g).2.1).length = g.length := hsI_len
      have hlt : Int.toNat r < g.length := by omega
      have hrow : List.getD (lookD g).2.1 (Int.toNat r) (Ty.dflt (Ty.arr (200 : Nat) Ty.bool)) = headP g (Int.toNat r) := genR_get hlt
      rw [need_pos (by omega), hrow, q_mlist hg.len (fun i hi => hd_at hlt hi), bind_t, h2]
    · rw [if_neg h2, if_neg h2, look_one h h2]
  · rw [if_neg h]
    dsimp only
    rw [nneg h, look_bad h, if_neg h]
/-- The loops, told. -/
noncomputable def loops10 (g : G) : List SpotD := if (chkG g).2 = 0 then loopsTo g g.length else []
theorem q_fLoops (g : G) : F_ford_Loops ((g, ()), ()) = some (loops10 g, (chkG g).2, ()) := by
  unfold F_ford_Loops
  simp only [toPb]
  rw [q_look, bind_t]
  unfold look10 loops10
  by_cases h : (chkG g).2 = 0
  · rw [if_pos h, if_pos h]
    dsimp only
    rw [npos rfl, h]
    rfl
  · rw [if_neg h, if_neg h]
    dsimp only
    rw [nneg h]
end Go.Proofs

/-! Chapter 10: a well-formed grammar's rules are all told, each behind its heads. -/
namespace Go.Proofs
open Go Go.Abs
set_option linter.unusedSimpArgs false
theorem way_snoc {e : Nat → Nat → Prop} {b c : Nat} (h : e b c) : ∀ {k a}, Way e b k a → Way e c (k + 1) a
  | 0, _, h1 => absurd h1 (fun h => h)
  | 1, _, h1 => ⟨b, h1, h⟩
  | k + 2, _, ⟨q, h1, h2⟩ => ⟨q, h1, way_snoc h h2⟩
theorem rt_way {e : Nat → Nat → Prop} {a b : Nat} (h : Rt e a b) : a = b ∨ ∃ k, Way e b k a := by
  induction h with
  | refl => exact .inl rfl
  | tail _ h2 ih =>
    rcases ih with rfl | ⟨k, hk⟩
    · exact .inr ⟨1, h2⟩
    · exact .inr ⟨k + 1, way_snoc h2 hk⟩
theorem way_rt {e : Nat → Nat → Prop} {b : Nat} : ∀ {k a}, Way e b k a → ∃ q, e a q ∧ Rt e q b
  | 0, _, h1 => absurd h1 (fun h => h)
  | 1, _, h1 => ⟨b, h1, Rt.refl b⟩
  | k + 2, _, ⟨q, h1, h2⟩ => by
    obtain ⟨q2, h3, h4⟩ := way_rt h2
    exact ⟨q, h1, (Rt.one h3).trans h4⟩
/-- A rule stands behind itself if a head of it leads back to it. -/
theorem way_back {e : Nat → Nat → Prop} {r q : Nat} (h1 : e r q) (h2 : Rt e q r) : ∃ k, Way e r k r := by
  rcases rt_way h2 with rfl | ⟨k, hk⟩
  · exact ⟨1, h1⟩
  · have hk1 : 1 ≤ k := by
      cases k with
      | zero => exact absurd hk (fun h => h)
      | succ k => omega
    exact ⟨k + 1, (way_succ hk1).2 ⟨q, h1, hk⟩⟩
theorem q_has10 (l : List Int) (n : Int) (h : l.length ≤ 1000000) : F_law10_has (l, n, ()) = some (pb (n ∈ l), ()) := by
  unfold F_law10_has
  simp only [toPb]
  refine (loop_all (σ := (Int × Unit) × Unit) l.length (fun i => (((i : Int), ()), ())) (fun i => List.getD l i 0 ≠ n) (bad := (true, ())) (fin := (false, ())) rfl ?_ ?_).trans ?_
  · intro i hi
    dsimp only
    simp only [Int.toNat_natCast]
    rw [pos (by omega), need_pos (by omega)]
    by_cases e : List.getD l i 0 = n
    · rw [pb_t e, sel_t, pb_f (fun h => h e), if_neg (by simp)]
    · rw [pb_f e, sel_f, need64 (by omega) (by omega), pb_t e, if_pos rfl, cast_succ]
  · dsimp only
    rw [neg (by omega)]
  · by_cases hm : n ∈ l
    · obtain ⟨k, hk, e⟩ := in_getD 0 hm
      rw [pb_t hm, pb_f (fun h => h k hk e), if_neg (by simp)]
    · rw [pb_f hm, pb_t (fun i hi e => hm (by rw [← e]; exact getD_in hi)), if_pos rfl]
end Go.Proofs
