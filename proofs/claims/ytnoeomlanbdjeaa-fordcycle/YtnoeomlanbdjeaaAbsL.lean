/- Part of the proof of the law's row: YtnoeomlanbdjeaaAbsL. -/
import Derived.Test.YtnoeomlanbdjeaaAbsK
import Derived.Great.BuildSlice
set_option linter.all false
set_option linter.unusedVariables false
set_option linter.unusedSimpArgs false
namespace Go.Abs
open Go.RowKit

section
variable {P : Program} {S : Nat → Prop} {w : World} {γ : Nat → Value} {Γ : Env} {w0 : World} {M S0 : Nat → Prop} {st : St} {a : Act}

/-- A row of the state's own, or a piece of it, as data: what is read lies in its block, or in 'S'. -/
theorem own_rep (hc : Core w0 M S0 S γ st a w) {s : Nat} {e : TypeId} {t : Ty} {xs : List t.Den} {f : Bool} (hs : get st.heap s = some (.row e t xs f)) {off n : Nat} {v : Value} (hm : Match S w γ (.own s t off n) v) (hle : off + n ≤ xs.length) :
    Rep (fun b => S b ∨ Blk (γ s) b) w (.sl e t) ((xs.drop off).take n) [v] := by
  have hlen : ((xs.drop off).take n).length = n := by rw [List.length_take, List.length_drop]; omega
  obtain ⟨⟨⟨cs, ho, hl, hr⟩, _⟩, _⟩ := hc.obj s _ hs
  simp only [Match] at hm
  simp only [Rep]
  rcases hm with ⟨rfl, rfl, hg, rfl⟩ | ⟨g, o, m, cap, hg, hoc, p, rfl, hp, hA⟩
  · exact ⟨none, 0, by simp, by simp, fun h => absurd h (by simp)⟩
  · have hcm : cap ≤ maxLen := by
      rw [hg] at ho
      rcases ho.2 with ⟨h1, _⟩ | ⟨g2, o2, cap2, cur, h1, _, _, h3, _⟩
      · cases h1
      · injection h1 with _ _ h4; omega
    refine ⟨some ⟨g, p, none⟩, cap - off, by rw [hlen], by rw [hlen]; omega, fun hpos => ?_⟩
    rw [hlen] at hpos
    obtain rfl := hA (by omega)
    rw [hg] at ho
    refine ⟨_, rfl, rfl, .inr (by rw [hg]; exact blk_at), fun j x hj => ?_⟩
    have hj' : xs[off + j]? = some x := by
      rw [List.getElem?_take, List.getElem?_drop] at hj
      split at hj
      · exact hj
      · cases hj
    have h1 := hr (off + j) x hj'
    refine ⟨_, h1.len, ?_, h1.mono (fun _ h => .inl h) (fun _ _ => rfl)⟩
    intro k v hk
    have h2 := rangeAt_part (k := (off + j) * t.sz) (n := t.sz) (own_cellAt ho) k v hk
    rw [show o + off * t.sz + (j * t.sz + k) = o + (off + j) * t.sz + k by rw [Nat.add_mul]; omega]
    exact h2

theorem repRow_of {t : Ty} : ∀ {xs : List t.Den} {cs : List (List Value)}, xs.length = cs.length → (∀ (j : Nat) (x : t.Den) (c : List Value), xs[j]? = some x → cs[j]? = some c → Rep S w t x c) → RepRow S w t xs cs.flatten
  | [], [], _, _ => ⟨by simp, fun j x h => by simp at h⟩
  | x :: xs, c :: cs, hl, h => by
    have hc : c.length = t.sz := (h 0 x c rfl rfl).len
    obtain ⟨h1, h2⟩ := repRow_of (xs := xs) (cs := cs) (by simpa using hl) (fun j x' c' hx hc' => h (j + 1) x' c' (by simpa using hx) (by simpa using hc'))
    refine ⟨by simp [h1, hc, Nat.add_mul]; omega, fun j x' hj => ?_⟩
    cases j with
    | zero =>
      simp at hj
      subst hj
      have := h 0 x c rfl rfl
      simp only [List.flatten_cons, Nat.zero_mul, List.drop_zero]
      rw [← hc, List.take_left]
      exact this
    | succ j =>
      have := h2 j x' (by simpa using hj)
      rw [List.flatten_cons, Nat.add_mul, Nat.one_mul, Nat.add_comm, ← hc, List.drop_append, List.drop_of_length_le (by omega), List.nil_append, hc, show t.sz + j * t.sz - t.sz = j * t.sz by omega]
      exact this
  | [], _ :: _, hl, _ => by simp at hl
  | _ :: _, [], hl, _ => by simp at hl
theorem RepRow.append {t : Ty} {xs ys : List t.Den} {cs ds : List Value} (h : RepRow S w t xs cs) (k : RepRow S w t ys ds) : RepRow S w t (xs ++ ys) (cs ++ ds) := by
  refine ⟨by rw [List.length_append, List.length_append, h.1, k.1, Nat.add_mul], fun j x hj => ?_⟩
  rcases Nat.lt_or_ge j xs.length with hlt | hge
  · rw [List.getElem?_append_left hlt] at hj
    have hb : j * t.sz + t.sz ≤ cs.length := by rw [h.1, ← Nat.succ_mul]; exact Nat.mul_le_mul_right _ hlt
    rw [List.drop_append_of_le_length (by omega), List.take_append_of_le_length (by rw [List.length_drop]; omega)]
    exact h.2 j x hj
  · rw [List.getElem?_append_right hge] at hj
    have := k.2 _ x hj
    rw [List.drop_append, List.drop_of_length_le (by rw [h.1]; exact Nat.mul_le_mul_right _ hge), List.nil_append, h.1, ← Nat.sub_mul]
    exact this
theorem RepRow.take {t : Ty} {xs : List t.Den} {cs : List Value} (h : RepRow S w t xs cs) (n : Nat) (hn : n ≤ xs.length) : RepRow S w t (xs.take n) (cs.take (n * t.sz)) := by
  have hb : n * t.sz ≤ cs.length := by rw [h.1]; exact Nat.mul_le_mul_right _ hn
  refine ⟨by rw [List.length_take, List.length_take]; rw [Nat.min_eq_left hb, Nat.min_eq_left hn], fun j x hj => ?_⟩
  rw [List.getElem?_take] at hj
  split at hj
  · rename_i hlt
    have := h.2 j x hj
    have hb2 : j * t.sz + t.sz ≤ n * t.sz := by rw [← Nat.succ_mul]; exact Nat.mul_le_mul_right _ hlt
    rw [List.drop_take, List.take_take, Nat.min_eq_left (by omega)]
    exact this
  · cases hj
theorem RepRow.one {t : Ty} {xs : List t.Den} {cs : List Value} (h : RepRow S w t xs cs) : ∀ u ∈ cs, u.oneCell' = true := by
  intro u hu
  obtain ⟨i, hi, rfl⟩ := List.mem_iff_getElem.1 hu
  have hsz : 0 < t.sz := by
    rcases Nat.eq_zero_or_pos t.sz with h0 | h0
    · rw [h.1, h0, Nat.mul_zero] at hi; omega
    · exact h0
  have hj : i / t.sz < xs.length := by
    rw [Nat.div_lt_iff_lt_mul hsz, ← h.1]; exact hi
  have hr := h.2 (i / t.sz) _ (List.getElem?_eq_getElem hj)
  refine hr.one _ ?_
  have hm : i % t.sz < t.sz := Nat.mod_lt _ hsz
  have hdm := Nat.div_add_mod i t.sz
  rw [Nat.mul_comm] at hdm
  have : ((cs.drop (i / t.sz * t.sz)).take t.sz)[i % t.sz]? = some cs[i] := by
    rw [List.getElem?_take, if_pos hm, List.getElem?_drop, hdm, List.getElem?_eq_getElem hi]
  exact List.mem_of_getElem? this
/-- The cells of a slice that is read, as one list. -/
theorem cells_of_rep {e : TypeId} {t : Ty} {ys : List t.Den} {A : Option Addr} {n c : Nat} (h : Rep S w (.sl e t) ys [.slice A n c]) (hp : 0 < ys.length) : n = ys.length ∧ ∃ ad ds, A = some ad ∧ (∀ j u, ds[j]? = some u → w.cell? (ad.add j) = some u) ∧ RepRow S w t ys ds := by
  simp only [Rep] at h
  obtain ⟨A', c', e1, hc, hx⟩ := h
  simp only [List.cons.injEq, Value.slice.injEq, and_true] at e1
  obtain ⟨rfl, rfl, rfl⟩ := e1
  obtain ⟨ad, rfl, hsp, hS, hel⟩ := hx hp
  have hch : ∀ j : Fin ys.length, ∃ us : List Value, us.length = t.sz ∧ (∀ k v, us[k]? = some v → w.cell? ⟨ad.block, ad.off + (j.1 * t.sz + k), none⟩ = some v) ∧ Rep S w t ys[j.1] us := fun j => hel j.1 _ (List.getElem?_eq_getElem j.2)
  obtain ⟨F, hF⟩ := Classical.axiomOfChoice hch
  have hrow : RepRow S w t ys ((List.ofFn F).flatten) := repRow_of (by simp) (fun j x c hx hc => by
    have hj : j < ys.length := (List.getElem?_eq_some_iff.1 hx).1
    rw [List.getElem?_eq_getElem hj] at hx
    rw [List.getElem?_eq_getElem (by simpa using hj), List.getElem_ofFn] at hc
    simp only [Option.some.injEq] at hx hc
    subst hx hc
    exact (hF ⟨j, hj⟩).2.2)
  refine ⟨rfl, ad, _, rfl, fun i u hi => ?_, hrow⟩
  have hlt : i < ((List.ofFn F).flatten).length := (List.getElem?_eq_some_iff.1 hi).1
  have hsz : 0 < t.sz := by
    rcases Nat.eq_zero_or_pos t.sz with h0 | h0
    · rw [hrow.1, h0, Nat.mul_zero] at hlt; omega
    · exact h0
  have hj : i / t.sz < ys.length := by rw [Nat.div_lt_iff_lt_mul hsz, ← hrow.1]; exact hlt
  have hm : i % t.sz < t.sz := Nat.mod_lt _ hsz
  have hdm := Nat.div_add_mod i t.sz
  rw [Nat.mul_comm] at hdm
  obtain ⟨h1, h2, _⟩ := hF ⟨i / t.sz, hj⟩
  rw [add_spot hsp]
  have hpick : (F ⟨i / t.sz, hj⟩)[i % t.sz]? = some u := by
    have hflat : ∀ (n : Nat) (G : Fin n → List Value) (_ : ∀ j, (G j).length = t.sz) (q r : Nat) (hq : q < n) (_ : r < t.sz), ((List.ofFn G).flatten)[q * t.sz + r]? = (G ⟨q, hq⟩)[r]? := by
      intro n
      induction n with
      | zero => intro G _ q r hq; omega
      | succ n ih =>
        intro G hG q r hq hr
        rw [List.ofFn_succ, List.flatten_cons]
        cases q with
        | zero =>
          rw [Nat.zero_mul, Nat.zero_add, List.getElem?_append_left (by rw [hG]; exact hr)]
          rfl
        | succ q =>
          rw [List.getElem?_append_right (by rw [hG, Nat.add_mul]; omega), hG, show (q + 1) * t.sz + r - t.sz = q * t.sz + r by rw [Nat.add_mul]; omega]
          exact ih (fun j => G j.succ) (fun j => hG _) q r (by omega) hr
    have := hflat ys.length F (fun j => (hF j).1) (i / t.sz) (i % t.sz) hj hm
    rw [hdm, hi] at this
    exact this.symm
  have := h2 _ u hpick
  rw [show (⟨i / t.sz, hj⟩ : Fin ys.length).1 = i / t.sz from rfl, hdm] at this
  exact this
end
end Go.Abs
