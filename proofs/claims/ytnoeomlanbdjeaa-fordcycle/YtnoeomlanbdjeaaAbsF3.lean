/- Part of the proof of the law's row: YtnoeomlanbdjeaaAbsF3. -/
import Derived.Test.YtnoeomlanbdjeaaAbsF2
import Derived.Maps.RangeRun
import Derived.Carry
set_option linter.all false
set_option linter.unusedVariables false
set_option linter.unusedSimpArgs false
namespace Go.Abs
open Go.RowKit
open Go.ChangeMaps (setBlock)

section
variable {P : Program} {S S' : Nat → Prop} {w w' : World}
theorem set_block_same {w : World} {b : Nat} (hb : b < w.heap.size) (o : Obj) : (setBlock w b o).heap[b]? = some o := by
  simp [setBlock, hb]
theorem set_block_other {w : World} {b i : Nat} (o : Obj) (h : i ≠ b) : (setBlock w b o).heap[i]? = w.heap[i]? := by
  simp [setBlock, Array.getElem?_setIfInBounds, Ne.symm h]
theorem grown_setBlock (w : World) (b : Nat) (o : Obj) : w.grownBy (setBlock w b o) (some b) :=
  ⟨rfl, rfl, rfl, by simp [setBlock], fun k _ hk => set_block_other o (fun e => hk (by rw [e]))⟩
theorem setObj_map {w : World} {b : Nat} {es : Array MapEntry} {n : Nat} (hb : w.heap[b]? = some (.map es n)) (o : Obj) : (setObj b o).run P w = .ok () (setBlock w b o) := by
  simp [setObj, Sem.run, hb, setBlock]
theorem sameBits_key {t : Ty} (h : t.keyB = true) {x : t.Den} {cx : List Value} (hx : Rep S w t x cx) : Instr.sameBits 10000 (toVal t cx) (toVal t cx) = true := by
  cases t with
  | int k => simp only [Rep] at hx; subst hx; simp [toVal, Instr.sameBits]
  | bool => simp only [Rep] at hx; subst hx; simp [toVal, Instr.sameBits]
  | str => simp only [Rep] at hx; subst hx; simp only [toVal, List.headD_cons, Instr.sameBits, bytes_eqb]; simp
  | _ => cases h
/-- 'm[k] = v'. -/
theorem update_ok {k e T : TypeId} {tk te : Ty} (hT : TyIs P (.map k e tk te) T) (hk : tk.keyB = true) {l : List (tk.Den × te.Den)} {es : Array MapEntry} (h : EntOk S w tk te l es) {b : Nat} (hb : w.heap[b]? = some (.map es es.size))
    {x : tk.Den} {cx : List Value} (hx : Rep S w tk x cx) {v : te.Den} {cv : List Value} (hv : Rep S w te v cv) :
    ∃ es' : Array MapEntry, (Instr.mapUpdate T (.map (some b)) (toVal tk cx) (toVal te cv)).run P w = .ok () (setBlock w b (.map es' es'.size)) ∧ EntOk S w tk te (mput (Ty.eqb tk) l x v) es' := by
  obtain ⟨h1, _, h2, h3⟩ := hT
  obtain ⟨d, hd1, hd2, hd3⟩ := key_desc hk h2
  rcases h.find hk h2 hx with ⟨g1, _, g3⟩ | ⟨j, e0, p, g1, g2, g3, g4, _, g6⟩
  · refine ⟨es.push { key := toVal tk cx, val := toVal te cv, born := es.size }, ?_, ?_⟩
    · simp only [Instr.mapUpdate, getObj, Sem.run_bind, Sem.run, run_underlying h1, hb, hd3, Result.andThen]
      simp only [Sem.run_pure, g1, Sem.run_bind, Result.andThen_ok, setObj_map hb, Array.size_push]
    · rw [g3]
      refine ⟨by simp [h.1], fun i y hi => ?_⟩
      rw [List.getElem?_append] at hi
      split at hi
      · obtain ⟨e1, k1, k2⟩ := h.2 i y hi
        refine ⟨e1, ?_, k2⟩
        rw [Array.getElem?_push, if_neg (by rw [h.1]; omega)]
        exact k1
      · rename_i hlt
        have hi2 : i = l.length := by
          have := (List.getElem?_eq_some_iff.1 hi).1
          simp at this
          omega
        subst hi2
        have hy : (x, v) = y := by simpa using hi
        subst hy
        exact ⟨_, by rw [Array.getElem?_push, if_pos h.1.symm], h.1, ⟨cx, hx, rfl⟩, cv, hv, rfl⟩
  · obtain ⟨e1, k1, k2, ⟨ck, k3, k4⟩, _⟩ := h.2 j p g3
    rw [g2] at k1
    simp only [Option.some.injEq] at k1
    subst k1
    have hck : ck = cx := by subst g4; exact key_val hk k3 hx
    subst hck
    have hst : ∀ w0 : World, (Instr.keyThatStays (((es[j]?).map (·.key)).getD (toVal tk ck)) (toVal tk ck)).run P w0 = .ok (toVal tk ck) w0 := fun w0 => by
      rw [g2, Option.map_some, Option.getD_some, k4]
      unfold Instr.keyThatStays
      rw [if_pos (sameBits_key hk hx)]
      rfl
    refine ⟨es.modify j fun e => { e with key := toVal tk ck, val := toVal te cv }, ?_, ?_⟩
    · simp only [Instr.mapUpdate, getObj, Sem.run_bind, Sem.run, run_underlying h1, hb, hd3, Result.andThen]
      simp only [Sem.run_pure, g1, Sem.run_bind, Result.andThen_ok, hst, setObj_map hb, Array.size_modify]
    · rw [g6]
      refine ⟨by simp [h.1], fun i y hi => ?_⟩
      rw [List.getElem?_set] at hi
      rw [Array.getElem?_modify]
      by_cases hji : j = i
      · subst hji
        rw [if_pos rfl] at hi
        rw [if_pos rfl, g2]
        split at hi
        · have hy : (p.1, v) = y := by simpa using hi
          subst hy
          exact ⟨_, rfl, k2, ⟨ck, k3, rfl⟩, cv, hv, rfl⟩
        · cases hi
      · rw [if_neg hji] at hi
        rw [if_neg hji]
        exact h.2 i y hi
/-! ### Going over a map -/
theorem rem_all {α : Type} (l : List α) : Rem l [] l := by
  refine ⟨List.range l.length, List.nodup_range, fun i => by simp, ?_⟩
  apply List.ext_getElem?
  intro i
  simp only [List.getElem?_map, List.getElem?_range']
  by_cases h : i < l.length
  · simp [h]
  · simp [h]
theorem rem_nil {α : Type} {l : List α} {seen : List Nat} {rem : List α} (h : Rem l seen rem) (h0 : ∀ i, i < l.length → i ∈ seen) : rem = [] := by
  obtain ⟨idx, _, h2, h3⟩ := h
  have : idx = [] := by
    cases idx with
    | nil => rfl
    | cons i r => exact absurd (h0 i ((h2 i).1 (by simp)).1) ((h2 i).1 (by simp)).2
  subst this
  simpa using h3
theorem rem_step {α : Type} {l : List α} {seen : List Nat} {rem : List α} (h : Rem l seen rem) {i : Nat} (hi : i < l.length) (hs : i ∉ seen) : ∃ x rem', l[i]? = some x ∧ rem.Perm (x :: rem') ∧ Rem l (seen ++ [i]) rem' := by
  obtain ⟨idx, h1, h2, h3⟩ := h
  have hm : i ∈ idx := (h2 i).2 ⟨hi, hs⟩
  obtain ⟨a, b, rfl⟩ := List.append_of_mem hm
  rw [List.map_append, List.map_cons] at h3
  obtain ⟨r1, r2, rfl, e1, e2⟩ := List.map_eq_append_iff.1 h3
  obtain ⟨x, r3, rfl, e3, e4⟩ := List.map_eq_cons_iff.1 e2
  have hnd : (a ++ b).Nodup ∧ i ∉ a ++ b := by
    have := (List.perm_middle.nodup_iff).1 h1
    rw [List.nodup_cons] at this
    exact ⟨this.2, this.1⟩
  refine ⟨x, r1 ++ r3, e3.symm, List.perm_middle, a ++ b, hnd.1, fun k => ?_, by rw [List.map_append, List.map_append, e1, e4]⟩
  have := h2 k
  simp only [List.mem_append, List.mem_cons, List.mem_singleton, not_or, List.not_mem_nil, or_false] at this ⊢
  constructor
  · intro hk
    have hki : k ≠ i := by rintro rfl; exact hnd.2 (by simpa using hk)
    have := this.1 (by rcases hk with h | h <;> simp [h])
    exact ⟨this.1, this.2, hki⟩
  · rintro ⟨g1, g2, g3⟩
    rcases this.2 ⟨g1, g2⟩ with h | h | h
    · exact .inl h
    · exact absurd h g3
    · exact .inr h
theorem born_at {tk te : Ty} {l : List (tk.Den × te.Den)} {es : Array MapEntry} (h : EntOk S w tk te l es) {i : Nat} {e : MapEntry} (hi : es[i]? = some e) : e.born = i := by
  have hlt : i < l.length := by
    have := (Array.getElem?_eq_some_iff.1 hi).1
    rw [h.1] at this
    exact this
  obtain ⟨e', h1, h2, _⟩ := h.2 i _ (List.getElem?_eq_getElem hlt)
  rw [hi] at h1
  simp only [Option.some.injEq] at h1
  rw [h1]
  exact h2
theorem born_nodup {tk te : Ty} {l : List (tk.Den × te.Den)} {es : Array MapEntry} (h : EntOk S w tk te l es) : (es.toList.map (·.born)).Nodup := by
  have : es.toList.map (·.born) = List.range es.size := by
    apply List.ext_getElem?
    intro i
    rw [List.getElem?_map]
    by_cases hi : i < es.size
    · have hb := born_at h (Array.getElem?_eq_getElem hi)
      rw [Array.getElem?_toList, Array.getElem?_eq_getElem hi, List.getElem?_range hi]
      simp [hb]
    · rw [List.getElem?_eq_none (by simp; omega), List.getElem?_eq_none (by simp; omega)]
      rfl
  rw [this]
  exact List.nodup_range
/-- The next entry. -/
theorem next_ok {tk te : Ty} {l : List (tk.Den × te.Den)} {es : Array MapEntry} (h : EntOk S w tk te l es) {r b last : Nat} {seen : Array Nat} (hr : w.heap[r]? = some (.mapIter (some b) es.size seen last)) (hb : w.heap[b]? = some (.map es es.size)) (hl : es.size ≤ last) (ty : TypeId) :
    ((∀ i, i < l.length → i ∈ seen.toList) ∧ (Instr.next (.pointer (some ⟨r, 0, none⟩)) false ty).run P w = .ok (.tuple #[.bool false]) w) ∨
    ∃ i e, i < l.length ∧ i ∉ seen.toList ∧ es[i]? = some e ∧ ∃ w1 : World, (w1 = w ∨ w1 = w.drew) ∧ (Instr.next (.pointer (some ⟨r, 0, none⟩)) false ty).run P w = .ok (.tuple #[.bool true, e.key, e.val]) (setBlock w1 r (.mapIter (some b) es.size (seen.push i) es.size)) := by
  have hold : ∀ x ∈ es.toList, x.born < es.size := fun x hx => by
    obtain ⟨i, hi, rfl⟩ := List.getElem_of_mem hx
    have hi' : i < es.size := by simpa using hi
    have := born_at h (i := i) (e := es.toList[i]) (by rw [Array.getElem?_eq_getElem hi']; simp)
    omega
  rcases run_next_at (P := P) w ty r b es.size last seen es es.size hr hb hold hl with ⟨h1, h2⟩ | ⟨e, h1, w1, h2, h3⟩
  · refine .inl ⟨fun i hi => ?_, h2⟩
    obtain ⟨e, g1, g2, _⟩ := h.2 i _ (List.getElem?_eq_getElem hi)
    have h0 : leftOf es seen = #[] := Array.eq_empty_of_size_eq_zero h1
    unfold leftOf at h0
    rw [Array.filter_eq_empty_iff] at h0
    have := h0 e (Array.mem_of_getElem? g1)
    rw [g2] at this
    simpa using this
  · have hm : e ∈ es ∧ (!seen.contains e.born) = true := by
      unfold leftOf at h1
      rw [Array.mem_toList_iff, Array.mem_filter] at h1
      exact h1
    obtain ⟨i, hi, he⟩ := Array.getElem_of_mem hm.1
    have hi2 : es[i]? = some e := by rw [Array.getElem?_eq_getElem hi, he]
    have hb2 := born_at h hi2
    refine .inr ⟨i, e, by rw [← h.1]; exact hi, ?_, hi2, w1, h2, by rw [h3, hb2]⟩
    have := hm.2
    rw [hb2] at this
    simpa using this
theorem entry_ok {tk te : Ty} {l : List (tk.Den × te.Den)} {es : Array MapEntry} (h : EntOk S w tk te l es) {r b i : Nat} {seen : Array Nat} {e : MapEntry} (hi : es[i]? = some e) :
    ∀ w' : World, w'.heap[r]? = some (.mapIter (some b) es.size (seen.push i) es.size) → w'.heap[b]? = some (.map es es.size) → (Instr.entry (.pointer (some ⟨r, 0, none⟩))).run P w' = .ok (.tuple #[e.key, e.val]) w' := by
  intro w' hr hb
  have hb2 := born_at h hi
  have := run_entry_at (P := P) w' r b es.size seen es es.size e (by rw [hb2]; exact hr) hb (by have := Array.mem_of_getElem? hi; simpa using this) (born_nodup h)
  exact this
end
end Go.Abs
