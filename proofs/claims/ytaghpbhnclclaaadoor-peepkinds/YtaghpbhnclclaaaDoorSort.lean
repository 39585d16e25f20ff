/- Part of the proof of the law's row: YtaghpbhnclclaaaDoorSort. -/
import Derived.Test.YtaghpbhnclclaaaDoorAbsY
import Derived.Shelf.Sort.Plain
import Derived.Shelf.Slices.In.SortNone
import Derived.Sort.OwnSortedInts
set_option linter.all false
set_option linter.unusedVariables false
set_option linter.unusedSimpArgs false
/-! The library's sort of whole numbers, as a contract. -/
namespace Go.Abs
open Go.RowKit Go.Shelf Go.Sort Go.Proofs
theorem sig_of_key {P : Program} {gl : List (Nat × AV)} {f : FuncId} {d : SigD} {F : d.X → Option d.out.Y} (key : ∀ x y, F x = some y → FnH P gl f (d.pre x) (d.heap x) (d.out.out y).1 (d.out.out y).2.1 (d.out.out y).2.2) : SigOk P gl f (gsig d F) := by
  constructor
  · intro R pre H k x hr
    simp only [gsig] at hr
    split at hr
    · rename_i x1 hx
      obtain ⟨y, h1, h2⟩ := Option.bind_eq_some_iff.1 hr
      exact ⟨_, _, _, SigD.dec_ok hx (key _ _ h1), h2⟩
    · cases hr
theorem row_ints {S : Nat → Prop} {w : World} {xs : List Int} {cs : List Value} : RepRow S w (.int .i64) xs cs ↔ cs = xs.map (Value.int .i64) := by
  constructor
  · rintro ⟨h1, h2⟩
    have hsz : Ty.sz (.int .i64) = 1 := rfl
    rw [hsz, Nat.mul_one] at h1
    apply List.ext_getElem?
    intro j
    rw [List.getElem?_map]
    by_cases hj : j < xs.length
    · have h3 := h2 j xs[j] (List.getElem?_eq_getElem hj)
      rw [hsz, Nat.mul_one] at h3
      have h3 : (cs.drop j).take 1 = [Value.int .i64 xs[j]] := by simpa only [Rep] using h3
      rw [List.getElem?_eq_getElem hj]
      have h4 : ((cs.drop j).take 1)[0]? = some (Value.int .i64 xs[j]) := by rw [h3]; rfl
      rw [List.getElem?_take_of_lt (by omega), List.getElem?_drop] at h4
      simpa using h4
    · rw [List.getElem?_eq_none (by omega), List.getElem?_eq_none (by omega)]
      rfl
  · rintro rfl
    have hsz : Ty.sz (.int .i64) = 1 := rfl
    refine ⟨by rw [hsz]; simp, fun j x hj => ?_⟩
    have hj' : j < xs.length := (List.getElem?_eq_some_iff.1 hj).1
    rw [hsz, Nat.mul_one]
    simp only [Rep]
    rw [List.drop_eq_getElem_cons (by simpa using hj')]
    simp only [List.take_succ_cons, List.take_zero, List.getElem_map]
    rw [(List.getElem?_eq_some_iff.1 hj).2]
theorem sort_fnH {P : Program} {ρ : Ren} {gl : List (Nat × AV)} {e : TypeId} (L : Lays.n189 P ρ) {xs : List Int} (hx : xs.length < 4611686018427387904) :
    FnH P gl (ρ.f 189) [.full 1000 (.int .i64)] [(1000, .row e (.int .i64) xs false)] (.tup []) [(1000, .row e (.int .i64) (xs.mergeSort fun a b => decide (a ≤ b)) false)] [(0, .full 1000 (.int .i64))] := by
  intro S w γ vs hS hG hm hH hl
  simp only [Matches, Match] at hm
  obtain ⟨v, vs', rfl, ⟨hv, A, n, c, hA⟩, rfl⟩ := hm
  have hob := hH.obj 1000 (.row e (.int .i64) xs false) (by simp [get])
  obtain ⟨⟨cs, how, hrep⟩, hSk⟩ := hob
  rw [row_ints] at hrep
  subst hrep
  have hsz : Ty.sz (.int .i64) = 1 := rfl
  rw [hsz] at how
  rw [← hv] at how hSk
  have hts : (xs.mergeSort fun a b => decide (a ≤ b)).length = xs.length := List.length_mergeSort ..
  generalize hT : (xs.mergeSort fun a b => decide (a ≤ b)) = ts at *
  have hpost : ∀ {S' : Nat → Prop} {w' : World}, ∀ i av, get [(0, AV.full 1000 (.int .i64))] i = some av → ∃ u, [v][i]? = some u ∧ Match S' w' γ av u := by
    intro S' w' i av hi
    simp only [get] at hi
    split at hi
    · rename_i e0
      subst e0
      simp only [Option.some.injEq] at hi
      subst hi
      exact ⟨v, rfl, by simp only [Match]; exact ⟨hv, A, n, c, hA⟩⟩
    · cases hi
  have hdis : ∀ {o : Ob} s s' o1 o2, get [(1000, o)] s = some o1 → get [(1000, o)] s' = some o2 → o1.live = true → o2.live = true → s ≠ s' → ∀ k, (γ s).ownBlock = some k → (γ s').ownBlock ≠ some k := by
    intro o s s' o1 o2 h1 h2 _ _ hne
    simp only [get] at h1 h2
    split at h1
    · split at h2
      · omega
      · cases h2
    · cases h1
  have hM : ∀ k, v.ownBlock = some k → Mof γ [(1000, .row e (.int .i64) xs false)] k := fun k hk => ⟨1000, .row e (.int .i64) xs false, by simp [get], rfl, by rw [← hv]; exact hk⟩
  rcases how.2 with ⟨hnil, h0⟩ | ⟨g, o, cap, cur, hvv, hg, hnc, hcm, hcs, htake⟩
  · subst hnil
    refine (Go.Proofs.Any.slices_Sort_int_none L none 0 w).mono ?_
    rintro e' w' ⟨rfl, rfl⟩
    have hxs : xs = [] := List.eq_nil_of_length_eq_zero h0
    have hts0 : ts = [] := List.eq_nil_of_length_eq_zero (by omega)
    subst hxs hts0
    refine ⟨_, S, γ, rfl, rfl, rfl, rfl, Nat.le_refl _, fun _ _ _ => rfl, fun _ h => h, fun _ h _ => .inl h, hS, ?_, ?_, ?_, hpost⟩
    · simp only [Match, Matches]; exact ⟨[], rfl, rfl⟩
    · exact hH
    · intro s o hs _ k hk
      simp only [get] at hs
      split at hs
      · rename_i e0
        subst e0
        rw [← hv] at hk
        simp [Value.ownBlock] at hk
      · cases hs
  · subst hvv
    have hgl : g < w.heap.size := (Array.getElem?_eq_some_iff.1 hg).1
    rw [Nat.mul_one] at hcs htake
    have hh : Holds (Value.int .i64) w g o xs.toArray := by
      intro j hj
      have hj : j < xs.length := by simpa using hj
      refine ⟨?_, by simp [World.frozen?, hg]⟩
      have := how.cells j (Value.int .i64 xs[j]) (by simp [hj])
      rw [this]
      simp [hj]
    refine (Go.Proofs.Any.slices_Sort_int L g o cap xs w hh hgl hx).mono ?_
    rintro e' w' ⟨rfl, n', os, rfl⟩
    rw [hT]
    have hgs : (Go.Sort.grow (putRow (Value.int .i64) (Go.Sort.ahead w n') g o ts.toArray) os).heap[g]? = some (.cells (putCells (Value.int .i64) o ts.toArray cur) e (0, 0)) := by
      rw [heap_grow_old _ _ (by simpa using hgl)]
      simp [putRow, mapBlock, Go.Sort.ahead, Array.getElem?_modify, hg, onCells]
    have hold : ∀ k, k < w.heap.size → k ≠ g → (Go.Sort.grow (putRow (Value.int .i64) (Go.Sort.ahead w n') g o ts.toArray) os).heap[k]? = w.heap[k]? := by
      intro k hk hne
      rw [heap_grow_old _ _ (by simpa using hk)]
      simp [putRow, mapBlock, Go.Sort.ahead, Array.getElem?_modify, Ne.symm hne]
    have hsize : w.heap.size ≤ (Go.Sort.grow (putRow (Value.int .i64) (Go.Sort.ahead w n') g o ts.toArray) os).heap.size := by simp [Go.Sort.grow, putRow, mapBlock, Go.Sort.ahead]
    have htk : ((putCells (Value.int .i64) o ts.toArray cur).toList.drop o).take (xs.length * 1) = ts.map (Value.int .i64) := by
      apply List.ext_getElem?
      intro j
      by_cases hj : j < xs.length
      · rw [List.getElem?_take_of_lt (by omega), List.getElem?_drop, Array.getElem?_toList]
        have : o + j < cur.size := by omega
        simp [putCells, this, hts, hj]
      · rw [List.getElem?_eq_none (by simp; omega), List.getElem?_eq_none (by simp; omega)]
    refine ⟨_, S, γ, rfl, rfl, rfl, rfl, hsize, ?_, fun _ h => h, fun _ h _ => .inl h, fun b hb => Nat.lt_of_lt_of_le (hS b hb) hsize, ?_, ?_, ?_, hpost⟩
    · intro b hb hnm
      exact hold b hb fun e0 => hnm (hM b (by rw [e0]; rfl))
    · simp only [Match, Matches]; exact ⟨[], rfl, rfl⟩
    · refine ⟨fun s o' hs => ?_, hdis⟩
      simp only [get] at hs
      split at hs
      · rename_i e0
        subst e0
        simp only [Option.some.injEq] at hs
        subst hs
        refine ⟨⟨ts.map (Value.int .i64), ?_, row_ints.2 rfl⟩, by rw [← hv]; exact hSk⟩
        rw [← hv, hsz, hts]
        exact ⟨by simp [hts], .inr ⟨g, o, cap, _, rfl, hgs, hnc, hcm, by simp only [Nat.mul_one]; simpa [putCells] using hcs, htk⟩⟩
      · cases hs
    · intro s o' hs _ k hk
      simp only [get] at hs
      split at hs
      · rename_i e0
        subst e0
        rw [← hv] at hk
        exact .inl (hM k hk)
      · cases hs
@[reducible] def sgSort (e : TypeId) : SigD := ⟨[.same (.full 1000 (.int .i64))], [(1000, .row e (.int .i64) false)], [0], ⟨[], [(1000, .row e (.int .i64) false)], [(0, .full 1000 (.int .i64))]⟩⟩
end Go.Abs
namespace Go.Proofs
open Go.Abs Go.Shelf
/-- What the library's sort gives. -/
noncomputable def F_slices_Sort_int_int (x : List Int × Unit) : Option (List Int × Unit) := need (x.1.length < 4611686018427387904) (some (x.1.mergeSort (fun a b => decide (a ≤ b)), ()))
theorem sort_sig {P : Program} {ρ : Ren} {gl : List (Nat × AV)} {e : TypeId} (L : Lays.n189 P ρ) {f : FuncId} (hf : f = ρ.f 189) : SigOk P gl f (gsig (sgSort e) F_slices_Sort_int_int) := by
  refine sig_of_key fun x y h => ?_
  obtain ⟨xs, ⟨⟩⟩ := x
  have hx : xs.length < 4611686018427387904 := by
    unfold F_slices_Sort_int_int need at h
    split at h
    · rename_i h1; exact h1
    · cases h
  have h : need (xs.length < 4611686018427387904) (some (xs.mergeSort (fun a b => decide (a ≤ b)), ())) = some y := h
  rw [need_pos hx] at h
  simp only [Option.some.injEq] at h
  subst h hf
  exact sort_fnH L hx
end Go.Proofs
