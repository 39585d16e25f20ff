/- Part of the proof of the law's row: YtaghpbhnclclaaaDoorLaid. -/
import Derived.Test.YtaghpbhnclclaaaDoorRow
import Derived.Handed
import Derived.ChangeVars
set_option linter.all false
set_option linter.unusedVariables false
set_option linter.unusedSimpArgs false
namespace Go.Abs
open Go.RowKit
/-- An array of integers that reads as such a datum holds these. -/
theorem laid_ints {H : Type} {enc : TypeId × Value → H} {P : Program} {w : World} {base : Nat} {sp : Nat → Bool} {held : Bool} {fuel n : Nat} {T e : TypeId} {l : List Value} {vals : List Int} {p : List MemPlace}
    (ht : P.underlying T = some (.array n e)) (he : P.underlying e = some (.int .i64)) (hce : P.cellsOf e = 1) (hcT : P.cellsOf T = n)
    (h : DataW.trod enc P w base sp held fuel T l = some (.agg (vals.map fun v => .lit (.int .i64 v)), p)) : l = vals.map fun v => .int .i64 v := by
  obtain ⟨xs, m, _, hxx, hl, hxl, hx⟩ := DataW.trod_array ht h
  simp only [Prod.mk.injEq, DataW.agg.injEq] at hxx
  have hv := hxx.1
  have hvl : vals.length = n := by
    have := congrArg List.length hv
    simpa [hxl] using this
  rw [hcT] at hl
  apply List.ext_getElem?
  intro i
  rcases Nat.lt_or_ge i n with hi | hi
  · have h1 := hx i hi
    rw [hce, Nat.mul_one, List.getElem?_eq_getElem (by omega)] at h1
    obtain ⟨k, h2, h3, _⟩ := DataW.trod_int he h1
    have h4 : l[i]'(by omega) = .int .i64 k := by
      rw [List.drop_eq_getElem_cons (by omega), List.take_succ_cons] at h2
      injection h2
    have h5 := congrArg (fun l => l[i]?) hv
    simp only [List.getElem?_map] at h5
    rw [List.getElem?_eq_getElem (by omega), List.getElem?_eq_getElem (by omega)] at h5
    simp only [Option.map_some, Option.some.injEq, h3, DataW.lit.injEq, Lit.int.injEq, true_and] at h5
    rw [List.getElem?_map, List.getElem?_eq_getElem (by omega), List.getElem?_eq_getElem (by omega), h4, Option.map_some, h5]
  · rw [List.getElem?_eq_none (by omega), List.getElem?_eq_none (by simp; omega)]
theorem trod_ints {P : Program} {W : World} {T e : TypeId} {n : Nat} {vals : List Int} {name : String} {cells : Array Value} {d : DataW Unit} {g : Nat} (hg : P.globalNamed name = some g) (hT : (P.globals[g]?).map (·.type) = some T)
    (ht : P.underlying T = some (.array n e)) (he : P.underlying e = some (.int .i64)) (hce : P.cellsOf e = 1) (hcT : P.cellsOf T = n) (hd : d = .agg (vals.map fun v => .lit (.int .i64 v))) (hc : cells.toList = vals.map fun v => .int .i64 v) (h : laidMet P [(name, d)] W) : W.var? P name = some cells := by
  obtain ⟨ps, ⟨g', t, cs, fuel, p, q, hg', ht', hvar, hd', _, _⟩, _⟩ := h
  rw [hg] at hg'
  simp only [Option.some.injEq] at hg'
  subst hg'
  rw [hT] at ht'
  simp only [Option.some.injEq] at ht'
  subst ht'
  rw [hvar]
  congr 1
  apply Array.toList_inj.1
  rw [hc]
  subst hd
  exact laid_ints ht he hce hcT hd'
/-- A package variable that is laid as data without slices. -/
theorem gok_one {P : Program} {W : World} {name : String} {g : Nat} {cells : Array Value} {t : Ty} {x : t.Den} (hg : P.globalNamed name = some g) (hf : t.flat = true) (hz : 0 < t.sz) (hc : cells.toList = flatCells t x) (h : W.var? P name = some cells) : GOk [(g, .rptr t x)] (fun b => b < W.heap.size) W := by
  intro g' av hget
  simp only [get] at hget
  split at hget
  · rename_i e
    subst e
    simp only [Option.some.injEq] at hget
    subst hget
    have hcell := fun i => World.var?_cell hg h i
    have hrep : Rep (fun b => b < W.heap.size) W t x cells.toList := by rw [hc]; exact flat_rep hf
    refine ⟨rfl, ?_⟩
    simp only [Match]
    refine ⟨_, cells.toList, rfl, rfl, ?_, fun k u hk => ?_, hrep⟩
    · have h0 : 0 < cells.size := by rw [← Array.length_toList, hrep.len]; exact hz
      have := hcell 0
      rw [Array.getElem?_eq_getElem h0] at this
      exact World.block_lt_of_cell? W _ this
    · rw [Nat.zero_add, hcell k, ← Array.getElem?_toList]
      exact hk
  · cases hget
end Go.Abs
