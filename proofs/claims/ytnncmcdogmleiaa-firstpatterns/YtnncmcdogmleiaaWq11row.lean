/- Part of the proof of the law's row: YtnncmcdogmleiaaWq11row. -/
import Derived.Test.YtnncmcdogmleiaaWwC11
import Derived.Test.YtnncmcdogmleiaaWq11k
import Derived.Test.YtnncmcdogmleiaaRow
set_option linter.all false
set_option linter.unusedVariables false
set_option linter.unusedSimpArgs false
/-! The size of grammars that come in; their sets. -/
namespace Go.Proofs
open Go Go.Abs
theorem w64_of_sz {x : Int} (h : IntKind.min .u64 ≤ x ∧ x ≤ IntKind.max .u64) : W64 x := ⟨h.1, h.2⟩
theorem szS {P : Program} {s : SetD} (h : Sz P tSet s) : CanS s := by
 have h1 : Szs P [.int .u64, .int .u64, .int .u64, .int .u64] s := by
  have h2 : Sz P (.st [.int .u64, .int .u64, .int .u64, .int .u64]) s := h
  simpa only [Sz] using h2
 simp only [Szs, Sz] at h1
 exact ⟨w64_of_sz h1.1, w64_of_sz h1.2.1, w64_of_sz h1.2.2.1, w64_of_sz h1.2.2.2.1⟩
theorem szN {P : Program} {n : NodeD} (h : Sz P tNode n) : CanS n.2.2.2.1 := by
 have h1 : Szs P [.int .i64, .int .i64, .str, tSet] n := by
  have h2 : Sz P (.st [.int .i64, .int .i64, .str, tSet]) n := h
  simpa only [Sz] using h2
 rw [Szs, Szs, Szs, Szs] at h1
 exact szS h1.2.2.2.1
theorem szP {P : Program} {T : TypeId} {p : List NodeD} (h : Sz P (.sl T tNode) p) : CanP p := by
 rw [Sz] at h
 exact fun n hn => szN (h.2 n hn)
theorem szR {P : Program} {T : TypeId} {r : RuleD} (h : Szs P [.str, .sl T tNode] r) : CanP r.2.1 := by
 rw [Szs, Szs] at h
 exact szP h.2.1
theorem szG_of {x : tGrammar.Den} (h : Sz Try.prog tGrammar x) : SzG x.1 ∧ CanG x.1 := by
 have h0 : Sz Try.prog (.sl 50 tRule) x.1 := by
  have h1 : Szs Try.prog [.sl 50 tRule] x := by
   have h2 : Sz Try.prog (.st [.sl 50 tRule]) x := h
   simpa only [Sz] using h2
  simp only [Szs] at h1
  exact h1.1
 rw [Sz] at h0
 have hb : Try.prog.bytesOf 50 = 40 := by kernel_rfl
 rw [hb] at h0
 have h3 : ∀ r : RuleD, r ∈ x.1 → Szs Try.prog [.str, .sl 61 tNode] r := fun r hr => by
  have h4 : Sz Try.prog (.st [.str, .sl 61 tNode]) r := h0.2 r hr
  simpa only [Sz] using h4
 refine ⟨⟨by have := h0.1; omega, fun r hr => ?_⟩, fun r hr => szR (h3 r hr)⟩
 have h3 := h3 r hr
 rw [Szs, Szs, Sz] at h3
 have hn : Try.prog.bytesOf 61 = 64 := by kernel_rfl
 have h5 : (List.length r.2.1) * Try.prog.bytesOf 61 ≤ 140737488351232 := by
  have := h3.2.1
  rw [Sz] at this
  exact this.1
 rw [hn] at h5
 omega
theorem szP_of {p : List NodeD} (h : Sz Try.prog (.sl 61 tNode) p) : (p.length + 1) * 64 ≤ 140737488355328 ∧ CanP p := by
 refine ⟨?_, szP h⟩
 rw [Sz] at h
 have hn : Try.prog.bytesOf 61 = 64 := by kernel_rfl
 have h5 : (List.length p) * Try.prog.bytesOf 61 ≤ 140737488351232 := h.1
 rw [hn] at h5
 omega
end Go.Proofs
