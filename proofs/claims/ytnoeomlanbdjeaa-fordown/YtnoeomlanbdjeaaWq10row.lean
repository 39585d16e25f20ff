/- Part of the proof of the law's row: YtnoeomlanbdjeaaWq10row. -/
import Derived.Test.YtnoeomlanbdjeaaWwC10
import Derived.Test.YtnoeomlanbdjeaaWq08c
import Derived.Test.YtnoeomlanbdjeaaRow
set_option linter.all false
set_option linter.unusedVariables false
set_option linter.unusedSimpArgs false
/-! The size of grammars that come in. -/
namespace Go.Proofs
open Go Go.Abs
theorem szG_of {x : tGrammar.Den} (h : Sz Try.prog tGrammar x) : SzG x.1 := by
 have h0 : Sz Try.prog (.sl 46 tRule) x.1 := by
  have h1 : Szs Try.prog [.sl 46 tRule] x := by
   have h2 : Sz Try.prog (.st [.sl 46 tRule]) x := h
   simpa only [Sz] using h2
  simp only [Szs] at h1
  exact h1.1
 simp only [Sz] at h0
 have hb : Try.prog.bytesOf 46 = 40 := by kernel_rfl
 rw [hb] at h0
 refine ⟨by have := h0.1; omega, fun r hr => ?_⟩
 have h3 : Szs Try.prog [.str, .sl 42 tNode] r := by
  have h4 : Sz Try.prog (.st [.str, .sl 42 tNode]) r := h0.2 r hr
  simpa only [Sz] using h4
 simp only [Szs, Sz] at h3
 have hn : Try.prog.bytesOf 42 = 64 := by kernel_rfl
 have h5 := h3.2.1.1
 rw [hn] at h5
 have h6 : (List.length r.2.1) * 64 ≤ 140737488351232 := h5
 omega
end Go.Proofs
