/-
  No cell of these rows narrows 'for every input' (looked for: loops, veiled, ifaces, maps, wideKeys, modest, calm, conditions, laid).
  DERIVED. THE GIVEN ROWS OF THIS SEAT. 3 by the template 'for every input the law returns true; each argument reads behind the call as it read before'; 0 by the template 'total and deterministic' (their statements: YtnncmcdogmleiaaTotals.lean).
  GIVEN WITH THE SEED: the statements are not yours to turn. If you find one false, say at which input.
  Laid BY PROGRAM, IN A SANDBOX (cutbox-rows.mjs): the forced cells as the released guide's own fill.sh prints them over the translation 5f164bb548ebf30a… (all of the seat's roots in one cut). By AI agents, Wed Nov 11 2026. No macro, syntax, notation, axiom, sorry.
-/
import Derived.Test.YtnncmcdogmleiaaChecked
import GoSem.Claim
import GoSem.ClaimJoined
import GoSem.ClaimMapViews
import Derived.JoinedTies
import Derived.KernelRfl
namespace Go.Proofs.Ytnncmcdogmleiaa
/- THE CELL 'sum', in the pinned program and in every row, IS THE sha256 OF THE DUMP (.gsa) THAT YtnncmcdogmleiaaProg.lean LOADS. Nothing in Lean hashes anything: it is a label: what it is worth is what the hold of that sum in a sandbox is worth. -/
noncomputable def Try.pinned : Pinned := { name := "ytnncmcdogmleiaa", sum := "5f164bb548ebf30ab3b99688e29ec3238e86ac0cdce612b1f7ccab94a5139294", checked := Try.checked }
namespace Rows
def none {H : Type} : Left H := { results := [], args := [] }

/-- 'harrowlaw11.FirstRules': WHATEVER THE INPUT: true; the input reads as it did. -/
def firstRulesSpec : ChangeSpec := { name := "firstRules", fn := fun _ => fun
  | [d1, d2] => { results := [.lit (.bool true)], args := [d1, d2] }
  | _ => none }
def firstRulesRow : OpenClaim := { program := "ytnncmcdogmleiaa", sum := "5f164bb548ebf30ab3b99688e29ec3238e86ac0cdce612b1f7ccab94a5139294", func := "harrow/harrowlaw11.FirstRules", spec := "firstRules", unfollowed := true, recurses := true, apart := false }
def FirstRulesSaid : Prop := firstRulesRow.holds Try.pinned (OpenSpec.ofChange firstRulesSpec)

/-- ITS FALSE NEIGHBOUR: 'it returns false'. Refute it at one input. -/
def firstRulesWrong : ChangeSpec := { name := "firstRules", fn := fun _ => fun
  | [d1, d2] => { results := [.lit (.bool false)], args := [d1, d2] }
  | _ => none }
def FirstRulesWrongFalsely : Prop := firstRulesRow.holds Try.pinned (OpenSpec.ofChange firstRulesWrong)

/-- 'harrowlaw11.FirstPatterns': WHATEVER THE INPUT: true; the input reads as it did. -/
def firstPatternsSpec : ChangeSpec := { name := "firstPatterns", fn := fun _ => fun
  | [d1, d2, d3] => { results := [.lit (.bool true)], args := [d1, d2, d3] }
  | _ => none }
def firstPatternsRow : OpenClaim := { program := "ytnncmcdogmleiaa", sum := "5f164bb548ebf30ab3b99688e29ec3238e86ac0cdce612b1f7ccab94a5139294", func := "harrow/harrowlaw11.FirstPatterns", spec := "firstPatterns", unfollowed := true, recurses := true, apart := false }
def FirstPatternsSaid : Prop := firstPatternsRow.holds Try.pinned (OpenSpec.ofChange firstPatternsSpec)

/-- ITS FALSE NEIGHBOUR: 'it returns false'. Refute it at one input. -/
def firstPatternsWrong : ChangeSpec := { name := "firstPatterns", fn := fun _ => fun
  | [d1, d2, d3] => { results := [.lit (.bool false)], args := [d1, d2, d3] }
  | _ => none }
def FirstPatternsWrongFalsely : Prop := firstPatternsRow.holds Try.pinned (OpenSpec.ofChange firstPatternsWrong)

/-- 'harrowlaw11.FirstAlone': WHATEVER THE INPUT: true; the input reads as it did. -/
def firstAloneSpec : ChangeSpec := { name := "firstAlone", fn := fun _ => fun
  | [d1, d2, d3] => { results := [.lit (.bool true)], args := [d1, d2, d3] }
  | _ => none }
def firstAloneRow : OpenClaim := { program := "ytnncmcdogmleiaa", sum := "5f164bb548ebf30ab3b99688e29ec3238e86ac0cdce612b1f7ccab94a5139294", func := "harrow/harrowlaw11.FirstAlone", spec := "firstAlone", unfollowed := true, recurses := true, apart := false }
def FirstAloneSaid : Prop := firstAloneRow.holds Try.pinned (OpenSpec.ofChange firstAloneSpec)

/-- ITS FALSE NEIGHBOUR: 'it returns false'. Refute it at one input. -/
def firstAloneWrong : ChangeSpec := { name := "firstAlone", fn := fun _ => fun
  | [d1, d2, d3] => { results := [.lit (.bool false)], args := [d1, d2, d3] }
  | _ => none }
def FirstAloneWrongFalsely : Prop := firstAloneRow.holds Try.pinned (OpenSpec.ofChange firstAloneWrong)

/- THE SECOND FORM. 'bulk': how many values and letters a reading holds, each counted each time it is reached (what is shared counts as often as it is met; a slice's spare places count too). A statement '..UptoSaid' is the law's where the arguments, and the package variables that the reading takes, are together of bulk at most 1048576: NARROWER than '..Said'. Prove '..Said' where nothing that the law and all that it calls make is longer than what came in: it says more and counts as full. Else prove '..UptoSaid'. A law counts once. -/
mutual
def uptoBulk {H : Type} : DataW H → Nat
  | .lit (.string bytes) => bytes.length + 1
  | .lit _ => 1
  | .nil => 1
  | .ptr d => uptoBulk d + 1
  | .slice elems spare => uptoBulkAll elems + uptoBulkAll spare + 1
  | .agg parts => uptoBulkAll parts + 1
  | .iface _ d => uptoBulk d + 1
  | .map entries => uptoBulkEntries entries + 1
  | .held _ => 1
def uptoBulkAll {H : Type} : List (DataW H) → Nat
  | [] => 0
  | d :: r => uptoBulk d + uptoBulkAll r
def uptoBulkEntries {H : Type} : List (Lit × DataW H) → Nat
  | [] => 0
  | x :: r => uptoBulkEntry x + uptoBulkEntries r
def uptoBulkEntry {H : Type} : Lit × DataW H → Nat
  | (.string bytes, d) => bytes.length + uptoBulk d + 1
  | (_, d) => uptoBulk d + 1
 end
def uptoSmall : (H : Type) → List (DataW H) → Bool := fun _ ds => decide (uptoBulkAll ds ≤ 1048576)
def OpenSpec.upto (s : _root_.Go.ChangeSpec) : _root_.Go.OpenSpec := { _root_.Go.OpenSpec.ofChange s with cond := some uptoSmall }

/-- 'harrowlaw11.FirstRules', WHERE WHAT IT READS IS OF BULK AT MOST 1048576: true; the input reads as it did. -/
def firstRulesUptoRow : OpenClaim := { program := "ytnncmcdogmleiaa", sum := "5f164bb548ebf30ab3b99688e29ec3238e86ac0cdce612b1f7ccab94a5139294", func := "harrow/harrowlaw11.FirstRules", spec := "firstRules", unfollowed := true, recurses := true, apart := false, narrowed := true }
def FirstRulesUptoSaid : Prop := firstRulesUptoRow.holds Try.pinned (OpenSpec.upto firstRulesSpec)

/-- 'harrowlaw11.FirstPatterns', WHERE WHAT IT READS IS OF BULK AT MOST 1048576: true; the input reads as it did. -/
def firstPatternsUptoRow : OpenClaim := { program := "ytnncmcdogmleiaa", sum := "5f164bb548ebf30ab3b99688e29ec3238e86ac0cdce612b1f7ccab94a5139294", func := "harrow/harrowlaw11.FirstPatterns", spec := "firstPatterns", unfollowed := true, recurses := true, apart := false, narrowed := true }
def FirstPatternsUptoSaid : Prop := firstPatternsUptoRow.holds Try.pinned (OpenSpec.upto firstPatternsSpec)

/-- 'harrowlaw11.FirstAlone', WHERE WHAT IT READS IS OF BULK AT MOST 1048576: true; the input reads as it did. -/
def firstAloneUptoRow : OpenClaim := { program := "ytnncmcdogmleiaa", sum := "5f164bb548ebf30ab3b99688e29ec3238e86ac0cdce612b1f7ccab94a5139294", func := "harrow/harrowlaw11.FirstAlone", spec := "firstAlone", unfollowed := true, recurses := true, apart := false, narrowed := true }
def FirstAloneUptoSaid : Prop := firstAloneUptoRow.holds Try.pinned (OpenSpec.upto firstAloneSpec)

end Rows
end Go.Proofs.Ytnncmcdogmleiaa
