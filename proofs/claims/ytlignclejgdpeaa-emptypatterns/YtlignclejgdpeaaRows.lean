/-
  No cell of these rows narrows 'for every input' (looked for: loops, veiled, ifaces, maps, wideKeys, modest, calm, conditions, laid).
  DERIVED. THE GIVEN ROWS OF THIS SEAT. 3 by the template 'for every input the law returns true; each argument reads behind the call as it read before'; 0 by the template 'total and deterministic' (their statements: YtlignclejgdpeaaTotals.lean).
  GIVEN WITH THE SEED: the statements are not yours to turn. If you find one false, say at which input.
  Laid BY PROGRAM, IN A SANDBOX (cutbox-rows.mjs): the forced cells as the released guide's own fill.sh prints them over the translation 5fea2dd4f9df241b… (all of the seat's roots in one cut). By AI agents, Wed Nov 11 2026. No macro, syntax, notation, axiom, sorry.
-/
import Derived.Test.YtlignclejgdpeaaChecked
import GoSem.Claim
import GoSem.ClaimJoined
import GoSem.ClaimMapViews
import Derived.JoinedTies
import Derived.KernelRfl
namespace Go.Proofs.Ytlignclejgdpeaa
/- THE CELL 'sum', in the pinned program and in every row, IS THE sha256 OF THE DUMP (.gsa) THAT YtlignclejgdpeaaProg.lean LOADS. Nothing in Lean hashes anything: it is a label: what it is worth is what the hold of that sum in a sandbox is worth. -/
noncomputable def Try.pinned : Pinned := { name := "ytlignclejgdpeaa", sum := "5fea2dd4f9df241b597b367473c131cde3615082e85b79784459efe1f0b09914", checked := Try.checked }
namespace Rows
def none {H : Type} : Left H := { results := [], args := [] }

/-- 'harrowlaw09.EmptyRules': WHATEVER THE INPUT: true; the input reads as it did. -/
def emptyRulesSpec : ChangeSpec := { name := "emptyRules", fn := fun _ => fun
  | [d1, d2] => { results := [.lit (.bool true)], args := [d1, d2] }
  | _ => none }
def emptyRulesRow : OpenClaim := { program := "ytlignclejgdpeaa", sum := "5fea2dd4f9df241b597b367473c131cde3615082e85b79784459efe1f0b09914", func := "harrow/harrowlaw09.EmptyRules", spec := "emptyRules", unfollowed := true, recurses := true, apart := false }
def EmptyRulesSaid : Prop := emptyRulesRow.holds Try.pinned (OpenSpec.ofChange emptyRulesSpec)

/-- ITS FALSE NEIGHBOUR: 'it returns false'. Refute it at one input. -/
def emptyRulesWrong : ChangeSpec := { name := "emptyRules", fn := fun _ => fun
  | [d1, d2] => { results := [.lit (.bool false)], args := [d1, d2] }
  | _ => none }
def EmptyRulesWrongFalsely : Prop := emptyRulesRow.holds Try.pinned (OpenSpec.ofChange emptyRulesWrong)

/-- 'harrowlaw09.EmptyPatterns': WHATEVER THE INPUT: true; the input reads as it did. -/
def emptyPatternsSpec : ChangeSpec := { name := "emptyPatterns", fn := fun _ => fun
  | [d1, d2] => { results := [.lit (.bool true)], args := [d1, d2] }
  | _ => none }
def emptyPatternsRow : OpenClaim := { program := "ytlignclejgdpeaa", sum := "5fea2dd4f9df241b597b367473c131cde3615082e85b79784459efe1f0b09914", func := "harrow/harrowlaw09.EmptyPatterns", spec := "emptyPatterns", unfollowed := true, recurses := true, apart := false }
def EmptyPatternsSaid : Prop := emptyPatternsRow.holds Try.pinned (OpenSpec.ofChange emptyPatternsSpec)

/-- ITS FALSE NEIGHBOUR: 'it returns false'. Refute it at one input. -/
def emptyPatternsWrong : ChangeSpec := { name := "emptyPatterns", fn := fun _ => fun
  | [d1, d2] => { results := [.lit (.bool false)], args := [d1, d2] }
  | _ => none }
def EmptyPatternsWrongFalsely : Prop := emptyPatternsRow.holds Try.pinned (OpenSpec.ofChange emptyPatternsWrong)

/-- 'harrowlaw09.EmptyLeast': WHATEVER THE INPUT: true; the input reads as it did. -/
def emptyLeastSpec : ChangeSpec := { name := "emptyLeast", fn := fun _ => fun
  | [d] => { results := [.lit (.bool true)], args := [d] }
  | _ => none }
def emptyLeastRow : OpenClaim := { program := "ytlignclejgdpeaa", sum := "5fea2dd4f9df241b597b367473c131cde3615082e85b79784459efe1f0b09914", func := "harrow/harrowlaw09.EmptyLeast", spec := "emptyLeast", unfollowed := true, recurses := true, apart := false }
def EmptyLeastSaid : Prop := emptyLeastRow.holds Try.pinned (OpenSpec.ofChange emptyLeastSpec)

/-- ITS FALSE NEIGHBOUR: 'it returns false'. Refute it at one input. -/
def emptyLeastWrong : ChangeSpec := { name := "emptyLeast", fn := fun _ => fun
  | [d] => { results := [.lit (.bool false)], args := [d] }
  | _ => none }
def EmptyLeastWrongFalsely : Prop := emptyLeastRow.holds Try.pinned (OpenSpec.ofChange emptyLeastWrong)

/- THE SECOND FORM. 'bulk': how many values and letters a reading holds, each counted each time it is reached (what is shared counts as often as it is met; a slice's spare places count too). A statement '..UptoSaid' is the law's where the arguments, and the package variables that the reading takes, are together of bulk at most 1048576: NARROWER than '..Said'. Prove '..Said' where nothing that the law and all that it calls make is longer than what came in: it says more and counts as full. Else prove '..UptoSaid'. A law counts once. -/
mutual
def uptoBulk {H : Type} : DataW H → Nat
  | .lit (.string bytes) => bytes.length + 1
  | .lit _ => 1
  | .nil => 1
  | .ptr d => uptoBulk d + 1
  | .slice elems spare => uptoBulkAll elems + uptoBulkAll spare + 1
  | .agg parts => uptoBulkAll parts + 1
  | .iface _ d => uptoBulk d + 1
  | .map entries => uptoBulkEntries entries + 1
  | .held _ => 1
def uptoBulkAll {H : Type} : List (DataW H) → Nat
  | [] => 0
  | d :: r => uptoBulk d + uptoBulkAll r
def uptoBulkEntries {H : Type} : List (Lit × DataW H) → Nat
  | [] => 0
  | x :: r => uptoBulkEntry x + uptoBulkEntries r
def uptoBulkEntry {H : Type} : Lit × DataW H → Nat
  | (.string bytes, d) => bytes.length + uptoBulk d + 1
  | (_, d) => uptoBulk d + 1
 end
def uptoSmall : (H : Type) → List (DataW H) → Bool := fun _ ds => decide (uptoBulkAll ds ≤ 1048576)
def OpenSpec.upto (s : _root_.Go.ChangeSpec) : _root_.Go.OpenSpec := { _root_.Go.OpenSpec.ofChange s with cond := some uptoSmall }

/-- 'harrowlaw09.EmptyRules', WHERE WHAT IT READS IS OF BULK AT MOST 1048576: true; the input reads as it did. -/
def emptyRulesUptoRow : OpenClaim := { program := "ytlignclejgdpeaa", sum := "5fea2dd4f9df241b597b367473c131cde3615082e85b79784459efe1f0b09914", func := "harrow/harrowlaw09.EmptyRules", spec := "emptyRules", unfollowed := true, recurses := true, apart := false, narrowed := true }
def EmptyRulesUptoSaid : Prop := emptyRulesUptoRow.holds Try.pinned (OpenSpec.upto emptyRulesSpec)

/-- 'harrowlaw09.EmptyPatterns', WHERE WHAT IT READS IS OF BULK AT MOST 1048576: true; the input reads as it did. -/
def emptyPatternsUptoRow : OpenClaim := { program := "ytlignclejgdpeaa", sum := "5fea2dd4f9df241b597b367473c131cde3615082e85b79784459efe1f0b09914", func := "harrow/harrowlaw09.EmptyPatterns", spec := "emptyPatterns", unfollowed := true, recurses := true, apart := false, narrowed := true }
def EmptyPatternsUptoSaid : Prop := emptyPatternsUptoRow.holds Try.pinned (OpenSpec.upto emptyPatternsSpec)

/-- 'harrowlaw09.EmptyLeast', WHERE WHAT IT READS IS OF BULK AT MOST 1048576: true; the input reads as it did. -/
def emptyLeastUptoRow : OpenClaim := { program := "ytlignclejgdpeaa", sum := "5fea2dd4f9df241b597b367473c131cde3615082e85b79784459efe1f0b09914", func := "harrow/harrowlaw09.EmptyLeast", spec := "emptyLeast", unfollowed := true, recurses := true, apart := false, narrowed := true }
def EmptyLeastUptoSaid : Prop := emptyLeastUptoRow.holds Try.pinned (OpenSpec.upto emptyLeastSpec)

end Rows
end Go.Proofs.Ytlignclejgdpeaa
