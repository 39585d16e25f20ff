/-
  No cell of these rows narrows 'for every input' (looked for: loops, veiled, ifaces, maps, wideKeys, modest, calm, conditions, laid).
  DERIVED. THE GIVEN ROWS OF THIS SEAT. 6 by the template 'for every input the law returns true; each argument reads behind the call as it read before'; 0 by the template 'total and deterministic' (their statements: YtlbajhkijnjhdaaTotals.lean).
  GIVEN WITH THE SEED: the statements are not yours to turn. If you find one false, say at which input.
  Laid BY PROGRAM, IN A SANDBOX (cutbox-rows.mjs): the forced cells as the released guide's own fill.sh prints them over the translation 4ba8f18c9885b6d1… (all of the seat's roots in one cut). By AI agents, Wed Nov 11 2026. No macro, syntax, notation, axiom, sorry.
-/
import Derived.Test.YtlbajhkijnjhdaaChecked
import GoSem.Claim
import GoSem.ClaimJoined
import GoSem.ClaimMapViews
import Derived.JoinedTies
import Derived.KernelRfl
namespace Go.Proofs.Ytlbajhkijnjhdaa
/- THE CELL 'sum', in the pinned program and in every row, IS THE sha256 OF THE DUMP (.gsa) THAT YtlbajhkijnjhdaaProg.lean LOADS. Nothing in Lean hashes anything: it is a label: what it is worth is what the hold of that sum in a sandbox is worth. -/
noncomputable def Try.pinned : Pinned := { name := "ytlbajhkijnjhdaa", sum := "4ba8f18c9885b6d1150b38e8f4a89122e534c7b7c032efc34842c9bc0bb56f31", checked := Try.checked }
namespace Rows
def none {H : Type} : Left H := { results := [], args := [] }

/-- 'harrowlaw08.RulesChecks': WHATEVER THE INPUT: true; the input reads as it did. -/
def rulesChecksSpec : ChangeSpec := { name := "rulesChecks", fn := fun _ => fun
  | [d1, d2] => { results := [.lit (.bool true)], args := [d1, d2] }
  | _ => none }
def rulesChecksRow : OpenClaim := { program := "ytlbajhkijnjhdaa", sum := "4ba8f18c9885b6d1150b38e8f4a89122e534c7b7c032efc34842c9bc0bb56f31", func := "harrow/harrowlaw08.RulesChecks", spec := "rulesChecks", unfollowed := true, recurses := true, apart := false }
def RulesChecksSaid : Prop := rulesChecksRow.holds Try.pinned (OpenSpec.ofChange rulesChecksSpec)

/-- ITS FALSE NEIGHBOUR: 'it returns false'. Refute it at one input. -/
def rulesChecksWrong : ChangeSpec := { name := "rulesChecks", fn := fun _ => fun
  | [d1, d2] => { results := [.lit (.bool false)], args := [d1, d2] }
  | _ => none }
def RulesChecksWrongFalsely : Prop := rulesChecksRow.holds Try.pinned (OpenSpec.ofChange rulesChecksWrong)

/-- 'harrowlaw08.RulesRenamed': WHATEVER THE INPUT: true; the input reads as it did. -/
def rulesRenamedSpec : ChangeSpec := { name := "rulesRenamed", fn := fun _ => fun
  | [d1, d2, d3] => { results := [.lit (.bool true)], args := [d1, d2, d3] }
  | _ => none }
def rulesRenamedRow : OpenClaim := { program := "ytlbajhkijnjhdaa", sum := "4ba8f18c9885b6d1150b38e8f4a89122e534c7b7c032efc34842c9bc0bb56f31", func := "harrow/harrowlaw08.RulesRenamed", spec := "rulesRenamed", unfollowed := true, recurses := true, apart := false }
def RulesRenamedSaid : Prop := rulesRenamedRow.holds Try.pinned (OpenSpec.ofChange rulesRenamedSpec)

/-- ITS FALSE NEIGHBOUR: 'it returns false'. Refute it at one input. -/
def rulesRenamedWrong : ChangeSpec := { name := "rulesRenamed", fn := fun _ => fun
  | [d1, d2, d3] => { results := [.lit (.bool false)], args := [d1, d2, d3] }
  | _ => none }
def RulesRenamedWrongFalsely : Prop := rulesRenamedRow.holds Try.pinned (OpenSpec.ofChange rulesRenamedWrong)

/-- 'harrowlaw08.RulesGroups': WHATEVER THE INPUT: true; the input reads as it did. -/
def rulesGroupsSpec : ChangeSpec := { name := "rulesGroups", fn := fun _ => fun
  | [d] => { results := [.lit (.bool true)], args := [d] }
  | _ => none }
def rulesGroupsRow : OpenClaim := { program := "ytlbajhkijnjhdaa", sum := "4ba8f18c9885b6d1150b38e8f4a89122e534c7b7c032efc34842c9bc0bb56f31", func := "harrow/harrowlaw08.RulesGroups", spec := "rulesGroups", unfollowed := true, recurses := true, apart := false }
def RulesGroupsSaid : Prop := rulesGroupsRow.holds Try.pinned (OpenSpec.ofChange rulesGroupsSpec)

/-- ITS FALSE NEIGHBOUR: 'it returns false'. Refute it at one input. -/
def rulesGroupsWrong : ChangeSpec := { name := "rulesGroups", fn := fun _ => fun
  | [d] => { results := [.lit (.bool false)], args := [d] }
  | _ => none }
def RulesGroupsWrongFalsely : Prop := rulesGroupsRow.holds Try.pinned (OpenSpec.ofChange rulesGroupsWrong)

/-- 'harrowlaw08.RulesReach': WHATEVER THE INPUT: true; the input reads as it did. -/
def rulesReachSpec : ChangeSpec := { name := "rulesReach", fn := fun _ => fun
  | [d1, d2] => { results := [.lit (.bool true)], args := [d1, d2] }
  | _ => none }
def rulesReachRow : OpenClaim := { program := "ytlbajhkijnjhdaa", sum := "4ba8f18c9885b6d1150b38e8f4a89122e534c7b7c032efc34842c9bc0bb56f31", func := "harrow/harrowlaw08.RulesReach", spec := "rulesReach", unfollowed := true, recurses := true, apart := false }
def RulesReachSaid : Prop := rulesReachRow.holds Try.pinned (OpenSpec.ofChange rulesReachSpec)

/-- ITS FALSE NEIGHBOUR: 'it returns false'. Refute it at one input. -/
def rulesReachWrong : ChangeSpec := { name := "rulesReach", fn := fun _ => fun
  | [d1, d2] => { results := [.lit (.bool false)], args := [d1, d2] }
  | _ => none }
def RulesReachWrongFalsely : Prop := rulesReachRow.holds Try.pinned (OpenSpec.ofChange rulesReachWrong)

/-- 'harrowlaw08.RulesOrder': WHATEVER THE INPUT: true; the input reads as it did. -/
def rulesOrderSpec : ChangeSpec := { name := "rulesOrder", fn := fun _ => fun
  | [d] => { results := [.lit (.bool true)], args := [d] }
  | _ => none }
def rulesOrderRow : OpenClaim := { program := "ytlbajhkijnjhdaa", sum := "4ba8f18c9885b6d1150b38e8f4a89122e534c7b7c032efc34842c9bc0bb56f31", func := "harrow/harrowlaw08.RulesOrder", spec := "rulesOrder", unfollowed := true, recurses := true, apart := false }
def RulesOrderSaid : Prop := rulesOrderRow.holds Try.pinned (OpenSpec.ofChange rulesOrderSpec)

/-- ITS FALSE NEIGHBOUR: 'it returns false'. Refute it at one input. -/
def rulesOrderWrong : ChangeSpec := { name := "rulesOrder", fn := fun _ => fun
  | [d] => { results := [.lit (.bool false)], args := [d] }
  | _ => none }
def RulesOrderWrongFalsely : Prop := rulesOrderRow.holds Try.pinned (OpenSpec.ofChange rulesOrderWrong)

/-- 'harrowlaw08.RulesOwn': WHATEVER THE INPUT: true; the input reads as it did. -/
def rulesOwnSpec : ChangeSpec := { name := "rulesOwn", fn := fun _ => fun
  | [d1, d2, d3] => { results := [.lit (.bool true)], args := [d1, d2, d3] }
  | _ => none }
def rulesOwnRow : OpenClaim := { program := "ytlbajhkijnjhdaa", sum := "4ba8f18c9885b6d1150b38e8f4a89122e534c7b7c032efc34842c9bc0bb56f31", func := "harrow/harrowlaw08.RulesOwn", spec := "rulesOwn", unfollowed := true, recurses := true, apart := false }
def RulesOwnSaid : Prop := rulesOwnRow.holds Try.pinned (OpenSpec.ofChange rulesOwnSpec)

/-- ITS FALSE NEIGHBOUR: 'it returns false'. Refute it at one input. -/
def rulesOwnWrong : ChangeSpec := { name := "rulesOwn", fn := fun _ => fun
  | [d1, d2, d3] => { results := [.lit (.bool false)], args := [d1, d2, d3] }
  | _ => none }
def RulesOwnWrongFalsely : Prop := rulesOwnRow.holds Try.pinned (OpenSpec.ofChange rulesOwnWrong)

/- THE SECOND FORM. 'bulk': how many values and letters a reading holds, each counted each time it is reached (what is shared counts as often as it is met; a slice's spare places count too). A statement '..UptoSaid' is the law's where the arguments, and the package variables that the reading takes, are together of bulk at most 1048576: NARROWER than '..Said'. Prove '..Said' where nothing that the law and all that it calls make is longer than what came in: it says more and counts as full. Else prove '..UptoSaid'. A law counts once. -/
mutual
def uptoBulk {H : Type} : DataW H → Nat
  | .lit (.string bytes) => bytes.length + 1
  | .lit _ => 1
  | .nil => 1
  | .ptr d => uptoBulk d + 1
  | .slice elems spare => uptoBulkAll elems + uptoBulkAll spare + 1
  | .agg parts => uptoBulkAll parts + 1
  | .iface _ d => uptoBulk d + 1
  | .map entries => uptoBulkEntries entries + 1
  | .held _ => 1
def uptoBulkAll {H : Type} : List (DataW H) → Nat
  | [] => 0
  | d :: r => uptoBulk d + uptoBulkAll r
def uptoBulkEntries {H : Type} : List (Lit × DataW H) → Nat
  | [] => 0
  | x :: r => uptoBulkEntry x + uptoBulkEntries r
def uptoBulkEntry {H : Type} : Lit × DataW H → Nat
  | (.string bytes, d) => bytes.length + uptoBulk d + 1
  | (_, d) => uptoBulk d + 1
 end
def uptoSmall : (H : Type) → List (DataW H) → Bool := fun _ ds => decide (uptoBulkAll ds ≤ 1048576)
def OpenSpec.upto (s : _root_.Go.ChangeSpec) : _root_.Go.OpenSpec := { _root_.Go.OpenSpec.ofChange s with cond := some uptoSmall }

/-- 'harrowlaw08.RulesChecks', WHERE WHAT IT READS IS OF BULK AT MOST 1048576: true; the input reads as it did. -/
def rulesChecksUptoRow : OpenClaim := { program := "ytlbajhkijnjhdaa", sum := "4ba8f18c9885b6d1150b38e8f4a89122e534c7b7c032efc34842c9bc0bb56f31", func := "harrow/harrowlaw08.RulesChecks", spec := "rulesChecks", unfollowed := true, recurses := true, apart := false, narrowed := true }
def RulesChecksUptoSaid : Prop := rulesChecksUptoRow.holds Try.pinned (OpenSpec.upto rulesChecksSpec)

/-- 'harrowlaw08.RulesRenamed', WHERE WHAT IT READS IS OF BULK AT MOST 1048576: true; the input reads as it did. -/
def rulesRenamedUptoRow : OpenClaim := { program := "ytlbajhkijnjhdaa", sum := "4ba8f18c9885b6d1150b38e8f4a89122e534c7b7c032efc34842c9bc0bb56f31", func := "harrow/harrowlaw08.RulesRenamed", spec := "rulesRenamed", unfollowed := true, recurses := true, apart := false, narrowed := true }
def RulesRenamedUptoSaid : Prop := rulesRenamedUptoRow.holds Try.pinned (OpenSpec.upto rulesRenamedSpec)

/-- 'harrowlaw08.RulesGroups', WHERE WHAT IT READS IS OF BULK AT MOST 1048576: true; the input reads as it did. -/
def rulesGroupsUptoRow : OpenClaim := { program := "ytlbajhkijnjhdaa", sum := "4ba8f18c9885b6d1150b38e8f4a89122e534c7b7c032efc34842c9bc0bb56f31", func := "harrow/harrowlaw08.RulesGroups", spec := "rulesGroups", unfollowed := true, recurses := true, apart := false, narrowed := true }
def RulesGroupsUptoSaid : Prop := rulesGroupsUptoRow.holds Try.pinned (OpenSpec.upto rulesGroupsSpec)

/-- 'harrowlaw08.RulesReach', WHERE WHAT IT READS IS OF BULK AT MOST 1048576: true; the input reads as it did. -/
def rulesReachUptoRow : OpenClaim := { program := "ytlbajhkijnjhdaa", sum := "4ba8f18c9885b6d1150b38e8f4a89122e534c7b7c032efc34842c9bc0bb56f31", func := "harrow/harrowlaw08.RulesReach", spec := "rulesReach", unfollowed := true, recurses := true, apart := false, narrowed := true }
def RulesReachUptoSaid : Prop := rulesReachUptoRow.holds Try.pinned (OpenSpec.upto rulesReachSpec)

/-- 'harrowlaw08.RulesOrder', WHERE WHAT IT READS IS OF BULK AT MOST 1048576: true; the input reads as it did. -/
def rulesOrderUptoRow : OpenClaim := { program := "ytlbajhkijnjhdaa", sum := "4ba8f18c9885b6d1150b38e8f4a89122e534c7b7c032efc34842c9bc0bb56f31", func := "harrow/harrowlaw08.RulesOrder", spec := "rulesOrder", unfollowed := true, recurses := true, apart := false, narrowed := true }
def RulesOrderUptoSaid : Prop := rulesOrderUptoRow.holds Try.pinned (OpenSpec.upto rulesOrderSpec)

/-- 'harrowlaw08.RulesOwn', WHERE WHAT IT READS IS OF BULK AT MOST 1048576: true; the input reads as it did. -/
def rulesOwnUptoRow : OpenClaim := { program := "ytlbajhkijnjhdaa", sum := "4ba8f18c9885b6d1150b38e8f4a89122e534c7b7c032efc34842c9bc0bb56f31", func := "harrow/harrowlaw08.RulesOwn", spec := "rulesOwn", unfollowed := true, recurses := true, apart := false, narrowed := true }
def RulesOwnUptoSaid : Prop := rulesOwnUptoRow.holds Try.pinned (OpenSpec.upto rulesOwnSpec)

end Rows
end Go.Proofs.Ytlbajhkijnjhdaa
