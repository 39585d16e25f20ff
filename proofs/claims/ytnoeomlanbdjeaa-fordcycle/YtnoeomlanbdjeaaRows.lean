/-
  No cell of these rows narrows 'for every input' (looked for: loops, veiled, ifaces, maps, wideKeys, modest, calm, conditions, laid).
  DERIVED. THE GIVEN ROWS OF THIS SEAT. 8 by the template 'for every input the law returns true; each argument reads behind the call as it read before'; 0 by the template 'total and deterministic' (their statements: YtnoeomlanbdjeaaTotals.lean).
  GIVEN WITH THE SEED: the statements are not yours to turn. If you find one false, say at which input.
  Laid BY PROGRAM, IN A SANDBOX (cutbox-rows.mjs): the forced cells as the released guide's own fill.sh prints them over the translation 165dba0cf047c23a… (all of the seat's roots in one cut). By AI agents, Wed Nov 11 2026. No macro, syntax, notation, axiom, sorry.
-/
import Derived.Test.YtnoeomlanbdjeaaChecked
import GoSem.Claim
import GoSem.ClaimJoined
import GoSem.ClaimMapViews
import Derived.JoinedTies
import Derived.KernelRfl
namespace Go.Proofs.Ytnoeomlanbdjeaa
/- THE CELL 'sum', in the pinned program and in every row, IS THE sha256 OF THE DUMP (.gsa) THAT YtnoeomlanbdjeaaProg.lean LOADS. Nothing in Lean hashes anything: it is a label: what it is worth is what the hold of that sum in a sandbox is worth. -/
noncomputable def Try.pinned : Pinned := { name := "ytnoeomlanbdjeaa", sum := "165dba0cf047c23acda90f5eadeeaccfee69812e0cadaaf90dff1ea63a26dd2a", checked := Try.checked }
namespace Rows
def none {H : Type} : Left H := { results := [], args := [] }

/-- 'harrowlaw10.FordChecks': WHATEVER THE INPUT: true; the input reads as it did. -/
def fordChecksSpec : ChangeSpec := { name := "fordChecks", fn := fun _ => fun
  | [d] => { results := [.lit (.bool true)], args := [d] }
  | _ => none }
def fordChecksRow : OpenClaim := { program := "ytnoeomlanbdjeaa", sum := "165dba0cf047c23acda90f5eadeeaccfee69812e0cadaaf90dff1ea63a26dd2a", func := "harrow/harrowlaw10.FordChecks", spec := "fordChecks", unfollowed := true, recurses := true, apart := false }
def FordChecksSaid : Prop := fordChecksRow.holds Try.pinned (OpenSpec.ofChange fordChecksSpec)

/-- ITS FALSE NEIGHBOUR: 'it returns false'. Refute it at one input. -/
def fordChecksWrong : ChangeSpec := { name := "fordChecks", fn := fun _ => fun
  | [d] => { results := [.lit (.bool false)], args := [d] }
  | _ => none }
def FordChecksWrongFalsely : Prop := fordChecksRow.holds Try.pinned (OpenSpec.ofChange fordChecksWrong)

/-- 'harrowlaw10.FordMore': WHATEVER THE INPUT: true; the input reads as it did. -/
def fordMoreSpec : ChangeSpec := { name := "fordMore", fn := fun _ => fun
  | [d1, d2] => { results := [.lit (.bool true)], args := [d1, d2] }
  | _ => none }
def fordMoreRow : OpenClaim := { program := "ytnoeomlanbdjeaa", sum := "165dba0cf047c23acda90f5eadeeaccfee69812e0cadaaf90dff1ea63a26dd2a", func := "harrow/harrowlaw10.FordMore", spec := "fordMore", unfollowed := true, recurses := true, apart := false }
def FordMoreSaid : Prop := fordMoreRow.holds Try.pinned (OpenSpec.ofChange fordMoreSpec)

/-- ITS FALSE NEIGHBOUR: 'it returns false'. Refute it at one input. -/
def fordMoreWrong : ChangeSpec := { name := "fordMore", fn := fun _ => fun
  | [d1, d2] => { results := [.lit (.bool false)], args := [d1, d2] }
  | _ => none }
def FordMoreWrongFalsely : Prop := fordMoreRow.holds Try.pinned (OpenSpec.ofChange fordMoreWrong)

/-- 'harrowlaw10.FordNames': WHATEVER THE INPUT: true; the input reads as it did. -/
def fordNamesSpec : ChangeSpec := { name := "fordNames", fn := fun _ => fun
  | [d1, d2, d3] => { results := [.lit (.bool true)], args := [d1, d2, d3] }
  | _ => none }
def fordNamesRow : OpenClaim := { program := "ytnoeomlanbdjeaa", sum := "165dba0cf047c23acda90f5eadeeaccfee69812e0cadaaf90dff1ea63a26dd2a", func := "harrow/harrowlaw10.FordNames", spec := "fordNames", unfollowed := true, recurses := true, apart := false }
def FordNamesSaid : Prop := fordNamesRow.holds Try.pinned (OpenSpec.ofChange fordNamesSpec)

/-- ITS FALSE NEIGHBOUR: 'it returns false'. Refute it at one input. -/
def fordNamesWrong : ChangeSpec := { name := "fordNames", fn := fun _ => fun
  | [d1, d2, d3] => { results := [.lit (.bool false)], args := [d1, d2, d3] }
  | _ => none }
def FordNamesWrongFalsely : Prop := fordNamesRow.holds Try.pinned (OpenSpec.ofChange fordNamesWrong)

/-- 'harrowlaw10.FordHeads': WHATEVER THE INPUT: true; the input reads as it did. -/
def fordHeadsSpec : ChangeSpec := { name := "fordHeads", fn := fun _ => fun
  | [d1, d2] => { results := [.lit (.bool true)], args := [d1, d2] }
  | _ => none }
def fordHeadsRow : OpenClaim := { program := "ytnoeomlanbdjeaa", sum := "165dba0cf047c23acda90f5eadeeaccfee69812e0cadaaf90dff1ea63a26dd2a", func := "harrow/harrowlaw10.FordHeads", spec := "fordHeads", unfollowed := true, recurses := true, apart := false }
def FordHeadsSaid : Prop := fordHeadsRow.holds Try.pinned (OpenSpec.ofChange fordHeadsSpec)

/-- ITS FALSE NEIGHBOUR: 'it returns false'. Refute it at one input. -/
def fordHeadsWrong : ChangeSpec := { name := "fordHeads", fn := fun _ => fun
  | [d1, d2] => { results := [.lit (.bool false)], args := [d1, d2] }
  | _ => none }
def FordHeadsWrongFalsely : Prop := fordHeadsRow.holds Try.pinned (OpenSpec.ofChange fordHeadsWrong)

/-- 'harrowlaw10.FordCycle': WHATEVER THE INPUT: true; the input reads as it did. -/
def fordCycleSpec : ChangeSpec := { name := "fordCycle", fn := fun _ => fun
  | [d] => { results := [.lit (.bool true)], args := [d] }
  | _ => none }
def fordCycleRow : OpenClaim := { program := "ytnoeomlanbdjeaa", sum := "165dba0cf047c23acda90f5eadeeaccfee69812e0cadaaf90dff1ea63a26dd2a", func := "harrow/harrowlaw10.FordCycle", spec := "fordCycle", unfollowed := true, recurses := true, apart := false }
def FordCycleSaid : Prop := fordCycleRow.holds Try.pinned (OpenSpec.ofChange fordCycleSpec)

/-- ITS FALSE NEIGHBOUR: 'it returns false'. Refute it at one input. -/
def fordCycleWrong : ChangeSpec := { name := "fordCycle", fn := fun _ => fun
  | [d] => { results := [.lit (.bool false)], args := [d] }
  | _ => none }
def FordCycleWrongFalsely : Prop := fordCycleRow.holds Try.pinned (OpenSpec.ofChange fordCycleWrong)

/-- 'harrowlaw10.FordOrders': WHATEVER THE INPUT: true; the input reads as it did. -/
def fordOrdersSpec : ChangeSpec := { name := "fordOrders", fn := fun _ => fun
  | [d] => { results := [.lit (.bool true)], args := [d] }
  | _ => none }
def fordOrdersRow : OpenClaim := { program := "ytnoeomlanbdjeaa", sum := "165dba0cf047c23acda90f5eadeeaccfee69812e0cadaaf90dff1ea63a26dd2a", func := "harrow/harrowlaw10.FordOrders", spec := "fordOrders", unfollowed := true, recurses := true, apart := false }
def FordOrdersSaid : Prop := fordOrdersRow.holds Try.pinned (OpenSpec.ofChange fordOrdersSpec)

/-- ITS FALSE NEIGHBOUR: 'it returns false'. Refute it at one input. -/
def fordOrdersWrong : ChangeSpec := { name := "fordOrders", fn := fun _ => fun
  | [d] => { results := [.lit (.bool false)], args := [d] }
  | _ => none }
def FordOrdersWrongFalsely : Prop := fordOrdersRow.holds Try.pinned (OpenSpec.ofChange fordOrdersWrong)

/-- 'harrowlaw10.FordOrder': WHATEVER THE INPUT: true; the input reads as it did. -/
def fordOrderSpec : ChangeSpec := { name := "fordOrder", fn := fun _ => fun
  | [d] => { results := [.lit (.bool true)], args := [d] }
  | _ => none }
def fordOrderRow : OpenClaim := { program := "ytnoeomlanbdjeaa", sum := "165dba0cf047c23acda90f5eadeeaccfee69812e0cadaaf90dff1ea63a26dd2a", func := "harrow/harrowlaw10.FordOrder", spec := "fordOrder", unfollowed := true, recurses := true, apart := false }
def FordOrderSaid : Prop := fordOrderRow.holds Try.pinned (OpenSpec.ofChange fordOrderSpec)

/-- ITS FALSE NEIGHBOUR: 'it returns false'. Refute it at one input. -/
def fordOrderWrong : ChangeSpec := { name := "fordOrder", fn := fun _ => fun
  | [d] => { results := [.lit (.bool false)], args := [d] }
  | _ => none }
def FordOrderWrongFalsely : Prop := fordOrderRow.holds Try.pinned (OpenSpec.ofChange fordOrderWrong)

/-- 'harrowlaw10.FordOwn': WHATEVER THE INPUT: true; the input reads as it did. -/
def fordOwnSpec : ChangeSpec := { name := "fordOwn", fn := fun _ => fun
  | [d1, d2] => { results := [.lit (.bool true)], args := [d1, d2] }
  | _ => none }
def fordOwnRow : OpenClaim := { program := "ytnoeomlanbdjeaa", sum := "165dba0cf047c23acda90f5eadeeaccfee69812e0cadaaf90dff1ea63a26dd2a", func := "harrow/harrowlaw10.FordOwn", spec := "fordOwn", unfollowed := true, recurses := true, apart := false }
def FordOwnSaid : Prop := fordOwnRow.holds Try.pinned (OpenSpec.ofChange fordOwnSpec)

/-- ITS FALSE NEIGHBOUR: 'it returns false'. Refute it at one input. -/
def fordOwnWrong : ChangeSpec := { name := "fordOwn", fn := fun _ => fun
  | [d1, d2] => { results := [.lit (.bool false)], args := [d1, d2] }
  | _ => none }
def FordOwnWrongFalsely : Prop := fordOwnRow.holds Try.pinned (OpenSpec.ofChange fordOwnWrong)

/- THE SECOND FORM. 'bulk': how many values and letters a reading holds, each counted each time it is reached (what is shared counts as often as it is met; a slice's spare places count too). A statement '..UptoSaid' is the law's where the arguments, and the package variables that the reading takes, are together of bulk at most 1048576: NARROWER than '..Said'. Prove '..Said' where nothing that the law and all that it calls make is longer than what came in: it says more and counts as full. Else prove '..UptoSaid'. A law counts once. -/
mutual
def uptoBulk {H : Type} : DataW H → Nat
  | .lit (.string bytes) => bytes.length + 1
  | .lit _ => 1
  | .nil => 1
  | .ptr d => uptoBulk d + 1
  | .slice elems spare => uptoBulkAll elems + uptoBulkAll spare + 1
  | .agg parts => uptoBulkAll parts + 1
  | .iface _ d => uptoBulk d + 1
  | .map entries => uptoBulkEntries entries + 1
  | .held _ => 1
def uptoBulkAll {H : Type} : List (DataW H) → Nat
  | [] => 0
  | d :: r => uptoBulk d + uptoBulkAll r
def uptoBulkEntries {H : Type} : List (Lit × DataW H) → Nat
  | [] => 0
  | x :: r => uptoBulkEntry x + uptoBulkEntries r
def uptoBulkEntry {H : Type} : Lit × DataW H → Nat
  | (.string bytes, d) => bytes.length + uptoBulk d + 1
  | (_, d) => uptoBulk d + 1
 end
def uptoSmall : (H : Type) → List (DataW H) → Bool := fun _ ds => decide (uptoBulkAll ds ≤ 1048576)
def OpenSpec.upto (s : _root_.Go.ChangeSpec) : _root_.Go.OpenSpec := { _root_.Go.OpenSpec.ofChange s with cond := some uptoSmall }

/-- 'harrowlaw10.FordChecks', WHERE WHAT IT READS IS OF BULK AT MOST 1048576: true; the input reads as it did. -/
def fordChecksUptoRow : OpenClaim := { program := "ytnoeomlanbdjeaa", sum := "165dba0cf047c23acda90f5eadeeaccfee69812e0cadaaf90dff1ea63a26dd2a", func := "harrow/harrowlaw10.FordChecks", spec := "fordChecks", unfollowed := true, recurses := true, apart := false, narrowed := true }
def FordChecksUptoSaid : Prop := fordChecksUptoRow.holds Try.pinned (OpenSpec.upto fordChecksSpec)

/-- 'harrowlaw10.FordMore', WHERE WHAT IT READS IS OF BULK AT MOST 1048576: true; the input reads as it did. -/
def fordMoreUptoRow : OpenClaim := { program := "ytnoeomlanbdjeaa", sum := "165dba0cf047c23acda90f5eadeeaccfee69812e0cadaaf90dff1ea63a26dd2a", func := "harrow/harrowlaw10.FordMore", spec := "fordMore", unfollowed := true, recurses := true, apart := false, narrowed := true }
def FordMoreUptoSaid : Prop := fordMoreUptoRow.holds Try.pinned (OpenSpec.upto fordMoreSpec)

/-- 'harrowlaw10.FordNames', WHERE WHAT IT READS IS OF BULK AT MOST 1048576: true; the input reads as it did. -/
def fordNamesUptoRow : OpenClaim := { program := "ytnoeomlanbdjeaa", sum := "165dba0cf047c23acda90f5eadeeaccfee69812e0cadaaf90dff1ea63a26dd2a", func := "harrow/harrowlaw10.FordNames", spec := "fordNames", unfollowed := true, recurses := true, apart := false, narrowed := true }
def FordNamesUptoSaid : Prop := fordNamesUptoRow.holds Try.pinned (OpenSpec.upto fordNamesSpec)

/-- 'harrowlaw10.FordHeads', WHERE WHAT IT READS IS OF BULK AT MOST 1048576: true; the input reads as it did. -/
def fordHeadsUptoRow : OpenClaim := { program := "ytnoeomlanbdjeaa", sum := "165dba0cf047c23acda90f5eadeeaccfee69812e0cadaaf90dff1ea63a26dd2a", func := "harrow/harrowlaw10.FordHeads", spec := "fordHeads", unfollowed := true, recurses := true, apart := false, narrowed := true }
def FordHeadsUptoSaid : Prop := fordHeadsUptoRow.holds Try.pinned (OpenSpec.upto fordHeadsSpec)

/-- 'harrowlaw10.FordCycle', WHERE WHAT IT READS IS OF BULK AT MOST 1048576: true; the input reads as it did. -/
def fordCycleUptoRow : OpenClaim := { program := "ytnoeomlanbdjeaa", sum := "165dba0cf047c23acda90f5eadeeaccfee69812e0cadaaf90dff1ea63a26dd2a", func := "harrow/harrowlaw10.FordCycle", spec := "fordCycle", unfollowed := true, recurses := true, apart := false, narrowed := true }
def FordCycleUptoSaid : Prop := fordCycleUptoRow.holds Try.pinned (OpenSpec.upto fordCycleSpec)

/-- 'harrowlaw10.FordOrders', WHERE WHAT IT READS IS OF BULK AT MOST 1048576: true; the input reads as it did. -/
def fordOrdersUptoRow : OpenClaim := { program := "ytnoeomlanbdjeaa", sum := "165dba0cf047c23acda90f5eadeeaccfee69812e0cadaaf90dff1ea63a26dd2a", func := "harrow/harrowlaw10.FordOrders", spec := "fordOrders", unfollowed := true, recurses := true, apart := false, narrowed := true }
def FordOrdersUptoSaid : Prop := fordOrdersUptoRow.holds Try.pinned (OpenSpec.upto fordOrdersSpec)

/-- 'harrowlaw10.FordOrder', WHERE WHAT IT READS IS OF BULK AT MOST 1048576: true; the input reads as it did. -/
def fordOrderUptoRow : OpenClaim := { program := "ytnoeomlanbdjeaa", sum := "165dba0cf047c23acda90f5eadeeaccfee69812e0cadaaf90dff1ea63a26dd2a", func := "harrow/harrowlaw10.FordOrder", spec := "fordOrder", unfollowed := true, recurses := true, apart := false, narrowed := true }
def FordOrderUptoSaid : Prop := fordOrderUptoRow.holds Try.pinned (OpenSpec.upto fordOrderSpec)

/-- 'harrowlaw10.FordOwn', WHERE WHAT IT READS IS OF BULK AT MOST 1048576: true; the input reads as it did. -/
def fordOwnUptoRow : OpenClaim := { program := "ytnoeomlanbdjeaa", sum := "165dba0cf047c23acda90f5eadeeaccfee69812e0cadaaf90dff1ea63a26dd2a", func := "harrow/harrowlaw10.FordOwn", spec := "fordOwn", unfollowed := true, recurses := true, apart := false, narrowed := true }
def FordOwnUptoSaid : Prop := fordOwnUptoRow.holds Try.pinned (OpenSpec.upto fordOwnSpec)

end Rows
end Go.Proofs.Ytnoeomlanbdjeaa
