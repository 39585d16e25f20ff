/-
  NARROWER THAN 'FOR EVERY INPUT', by the rows' own cells (each row's printed sentence says how): PeepDead: laid · PeepTails: laid · PeepKinds: laid · PeepBetter: laid · PeepSettles: laid · PeepOwn: laid.
  DERIVED. THE GIVEN ROWS OF THIS SEAT. 6 by the template 'for every input the law returns true; each argument reads behind the call as it read before'; 0 by the template 'total and deterministic' (their statements: YtaghpbhnclclaaaDoorTotals.lean).
  GIVEN WITH THE SEED: the statements are not yours to turn. If you find one false, say at which input.
  Laid BY PROGRAM, IN A SANDBOX (cutbox-rows.mjs): the forced cells as the released guide's own fill.sh prints them over the translation d70e8a0bcd0ad3fc… (all of the seat's roots in one cut). By AI agents, Wed Nov 11 2026. No macro, syntax, notation, axiom, sorry.
-/
import Derived.Test.YtaghpbhnclclaaaDoorChecked
import GoSem.Claim
import GoSem.ClaimJoined
import GoSem.ClaimMapViews
import Derived.JoinedTies
import Derived.KernelRfl
namespace Go.Proofs.YtaghpbhnclclaaaDoor
/- THE CELL 'sum', in the pinned program and in every row, IS THE sha256 OF THE DUMP (.gsa) THAT YtaghpbhnclclaaaDoorProg.lean LOADS. Nothing in Lean hashes anything: it is a label: what it is worth is what the hold of that sum in a sandbox is worth. -/
noncomputable def Tryd.pinned : Pinned := { name := "ytaghpbhnclclaaadoor", sum := "d70e8a0bcd0ad3fcbce60ee1ebf16deff587a0e75b7e15c123a1a6866d18f451", checked := Tryd.checked }
namespace Rows
def none {H : Type} : Left H := { results := [], args := [] }

/- WHAT THE LISTED PACKAGE-LEVEL VARIABLES READ AS WHEN THE CALL BEGINS. Each datum BY PROGRAM (the guide's laid-datum.mjs) off the statement by which the dump's own 'gosem.cut.vars' lays the variable. In a bare row this is a premise. The card (YtaghpbhnclclaaaDoorCards.lean) ties it to the program's text. -/
def laid_harrow_instr_uses {H : Type} : DataW H := .agg [.lit (.int .i64 0), .lit (.int .i64 64), .lit (.int .i64 66), .lit (.int .i64 80), .lit (.int .i64 97), .lit (.int .i64 99), .lit (.int .i64 113), .lit (.int .i64 80), .lit (.int .i64 97), .lit (.int .i64 33), .lit (.int .i64 33), .lit (.int .i64 33), .lit (.int .i64 0), .lit (.int .i64 0), .lit (.int .i64 33), .lit (.int .i64 97), .lit (.int .i64 0), .lit (.int .i64 0), .lit (.int .i64 78), .lit (.int .i64 64), .lit (.int .i64 79)]

/-- 'harrowlaw20.PeepDead': WHATEVER THE INPUT: true; the input reads as it did. -/
def peepDeadSpec : ChangeSpec := { name := "peepDead", fn := fun _ => fun
  | [d] => { results := [.lit (.bool true)], args := [d] }
  | _ => none }
def peepDeadRow : OpenClaim := { program := "ytaghpbhnclclaaadoor", sum := "d70e8a0bcd0ad3fcbce60ee1ebf16deff587a0e75b7e15c123a1a6866d18f451", func := "harrow/harrowlaw20.PeepDead", spec := "peepDead", unfollowed := true, recurses := true, named := ["harrow/instr.uses"], apart := false, laid := [("harrow/instr.uses", laid_harrow_instr_uses)] }
def PeepDeadSaid : Prop := peepDeadRow.holds Tryd.pinned (OpenSpec.ofChange peepDeadSpec)

/-- ITS FALSE NEIGHBOUR: 'it returns false'. Refute it at one input. -/
def peepDeadWrong : ChangeSpec := { name := "peepDead", fn := fun _ => fun
  | [d] => { results := [.lit (.bool false)], args := [d] }
  | _ => none }
def PeepDeadWrongFalsely : Prop := peepDeadRow.holds Tryd.pinned (OpenSpec.ofChange peepDeadWrong)

/-- 'harrowlaw20.PeepTails': WHATEVER THE INPUT: true; the input reads as it did. -/
def peepTailsSpec : ChangeSpec := { name := "peepTails", fn := fun _ => fun
  | [d] => { results := [.lit (.bool true)], args := [d] }
  | _ => none }
def peepTailsRow : OpenClaim := { program := "ytaghpbhnclclaaadoor", sum := "d70e8a0bcd0ad3fcbce60ee1ebf16deff587a0e75b7e15c123a1a6866d18f451", func := "harrow/harrowlaw20.PeepTails", spec := "peepTails", unfollowed := true, recurses := true, named := ["harrow/instr.uses"], apart := false, laid := [("harrow/instr.uses", laid_harrow_instr_uses)] }
def PeepTailsSaid : Prop := peepTailsRow.holds Tryd.pinned (OpenSpec.ofChange peepTailsSpec)

/-- ITS FALSE NEIGHBOUR: 'it returns false'. Refute it at one input. -/
def peepTailsWrong : ChangeSpec := { name := "peepTails", fn := fun _ => fun
  | [d] => { results := [.lit (.bool false)], args := [d] }
  | _ => none }
def PeepTailsWrongFalsely : Prop := peepTailsRow.holds Tryd.pinned (OpenSpec.ofChange peepTailsWrong)

/-- 'harrowlaw20.PeepKinds': WHATEVER THE INPUT: true; the input reads as it did. -/
def peepKindsSpec : ChangeSpec := { name := "peepKinds", fn := fun _ => fun
  | [d] => { results := [.lit (.bool true)], args := [d] }
  | _ => none }
def peepKindsRow : OpenClaim := { program := "ytaghpbhnclclaaadoor", sum := "d70e8a0bcd0ad3fcbce60ee1ebf16deff587a0e75b7e15c123a1a6866d18f451", func := "harrow/harrowlaw20.PeepKinds", spec := "peepKinds", unfollowed := true, recurses := true, named := ["harrow/instr.uses"], apart := false, laid := [("harrow/instr.uses", laid_harrow_instr_uses)] }
def PeepKindsSaid : Prop := peepKindsRow.holds Tryd.pinned (OpenSpec.ofChange peepKindsSpec)

/-- ITS FALSE NEIGHBOUR: 'it returns false'. Refute it at one input. -/
def peepKindsWrong : ChangeSpec := { name := "peepKinds", fn := fun _ => fun
  | [d] => { results := [.lit (.bool false)], args := [d] }
  | _ => none }
def PeepKindsWrongFalsely : Prop := peepKindsRow.holds Tryd.pinned (OpenSpec.ofChange peepKindsWrong)

/-- 'harrowlaw20.PeepBetter': WHATEVER THE INPUT: true; the input reads as it did. -/
def peepBetterSpec : ChangeSpec := { name := "peepBetter", fn := fun _ => fun
  | [d1, d2] => { results := [.lit (.bool true)], args := [d1, d2] }
  | _ => none }
def peepBetterRow : OpenClaim := { program := "ytaghpbhnclclaaadoor", sum := "d70e8a0bcd0ad3fcbce60ee1ebf16deff587a0e75b7e15c123a1a6866d18f451", func := "harrow/harrowlaw20.PeepBetter", spec := "peepBetter", unfollowed := true, recurses := true, named := ["harrow/instr.uses"], apart := false, laid := [("harrow/instr.uses", laid_harrow_instr_uses)] }
def PeepBetterSaid : Prop := peepBetterRow.holds Tryd.pinned (OpenSpec.ofChange peepBetterSpec)

/-- ITS FALSE NEIGHBOUR: 'it returns false'. Refute it at one input. -/
def peepBetterWrong : ChangeSpec := { name := "peepBetter", fn := fun _ => fun
  | [d1, d2] => { results := [.lit (.bool false)], args := [d1, d2] }
  | _ => none }
def PeepBetterWrongFalsely : Prop := peepBetterRow.holds Tryd.pinned (OpenSpec.ofChange peepBetterWrong)

/-- 'harrowlaw20.PeepSettles': WHATEVER THE INPUT: true; the input reads as it did. -/
def peepSettlesSpec : ChangeSpec := { name := "peepSettles", fn := fun _ => fun
  | [d1, d2] => { results := [.lit (.bool true)], args := [d1, d2] }
  | _ => none }
def peepSettlesRow : OpenClaim := { program := "ytaghpbhnclclaaadoor", sum := "d70e8a0bcd0ad3fcbce60ee1ebf16deff587a0e75b7e15c123a1a6866d18f451", func := "harrow/harrowlaw20.PeepSettles", spec := "peepSettles", unfollowed := true, recurses := true, named := ["harrow/instr.uses"], apart := false, laid := [("harrow/instr.uses", laid_harrow_instr_uses)] }
def PeepSettlesSaid : Prop := peepSettlesRow.holds Tryd.pinned (OpenSpec.ofChange peepSettlesSpec)

/-- ITS FALSE NEIGHBOUR: 'it returns false'. Refute it at one input. -/
def peepSettlesWrong : ChangeSpec := { name := "peepSettles", fn := fun _ => fun
  | [d1, d2] => { results := [.lit (.bool false)], args := [d1, d2] }
  | _ => none }
def PeepSettlesWrongFalsely : Prop := peepSettlesRow.holds Tryd.pinned (OpenSpec.ofChange peepSettlesWrong)

/-- 'harrowlaw20.PeepOwn': WHATEVER THE INPUT: true; the input reads as it did. -/
def peepOwnSpec : ChangeSpec := { name := "peepOwn", fn := fun _ => fun
  | [d1, d2] => { results := [.lit (.bool true)], args := [d1, d2] }
  | _ => none }
def peepOwnRow : OpenClaim := { program := "ytaghpbhnclclaaadoor", sum := "d70e8a0bcd0ad3fcbce60ee1ebf16deff587a0e75b7e15c123a1a6866d18f451", func := "harrow/harrowlaw20.PeepOwn", spec := "peepOwn", unfollowed := true, recurses := true, named := ["harrow/instr.uses"], apart := false, laid := [("harrow/instr.uses", laid_harrow_instr_uses)] }
def PeepOwnSaid : Prop := peepOwnRow.holds Tryd.pinned (OpenSpec.ofChange peepOwnSpec)

/-- ITS FALSE NEIGHBOUR: 'it returns false'. Refute it at one input. -/
def peepOwnWrong : ChangeSpec := { name := "peepOwn", fn := fun _ => fun
  | [d1, d2] => { results := [.lit (.bool false)], args := [d1, d2] }
  | _ => none }
def PeepOwnWrongFalsely : Prop := peepOwnRow.holds Tryd.pinned (OpenSpec.ofChange peepOwnWrong)

/- THE SECOND FORM. 'bulk': how many values and letters a reading holds, each counted each time it is reached (what is shared counts as often as it is met; a slice's spare places count too). A statement '..UptoSaid' is the law's where the arguments, and the package variables that the reading takes, are together of bulk at most 1048576: NARROWER than '..Said'. Prove '..Said' where nothing that the law and all that it calls make is longer than what came in: it says more and counts as full. Else prove '..UptoSaid'. A law counts once. -/
mutual
def uptoBulk {H : Type} : DataW H → Nat
  | .lit (.string bytes) => bytes.length + 1
  | .lit _ => 1
  | .nil => 1
  | .ptr d => uptoBulk d + 1
  | .slice elems spare => uptoBulkAll elems + uptoBulkAll spare + 1
  | .agg parts => uptoBulkAll parts + 1
  | .iface _ d => uptoBulk d + 1
  | .map entries => uptoBulkEntries entries + 1
  | .held _ => 1
def uptoBulkAll {H : Type} : List (DataW H) → Nat
  | [] => 0
  | d :: r => uptoBulk d + uptoBulkAll r
def uptoBulkEntries {H : Type} : List (Lit × DataW H) → Nat
  | [] => 0
  | x :: r => uptoBulkEntry x + uptoBulkEntries r
def uptoBulkEntry {H : Type} : Lit × DataW H → Nat
  | (.string bytes, d) => bytes.length + uptoBulk d + 1
  | (_, d) => uptoBulk d + 1
 end
def uptoSmall : (H : Type) → List (DataW H) → Bool := fun _ ds => decide (uptoBulkAll ds ≤ 1048576)
def OpenSpec.upto (s : _root_.Go.ChangeSpec) : _root_.Go.OpenSpec := { _root_.Go.OpenSpec.ofChange s with cond := some uptoSmall }

/-- 'harrowlaw20.PeepDead', WHERE WHAT IT READS IS OF BULK AT MOST 1048576: true; the input reads as it did. -/
def peepDeadUptoRow : OpenClaim := { program := "ytaghpbhnclclaaadoor", sum := "d70e8a0bcd0ad3fcbce60ee1ebf16deff587a0e75b7e15c123a1a6866d18f451", func := "harrow/harrowlaw20.PeepDead", spec := "peepDead", unfollowed := true, recurses := true, named := ["harrow/instr.uses"], apart := false, laid := [("harrow/instr.uses", laid_harrow_instr_uses)], narrowed := true }
def PeepDeadUptoSaid : Prop := peepDeadUptoRow.holds Tryd.pinned (OpenSpec.upto peepDeadSpec)

/-- 'harrowlaw20.PeepTails', WHERE WHAT IT READS IS OF BULK AT MOST 1048576: true; the input reads as it did. -/
def peepTailsUptoRow : OpenClaim := { program := "ytaghpbhnclclaaadoor", sum := "d70e8a0bcd0ad3fcbce60ee1ebf16deff587a0e75b7e15c123a1a6866d18f451", func := "harrow/harrowlaw20.PeepTails", spec := "peepTails", unfollowed := true, recurses := true, named := ["harrow/instr.uses"], apart := false, laid := [("harrow/instr.uses", laid_harrow_instr_uses)], narrowed := true }
def PeepTailsUptoSaid : Prop := peepTailsUptoRow.holds Tryd.pinned (OpenSpec.upto peepTailsSpec)

/-- 'harrowlaw20.PeepKinds', WHERE WHAT IT READS IS OF BULK AT MOST 1048576: true; the input reads as it did. -/
def peepKindsUptoRow : OpenClaim := { program := "ytaghpbhnclclaaadoor", sum := "d70e8a0bcd0ad3fcbce60ee1ebf16deff587a0e75b7e15c123a1a6866d18f451", func := "harrow/harrowlaw20.PeepKinds", spec := "peepKinds", unfollowed := true, recurses := true, named := ["harrow/instr.uses"], apart := false, laid := [("harrow/instr.uses", laid_harrow_instr_uses)], narrowed := true }
def PeepKindsUptoSaid : Prop := peepKindsUptoRow.holds Tryd.pinned (OpenSpec.upto peepKindsSpec)

/-- 'harrowlaw20.PeepBetter', WHERE WHAT IT READS IS OF BULK AT MOST 1048576: true; the input reads as it did. -/
def peepBetterUptoRow : OpenClaim := { program := "ytaghpbhnclclaaadoor", sum := "d70e8a0bcd0ad3fcbce60ee1ebf16deff587a0e75b7e15c123a1a6866d18f451", func := "harrow/harrowlaw20.PeepBetter", spec := "peepBetter", unfollowed := true, recurses := true, named := ["harrow/instr.uses"], apart := false, laid := [("harrow/instr.uses", laid_harrow_instr_uses)], narrowed := true }
def PeepBetterUptoSaid : Prop := peepBetterUptoRow.holds Tryd.pinned (OpenSpec.upto peepBetterSpec)

/-- 'harrowlaw20.PeepSettles', WHERE WHAT IT READS IS OF BULK AT MOST 1048576: true; the input reads as it did. -/
def peepSettlesUptoRow : OpenClaim := { program := "ytaghpbhnclclaaadoor", sum := "d70e8a0bcd0ad3fcbce60ee1ebf16deff587a0e75b7e15c123a1a6866d18f451", func := "harrow/harrowlaw20.PeepSettles", spec := "peepSettles", unfollowed := true, recurses := true, named := ["harrow/instr.uses"], apart := false, laid := [("harrow/instr.uses", laid_harrow_instr_uses)], narrowed := true }
def PeepSettlesUptoSaid : Prop := peepSettlesUptoRow.holds Tryd.pinned (OpenSpec.upto peepSettlesSpec)

/-- 'harrowlaw20.PeepOwn', WHERE WHAT IT READS IS OF BULK AT MOST 1048576: true; the input reads as it did. -/
def peepOwnUptoRow : OpenClaim := { program := "ytaghpbhnclclaaadoor", sum := "d70e8a0bcd0ad3fcbce60ee1ebf16deff587a0e75b7e15c123a1a6866d18f451", func := "harrow/harrowlaw20.PeepOwn", spec := "peepOwn", unfollowed := true, recurses := true, named := ["harrow/instr.uses"], apart := false, laid := [("harrow/instr.uses", laid_harrow_instr_uses)], narrowed := true }
def PeepOwnUptoSaid : Prop := peepOwnUptoRow.holds Tryd.pinned (OpenSpec.upto peepOwnSpec)

end Rows
end Go.Proofs.YtaghpbhnclclaaaDoor
