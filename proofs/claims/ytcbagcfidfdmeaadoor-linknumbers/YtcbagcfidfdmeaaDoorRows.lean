/-
  NARROWER THAN 'FOR EVERY INPUT', by the rows' own cells (each row's printed sentence says how): LinkNumbers: laid · LinkChecks: laid · LinkLinks: laid · LinkPlaces: laid · LinkUnlinks: laid · LinkBack: laid · LinkTwice: laid · LinkOwn: laid.
  DERIVED. THE GIVEN ROWS OF THIS SEAT. 8 by the template 'for every input the law returns true; each argument reads behind the call as it read before'; 0 by the template 'total and deterministic' (their statements: YtcbagcfidfdmeaaDoorTotals.lean).
  GIVEN WITH THE SEED: the statements are not yours to turn. If you find one false, say at which input.
  Laid BY PROGRAM, IN A SANDBOX (cutbox-rows.mjs): the forced cells as the released guide's own fill.sh prints them over the translation 517c61d431ffb561… (all of the seat's roots in one cut). By AI agents, Wed Nov 11 2026. No macro, syntax, notation, axiom, sorry.
-/
import Derived.Test.YtcbagcfidfdmeaaDoorChecked
import GoSem.Claim
import GoSem.ClaimJoined
import GoSem.ClaimMapViews
import Derived.JoinedTies
import Derived.KernelRfl
namespace Go.Proofs.YtcbagcfidfdmeaaDoor
/- THE CELL 'sum', in the pinned program and in every row, IS THE sha256 OF THE DUMP (.gsa) THAT YtcbagcfidfdmeaaDoorProg.lean LOADS. Nothing in Lean hashes anything: it is a label: what it is worth is what the hold of that sum in a sandbox is worth. -/
noncomputable def Tryd.pinned : Pinned := { name := "ytcbagcfidfdmeaadoor", sum := "517c61d431ffb561422f2a94b4671c98fb678da068eb41b038c3965ccd430c03", checked := Tryd.checked }
namespace Rows
def none {H : Type} : Left H := { results := [], args := [] }

/- WHAT THE LISTED PACKAGE-LEVEL VARIABLES READ AS WHEN THE CALL BEGINS. Each datum BY PROGRAM (the guide's laid-datum.mjs) off the statement by which the dump's own 'gosem.cut.vars' lays the variable. In a bare row this is a premise. The card (YtcbagcfidfdmeaaDoorCards.lean) ties it to the program's text. -/
def laid_harrow_instr_uses {H : Type} : DataW H := .agg [.lit (.int .i64 0), .lit (.int .i64 64), .lit (.int .i64 66), .lit (.int .i64 80), .lit (.int .i64 97), .lit (.int .i64 99), .lit (.int .i64 113), .lit (.int .i64 80), .lit (.int .i64 97), .lit (.int .i64 33), .lit (.int .i64 33), .lit (.int .i64 33), .lit (.int .i64 0), .lit (.int .i64 0), .lit (.int .i64 33), .lit (.int .i64 97), .lit (.int .i64 0), .lit (.int .i64 0), .lit (.int .i64 78), .lit (.int .i64 64), .lit (.int .i64 79)]

/-- 'harrowlaw18.LinkNumbers': WHATEVER THE INPUT: true; the input reads as it did. -/
def linkNumbersSpec : ChangeSpec := { name := "linkNumbers", fn := fun _ => fun
  | [d] => { results := [.lit (.bool true)], args := [d] }
  | _ => none }
def linkNumbersRow : OpenClaim := { program := "ytcbagcfidfdmeaadoor", sum := "517c61d431ffb561422f2a94b4671c98fb678da068eb41b038c3965ccd430c03", func := "harrow/harrowlaw18.LinkNumbers", spec := "linkNumbers", unfollowed := true, recurses := true, named := ["harrow/instr.uses"], apart := false, laid := [("harrow/instr.uses", laid_harrow_instr_uses)] }
def LinkNumbersSaid : Prop := linkNumbersRow.holds Tryd.pinned (OpenSpec.ofChange linkNumbersSpec)

/-- ITS FALSE NEIGHBOUR: 'it returns false'. Refute it at one input. -/
def linkNumbersWrong : ChangeSpec := { name := "linkNumbers", fn := fun _ => fun
  | [d] => { results := [.lit (.bool false)], args := [d] }
  | _ => none }
def LinkNumbersWrongFalsely : Prop := linkNumbersRow.holds Tryd.pinned (OpenSpec.ofChange linkNumbersWrong)

/-- 'harrowlaw18.LinkChecks': WHATEVER THE INPUT: true; the input reads as it did. -/
def linkChecksSpec : ChangeSpec := { name := "linkChecks", fn := fun _ => fun
  | [d] => { results := [.lit (.bool true)], args := [d] }
  | _ => none }
def linkChecksRow : OpenClaim := { program := "ytcbagcfidfdmeaadoor", sum := "517c61d431ffb561422f2a94b4671c98fb678da068eb41b038c3965ccd430c03", func := "harrow/harrowlaw18.LinkChecks", spec := "linkChecks", unfollowed := true, recurses := true, named := ["harrow/instr.uses"], apart := false, laid := [("harrow/instr.uses", laid_harrow_instr_uses)] }
def LinkChecksSaid : Prop := linkChecksRow.holds Tryd.pinned (OpenSpec.ofChange linkChecksSpec)

/-- ITS FALSE NEIGHBOUR: 'it returns false'. Refute it at one input. -/
def linkChecksWrong : ChangeSpec := { name := "linkChecks", fn := fun _ => fun
  | [d] => { results := [.lit (.bool false)], args := [d] }
  | _ => none }
def LinkChecksWrongFalsely : Prop := linkChecksRow.holds Tryd.pinned (OpenSpec.ofChange linkChecksWrong)

/-- 'harrowlaw18.LinkLinks': WHATEVER THE INPUT: true; the input reads as it did. -/
def linkLinksSpec : ChangeSpec := { name := "linkLinks", fn := fun _ => fun
  | [d1, d2] => { results := [.lit (.bool true)], args := [d1, d2] }
  | _ => none }
def linkLinksRow : OpenClaim := { program := "ytcbagcfidfdmeaadoor", sum := "517c61d431ffb561422f2a94b4671c98fb678da068eb41b038c3965ccd430c03", func := "harrow/harrowlaw18.LinkLinks", spec := "linkLinks", unfollowed := true, recurses := true, named := ["harrow/instr.uses"], apart := false, laid := [("harrow/instr.uses", laid_harrow_instr_uses)] }
def LinkLinksSaid : Prop := linkLinksRow.holds Tryd.pinned (OpenSpec.ofChange linkLinksSpec)

/-- ITS FALSE NEIGHBOUR: 'it returns false'. Refute it at one input. -/
def linkLinksWrong : ChangeSpec := { name := "linkLinks", fn := fun _ => fun
  | [d1, d2] => { results := [.lit (.bool false)], args := [d1, d2] }
  | _ => none }
def LinkLinksWrongFalsely : Prop := linkLinksRow.holds Tryd.pinned (OpenSpec.ofChange linkLinksWrong)

/-- 'harrowlaw18.LinkPlaces': WHATEVER THE INPUT: true; the input reads as it did. -/
def linkPlacesSpec : ChangeSpec := { name := "linkPlaces", fn := fun _ => fun
  | [d] => { results := [.lit (.bool true)], args := [d] }
  | _ => none }
def linkPlacesRow : OpenClaim := { program := "ytcbagcfidfdmeaadoor", sum := "517c61d431ffb561422f2a94b4671c98fb678da068eb41b038c3965ccd430c03", func := "harrow/harrowlaw18.LinkPlaces", spec := "linkPlaces", unfollowed := true, recurses := true, named := ["harrow/instr.uses"], apart := false, laid := [("harrow/instr.uses", laid_harrow_instr_uses)] }
def LinkPlacesSaid : Prop := linkPlacesRow.holds Tryd.pinned (OpenSpec.ofChange linkPlacesSpec)

/-- ITS FALSE NEIGHBOUR: 'it returns false'. Refute it at one input. -/
def linkPlacesWrong : ChangeSpec := { name := "linkPlaces", fn := fun _ => fun
  | [d] => { results := [.lit (.bool false)], args := [d] }
  | _ => none }
def LinkPlacesWrongFalsely : Prop := linkPlacesRow.holds Tryd.pinned (OpenSpec.ofChange linkPlacesWrong)

/-- 'harrowlaw18.LinkUnlinks': WHATEVER THE INPUT: true; the input reads as it did. -/
def linkUnlinksSpec : ChangeSpec := { name := "linkUnlinks", fn := fun _ => fun
  | [d] => { results := [.lit (.bool true)], args := [d] }
  | _ => none }
def linkUnlinksRow : OpenClaim := { program := "ytcbagcfidfdmeaadoor", sum := "517c61d431ffb561422f2a94b4671c98fb678da068eb41b038c3965ccd430c03", func := "harrow/harrowlaw18.LinkUnlinks", spec := "linkUnlinks", unfollowed := true, recurses := true, named := ["harrow/instr.uses"], apart := false, laid := [("harrow/instr.uses", laid_harrow_instr_uses)] }
def LinkUnlinksSaid : Prop := linkUnlinksRow.holds Tryd.pinned (OpenSpec.ofChange linkUnlinksSpec)

/-- ITS FALSE NEIGHBOUR: 'it returns false'. Refute it at one input. -/
def linkUnlinksWrong : ChangeSpec := { name := "linkUnlinks", fn := fun _ => fun
  | [d] => { results := [.lit (.bool false)], args := [d] }
  | _ => none }
def LinkUnlinksWrongFalsely : Prop := linkUnlinksRow.holds Tryd.pinned (OpenSpec.ofChange linkUnlinksWrong)

/-- 'harrowlaw18.LinkBack': WHATEVER THE INPUT: true; the input reads as it did. -/
def linkBackSpec : ChangeSpec := { name := "linkBack", fn := fun _ => fun
  | [d] => { results := [.lit (.bool true)], args := [d] }
  | _ => none }
def linkBackRow : OpenClaim := { program := "ytcbagcfidfdmeaadoor", sum := "517c61d431ffb561422f2a94b4671c98fb678da068eb41b038c3965ccd430c03", func := "harrow/harrowlaw18.LinkBack", spec := "linkBack", unfollowed := true, recurses := true, named := ["harrow/instr.uses"], apart := false, laid := [("harrow/instr.uses", laid_harrow_instr_uses)] }
def LinkBackSaid : Prop := linkBackRow.holds Tryd.pinned (OpenSpec.ofChange linkBackSpec)

/-- ITS FALSE NEIGHBOUR: 'it returns false'. Refute it at one input. -/
def linkBackWrong : ChangeSpec := { name := "linkBack", fn := fun _ => fun
  | [d] => { results := [.lit (.bool false)], args := [d] }
  | _ => none }
def LinkBackWrongFalsely : Prop := linkBackRow.holds Tryd.pinned (OpenSpec.ofChange linkBackWrong)

/-- 'harrowlaw18.LinkTwice': WHATEVER THE INPUT: true; the input reads as it did. -/
def linkTwiceSpec : ChangeSpec := { name := "linkTwice", fn := fun _ => fun
  | [d] => { results := [.lit (.bool true)], args := [d] }
  | _ => none }
def linkTwiceRow : OpenClaim := { program := "ytcbagcfidfdmeaadoor", sum := "517c61d431ffb561422f2a94b4671c98fb678da068eb41b038c3965ccd430c03", func := "harrow/harrowlaw18.LinkTwice", spec := "linkTwice", unfollowed := true, recurses := true, named := ["harrow/instr.uses"], apart := false, laid := [("harrow/instr.uses", laid_harrow_instr_uses)] }
def LinkTwiceSaid : Prop := linkTwiceRow.holds Tryd.pinned (OpenSpec.ofChange linkTwiceSpec)

/-- ITS FALSE NEIGHBOUR: 'it returns false'. Refute it at one input. -/
def linkTwiceWrong : ChangeSpec := { name := "linkTwice", fn := fun _ => fun
  | [d] => { results := [.lit (.bool false)], args := [d] }
  | _ => none }
def LinkTwiceWrongFalsely : Prop := linkTwiceRow.holds Tryd.pinned (OpenSpec.ofChange linkTwiceWrong)

/-- 'harrowlaw18.LinkOwn': WHATEVER THE INPUT: true; the input reads as it did. -/
def linkOwnSpec : ChangeSpec := { name := "linkOwn", fn := fun _ => fun
  | [d] => { results := [.lit (.bool true)], args := [d] }
  | _ => none }
def linkOwnRow : OpenClaim := { program := "ytcbagcfidfdmeaadoor", sum := "517c61d431ffb561422f2a94b4671c98fb678da068eb41b038c3965ccd430c03", func := "harrow/harrowlaw18.LinkOwn", spec := "linkOwn", unfollowed := true, recurses := true, named := ["harrow/instr.uses"], apart := false, laid := [("harrow/instr.uses", laid_harrow_instr_uses)] }
def LinkOwnSaid : Prop := linkOwnRow.holds Tryd.pinned (OpenSpec.ofChange linkOwnSpec)

/-- ITS FALSE NEIGHBOUR: 'it returns false'. Refute it at one input. -/
def linkOwnWrong : ChangeSpec := { name := "linkOwn", fn := fun _ => fun
  | [d] => { results := [.lit (.bool false)], args := [d] }
  | _ => none }
def LinkOwnWrongFalsely : Prop := linkOwnRow.holds Tryd.pinned (OpenSpec.ofChange linkOwnWrong)

/- THE SECOND FORM. 'bulk': how many values and letters a reading holds, each counted each time it is reached (what is shared counts as often as it is met; a slice's spare places count too). A statement '..UptoSaid' is the law's where the arguments, and the package variables that the reading takes, are together of bulk at most 1048576: NARROWER than '..Said'. Prove '..Said' where nothing that the law and all that it calls make is longer than what came in: it says more and counts as full. Else prove '..UptoSaid'. A law counts once. -/
mutual
def uptoBulk {H : Type} : DataW H → Nat
  | .lit (.string bytes) => bytes.length + 1
  | .lit _ => 1
  | .nil => 1
  | .ptr d => uptoBulk d + 1
  | .slice elems spare => uptoBulkAll elems + uptoBulkAll spare + 1
  | .agg parts => uptoBulkAll parts + 1
  | .iface _ d => uptoBulk d + 1
  | .map entries => uptoBulkEntries entries + 1
  | .held _ => 1
def uptoBulkAll {H : Type} : List (DataW H) → Nat
  | [] => 0
  | d :: r => uptoBulk d + uptoBulkAll r
def uptoBulkEntries {H : Type} : List (Lit × DataW H) → Nat
  | [] => 0
  | x :: r => uptoBulkEntry x + uptoBulkEntries r
def uptoBulkEntry {H : Type} : Lit × DataW H → Nat
  | (.string bytes, d) => bytes.length + uptoBulk d + 1
  | (_, d) => uptoBulk d + 1
 end
def uptoSmall : (H : Type) → List (DataW H) → Bool := fun _ ds => decide (uptoBulkAll ds ≤ 1048576)
def OpenSpec.upto (s : _root_.Go.ChangeSpec) : _root_.Go.OpenSpec := { _root_.Go.OpenSpec.ofChange s with cond := some uptoSmall }

/-- 'harrowlaw18.LinkNumbers', WHERE WHAT IT READS IS OF BULK AT MOST 1048576: true; the input reads as it did. -/
def linkNumbersUptoRow : OpenClaim := { program := "ytcbagcfidfdmeaadoor", sum := "517c61d431ffb561422f2a94b4671c98fb678da068eb41b038c3965ccd430c03", func := "harrow/harrowlaw18.LinkNumbers", spec := "linkNumbers", unfollowed := true, recurses := true, named := ["harrow/instr.uses"], apart := false, laid := [("harrow/instr.uses", laid_harrow_instr_uses)], narrowed := true }
def LinkNumbersUptoSaid : Prop := linkNumbersUptoRow.holds Tryd.pinned (OpenSpec.upto linkNumbersSpec)

/-- 'harrowlaw18.LinkChecks', WHERE WHAT IT READS IS OF BULK AT MOST 1048576: true; the input reads as it did. -/
def linkChecksUptoRow : OpenClaim := { program := "ytcbagcfidfdmeaadoor", sum := "517c61d431ffb561422f2a94b4671c98fb678da068eb41b038c3965ccd430c03", func := "harrow/harrowlaw18.LinkChecks", spec := "linkChecks", unfollowed := true, recurses := true, named := ["harrow/instr.uses"], apart := false, laid := [("harrow/instr.uses", laid_harrow_instr_uses)], narrowed := true }
def LinkChecksUptoSaid : Prop := linkChecksUptoRow.holds Tryd.pinned (OpenSpec.upto linkChecksSpec)

/-- 'harrowlaw18.LinkLinks', WHERE WHAT IT READS IS OF BULK AT MOST 1048576: true; the input reads as it did. -/
def linkLinksUptoRow : OpenClaim := { program := "ytcbagcfidfdmeaadoor", sum := "517c61d431ffb561422f2a94b4671c98fb678da068eb41b038c3965ccd430c03", func := "harrow/harrowlaw18.LinkLinks", spec := "linkLinks", unfollowed := true, recurses := true, named := ["harrow/instr.uses"], apart := false, laid := [("harrow/instr.uses", laid_harrow_instr_uses)], narrowed := true }
def LinkLinksUptoSaid : Prop := linkLinksUptoRow.holds Tryd.pinned (OpenSpec.upto linkLinksSpec)

/-- 'harrowlaw18.LinkPlaces', WHERE WHAT IT READS IS OF BULK AT MOST 1048576: true; the input reads as it did. -/
def linkPlacesUptoRow : OpenClaim := { program := "ytcbagcfidfdmeaadoor", sum := "517c61d431ffb561422f2a94b4671c98fb678da068eb41b038c3965ccd430c03", func := "harrow/harrowlaw18.LinkPlaces", spec := "linkPlaces", unfollowed := true, recurses := true, named := ["harrow/instr.uses"], apart := false, laid := [("harrow/instr.uses", laid_harrow_instr_uses)], narrowed := true }
def LinkPlacesUptoSaid : Prop := linkPlacesUptoRow.holds Tryd.pinned (OpenSpec.upto linkPlacesSpec)

/-- 'harrowlaw18.LinkUnlinks', WHERE WHAT IT READS IS OF BULK AT MOST 1048576: true; the input reads as it did. -/
def linkUnlinksUptoRow : OpenClaim := { program := "ytcbagcfidfdmeaadoor", sum := "517c61d431ffb561422f2a94b4671c98fb678da068eb41b038c3965ccd430c03", func := "harrow/harrowlaw18.LinkUnlinks", spec := "linkUnlinks", unfollowed := true, recurses := true, named := ["harrow/instr.uses"], apart := false, laid := [("harrow/instr.uses", laid_harrow_instr_uses)], narrowed := true }
def LinkUnlinksUptoSaid : Prop := linkUnlinksUptoRow.holds Tryd.pinned (OpenSpec.upto linkUnlinksSpec)

/-- 'harrowlaw18.LinkBack', WHERE WHAT IT READS IS OF BULK AT MOST 1048576: true; the input reads as it did. -/
def linkBackUptoRow : OpenClaim := { program := "ytcbagcfidfdmeaadoor", sum := "517c61d431ffb561422f2a94b4671c98fb678da068eb41b038c3965ccd430c03", func := "harrow/harrowlaw18.LinkBack", spec := "linkBack", unfollowed := true, recurses := true, named := ["harrow/instr.uses"], apart := false, laid := [("harrow/instr.uses", laid_harrow_instr_uses)], narrowed := true }
def LinkBackUptoSaid : Prop := linkBackUptoRow.holds Tryd.pinned (OpenSpec.upto linkBackSpec)

/-- 'harrowlaw18.LinkTwice', WHERE WHAT IT READS IS OF BULK AT MOST 1048576: true; the input reads as it did. -/
def linkTwiceUptoRow : OpenClaim := { program := "ytcbagcfidfdmeaadoor", sum := "517c61d431ffb561422f2a94b4671c98fb678da068eb41b038c3965ccd430c03", func := "harrow/harrowlaw18.LinkTwice", spec := "linkTwice", unfollowed := true, recurses := true, named := ["harrow/instr.uses"], apart := false, laid := [("harrow/instr.uses", laid_harrow_instr_uses)], narrowed := true }
def LinkTwiceUptoSaid : Prop := linkTwiceUptoRow.holds Tryd.pinned (OpenSpec.upto linkTwiceSpec)

/-- 'harrowlaw18.LinkOwn', WHERE WHAT IT READS IS OF BULK AT MOST 1048576: true; the input reads as it did. -/
def linkOwnUptoRow : OpenClaim := { program := "ytcbagcfidfdmeaadoor", sum := "517c61d431ffb561422f2a94b4671c98fb678da068eb41b038c3965ccd430c03", func := "harrow/harrowlaw18.LinkOwn", spec := "linkOwn", unfollowed := true, recurses := true, named := ["harrow/instr.uses"], apart := false, laid := [("harrow/instr.uses", laid_harrow_instr_uses)], narrowed := true }
def LinkOwnUptoSaid : Prop := linkOwnUptoRow.holds Tryd.pinned (OpenSpec.upto linkOwnSpec)

end Rows
end Go.Proofs.YtcbagcfidfdmeaaDoor
