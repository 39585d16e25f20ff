/-
  DERIVED. GIVEN WITH THE SEED: THE CARDS: each row of YtaghpbhnclclaaaDoorRows.lean that lists a variable, with what it lists TIED to the program's text (the seventh form; the later family's looks); each row that meets fmt, with fmt's text TOLD by the authors' own Lean function (tested against real Go, not proved from fmt's source: count such statements apart). THE CARD IS WHAT COUNTS. Prove the row's statement (the work); the ties are given (YtaghpbhnclclaaaDoorTie.lean); close each card by the builder's one call (the guide's Derived/Test/ToyasCard.lean, 'card_holds'). Laid BY PROGRAM, IN A SANDBOX (cutbox-door.mjs). By AI agents, Wed Nov 11 2026. No macro, syntax, notation, axiom, sorry.
-/
import Derived.Test.YtaghpbhnclclaaaDoorRows
import GoSem.ClaimSeven
namespace Go.Proofs.YtaghpbhnclclaaaDoor
namespace Rows

/-- THE TIED CARD OF 'harrowlaw20.PeepDead'. -/
def peepDeadCard : Claim7 := { stood := { row := peepDeadRow, standIns := [], harness := (true, "f441c601634f40774e9384be45fd2d9d9c47651ee9673f2a6b2b7fbd5b1efda8"), looks := false }, kinds := [], alts := [], laidByText := true, laidKinds := [.data], laidTests := true, laidLooks := .later }
def PeepDeadCardSaid : Prop := Claim7.holds Tryd.pinned (.plain (OpenSpec.ofChange peepDeadSpec)) peepDeadCard

/-- THE TIED CARD OF 'harrowlaw20.PeepTails'. -/
def peepTailsCard : Claim7 := { stood := { row := peepTailsRow, standIns := [], harness := (true, "f441c601634f40774e9384be45fd2d9d9c47651ee9673f2a6b2b7fbd5b1efda8"), looks := false }, kinds := [], alts := [], laidByText := true, laidKinds := [.data], laidTests := true, laidLooks := .later }
def PeepTailsCardSaid : Prop := Claim7.holds Tryd.pinned (.plain (OpenSpec.ofChange peepTailsSpec)) peepTailsCard

/-- THE TIED CARD OF 'harrowlaw20.PeepKinds'. -/
def peepKindsCard : Claim7 := { stood := { row := peepKindsRow, standIns := [], harness := (true, "f441c601634f40774e9384be45fd2d9d9c47651ee9673f2a6b2b7fbd5b1efda8"), looks := false }, kinds := [], alts := [], laidByText := true, laidKinds := [.data], laidTests := true, laidLooks := .later }
def PeepKindsCardSaid : Prop := Claim7.holds Tryd.pinned (.plain (OpenSpec.ofChange peepKindsSpec)) peepKindsCard

/-- THE TIED CARD OF 'harrowlaw20.PeepBetter'. -/
def peepBetterCard : Claim7 := { stood := { row := peepBetterRow, standIns := [], harness := (true, "f441c601634f40774e9384be45fd2d9d9c47651ee9673f2a6b2b7fbd5b1efda8"), looks := false }, kinds := [], alts := [], laidByText := true, laidKinds := [.data], laidTests := true, laidLooks := .later }
def PeepBetterCardSaid : Prop := Claim7.holds Tryd.pinned (.plain (OpenSpec.ofChange peepBetterSpec)) peepBetterCard

/-- THE TIED CARD OF 'harrowlaw20.PeepSettles'. -/
def peepSettlesCard : Claim7 := { stood := { row := peepSettlesRow, standIns := [], harness := (true, "f441c601634f40774e9384be45fd2d9d9c47651ee9673f2a6b2b7fbd5b1efda8"), looks := false }, kinds := [], alts := [], laidByText := true, laidKinds := [.data], laidTests := true, laidLooks := .later }
def PeepSettlesCardSaid : Prop := Claim7.holds Tryd.pinned (.plain (OpenSpec.ofChange peepSettlesSpec)) peepSettlesCard

/-- THE TIED CARD OF 'harrowlaw20.PeepOwn'. -/
def peepOwnCard : Claim7 := { stood := { row := peepOwnRow, standIns := [], harness := (true, "f441c601634f40774e9384be45fd2d9d9c47651ee9673f2a6b2b7fbd5b1efda8"), looks := false }, kinds := [], alts := [], laidByText := true, laidKinds := [.data], laidTests := true, laidLooks := .later }
def PeepOwnCardSaid : Prop := Claim7.holds Tryd.pinned (.plain (OpenSpec.ofChange peepOwnSpec)) peepOwnCard

/-- THE SECOND FORM's CARD OF 'harrowlaw20.PeepDead'. -/
def peepDeadUptoCard : Claim7 := { stood := { row := peepDeadUptoRow, standIns := [], harness := (true, "f441c601634f40774e9384be45fd2d9d9c47651ee9673f2a6b2b7fbd5b1efda8"), looks := false }, kinds := [], alts := [], laidByText := true, laidKinds := [.data], laidTests := true, laidLooks := .later }
def PeepDeadUptoCardSaid : Prop := Claim7.holds Tryd.pinned (.plain (OpenSpec.upto peepDeadSpec)) peepDeadUptoCard

/-- THE SECOND FORM's CARD OF 'harrowlaw20.PeepTails'. -/
def peepTailsUptoCard : Claim7 := { stood := { row := peepTailsUptoRow, standIns := [], harness := (true, "f441c601634f40774e9384be45fd2d9d9c47651ee9673f2a6b2b7fbd5b1efda8"), looks := false }, kinds := [], alts := [], laidByText := true, laidKinds := [.data], laidTests := true, laidLooks := .later }
def PeepTailsUptoCardSaid : Prop := Claim7.holds Tryd.pinned (.plain (OpenSpec.upto peepTailsSpec)) peepTailsUptoCard

/-- THE SECOND FORM's CARD OF 'harrowlaw20.PeepKinds'. -/
def peepKindsUptoCard : Claim7 := { stood := { row := peepKindsUptoRow, standIns := [], harness := (true, "f441c601634f40774e9384be45fd2d9d9c47651ee9673f2a6b2b7fbd5b1efda8"), looks := false }, kinds := [], alts := [], laidByText := true, laidKinds := [.data], laidTests := true, laidLooks := .later }
def PeepKindsUptoCardSaid : Prop := Claim7.holds Tryd.pinned (.plain (OpenSpec.upto peepKindsSpec)) peepKindsUptoCard

/-- THE SECOND FORM's CARD OF 'harrowlaw20.PeepBetter'. -/
def peepBetterUptoCard : Claim7 := { stood := { row := peepBetterUptoRow, standIns := [], harness := (true, "f441c601634f40774e9384be45fd2d9d9c47651ee9673f2a6b2b7fbd5b1efda8"), looks := false }, kinds := [], alts := [], laidByText := true, laidKinds := [.data], laidTests := true, laidLooks := .later }
def PeepBetterUptoCardSaid : Prop := Claim7.holds Tryd.pinned (.plain (OpenSpec.upto peepBetterSpec)) peepBetterUptoCard

/-- THE SECOND FORM's CARD OF 'harrowlaw20.PeepSettles'. -/
def peepSettlesUptoCard : Claim7 := { stood := { row := peepSettlesUptoRow, standIns := [], harness := (true, "f441c601634f40774e9384be45fd2d9d9c47651ee9673f2a6b2b7fbd5b1efda8"), looks := false }, kinds := [], alts := [], laidByText := true, laidKinds := [.data], laidTests := true, laidLooks := .later }
def PeepSettlesUptoCardSaid : Prop := Claim7.holds Tryd.pinned (.plain (OpenSpec.upto peepSettlesSpec)) peepSettlesUptoCard

/-- THE SECOND FORM's CARD OF 'harrowlaw20.PeepOwn'. -/
def peepOwnUptoCard : Claim7 := { stood := { row := peepOwnUptoRow, standIns := [], harness := (true, "f441c601634f40774e9384be45fd2d9d9c47651ee9673f2a6b2b7fbd5b1efda8"), looks := false }, kinds := [], alts := [], laidByText := true, laidKinds := [.data], laidTests := true, laidLooks := .later }
def PeepOwnUptoCardSaid : Prop := Claim7.holds Tryd.pinned (.plain (OpenSpec.upto peepOwnSpec)) peepOwnUptoCard
end Rows
end Go.Proofs.YtaghpbhnclclaaaDoor
