/-
  DERIVED. GIVEN WITH THE SEED: THE CARDS: each row of YtcbagcfidfdmeaaDoorRows.lean that lists a variable, with what it lists TIED to the program's text (the seventh form; the later family's looks); each row that meets fmt, with fmt's text TOLD by the authors' own Lean function (tested against real Go, not proved from fmt's source: count such statements apart). THE CARD IS WHAT COUNTS. Prove the row's statement (the work); the ties are given (YtcbagcfidfdmeaaDoorTie.lean); close each card by the builder's one call (the guide's Derived/Test/ToyasCard.lean, 'card_holds'). Laid BY PROGRAM, IN A SANDBOX (cutbox-door.mjs). By AI agents, Wed Nov 11 2026. No macro, syntax, notation, axiom, sorry.
-/
import Derived.Test.YtcbagcfidfdmeaaDoorRows
import GoSem.ClaimSeven
namespace Go.Proofs.YtcbagcfidfdmeaaDoor
namespace Rows

/-- THE TIED CARD OF 'harrowlaw18.LinkNumbers'. -/
def linkNumbersCard : Claim7 := { stood := { row := linkNumbersRow, standIns := [], harness := (true, "ae8de550c5d253ec292eaa5519e951f43189123f1918906150cc069c0cf63c10"), looks := false }, kinds := [], alts := [], laidByText := true, laidKinds := [.data], laidTests := true, laidLooks := .later }
def LinkNumbersCardSaid : Prop := Claim7.holds Tryd.pinned (.plain (OpenSpec.ofChange linkNumbersSpec)) linkNumbersCard

/-- THE TIED CARD OF 'harrowlaw18.LinkChecks'. -/
def linkChecksCard : Claim7 := { stood := { row := linkChecksRow, standIns := [], harness := (true, "ae8de550c5d253ec292eaa5519e951f43189123f1918906150cc069c0cf63c10"), looks := false }, kinds := [], alts := [], laidByText := true, laidKinds := [.data], laidTests := true, laidLooks := .later }
def LinkChecksCardSaid : Prop := Claim7.holds Tryd.pinned (.plain (OpenSpec.ofChange linkChecksSpec)) linkChecksCard

/-- THE TIED CARD OF 'harrowlaw18.LinkLinks'. -/
def linkLinksCard : Claim7 := { stood := { row := linkLinksRow, standIns := [], harness := (true, "ae8de550c5d253ec292eaa5519e951f43189123f1918906150cc069c0cf63c10"), looks := false }, kinds := [], alts := [], laidByText := true, laidKinds := [.data], laidTests := true, laidLooks := .later }
def LinkLinksCardSaid : Prop := Claim7.holds Tryd.pinned (.plain (OpenSpec.ofChange linkLinksSpec)) linkLinksCard

/-- THE TIED CARD OF 'harrowlaw18.LinkPlaces'. -/
def linkPlacesCard : Claim7 := { stood := { row := linkPlacesRow, standIns := [], harness := (true, "ae8de550c5d253ec292eaa5519e951f43189123f1918906150cc069c0cf63c10"), looks := false }, kinds := [], alts := [], laidByText := true, laidKinds := [.data], laidTests := true, laidLooks := .later }
def LinkPlacesCardSaid : Prop := Claim7.holds Tryd.pinned (.plain (OpenSpec.ofChange linkPlacesSpec)) linkPlacesCard

/-- THE TIED CARD OF 'harrowlaw18.LinkUnlinks'. -/
def linkUnlinksCard : Claim7 := { stood := { row := linkUnlinksRow, standIns := [], harness := (true, "ae8de550c5d253ec292eaa5519e951f43189123f1918906150cc069c0cf63c10"), looks := false }, kinds := [], alts := [], laidByText := true, laidKinds := [.data], laidTests := true, laidLooks := .later }
def LinkUnlinksCardSaid : Prop := Claim7.holds Tryd.pinned (.plain (OpenSpec.ofChange linkUnlinksSpec)) linkUnlinksCard

/-- THE TIED CARD OF 'harrowlaw18.LinkBack'. -/
def linkBackCard : Claim7 := { stood := { row := linkBackRow, standIns := [], harness := (true, "ae8de550c5d253ec292eaa5519e951f43189123f1918906150cc069c0cf63c10"), looks := false }, kinds := [], alts := [], laidByText := true, laidKinds := [.data], laidTests := true, laidLooks := .later }
def LinkBackCardSaid : Prop := Claim7.holds Tryd.pinned (.plain (OpenSpec.ofChange linkBackSpec)) linkBackCard

/-- THE TIED CARD OF 'harrowlaw18.LinkTwice'. -/
def linkTwiceCard : Claim7 := { stood := { row := linkTwiceRow, standIns := [], harness := (true, "ae8de550c5d253ec292eaa5519e951f43189123f1918906150cc069c0cf63c10"), looks := false }, kinds := [], alts := [], laidByText := true, laidKinds := [.data], laidTests := true, laidLooks := .later }
def LinkTwiceCardSaid : Prop := Claim7.holds Tryd.pinned (.plain (OpenSpec.ofChange linkTwiceSpec)) linkTwiceCard

/-- THE TIED CARD OF 'harrowlaw18.LinkOwn'. -/
def linkOwnCard : Claim7 := { stood := { row := linkOwnRow, standIns := [], harness := (true, "ae8de550c5d253ec292eaa5519e951f43189123f1918906150cc069c0cf63c10"), looks := false }, kinds := [], alts := [], laidByText := true, laidKinds := [.data], laidTests := true, laidLooks := .later }
def LinkOwnCardSaid : Prop := Claim7.holds Tryd.pinned (.plain (OpenSpec.ofChange linkOwnSpec)) linkOwnCard

/-- THE SECOND FORM's CARD OF 'harrowlaw18.LinkNumbers'. -/
def linkNumbersUptoCard : Claim7 := { stood := { row := linkNumbersUptoRow, standIns := [], harness := (true, "ae8de550c5d253ec292eaa5519e951f43189123f1918906150cc069c0cf63c10"), looks := false }, kinds := [], alts := [], laidByText := true, laidKinds := [.data], laidTests := true, laidLooks := .later }
def LinkNumbersUptoCardSaid : Prop := Claim7.holds Tryd.pinned (.plain (OpenSpec.upto linkNumbersSpec)) linkNumbersUptoCard

/-- THE SECOND FORM's CARD OF 'harrowlaw18.LinkChecks'. -/
def linkChecksUptoCard : Claim7 := { stood := { row := linkChecksUptoRow, standIns := [], harness := (true, "ae8de550c5d253ec292eaa5519e951f43189123f1918906150cc069c0cf63c10"), looks := false }, kinds := [], alts := [], laidByText := true, laidKinds := [.data], laidTests := true, laidLooks := .later }
def LinkChecksUptoCardSaid : Prop := Claim7.holds Tryd.pinned (.plain (OpenSpec.upto linkChecksSpec)) linkChecksUptoCard

/-- THE SECOND FORM's CARD OF 'harrowlaw18.LinkLinks'. -/
def linkLinksUptoCard : Claim7 := { stood := { row := linkLinksUptoRow, standIns := [], harness := (true, "ae8de550c5d253ec292eaa5519e951f43189123f1918906150cc069c0cf63c10"), looks := false }, kinds := [], alts := [], laidByText := true, laidKinds := [.data], laidTests := true, laidLooks := .later }
def LinkLinksUptoCardSaid : Prop := Claim7.holds Tryd.pinned (.plain (OpenSpec.upto linkLinksSpec)) linkLinksUptoCard

/-- THE SECOND FORM's CARD OF 'harrowlaw18.LinkPlaces'. -/
def linkPlacesUptoCard : Claim7 := { stood := { row := linkPlacesUptoRow, standIns := [], harness := (true, "ae8de550c5d253ec292eaa5519e951f43189123f1918906150cc069c0cf63c10"), looks := false }, kinds := [], alts := [], laidByText := true, laidKinds := [.data], laidTests := true, laidLooks := .later }
def LinkPlacesUptoCardSaid : Prop := Claim7.holds Tryd.pinned (.plain (OpenSpec.upto linkPlacesSpec)) linkPlacesUptoCard

/-- THE SECOND FORM's CARD OF 'harrowlaw18.LinkUnlinks'. -/
def linkUnlinksUptoCard : Claim7 := { stood := { row := linkUnlinksUptoRow, standIns := [], harness := (true, "ae8de550c5d253ec292eaa5519e951f43189123f1918906150cc069c0cf63c10"), looks := false }, kinds := [], alts := [], laidByText := true, laidKinds := [.data], laidTests := true, laidLooks := .later }
def LinkUnlinksUptoCardSaid : Prop := Claim7.holds Tryd.pinned (.plain (OpenSpec.upto linkUnlinksSpec)) linkUnlinksUptoCard

/-- THE SECOND FORM's CARD OF 'harrowlaw18.LinkBack'. -/
def linkBackUptoCard : Claim7 := { stood := { row := linkBackUptoRow, standIns := [], harness := (true, "ae8de550c5d253ec292eaa5519e951f43189123f1918906150cc069c0cf63c10"), looks := false }, kinds := [], alts := [], laidByText := true, laidKinds := [.data], laidTests := true, laidLooks := .later }
def LinkBackUptoCardSaid : Prop := Claim7.holds Tryd.pinned (.plain (OpenSpec.upto linkBackSpec)) linkBackUptoCard

/-- THE SECOND FORM's CARD OF 'harrowlaw18.LinkTwice'. -/
def linkTwiceUptoCard : Claim7 := { stood := { row := linkTwiceUptoRow, standIns := [], harness := (true, "ae8de550c5d253ec292eaa5519e951f43189123f1918906150cc069c0cf63c10"), looks := false }, kinds := [], alts := [], laidByText := true, laidKinds := [.data], laidTests := true, laidLooks := .later }
def LinkTwiceUptoCardSaid : Prop := Claim7.holds Tryd.pinned (.plain (OpenSpec.upto linkTwiceSpec)) linkTwiceUptoCard

/-- THE SECOND FORM's CARD OF 'harrowlaw18.LinkOwn'. -/
def linkOwnUptoCard : Claim7 := { stood := { row := linkOwnUptoRow, standIns := [], harness := (true, "ae8de550c5d253ec292eaa5519e951f43189123f1918906150cc069c0cf63c10"), looks := false }, kinds := [], alts := [], laidByText := true, laidKinds := [.data], laidTests := true, laidLooks := .later }
def LinkOwnUptoCardSaid : Prop := Claim7.holds Tryd.pinned (.plain (OpenSpec.upto linkOwnSpec)) linkOwnUptoCard
end Rows
end Go.Proofs.YtcbagcfidfdmeaaDoor
