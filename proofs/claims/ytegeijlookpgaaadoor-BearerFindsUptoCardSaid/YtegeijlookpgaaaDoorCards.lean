/-
  DERIVED. GIVEN WITH THE SEED: THE CARDS: each row of YtegeijlookpgaaaDoorRows.lean that lists a variable, with what it lists TIED to the program's text (the seventh form; the later family's looks); each row that meets fmt, with fmt's text TOLD by the authors' own Lean function (tested against real Go, not proved from fmt's source: count such statements apart). THE CARD IS WHAT COUNTS. Prove the row's statement (the work); the ties are given (YtegeijlookpgaaaDoorTie.lean); close each card by the builder's one call (the guide's Derived/Test/ToyasCard.lean, 'card_holds'). Laid BY PROGRAM, IN A SANDBOX (cutbox-door.mjs). By AI agents, Wed Nov 11 2026. No macro, syntax, notation, axiom, sorry.
-/
import Derived.Test.YtegeijlookpgaaaDoorRows
import GoSem.ClaimSeven
namespace Go.Proofs.YtegeijlookpgaaaDoor
namespace Rows

/-- THE TIED CARD OF 'usherlaw16.GrantTicket'. -/
def grantTicketCard : Claim7 := { stood := { row := grantTicketRow, standIns := [], harness := (true, "c2a8cf9e16e8024d96a4fce018b3adc46084e1c4c66dee4beee4018d747d1008"), looks := true }, kinds := [], alts := [], laidByText := true, laidKinds := [.data, .data, .data, .data, .data], laidTests := true, laidLooks := .later }
def GrantTicketCardSaid : Prop := Claim7.holds Tryd.pinned (.plain (OpenSpec.ofChange grantTicketSpec)) grantTicketCard

/-- THE TIED CARD OF 'usherlaw22.BearerFinds'. -/
def bearerFindsCard : Claim7 := { stood := { row := bearerFindsRow, standIns := [], harness := (true, "c2a8cf9e16e8024d96a4fce018b3adc46084e1c4c66dee4beee4018d747d1008"), looks := true }, kinds := [], alts := [], laidByText := true, laidKinds := [.data, .sentinel, .sentinel, .sentinel, .sentinel, .sentinel, .sentinel, .sentinel, .sentinel, .sentinel, .sentinel, .sentinel, .sentinel, .sentinel, .data, .pinned], laidTests := true, laidLooks := .later }
def BearerFindsCardSaid : Prop := Claim7.holds Tryd.pinned (.plain (OpenSpec.ofChange bearerFindsSpec)) bearerFindsCard

/-- THE SECOND FORM's CARD OF 'usherlaw16.GrantTicket'. -/
def grantTicketUptoCard : Claim7 := { stood := { row := grantTicketUptoRow, standIns := [], harness := (true, "c2a8cf9e16e8024d96a4fce018b3adc46084e1c4c66dee4beee4018d747d1008"), looks := true }, kinds := [], alts := [], laidByText := true, laidKinds := [.data, .data, .data, .data, .data], laidTests := true, laidLooks := .later }
def GrantTicketUptoCardSaid : Prop := Claim7.holds Tryd.pinned (.plain (OpenSpec.upto grantTicketSpec)) grantTicketUptoCard

/-- THE SECOND FORM's CARD OF 'usherlaw22.BearerFinds'. -/
def bearerFindsUptoCard : Claim7 := { stood := { row := bearerFindsUptoRow, standIns := [], harness := (true, "c2a8cf9e16e8024d96a4fce018b3adc46084e1c4c66dee4beee4018d747d1008"), looks := true }, kinds := [], alts := [], laidByText := true, laidKinds := [.data, .sentinel, .sentinel, .sentinel, .sentinel, .sentinel, .sentinel, .sentinel, .sentinel, .sentinel, .sentinel, .sentinel, .sentinel, .sentinel, .data, .pinned], laidTests := true, laidLooks := .later }
def BearerFindsUptoCardSaid : Prop := Claim7.holds Tryd.pinned (.plain (OpenSpec.upto bearerFindsSpec)) bearerFindsUptoCard
end Rows
end Go.Proofs.YtegeijlookpgaaaDoor
