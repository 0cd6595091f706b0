/-
  DERIVED. GIVEN WITH THE SEED: THE CARDS: each row of YtplginnkececaaaGreatDoorRows.lean that lists a variable, with what it lists TIED to the program's text (the seventh form; the later family's looks); each row that meets fmt, with fmt's text TOLD by the authors' own Lean function (tested against real Go, not proved from fmt's source: count such statements apart). THE CARD IS WHAT COUNTS. Prove the row's statement (the work); the ties are given (YtplginnkececaaaGreatDoorTie.lean); close each card by the builder's one call (the guide's Derived/Test/ToyasCard.lean, 'card_holds'). Laid BY PROGRAM, IN A SANDBOX (cutbox-door.mjs). By AI agents, Wed Nov 11 2026. No macro, syntax, notation, axiom, sorry.
-/
import Derived.Test.YtplginnkececaaaGreatDoorRows
import GoSem.ClaimSeven
namespace Go.Proofs.YtplginnkececaaaGreatDoor
namespace Rows

/-- THE TIED CARD OF 'jitlaw2.RidesStand'. -/
def ridesStandCard : Claim7 := { stood := { row := ridesStandRow, standIns := [], harness := (true, "d0992621579ce48e5d509ec56c0b2c175e206fbbc89c3ae3adeed82dba5b6a2a"), looks := false }, kinds := [], alts := [], laidByText := true, laidKinds := [.data, .data, .data], laidTests := true, laidLooks := .later }
def RidesStandCardSaid : Prop := Claim7.holds Tryz.pinned (.plain (OpenSpec.ofChange ridesStandSpec)) ridesStandCard

/-- THE TIED CARD OF 'jitlaw2.RidersMoveUp'. -/
def ridersMoveUpCard : Claim7 := { stood := { row := ridersMoveUpRow, standIns := [], harness := (true, "d0992621579ce48e5d509ec56c0b2c175e206fbbc89c3ae3adeed82dba5b6a2a"), looks := false }, kinds := [], alts := [], laidByText := true, laidKinds := [.data, .data, .data], laidTests := true, laidLooks := .later }
def RidersMoveUpCardSaid : Prop := Claim7.holds Tryz.pinned (.plain (OpenSpec.ofChange ridersMoveUpSpec)) ridersMoveUpCard

/-- THE TIED CARD OF 'jitlaw2.AsksFollowed'. -/
def asksFollowedCard : Claim7 := { stood := { row := asksFollowedRow, standIns := [], harness := (true, "d0992621579ce48e5d509ec56c0b2c175e206fbbc89c3ae3adeed82dba5b6a2a"), looks := false }, kinds := [], alts := [], laidByText := true, laidKinds := [.data, .data, .data], laidTests := true, laidLooks := .later }
def AsksFollowedCardSaid : Prop := Claim7.holds Tryz.pinned (.plain (OpenSpec.ofChange asksFollowedSpec)) asksFollowedCard

/-- THE TIED CARD OF 'jitkeep2.RoomsHold'. -/
def roomsHoldCard : Claim7 := { stood := { row := roomsHoldRow, standIns := [], harness := (true, "d0992621579ce48e5d509ec56c0b2c175e206fbbc89c3ae3adeed82dba5b6a2a"), looks := false }, kinds := [], alts := [], laidByText := true, laidKinds := [.data, .data, .data], laidTests := true, laidLooks := .later }
def RoomsHoldCardSaid : Prop := Claim7.holds Tryz.pinned (.plain (OpenSpec.ofChange roomsHoldSpec)) roomsHoldCard

/-- THE TIED CARD OF 'jitkeep2.RefusedAsksSayNothing'. -/
def refusedAsksSayNothingCard : Claim7 := { stood := { row := refusedAsksSayNothingRow, standIns := [], harness := (true, "d0992621579ce48e5d509ec56c0b2c175e206fbbc89c3ae3adeed82dba5b6a2a"), looks := false }, kinds := [], alts := [], laidByText := true, laidKinds := [.data, .data, .data], laidTests := true, laidLooks := .later }
def RefusedAsksSayNothingCardSaid : Prop := Claim7.holds Tryz.pinned (.plain (OpenSpec.ofChange refusedAsksSayNothingSpec)) refusedAsksSayNothingCard

/-- THE SECOND FORM's CARD OF 'jitlaw2.RidesStand'. -/
def ridesStandUptoCard : Claim7 := { stood := { row := ridesStandUptoRow, standIns := [], harness := (true, "d0992621579ce48e5d509ec56c0b2c175e206fbbc89c3ae3adeed82dba5b6a2a"), looks := false }, kinds := [], alts := [], laidByText := true, laidKinds := [.data, .data, .data], laidTests := true, laidLooks := .later }
def RidesStandUptoCardSaid : Prop := Claim7.holds Tryz.pinned (.plain (OpenSpec.upto ridesStandSpec)) ridesStandUptoCard

/-- THE SECOND FORM's CARD OF 'jitlaw2.RidersMoveUp'. -/
def ridersMoveUpUptoCard : Claim7 := { stood := { row := ridersMoveUpUptoRow, standIns := [], harness := (true, "d0992621579ce48e5d509ec56c0b2c175e206fbbc89c3ae3adeed82dba5b6a2a"), looks := false }, kinds := [], alts := [], laidByText := true, laidKinds := [.data, .data, .data], laidTests := true, laidLooks := .later }
def RidersMoveUpUptoCardSaid : Prop := Claim7.holds Tryz.pinned (.plain (OpenSpec.upto ridersMoveUpSpec)) ridersMoveUpUptoCard

/-- THE SECOND FORM's CARD OF 'jitlaw2.AsksFollowed'. -/
def asksFollowedUptoCard : Claim7 := { stood := { row := asksFollowedUptoRow, standIns := [], harness := (true, "d0992621579ce48e5d509ec56c0b2c175e206fbbc89c3ae3adeed82dba5b6a2a"), looks := false }, kinds := [], alts := [], laidByText := true, laidKinds := [.data, .data, .data], laidTests := true, laidLooks := .later }
def AsksFollowedUptoCardSaid : Prop := Claim7.holds Tryz.pinned (.plain (OpenSpec.upto asksFollowedSpec)) asksFollowedUptoCard

/-- THE SECOND FORM's CARD OF 'jitkeep2.RoomsHold'. -/
def roomsHoldUptoCard : Claim7 := { stood := { row := roomsHoldUptoRow, standIns := [], harness := (true, "d0992621579ce48e5d509ec56c0b2c175e206fbbc89c3ae3adeed82dba5b6a2a"), looks := false }, kinds := [], alts := [], laidByText := true, laidKinds := [.data, .data, .data], laidTests := true, laidLooks := .later }
def RoomsHoldUptoCardSaid : Prop := Claim7.holds Tryz.pinned (.plain (OpenSpec.upto roomsHoldSpec)) roomsHoldUptoCard

/-- THE SECOND FORM's CARD OF 'jitkeep2.RefusedAsksSayNothing'. -/
def refusedAsksSayNothingUptoCard : Claim7 := { stood := { row := refusedAsksSayNothingUptoRow, standIns := [], harness := (true, "d0992621579ce48e5d509ec56c0b2c175e206fbbc89c3ae3adeed82dba5b6a2a"), looks := false }, kinds := [], alts := [], laidByText := true, laidKinds := [.data, .data, .data], laidTests := true, laidLooks := .later }
def RefusedAsksSayNothingUptoCardSaid : Prop := Claim7.holds Tryz.pinned (.plain (OpenSpec.upto refusedAsksSayNothingSpec)) refusedAsksSayNothingUptoCard
end Rows
end Go.Proofs.YtplginnkececaaaGreatDoor
