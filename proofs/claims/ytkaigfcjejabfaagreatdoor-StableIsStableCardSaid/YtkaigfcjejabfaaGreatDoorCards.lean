/-
  DERIVED. GIVEN WITH THE SEED: THE CARDS: each row of YtkaigfcjejabfaaGreatDoorRows.lean that lists a variable, with what it lists TIED to the program's text (the seventh form; the later family's looks); each row that meets fmt, with fmt's text TOLD by the authors' own Lean function (tested against real Go, not proved from fmt's source: count such statements apart). THE CARD IS WHAT COUNTS. Prove the row's statement (the work); the ties are given (YtkaigfcjejabfaaGreatDoorTie.lean); close each card by the builder's one call (the guide's Derived/Test/ToyasCard.lean, 'card_holds'). Laid BY PROGRAM, IN A SANDBOX (cutbox-door.mjs). By AI agents, Wed Nov 11 2026. No macro, syntax, notation, axiom, sorry.
-/
import Derived.Test.YtkaigfcjejabfaaGreatDoorRows
import GoSem.ClaimSeven
namespace Go.Proofs.YtkaigfcjejabfaaGreatDoor
namespace Rows

/-- THE TIED CARD OF 'jitkeep2.StableIsStable'. -/
def stableIsStableCard : Claim7 := { stood := { row := stableIsStableRow, standIns := [], harness := (true, "d3c82c74d8b1d80e8262c63c418950cb7640cace3ed7cdb1219ef7ea6bdf97dc"), looks := false }, kinds := [], alts := [], laidByText := true, laidKinds := [.data, .data, .data], laidTests := true, laidLooks := .later }
def StableIsStableCardSaid : Prop := Claim7.holds Tryz.pinned (.plain (OpenSpec.ofChange stableIsStableSpec)) stableIsStableCard

/-- THE TIED CARD OF 'jitkeep2.MatchesStay'. -/
def matchesStayCard : Claim7 := { stood := { row := matchesStayRow, standIns := [], harness := (true, "d3c82c74d8b1d80e8262c63c418950cb7640cace3ed7cdb1219ef7ea6bdf97dc"), looks := false }, kinds := [], alts := [], laidByText := true, laidKinds := [.data, .data, .data], laidTests := true, laidLooks := .later }
def MatchesStayCardSaid : Prop := Claim7.holds Tryz.pinned (.plain (OpenSpec.ofChange matchesStaySpec)) matchesStayCard

/-- THE SECOND FORM's CARD OF 'jitkeep2.StableIsStable'. -/
def stableIsStableUptoCard : Claim7 := { stood := { row := stableIsStableUptoRow, standIns := [], harness := (true, "d3c82c74d8b1d80e8262c63c418950cb7640cace3ed7cdb1219ef7ea6bdf97dc"), looks := false }, kinds := [], alts := [], laidByText := true, laidKinds := [.data, .data, .data], laidTests := true, laidLooks := .later }
def StableIsStableUptoCardSaid : Prop := Claim7.holds Tryz.pinned (.plain (OpenSpec.upto stableIsStableSpec)) stableIsStableUptoCard

/-- THE SECOND FORM's CARD OF 'jitkeep2.MatchesStay'. -/
def matchesStayUptoCard : Claim7 := { stood := { row := matchesStayUptoRow, standIns := [], harness := (true, "d3c82c74d8b1d80e8262c63c418950cb7640cace3ed7cdb1219ef7ea6bdf97dc"), looks := false }, kinds := [], alts := [], laidByText := true, laidKinds := [.data, .data, .data], laidTests := true, laidLooks := .later }
def MatchesStayUptoCardSaid : Prop := Claim7.holds Tryz.pinned (.plain (OpenSpec.upto matchesStaySpec)) matchesStayUptoCard
end Rows
end Go.Proofs.YtkaigfcjejabfaaGreatDoor
