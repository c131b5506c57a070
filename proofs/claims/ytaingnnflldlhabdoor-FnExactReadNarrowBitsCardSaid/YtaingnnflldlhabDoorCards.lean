/-
  DERIVED. GIVEN WITH THE SEED: THE CARDS: each row of YtaingnnflldlhabDoorRows.lean that lists a variable, with what it lists TIED to the program's text (the seventh form; the later family's looks); each row that meets fmt, with fmt's text TOLD by the authors' own Lean function (tested against real Go, not proved from fmt's source: count such statements apart). THE CARD IS WHAT COUNTS. Prove the row's statement (the work); the ties are given (YtaingnnflldlhabDoorTie.lean); close each card by the builder's one call (the guide's Derived/Test/ToyasCard.lean, 'card_holds'). Laid BY PROGRAM, IN A SANDBOX (cutbox-door.mjs). By AI agents, Wed Nov 11 2026. No macro, syntax, notation, axiom, sorry.
-/
import Derived.Test.YtaingnnflldlhabDoorRows
import GoSem.ClaimSeven
namespace Go.Proofs.YtaingnnflldlhabDoor
namespace Rows

/-- THE TIED CARD OF 'laws.FnExactReadNarrowBits'. -/
def fnExactReadNarrowBitsCard : Claim7 := { stood := { row := fnExactReadNarrowBitsRow, standIns := [], harness := (true, "97dc67cd59f6b258a83d8d49337ea0d00da9e444aacf22e32f74c1e898abd5ea"), looks := true }, kinds := [], alts := [], laidByText := true, laidKinds := [.data, .data, .data, .sentinel, .sentinel], laidTests := true, laidLooks := .later }
def FnExactReadNarrowBitsCardSaid : Prop := Claim7.holds Tryd.pinned (.plain (OpenSpec.ofChange fnExactReadNarrowBitsSpec)) fnExactReadNarrowBitsCard

/-- THE SECOND FORM's CARD OF 'laws.FnExactReadNarrowBits'. -/
def fnExactReadNarrowBitsUptoCard : Claim7 := { stood := { row := fnExactReadNarrowBitsUptoRow, standIns := [], harness := (true, "97dc67cd59f6b258a83d8d49337ea0d00da9e444aacf22e32f74c1e898abd5ea"), looks := true }, kinds := [], alts := [], laidByText := true, laidKinds := [.data, .data, .data, .sentinel, .sentinel], laidTests := true, laidLooks := .later }
def FnExactReadNarrowBitsUptoCardSaid : Prop := Claim7.holds Tryd.pinned (.plain (OpenSpec.upto fnExactReadNarrowBitsSpec)) fnExactReadNarrowBitsUptoCard
end Rows
end Go.Proofs.YtaingnnflldlhabDoor
