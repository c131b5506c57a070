/-
  DERIVED. GIVEN WITH THE SEED: THE CARDS: each row of YtaingnnflldlhaaDoorRows.lean that lists a variable, with what it lists TIED to the program's text (the seventh form; the later family's looks); each row that meets fmt, with fmt's text TOLD by the authors' own Lean function (tested against real Go, not proved from fmt's source: count such statements apart). THE CARD IS WHAT COUNTS. Prove the row's statement (the work); the ties are given (YtaingnnflldlhaaDoorTie.lean); close each card by the builder's one call (the guide's Derived/Test/ToyasCard.lean, 'card_holds'). Laid BY PROGRAM, IN A SANDBOX (cutbox-door.mjs). By AI agents, Wed Nov 11 2026. No macro, syntax, notation, axiom, sorry.
-/
import Derived.Test.YtaingnnflldlhaaDoorRows
import GoSem.ClaimSeven
namespace Go.Proofs.YtaingnnflldlhaaDoor
namespace Rows

/-- THE TIED CARD OF 'laws.FnExactReadBits'. -/
def fnExactReadBitsCard : Claim7 := { stood := { row := fnExactReadBitsRow, standIns := [], harness := (true, "4c8d2c401280188134a6ee8302abea46f50b311ab75de60348c3a92bfd895367"), looks := true }, kinds := [], alts := [], laidByText := true, laidKinds := [.data, .data, .data, .sentinel, .sentinel], laidTests := true, laidLooks := .later }
def FnExactReadBitsCardSaid : Prop := Claim7.holds Tryd.pinned (.plain (OpenSpec.ofChange fnExactReadBitsSpec)) fnExactReadBitsCard

/-- THE SECOND FORM's CARD OF 'laws.FnExactReadBits'. -/
def fnExactReadBitsUptoCard : Claim7 := { stood := { row := fnExactReadBitsUptoRow, standIns := [], harness := (true, "4c8d2c401280188134a6ee8302abea46f50b311ab75de60348c3a92bfd895367"), looks := true }, kinds := [], alts := [], laidByText := true, laidKinds := [.data, .data, .data, .sentinel, .sentinel], laidTests := true, laidLooks := .later }
def FnExactReadBitsUptoCardSaid : Prop := Claim7.holds Tryd.pinned (.plain (OpenSpec.upto fnExactReadBitsSpec)) fnExactReadBitsUptoCard
end Rows
end Go.Proofs.YtaingnnflldlhaaDoor
