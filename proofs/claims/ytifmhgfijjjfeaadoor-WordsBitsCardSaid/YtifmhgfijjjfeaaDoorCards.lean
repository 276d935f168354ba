/-
  DERIVED. GIVEN WITH THE SEED: THE CARDS: each row of YtifmhgfijjjfeaaDoorRows.lean that lists a variable, with what it lists TIED to the program's text (the seventh form; the later family's looks); each row that meets fmt, with fmt's text TOLD by the authors' own Lean function (tested against real Go, not proved from fmt's source: count such statements apart). THE CARD IS WHAT COUNTS. Prove the row's statement (the work); the ties are given (YtifmhgfijjjfeaaDoorTie.lean); close each card by the builder's one call (the guide's Derived/Test/ToyasCard.lean, 'card_holds'). Laid BY PROGRAM, IN A SANDBOX (cutbox-door.mjs). By AI agents, Wed Nov 11 2026. No macro, syntax, notation, axiom, sorry.
-/
import Derived.Test.YtifmhgfijjjfeaaDoorRows
import GoSem.ClaimSeven
namespace Go.Proofs.YtifmhgfijjjfeaaDoor
namespace Rows

/-- THE TIED CARD OF 'hedgerowlaw01.WordsBits'. -/
def wordsBitsCard : Claim7 := { stood := { row := wordsBitsRow, standIns := [], harness := (true, "0b2c788fc314b29b1a3132041e2550fc73bd4c2663a97348da75e59d6a447989"), looks := false }, kinds := [], alts := [], laidByText := true, laidKinds := [.data], laidTests := true, laidLooks := .later }
def WordsBitsCardSaid : Prop := Claim7.holds Tryd.pinned (.plain (OpenSpec.ofChange wordsBitsSpec)) wordsBitsCard

/-- THE SECOND FORM's CARD OF 'hedgerowlaw01.WordsBits'. -/
def wordsBitsUptoCard : Claim7 := { stood := { row := wordsBitsUptoRow, standIns := [], harness := (true, "0b2c788fc314b29b1a3132041e2550fc73bd4c2663a97348da75e59d6a447989"), looks := false }, kinds := [], alts := [], laidByText := true, laidKinds := [.data], laidTests := true, laidLooks := .later }
def WordsBitsUptoCardSaid : Prop := Claim7.holds Tryd.pinned (.plain (OpenSpec.upto wordsBitsSpec)) wordsBitsUptoCard
end Rows
end Go.Proofs.YtifmhgfijjjfeaaDoor
