/-
  DERIVED. GIVEN WITH THE SEED: THE CARDS: each row of YtljegehfdmgcbaaDoorRows.lean that lists a variable, with what it lists TIED to the program's text (the seventh form; the later family's looks); each row that meets fmt, with fmt's text TOLD by the authors' own Lean function (tested against real Go, not proved from fmt's source: count such statements apart). THE CARD IS WHAT COUNTS. Prove the row's statement (the work); the ties are given (YtljegehfdmgcbaaDoorTie.lean); close each card by the builder's one call (the guide's Derived/Test/ToyasCard.lean, 'card_holds'). Laid BY PROGRAM, IN A SANDBOX (cutbox-door.mjs). By AI agents, Wed Nov 11 2026. No macro, syntax, notation, axiom, sorry.
-/
import Derived.Test.YtljegehfdmgcbaaDoorRows
import GoSem.ClaimSeven
namespace Go.Proofs.YtljegehfdmgcbaaDoor
namespace Rows

/-- THE TIED CARD OF 'hedgerowlaw05.BitmapLeaves'. -/
def bitmapLeavesCard : Claim7 := { stood := { row := bitmapLeavesRow, standIns := [], harness := (true, "612d09328ad043592b24301ed74bb742b00ef4b9f74f6332e57faa75c99c9138"), looks := false }, kinds := [], alts := [], laidByText := true, laidKinds := [.data], laidTests := true, laidLooks := .later }
def BitmapLeavesCardSaid : Prop := Claim7.holds Tryd.pinned (.plain (OpenSpec.ofChange bitmapLeavesSpec)) bitmapLeavesCard

/-- THE TIED CARD OF 'hedgerowlaw05.BitmapHolds'. -/
def bitmapHoldsCard : Claim7 := { stood := { row := bitmapHoldsRow, standIns := [], harness := (true, "612d09328ad043592b24301ed74bb742b00ef4b9f74f6332e57faa75c99c9138"), looks := false }, kinds := [], alts := [], laidByText := true, laidKinds := [.data], laidTests := true, laidLooks := .later }
def BitmapHoldsCardSaid : Prop := Claim7.holds Tryd.pinned (.plain (OpenSpec.ofChange bitmapHoldsSpec)) bitmapHoldsCard

/-- THE TIED CARD OF 'hedgerowlaw05.BitmapNone'. -/
def bitmapNoneCard : Claim7 := { stood := { row := bitmapNoneRow, standIns := [], harness := (true, "612d09328ad043592b24301ed74bb742b00ef4b9f74f6332e57faa75c99c9138"), looks := false }, kinds := [], alts := [], laidByText := true, laidKinds := [.data], laidTests := true, laidLooks := .later }
def BitmapNoneCardSaid : Prop := Claim7.holds Tryd.pinned (.plain (OpenSpec.ofChange bitmapNoneSpec)) bitmapNoneCard

/-- THE TIED CARD OF 'hedgerowlaw05.BitmapOf'. -/
def bitmapOfCard : Claim7 := { stood := { row := bitmapOfRow, standIns := [], harness := (true, "612d09328ad043592b24301ed74bb742b00ef4b9f74f6332e57faa75c99c9138"), looks := false }, kinds := [], alts := [], laidByText := true, laidKinds := [.data], laidTests := true, laidLooks := .later }
def BitmapOfCardSaid : Prop := Claim7.holds Tryd.pinned (.plain (OpenSpec.ofChange bitmapOfSpec)) bitmapOfCard

/-- THE TIED CARD OF 'hedgerowlaw05.BitmapSame'. -/
def bitmapSameCard : Claim7 := { stood := { row := bitmapSameRow, standIns := [], harness := (true, "612d09328ad043592b24301ed74bb742b00ef4b9f74f6332e57faa75c99c9138"), looks := false }, kinds := [], alts := [], laidByText := true, laidKinds := [.data], laidTests := true, laidLooks := .later }
def BitmapSameCardSaid : Prop := Claim7.holds Tryd.pinned (.plain (OpenSpec.ofChange bitmapSameSpec)) bitmapSameCard

/-- THE SECOND FORM's CARD OF 'hedgerowlaw05.BitmapLeaves'. -/
def bitmapLeavesUptoCard : Claim7 := { stood := { row := bitmapLeavesUptoRow, standIns := [], harness := (true, "612d09328ad043592b24301ed74bb742b00ef4b9f74f6332e57faa75c99c9138"), looks := false }, kinds := [], alts := [], laidByText := true, laidKinds := [.data], laidTests := true, laidLooks := .later }
def BitmapLeavesUptoCardSaid : Prop := Claim7.holds Tryd.pinned (.plain (OpenSpec.upto bitmapLeavesSpec)) bitmapLeavesUptoCard

/-- THE SECOND FORM's CARD OF 'hedgerowlaw05.BitmapHolds'. -/
def bitmapHoldsUptoCard : Claim7 := { stood := { row := bitmapHoldsUptoRow, standIns := [], harness := (true, "612d09328ad043592b24301ed74bb742b00ef4b9f74f6332e57faa75c99c9138"), looks := false }, kinds := [], alts := [], laidByText := true, laidKinds := [.data], laidTests := true, laidLooks := .later }
def BitmapHoldsUptoCardSaid : Prop := Claim7.holds Tryd.pinned (.plain (OpenSpec.upto bitmapHoldsSpec)) bitmapHoldsUptoCard

/-- THE SECOND FORM's CARD OF 'hedgerowlaw05.BitmapNone'. -/
def bitmapNoneUptoCard : Claim7 := { stood := { row := bitmapNoneUptoRow, standIns := [], harness := (true, "612d09328ad043592b24301ed74bb742b00ef4b9f74f6332e57faa75c99c9138"), looks := false }, kinds := [], alts := [], laidByText := true, laidKinds := [.data], laidTests := true, laidLooks := .later }
def BitmapNoneUptoCardSaid : Prop := Claim7.holds Tryd.pinned (.plain (OpenSpec.upto bitmapNoneSpec)) bitmapNoneUptoCard

/-- THE SECOND FORM's CARD OF 'hedgerowlaw05.BitmapOf'. -/
def bitmapOfUptoCard : Claim7 := { stood := { row := bitmapOfUptoRow, standIns := [], harness := (true, "612d09328ad043592b24301ed74bb742b00ef4b9f74f6332e57faa75c99c9138"), looks := false }, kinds := [], alts := [], laidByText := true, laidKinds := [.data], laidTests := true, laidLooks := .later }
def BitmapOfUptoCardSaid : Prop := Claim7.holds Tryd.pinned (.plain (OpenSpec.upto bitmapOfSpec)) bitmapOfUptoCard

/-- THE SECOND FORM's CARD OF 'hedgerowlaw05.BitmapSame'. -/
def bitmapSameUptoCard : Claim7 := { stood := { row := bitmapSameUptoRow, standIns := [], harness := (true, "612d09328ad043592b24301ed74bb742b00ef4b9f74f6332e57faa75c99c9138"), looks := false }, kinds := [], alts := [], laidByText := true, laidKinds := [.data], laidTests := true, laidLooks := .later }
def BitmapSameUptoCardSaid : Prop := Claim7.holds Tryd.pinned (.plain (OpenSpec.upto bitmapSameSpec)) bitmapSameUptoCard
end Rows
end Go.Proofs.YtljegehfdmgcbaaDoor
