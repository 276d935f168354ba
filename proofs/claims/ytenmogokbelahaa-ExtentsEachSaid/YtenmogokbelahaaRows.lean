/-
  No cell of these rows narrows 'for every input' (looked for: loops, veiled, ifaces, maps, wideKeys, modest, calm, conditions, laid).
  DERIVED. THE GIVEN ROWS OF THIS SEAT. 9 by the template 'for every input the law returns true; each argument reads behind the call as it read before'; 0 by the template 'total and deterministic' (their statements: YtenmogokbelahaaTotals.lean).
  GIVEN WITH THE SEED: the statements are not yours to turn. If you find one false, say at which input.
  Laid BY PROGRAM, IN A SANDBOX (cutbox-rows.mjs): the forced cells as the released guide's own fill.sh prints them over the translation 8a8b5e8e1aaa29a7… (all of the seat's roots in one cut). By AI agents, Wed Nov 11 2026. No macro, syntax, notation, axiom, sorry.
-/
import Derived.Test.YtenmogokbelahaaChecked
import GoSem.Claim
import GoSem.ClaimJoined
import GoSem.ClaimMapViews
import Derived.JoinedTies
import Derived.KernelRfl
namespace Go.Proofs.Ytenmogokbelahaa
/- THE CELL 'sum', in the pinned program and in every row, IS THE sha256 OF THE DUMP (.gsa) THAT YtenmogokbelahaaProg.lean LOADS. Nothing in Lean hashes anything: it is a label: what it is worth is what the hold of that sum in a sandbox is worth. -/
noncomputable def Try.pinned : Pinned := { name := "ytenmogokbelahaa", sum := "8a8b5e8e1aaa29a722b9a7f080af3d2086694231a828a8c231734a1572a5776a", checked := Try.checked }
namespace Rows
def none {H : Type} : Left H := { results := [], args := [] }

/-- 'hedgerowlaw10.ScanLooks': WHATEVER THE INPUT: true; the input reads as it did. -/
def scanLooksSpec : ChangeSpec := { name := "scanLooks", fn := fun _ => fun
  | [d1, d2, d3, d4, d5] => { results := [.lit (.bool true)], args := [d1, d2, d3, d4, d5] }
  | _ => none }
def scanLooksRow : OpenClaim := { program := "ytenmogokbelahaa", sum := "8a8b5e8e1aaa29a722b9a7f080af3d2086694231a828a8c231734a1572a5776a", func := "hedgerow/hedgerowlaw10.ScanLooks", spec := "scanLooks", unfollowed := true, recurses := true, apart := false }
def ScanLooksSaid : Prop := scanLooksRow.holds Try.pinned (OpenSpec.ofChange scanLooksSpec)

/-- ITS FALSE NEIGHBOUR: 'it returns false'. Refute it at one input. -/
def scanLooksWrong : ChangeSpec := { name := "scanLooks", fn := fun _ => fun
  | [d1, d2, d3, d4, d5] => { results := [.lit (.bool false)], args := [d1, d2, d3, d4, d5] }
  | _ => none }
def ScanLooksWrongFalsely : Prop := scanLooksRow.holds Try.pinned (OpenSpec.ofChange scanLooksWrong)

/-- 'hedgerowlaw10.ScanSettled': WHATEVER THE INPUT: true; the input reads as it did. -/
def scanSettledSpec : ChangeSpec := { name := "scanSettled", fn := fun _ => fun
  | [d1, d2, d3] => { results := [.lit (.bool true)], args := [d1, d2, d3] }
  | _ => none }
def scanSettledRow : OpenClaim := { program := "ytenmogokbelahaa", sum := "8a8b5e8e1aaa29a722b9a7f080af3d2086694231a828a8c231734a1572a5776a", func := "hedgerow/hedgerowlaw10.ScanSettled", spec := "scanSettled", unfollowed := true, recurses := true, apart := false }
def ScanSettledSaid : Prop := scanSettledRow.holds Try.pinned (OpenSpec.ofChange scanSettledSpec)

/-- ITS FALSE NEIGHBOUR: 'it returns false'. Refute it at one input. -/
def scanSettledWrong : ChangeSpec := { name := "scanSettled", fn := fun _ => fun
  | [d1, d2, d3] => { results := [.lit (.bool false)], args := [d1, d2, d3] }
  | _ => none }
def ScanSettledWrongFalsely : Prop := scanSettledRow.holds Try.pinned (OpenSpec.ofChange scanSettledWrong)

/-- 'hedgerowlaw10.ScanHolds': WHATEVER THE INPUT: true; the input reads as it did. -/
def scanHoldsSpec : ChangeSpec := { name := "scanHolds", fn := fun _ => fun
  | [d1, d2, d3, d4, d5, d6] => { results := [.lit (.bool true)], args := [d1, d2, d3, d4, d5, d6] }
  | _ => none }
def scanHoldsRow : OpenClaim := { program := "ytenmogokbelahaa", sum := "8a8b5e8e1aaa29a722b9a7f080af3d2086694231a828a8c231734a1572a5776a", func := "hedgerow/hedgerowlaw10.ScanHolds", spec := "scanHolds", unfollowed := true, recurses := true, apart := false }
def ScanHoldsSaid : Prop := scanHoldsRow.holds Try.pinned (OpenSpec.ofChange scanHoldsSpec)

/-- ITS FALSE NEIGHBOUR: 'it returns false'. Refute it at one input. -/
def scanHoldsWrong : ChangeSpec := { name := "scanHolds", fn := fun _ => fun
  | [d1, d2, d3, d4, d5, d6] => { results := [.lit (.bool false)], args := [d1, d2, d3, d4, d5, d6] }
  | _ => none }
def ScanHoldsWrongFalsely : Prop := scanHoldsRow.holds Try.pinned (OpenSpec.ofChange scanHoldsWrong)

/-- 'hedgerowlaw10.ScanGives': WHATEVER THE INPUT: true; the input reads as it did. -/
def scanGivesSpec : ChangeSpec := { name := "scanGives", fn := fun _ => fun
  | [d1, d2, d3, d4] => { results := [.lit (.bool true)], args := [d1, d2, d3, d4] }
  | _ => none }
def scanGivesRow : OpenClaim := { program := "ytenmogokbelahaa", sum := "8a8b5e8e1aaa29a722b9a7f080af3d2086694231a828a8c231734a1572a5776a", func := "hedgerow/hedgerowlaw10.ScanGives", spec := "scanGives", unfollowed := true, recurses := true, apart := false }
def ScanGivesSaid : Prop := scanGivesRow.holds Try.pinned (OpenSpec.ofChange scanGivesSpec)

/-- ITS FALSE NEIGHBOUR: 'it returns false'. Refute it at one input. -/
def scanGivesWrong : ChangeSpec := { name := "scanGives", fn := fun _ => fun
  | [d1, d2, d3, d4] => { results := [.lit (.bool false)], args := [d1, d2, d3, d4] }
  | _ => none }
def ScanGivesWrongFalsely : Prop := scanGivesRow.holds Try.pinned (OpenSpec.ofChange scanGivesWrong)

/-- 'hedgerowlaw10.ScanNone': WHATEVER THE INPUT: true; the input reads as it did. -/
def scanNoneSpec : ChangeSpec := { name := "scanNone", fn := fun _ => fun
  | [d] => { results := [.lit (.bool true)], args := [d] }
  | _ => none }
def scanNoneRow : OpenClaim := { program := "ytenmogokbelahaa", sum := "8a8b5e8e1aaa29a722b9a7f080af3d2086694231a828a8c231734a1572a5776a", func := "hedgerow/hedgerowlaw10.ScanNone", spec := "scanNone", unfollowed := true, recurses := true, apart := false }
def ScanNoneSaid : Prop := scanNoneRow.holds Try.pinned (OpenSpec.ofChange scanNoneSpec)

/-- ITS FALSE NEIGHBOUR: 'it returns false'. Refute it at one input. -/
def scanNoneWrong : ChangeSpec := { name := "scanNone", fn := fun _ => fun
  | [d] => { results := [.lit (.bool false)], args := [d] }
  | _ => none }
def ScanNoneWrongFalsely : Prop := scanNoneRow.holds Try.pinned (OpenSpec.ofChange scanNoneWrong)

/-- 'hedgerowlaw06.ExtentsPuts': WHATEVER THE INPUT: true; the input reads as it did. -/
def extentsPutsSpec : ChangeSpec := { name := "extentsPuts", fn := fun _ => fun
  | [d1, d2] => { results := [.lit (.bool true)], args := [d1, d2] }
  | _ => none }
def extentsPutsRow : OpenClaim := { program := "ytenmogokbelahaa", sum := "8a8b5e8e1aaa29a722b9a7f080af3d2086694231a828a8c231734a1572a5776a", func := "hedgerow/hedgerowlaw06.ExtentsPuts", spec := "extentsPuts", unfollowed := true, recurses := true, apart := false }
def ExtentsPutsSaid : Prop := extentsPutsRow.holds Try.pinned (OpenSpec.ofChange extentsPutsSpec)

/-- ITS FALSE NEIGHBOUR: 'it returns false'. Refute it at one input. -/
def extentsPutsWrong : ChangeSpec := { name := "extentsPuts", fn := fun _ => fun
  | [d1, d2] => { results := [.lit (.bool false)], args := [d1, d2] }
  | _ => none }
def ExtentsPutsWrongFalsely : Prop := extentsPutsRow.holds Try.pinned (OpenSpec.ofChange extentsPutsWrong)

/-- 'hedgerowlaw06.ExtentsCuts': WHATEVER THE INPUT: true; the input reads as it did. -/
def extentsCutsSpec : ChangeSpec := { name := "extentsCuts", fn := fun _ => fun
  | [d1, d2] => { results := [.lit (.bool true)], args := [d1, d2] }
  | _ => none }
def extentsCutsRow : OpenClaim := { program := "ytenmogokbelahaa", sum := "8a8b5e8e1aaa29a722b9a7f080af3d2086694231a828a8c231734a1572a5776a", func := "hedgerow/hedgerowlaw06.ExtentsCuts", spec := "extentsCuts", unfollowed := true, recurses := true, apart := false }
def ExtentsCutsSaid : Prop := extentsCutsRow.holds Try.pinned (OpenSpec.ofChange extentsCutsSpec)

/-- ITS FALSE NEIGHBOUR: 'it returns false'. Refute it at one input. -/
def extentsCutsWrong : ChangeSpec := { name := "extentsCuts", fn := fun _ => fun
  | [d1, d2] => { results := [.lit (.bool false)], args := [d1, d2] }
  | _ => none }
def ExtentsCutsWrongFalsely : Prop := extentsCutsRow.holds Try.pinned (OpenSpec.ofChange extentsCutsWrong)

/-- 'hedgerowlaw06.ExtentsEach': WHATEVER THE INPUT: true; the input reads as it did. -/
def extentsEachSpec : ChangeSpec := { name := "extentsEach", fn := fun _ => fun
  | [d1, d2] => { results := [.lit (.bool true)], args := [d1, d2] }
  | _ => none }
def extentsEachRow : OpenClaim := { program := "ytenmogokbelahaa", sum := "8a8b5e8e1aaa29a722b9a7f080af3d2086694231a828a8c231734a1572a5776a", func := "hedgerow/hedgerowlaw06.ExtentsEach", spec := "extentsEach", unfollowed := true, recurses := true, apart := false }
def ExtentsEachSaid : Prop := extentsEachRow.holds Try.pinned (OpenSpec.ofChange extentsEachSpec)

/-- ITS FALSE NEIGHBOUR: 'it returns false'. Refute it at one input. -/
def extentsEachWrong : ChangeSpec := { name := "extentsEach", fn := fun _ => fun
  | [d1, d2] => { results := [.lit (.bool false)], args := [d1, d2] }
  | _ => none }
def ExtentsEachWrongFalsely : Prop := extentsEachRow.holds Try.pinned (OpenSpec.ofChange extentsEachWrong)

/-- 'hedgerowlaw06.ExtentsWords': WHATEVER THE INPUT: true; the input reads as it did. -/
def extentsWordsSpec : ChangeSpec := { name := "extentsWords", fn := fun _ => fun
  | [d1, d2] => { results := [.lit (.bool true)], args := [d1, d2] }
  | _ => none }
def extentsWordsRow : OpenClaim := { program := "ytenmogokbelahaa", sum := "8a8b5e8e1aaa29a722b9a7f080af3d2086694231a828a8c231734a1572a5776a", func := "hedgerow/hedgerowlaw06.ExtentsWords", spec := "extentsWords", unfollowed := true, recurses := true, apart := false }
def ExtentsWordsSaid : Prop := extentsWordsRow.holds Try.pinned (OpenSpec.ofChange extentsWordsSpec)

/-- ITS FALSE NEIGHBOUR: 'it returns false'. Refute it at one input. -/
def extentsWordsWrong : ChangeSpec := { name := "extentsWords", fn := fun _ => fun
  | [d1, d2] => { results := [.lit (.bool false)], args := [d1, d2] }
  | _ => none }
def ExtentsWordsWrongFalsely : Prop := extentsWordsRow.holds Try.pinned (OpenSpec.ofChange extentsWordsWrong)

/- THE SECOND FORM. 'bulk': how many values and letters a reading holds, each counted each time it is reached (what is shared counts as often as it is met; a slice's spare places count too). A statement '..UptoSaid' is the law's where the arguments, and the package variables that the reading takes, are together of bulk at most 1048576: NARROWER than '..Said'. Prove '..Said' where nothing that the law and all that it calls make is longer than what came in: it says more and counts as full. Else prove '..UptoSaid'. A law counts once. -/
mutual
def uptoBulk {H : Type} : DataW H → Nat
  | .lit (.string bytes) => bytes.length + 1
  | .lit _ => 1
  | .nil => 1
  | .ptr d => uptoBulk d + 1
  | .slice elems spare => uptoBulkAll elems + uptoBulkAll spare + 1
  | .agg parts => uptoBulkAll parts + 1
  | .iface _ d => uptoBulk d + 1
  | .map entries => uptoBulkEntries entries + 1
  | .held _ => 1
def uptoBulkAll {H : Type} : List (DataW H) → Nat
  | [] => 0
  | d :: r => uptoBulk d + uptoBulkAll r
def uptoBulkEntries {H : Type} : List (Lit × DataW H) → Nat
  | [] => 0
  | x :: r => uptoBulkEntry x + uptoBulkEntries r
def uptoBulkEntry {H : Type} : Lit × DataW H → Nat
  | (.string bytes, d) => bytes.length + uptoBulk d + 1
  | (_, d) => uptoBulk d + 1
 end
def uptoSmall : (H : Type) → List (DataW H) → Bool := fun _ ds => decide (uptoBulkAll ds ≤ 1048576)
def OpenSpec.upto (s : _root_.Go.ChangeSpec) : _root_.Go.OpenSpec := { _root_.Go.OpenSpec.ofChange s with cond := some uptoSmall }

/-- 'hedgerowlaw10.ScanLooks', WHERE WHAT IT READS IS OF BULK AT MOST 1048576: true; the input reads as it did. -/
def scanLooksUptoRow : OpenClaim := { program := "ytenmogokbelahaa", sum := "8a8b5e8e1aaa29a722b9a7f080af3d2086694231a828a8c231734a1572a5776a", func := "hedgerow/hedgerowlaw10.ScanLooks", spec := "scanLooks", unfollowed := true, recurses := true, apart := false, narrowed := true }
def ScanLooksUptoSaid : Prop := scanLooksUptoRow.holds Try.pinned (OpenSpec.upto scanLooksSpec)

/-- 'hedgerowlaw10.ScanSettled', WHERE WHAT IT READS IS OF BULK AT MOST 1048576: true; the input reads as it did. -/
def scanSettledUptoRow : OpenClaim := { program := "ytenmogokbelahaa", sum := "8a8b5e8e1aaa29a722b9a7f080af3d2086694231a828a8c231734a1572a5776a", func := "hedgerow/hedgerowlaw10.ScanSettled", spec := "scanSettled", unfollowed := true, recurses := true, apart := false, narrowed := true }
def ScanSettledUptoSaid : Prop := scanSettledUptoRow.holds Try.pinned (OpenSpec.upto scanSettledSpec)

/-- 'hedgerowlaw10.ScanHolds', WHERE WHAT IT READS IS OF BULK AT MOST 1048576: true; the input reads as it did. -/
def scanHoldsUptoRow : OpenClaim := { program := "ytenmogokbelahaa", sum := "8a8b5e8e1aaa29a722b9a7f080af3d2086694231a828a8c231734a1572a5776a", func := "hedgerow/hedgerowlaw10.ScanHolds", spec := "scanHolds", unfollowed := true, recurses := true, apart := false, narrowed := true }
def ScanHoldsUptoSaid : Prop := scanHoldsUptoRow.holds Try.pinned (OpenSpec.upto scanHoldsSpec)

/-- 'hedgerowlaw10.ScanGives', WHERE WHAT IT READS IS OF BULK AT MOST 1048576: true; the input reads as it did. -/
def scanGivesUptoRow : OpenClaim := { program := "ytenmogokbelahaa", sum := "8a8b5e8e1aaa29a722b9a7f080af3d2086694231a828a8c231734a1572a5776a", func := "hedgerow/hedgerowlaw10.ScanGives", spec := "scanGives", unfollowed := true, recurses := true, apart := false, narrowed := true }
def ScanGivesUptoSaid : Prop := scanGivesUptoRow.holds Try.pinned (OpenSpec.upto scanGivesSpec)

/-- 'hedgerowlaw10.ScanNone', WHERE WHAT IT READS IS OF BULK AT MOST 1048576: true; the input reads as it did. -/
def scanNoneUptoRow : OpenClaim := { program := "ytenmogokbelahaa", sum := "8a8b5e8e1aaa29a722b9a7f080af3d2086694231a828a8c231734a1572a5776a", func := "hedgerow/hedgerowlaw10.ScanNone", spec := "scanNone", unfollowed := true, recurses := true, apart := false, narrowed := true }
def ScanNoneUptoSaid : Prop := scanNoneUptoRow.holds Try.pinned (OpenSpec.upto scanNoneSpec)

/-- 'hedgerowlaw06.ExtentsPuts', WHERE WHAT IT READS IS OF BULK AT MOST 1048576: true; the input reads as it did. -/
def extentsPutsUptoRow : OpenClaim := { program := "ytenmogokbelahaa", sum := "8a8b5e8e1aaa29a722b9a7f080af3d2086694231a828a8c231734a1572a5776a", func := "hedgerow/hedgerowlaw06.ExtentsPuts", spec := "extentsPuts", unfollowed := true, recurses := true, apart := false, narrowed := true }
def ExtentsPutsUptoSaid : Prop := extentsPutsUptoRow.holds Try.pinned (OpenSpec.upto extentsPutsSpec)

/-- 'hedgerowlaw06.ExtentsCuts', WHERE WHAT IT READS IS OF BULK AT MOST 1048576: true; the input reads as it did. -/
def extentsCutsUptoRow : OpenClaim := { program := "ytenmogokbelahaa", sum := "8a8b5e8e1aaa29a722b9a7f080af3d2086694231a828a8c231734a1572a5776a", func := "hedgerow/hedgerowlaw06.ExtentsCuts", spec := "extentsCuts", unfollowed := true, recurses := true, apart := false, narrowed := true }
def ExtentsCutsUptoSaid : Prop := extentsCutsUptoRow.holds Try.pinned (OpenSpec.upto extentsCutsSpec)

/-- 'hedgerowlaw06.ExtentsEach', WHERE WHAT IT READS IS OF BULK AT MOST 1048576: true; the input reads as it did. -/
def extentsEachUptoRow : OpenClaim := { program := "ytenmogokbelahaa", sum := "8a8b5e8e1aaa29a722b9a7f080af3d2086694231a828a8c231734a1572a5776a", func := "hedgerow/hedgerowlaw06.ExtentsEach", spec := "extentsEach", unfollowed := true, recurses := true, apart := false, narrowed := true }
def ExtentsEachUptoSaid : Prop := extentsEachUptoRow.holds Try.pinned (OpenSpec.upto extentsEachSpec)

/-- 'hedgerowlaw06.ExtentsWords', WHERE WHAT IT READS IS OF BULK AT MOST 1048576: true; the input reads as it did. -/
def extentsWordsUptoRow : OpenClaim := { program := "ytenmogokbelahaa", sum := "8a8b5e8e1aaa29a722b9a7f080af3d2086694231a828a8c231734a1572a5776a", func := "hedgerow/hedgerowlaw06.ExtentsWords", spec := "extentsWords", unfollowed := true, recurses := true, apart := false, narrowed := true }
def ExtentsWordsUptoSaid : Prop := extentsWordsUptoRow.holds Try.pinned (OpenSpec.upto extentsWordsSpec)

end Rows
end Go.Proofs.Ytenmogokbelahaa
