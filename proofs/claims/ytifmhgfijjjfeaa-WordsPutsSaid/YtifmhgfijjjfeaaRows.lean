/-
  No cell of these rows narrows 'for every input' (looked for: loops, veiled, ifaces, maps, wideKeys, modest, calm, conditions, laid).
  DERIVED. THE GIVEN ROWS OF THIS SEAT. 11 by the template 'for every input the law returns true; each argument reads behind the call as it read before'; 0 by the template 'total and deterministic' (their statements: YtifmhgfijjjfeaaTotals.lean).
  GIVEN WITH THE SEED: the statements are not yours to turn. If you find one false, say at which input.
  Laid BY PROGRAM, IN A SANDBOX (cutbox-rows.mjs): the forced cells as the released guide's own fill.sh prints them over the translation b35d09d05fc62053… (all of the seat's roots in one cut). By AI agents, Wed Nov 11 2026. No macro, syntax, notation, axiom, sorry.
-/
import Derived.Test.YtifmhgfijjjfeaaChecked
import GoSem.Claim
import GoSem.ClaimJoined
import GoSem.ClaimMapViews
import Derived.JoinedTies
import Derived.KernelRfl
namespace Go.Proofs.Ytifmhgfijjjfeaa
/- THE CELL 'sum', in the pinned program and in every row, IS THE sha256 OF THE DUMP (.gsa) THAT YtifmhgfijjjfeaaProg.lean LOADS. Nothing in Lean hashes anything: it is a label: what it is worth is what the hold of that sum in a sandbox is worth. -/
noncomputable def Try.pinned : Pinned := { name := "ytifmhgfijjjfeaa", sum := "b35d09d05fc6205334680b13e81fc3cae4a9b5747e59d237bd8b7c3271ad6e30", checked := Try.checked }
namespace Rows
def none {H : Type} : Left H := { results := [], args := [] }

/-- 'hedgerowlaw03.SumSums': WHATEVER THE INPUT: true; the input reads as it did. -/
def sumSumsSpec : ChangeSpec := { name := "sumSums", fn := fun _ => fun
  | [d1, d2] => { results := [.lit (.bool true)], args := [d1, d2] }
  | _ => none }
def sumSumsRow : OpenClaim := { program := "ytifmhgfijjjfeaa", sum := "b35d09d05fc6205334680b13e81fc3cae4a9b5747e59d237bd8b7c3271ad6e30", func := "hedgerow/hedgerowlaw03.SumSums", spec := "sumSums", unfollowed := true, recurses := true, apart := false }
def SumSumsSaid : Prop := sumSumsRow.holds Try.pinned (OpenSpec.ofChange sumSumsSpec)

/-- ITS FALSE NEIGHBOUR: 'it returns false'. Refute it at one input. -/
def sumSumsWrong : ChangeSpec := { name := "sumSums", fn := fun _ => fun
  | [d1, d2] => { results := [.lit (.bool false)], args := [d1, d2] }
  | _ => none }
def SumSumsWrongFalsely : Prop := sumSumsRow.holds Try.pinned (OpenSpec.ofChange sumSumsWrong)

/-- 'hedgerowlaw03.SumOpens': WHATEVER THE INPUT: true; the input reads as it did. -/
def sumOpensSpec : ChangeSpec := { name := "sumOpens", fn := fun _ => fun
  | [d1, d2] => { results := [.lit (.bool true)], args := [d1, d2] }
  | _ => none }
def sumOpensRow : OpenClaim := { program := "ytifmhgfijjjfeaa", sum := "b35d09d05fc6205334680b13e81fc3cae4a9b5747e59d237bd8b7c3271ad6e30", func := "hedgerow/hedgerowlaw03.SumOpens", spec := "sumOpens", unfollowed := true, recurses := true, apart := false }
def SumOpensSaid : Prop := sumOpensRow.holds Try.pinned (OpenSpec.ofChange sumOpensSpec)

/-- ITS FALSE NEIGHBOUR: 'it returns false'. Refute it at one input. -/
def sumOpensWrong : ChangeSpec := { name := "sumOpens", fn := fun _ => fun
  | [d1, d2] => { results := [.lit (.bool false)], args := [d1, d2] }
  | _ => none }
def SumOpensWrongFalsely : Prop := sumOpensRow.holds Try.pinned (OpenSpec.ofChange sumOpensWrong)

/-- 'hedgerowlaw03.SumMores': WHATEVER THE INPUT: true; the input reads as it did. -/
def sumMoresSpec : ChangeSpec := { name := "sumMores", fn := fun _ => fun
  | [d1, d2] => { results := [.lit (.bool true)], args := [d1, d2] }
  | _ => none }
def sumMoresRow : OpenClaim := { program := "ytifmhgfijjjfeaa", sum := "b35d09d05fc6205334680b13e81fc3cae4a9b5747e59d237bd8b7c3271ad6e30", func := "hedgerow/hedgerowlaw03.SumMores", spec := "sumMores", unfollowed := true, recurses := true, apart := false }
def SumMoresSaid : Prop := sumMoresRow.holds Try.pinned (OpenSpec.ofChange sumMoresSpec)

/-- ITS FALSE NEIGHBOUR: 'it returns false'. Refute it at one input. -/
def sumMoresWrong : ChangeSpec := { name := "sumMores", fn := fun _ => fun
  | [d1, d2] => { results := [.lit (.bool false)], args := [d1, d2] }
  | _ => none }
def SumMoresWrongFalsely : Prop := sumMoresRow.holds Try.pinned (OpenSpec.ofChange sumMoresWrong)

/-- 'hedgerowlaw03.SumWords': WHATEVER THE INPUT: true; the input reads as it did. -/
def sumWordsSpec : ChangeSpec := { name := "sumWords", fn := fun _ => fun
  | [d] => { results := [.lit (.bool true)], args := [d] }
  | _ => none }
def sumWordsRow : OpenClaim := { program := "ytifmhgfijjjfeaa", sum := "b35d09d05fc6205334680b13e81fc3cae4a9b5747e59d237bd8b7c3271ad6e30", func := "hedgerow/hedgerowlaw03.SumWords", spec := "sumWords", unfollowed := true, recurses := true, apart := false }
def SumWordsSaid : Prop := sumWordsRow.holds Try.pinned (OpenSpec.ofChange sumWordsSpec)

/-- ITS FALSE NEIGHBOUR: 'it returns false'. Refute it at one input. -/
def sumWordsWrong : ChangeSpec := { name := "sumWords", fn := fun _ => fun
  | [d] => { results := [.lit (.bool false)], args := [d] }
  | _ => none }
def SumWordsWrongFalsely : Prop := sumWordsRow.holds Try.pinned (OpenSpec.ofChange sumWordsWrong)

/-- 'hedgerowlaw03.SumTurned': WHATEVER THE INPUT: true; the input reads as it did. -/
def sumTurnedSpec : ChangeSpec := { name := "sumTurned", fn := fun _ => fun
  | [d1, d2, d3] => { results := [.lit (.bool true)], args := [d1, d2, d3] }
  | _ => none }
def sumTurnedRow : OpenClaim := { program := "ytifmhgfijjjfeaa", sum := "b35d09d05fc6205334680b13e81fc3cae4a9b5747e59d237bd8b7c3271ad6e30", func := "hedgerow/hedgerowlaw03.SumTurned", spec := "sumTurned", unfollowed := true, recurses := true, apart := false }
def SumTurnedSaid : Prop := sumTurnedRow.holds Try.pinned (OpenSpec.ofChange sumTurnedSpec)

/-- ITS FALSE NEIGHBOUR: 'it returns false'. Refute it at one input. -/
def sumTurnedWrong : ChangeSpec := { name := "sumTurned", fn := fun _ => fun
  | [d1, d2, d3] => { results := [.lit (.bool false)], args := [d1, d2, d3] }
  | _ => none }
def SumTurnedWrongFalsely : Prop := sumTurnedRow.holds Try.pinned (OpenSpec.ofChange sumTurnedWrong)

/-- 'hedgerowlaw01.WordsBytes': WHATEVER THE INPUT: true; the input reads as it did. -/
def wordsBytesSpec : ChangeSpec := { name := "wordsBytes", fn := fun _ => fun
  | [d] => { results := [.lit (.bool true)], args := [d] }
  | _ => none }
def wordsBytesRow : OpenClaim := { program := "ytifmhgfijjjfeaa", sum := "b35d09d05fc6205334680b13e81fc3cae4a9b5747e59d237bd8b7c3271ad6e30", func := "hedgerow/hedgerowlaw01.WordsBytes", spec := "wordsBytes", unfollowed := true, recurses := true, apart := false }
def WordsBytesSaid : Prop := wordsBytesRow.holds Try.pinned (OpenSpec.ofChange wordsBytesSpec)

/-- ITS FALSE NEIGHBOUR: 'it returns false'. Refute it at one input. -/
def wordsBytesWrong : ChangeSpec := { name := "wordsBytes", fn := fun _ => fun
  | [d] => { results := [.lit (.bool false)], args := [d] }
  | _ => none }
def WordsBytesWrongFalsely : Prop := wordsBytesRow.holds Try.pinned (OpenSpec.ofChange wordsBytesWrong)

/-- 'hedgerowlaw01.WordsWords': WHATEVER THE INPUT: true; the input reads as it did. -/
def wordsWordsSpec : ChangeSpec := { name := "wordsWords", fn := fun _ => fun
  | [d] => { results := [.lit (.bool true)], args := [d] }
  | _ => none }
def wordsWordsRow : OpenClaim := { program := "ytifmhgfijjjfeaa", sum := "b35d09d05fc6205334680b13e81fc3cae4a9b5747e59d237bd8b7c3271ad6e30", func := "hedgerow/hedgerowlaw01.WordsWords", spec := "wordsWords", unfollowed := true, recurses := true, apart := false }
def WordsWordsSaid : Prop := wordsWordsRow.holds Try.pinned (OpenSpec.ofChange wordsWordsSpec)

/-- ITS FALSE NEIGHBOUR: 'it returns false'. Refute it at one input. -/
def wordsWordsWrong : ChangeSpec := { name := "wordsWords", fn := fun _ => fun
  | [d] => { results := [.lit (.bool false)], args := [d] }
  | _ => none }
def WordsWordsWrongFalsely : Prop := wordsWordsRow.holds Try.pinned (OpenSpec.ofChange wordsWordsWrong)

/-- 'hedgerowlaw01.WordsLays': WHATEVER THE INPUT: true; the input reads as it did. -/
def wordsLaysSpec : ChangeSpec := { name := "wordsLays", fn := fun _ => fun
  | [d] => { results := [.lit (.bool true)], args := [d] }
  | _ => none }
def wordsLaysRow : OpenClaim := { program := "ytifmhgfijjjfeaa", sum := "b35d09d05fc6205334680b13e81fc3cae4a9b5747e59d237bd8b7c3271ad6e30", func := "hedgerow/hedgerowlaw01.WordsLays", spec := "wordsLays", unfollowed := true, recurses := true, apart := false }
def WordsLaysSaid : Prop := wordsLaysRow.holds Try.pinned (OpenSpec.ofChange wordsLaysSpec)

/-- ITS FALSE NEIGHBOUR: 'it returns false'. Refute it at one input. -/
def wordsLaysWrong : ChangeSpec := { name := "wordsLays", fn := fun _ => fun
  | [d] => { results := [.lit (.bool false)], args := [d] }
  | _ => none }
def WordsLaysWrongFalsely : Prop := wordsLaysRow.holds Try.pinned (OpenSpec.ofChange wordsLaysWrong)

/-- 'hedgerowlaw01.WordsTakes': WHATEVER THE INPUT: true; the input reads as it did. -/
def wordsTakesSpec : ChangeSpec := { name := "wordsTakes", fn := fun _ => fun
  | [d1, d2] => { results := [.lit (.bool true)], args := [d1, d2] }
  | _ => none }
def wordsTakesRow : OpenClaim := { program := "ytifmhgfijjjfeaa", sum := "b35d09d05fc6205334680b13e81fc3cae4a9b5747e59d237bd8b7c3271ad6e30", func := "hedgerow/hedgerowlaw01.WordsTakes", spec := "wordsTakes", unfollowed := true, recurses := true, apart := false }
def WordsTakesSaid : Prop := wordsTakesRow.holds Try.pinned (OpenSpec.ofChange wordsTakesSpec)

/-- ITS FALSE NEIGHBOUR: 'it returns false'. Refute it at one input. -/
def wordsTakesWrong : ChangeSpec := { name := "wordsTakes", fn := fun _ => fun
  | [d1, d2] => { results := [.lit (.bool false)], args := [d1, d2] }
  | _ => none }
def WordsTakesWrongFalsely : Prop := wordsTakesRow.holds Try.pinned (OpenSpec.ofChange wordsTakesWrong)

/-- 'hedgerowlaw01.WordsFields': WHATEVER THE INPUT: true; the input reads as it did. -/
def wordsFieldsSpec : ChangeSpec := { name := "wordsFields", fn := fun _ => fun
  | [d1, d2, d3] => { results := [.lit (.bool true)], args := [d1, d2, d3] }
  | _ => none }
def wordsFieldsRow : OpenClaim := { program := "ytifmhgfijjjfeaa", sum := "b35d09d05fc6205334680b13e81fc3cae4a9b5747e59d237bd8b7c3271ad6e30", func := "hedgerow/hedgerowlaw01.WordsFields", spec := "wordsFields", unfollowed := true, recurses := true, apart := false }
def WordsFieldsSaid : Prop := wordsFieldsRow.holds Try.pinned (OpenSpec.ofChange wordsFieldsSpec)

/-- ITS FALSE NEIGHBOUR: 'it returns false'. Refute it at one input. -/
def wordsFieldsWrong : ChangeSpec := { name := "wordsFields", fn := fun _ => fun
  | [d1, d2, d3] => { results := [.lit (.bool false)], args := [d1, d2, d3] }
  | _ => none }
def WordsFieldsWrongFalsely : Prop := wordsFieldsRow.holds Try.pinned (OpenSpec.ofChange wordsFieldsWrong)

/-- 'hedgerowlaw01.WordsPuts': WHATEVER THE INPUT: true; the input reads as it did. -/
def wordsPutsSpec : ChangeSpec := { name := "wordsPuts", fn := fun _ => fun
  | [d1, d2, d3, d4] => { results := [.lit (.bool true)], args := [d1, d2, d3, d4] }
  | _ => none }
def wordsPutsRow : OpenClaim := { program := "ytifmhgfijjjfeaa", sum := "b35d09d05fc6205334680b13e81fc3cae4a9b5747e59d237bd8b7c3271ad6e30", func := "hedgerow/hedgerowlaw01.WordsPuts", spec := "wordsPuts", unfollowed := true, recurses := true, apart := false }
def WordsPutsSaid : Prop := wordsPutsRow.holds Try.pinned (OpenSpec.ofChange wordsPutsSpec)

/-- ITS FALSE NEIGHBOUR: 'it returns false'. Refute it at one input. -/
def wordsPutsWrong : ChangeSpec := { name := "wordsPuts", fn := fun _ => fun
  | [d1, d2, d3, d4] => { results := [.lit (.bool false)], args := [d1, d2, d3, d4] }
  | _ => none }
def WordsPutsWrongFalsely : Prop := wordsPutsRow.holds Try.pinned (OpenSpec.ofChange wordsPutsWrong)

/- THE SECOND FORM. 'bulk': how many values and letters a reading holds, each counted each time it is reached (what is shared counts as often as it is met; a slice's spare places count too). A statement '..UptoSaid' is the law's where the arguments, and the package variables that the reading takes, are together of bulk at most 1048576: NARROWER than '..Said'. Prove '..Said' where nothing that the law and all that it calls make is longer than what came in: it says more and counts as full. Else prove '..UptoSaid'. A law counts once. -/
mutual
def uptoBulk {H : Type} : DataW H → Nat
  | .lit (.string bytes) => bytes.length + 1
  | .lit _ => 1
  | .nil => 1
  | .ptr d => uptoBulk d + 1
  | .slice elems spare => uptoBulkAll elems + uptoBulkAll spare + 1
  | .agg parts => uptoBulkAll parts + 1
  | .iface _ d => uptoBulk d + 1
  | .map entries => uptoBulkEntries entries + 1
  | .held _ => 1
def uptoBulkAll {H : Type} : List (DataW H) → Nat
  | [] => 0
  | d :: r => uptoBulk d + uptoBulkAll r
def uptoBulkEntries {H : Type} : List (Lit × DataW H) → Nat
  | [] => 0
  | x :: r => uptoBulkEntry x + uptoBulkEntries r
def uptoBulkEntry {H : Type} : Lit × DataW H → Nat
  | (.string bytes, d) => bytes.length + uptoBulk d + 1
  | (_, d) => uptoBulk d + 1
 end
def uptoSmall : (H : Type) → List (DataW H) → Bool := fun _ ds => decide (uptoBulkAll ds ≤ 1048576)
def OpenSpec.upto (s : _root_.Go.ChangeSpec) : _root_.Go.OpenSpec := { _root_.Go.OpenSpec.ofChange s with cond := some uptoSmall }

/-- 'hedgerowlaw03.SumSums', WHERE WHAT IT READS IS OF BULK AT MOST 1048576: true; the input reads as it did. -/
def sumSumsUptoRow : OpenClaim := { program := "ytifmhgfijjjfeaa", sum := "b35d09d05fc6205334680b13e81fc3cae4a9b5747e59d237bd8b7c3271ad6e30", func := "hedgerow/hedgerowlaw03.SumSums", spec := "sumSums", unfollowed := true, recurses := true, apart := false, narrowed := true }
def SumSumsUptoSaid : Prop := sumSumsUptoRow.holds Try.pinned (OpenSpec.upto sumSumsSpec)

/-- 'hedgerowlaw03.SumOpens', WHERE WHAT IT READS IS OF BULK AT MOST 1048576: true; the input reads as it did. -/
def sumOpensUptoRow : OpenClaim := { program := "ytifmhgfijjjfeaa", sum := "b35d09d05fc6205334680b13e81fc3cae4a9b5747e59d237bd8b7c3271ad6e30", func := "hedgerow/hedgerowlaw03.SumOpens", spec := "sumOpens", unfollowed := true, recurses := true, apart := false, narrowed := true }
def SumOpensUptoSaid : Prop := sumOpensUptoRow.holds Try.pinned (OpenSpec.upto sumOpensSpec)

/-- 'hedgerowlaw03.SumMores', WHERE WHAT IT READS IS OF BULK AT MOST 1048576: true; the input reads as it did. -/
def sumMoresUptoRow : OpenClaim := { program := "ytifmhgfijjjfeaa", sum := "b35d09d05fc6205334680b13e81fc3cae4a9b5747e59d237bd8b7c3271ad6e30", func := "hedgerow/hedgerowlaw03.SumMores", spec := "sumMores", unfollowed := true, recurses := true, apart := false, narrowed := true }
def SumMoresUptoSaid : Prop := sumMoresUptoRow.holds Try.pinned (OpenSpec.upto sumMoresSpec)

/-- 'hedgerowlaw03.SumWords', WHERE WHAT IT READS IS OF BULK AT MOST 1048576: true; the input reads as it did. -/
def sumWordsUptoRow : OpenClaim := { program := "ytifmhgfijjjfeaa", sum := "b35d09d05fc6205334680b13e81fc3cae4a9b5747e59d237bd8b7c3271ad6e30", func := "hedgerow/hedgerowlaw03.SumWords", spec := "sumWords", unfollowed := true, recurses := true, apart := false, narrowed := true }
def SumWordsUptoSaid : Prop := sumWordsUptoRow.holds Try.pinned (OpenSpec.upto sumWordsSpec)

/-- 'hedgerowlaw03.SumTurned', WHERE WHAT IT READS IS OF BULK AT MOST 1048576: true; the input reads as it did. -/
def sumTurnedUptoRow : OpenClaim := { program := "ytifmhgfijjjfeaa", sum := "b35d09d05fc6205334680b13e81fc3cae4a9b5747e59d237bd8b7c3271ad6e30", func := "hedgerow/hedgerowlaw03.SumTurned", spec := "sumTurned", unfollowed := true, recurses := true, apart := false, narrowed := true }
def SumTurnedUptoSaid : Prop := sumTurnedUptoRow.holds Try.pinned (OpenSpec.upto sumTurnedSpec)

/-- 'hedgerowlaw01.WordsBytes', WHERE WHAT IT READS IS OF BULK AT MOST 1048576: true; the input reads as it did. -/
def wordsBytesUptoRow : OpenClaim := { program := "ytifmhgfijjjfeaa", sum := "b35d09d05fc6205334680b13e81fc3cae4a9b5747e59d237bd8b7c3271ad6e30", func := "hedgerow/hedgerowlaw01.WordsBytes", spec := "wordsBytes", unfollowed := true, recurses := true, apart := false, narrowed := true }
def WordsBytesUptoSaid : Prop := wordsBytesUptoRow.holds Try.pinned (OpenSpec.upto wordsBytesSpec)

/-- 'hedgerowlaw01.WordsWords', WHERE WHAT IT READS IS OF BULK AT MOST 1048576: true; the input reads as it did. -/
def wordsWordsUptoRow : OpenClaim := { program := "ytifmhgfijjjfeaa", sum := "b35d09d05fc6205334680b13e81fc3cae4a9b5747e59d237bd8b7c3271ad6e30", func := "hedgerow/hedgerowlaw01.WordsWords", spec := "wordsWords", unfollowed := true, recurses := true, apart := false, narrowed := true }
def WordsWordsUptoSaid : Prop := wordsWordsUptoRow.holds Try.pinned (OpenSpec.upto wordsWordsSpec)

/-- 'hedgerowlaw01.WordsLays', WHERE WHAT IT READS IS OF BULK AT MOST 1048576: true; the input reads as it did. -/
def wordsLaysUptoRow : OpenClaim := { program := "ytifmhgfijjjfeaa", sum := "b35d09d05fc6205334680b13e81fc3cae4a9b5747e59d237bd8b7c3271ad6e30", func := "hedgerow/hedgerowlaw01.WordsLays", spec := "wordsLays", unfollowed := true, recurses := true, apart := false, narrowed := true }
def WordsLaysUptoSaid : Prop := wordsLaysUptoRow.holds Try.pinned (OpenSpec.upto wordsLaysSpec)

/-- 'hedgerowlaw01.WordsTakes', WHERE WHAT IT READS IS OF BULK AT MOST 1048576: true; the input reads as it did. -/
def wordsTakesUptoRow : OpenClaim := { program := "ytifmhgfijjjfeaa", sum := "b35d09d05fc6205334680b13e81fc3cae4a9b5747e59d237bd8b7c3271ad6e30", func := "hedgerow/hedgerowlaw01.WordsTakes", spec := "wordsTakes", unfollowed := true, recurses := true, apart := false, narrowed := true }
def WordsTakesUptoSaid : Prop := wordsTakesUptoRow.holds Try.pinned (OpenSpec.upto wordsTakesSpec)

/-- 'hedgerowlaw01.WordsFields', WHERE WHAT IT READS IS OF BULK AT MOST 1048576: true; the input reads as it did. -/
def wordsFieldsUptoRow : OpenClaim := { program := "ytifmhgfijjjfeaa", sum := "b35d09d05fc6205334680b13e81fc3cae4a9b5747e59d237bd8b7c3271ad6e30", func := "hedgerow/hedgerowlaw01.WordsFields", spec := "wordsFields", unfollowed := true, recurses := true, apart := false, narrowed := true }
def WordsFieldsUptoSaid : Prop := wordsFieldsUptoRow.holds Try.pinned (OpenSpec.upto wordsFieldsSpec)

/-- 'hedgerowlaw01.WordsPuts', WHERE WHAT IT READS IS OF BULK AT MOST 1048576: true; the input reads as it did. -/
def wordsPutsUptoRow : OpenClaim := { program := "ytifmhgfijjjfeaa", sum := "b35d09d05fc6205334680b13e81fc3cae4a9b5747e59d237bd8b7c3271ad6e30", func := "hedgerow/hedgerowlaw01.WordsPuts", spec := "wordsPuts", unfollowed := true, recurses := true, apart := false, narrowed := true }
def WordsPutsUptoSaid : Prop := wordsPutsUptoRow.holds Try.pinned (OpenSpec.upto wordsPutsSpec)

end Rows
end Go.Proofs.Ytifmhgfijjjfeaa
