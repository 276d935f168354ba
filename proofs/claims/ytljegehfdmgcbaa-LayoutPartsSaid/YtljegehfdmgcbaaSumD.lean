/- The walks of the opening of sealed words. -/
import Derived.Test.YtljegehfdmgcbaaSumC
import Derived.Deep.RegionHeld3
namespace Go.Proofs.Ytljegehfdmgcbaa
open Go Go.RowKit

def openOk (xs : List (BitVec 64)) : Bool := match xs.getLast? with
  | none => false
  | some y => decide (wordsSum xs.dropLast = y)
def openL (xs : List (BitVec 64)) : List (BitVec 64) := if openOk xs then xs.dropLast else []
def openNo (xs : List (BitVec 64)) : Int := if openOk xs then 0 else 130
theorem openOk_snoc (ys : List (BitVec 64)) (y : BitVec 64) : openOk (ys ++ [y]) = decide (wordsSum ys = y) := by simp [openOk]

def RetOpen (xs : List (BitVec 64)) (w : World) (e : Ending) (w' : World) : Prop :=
  ∃ p cap, e = .returned (.tuple #[.slice p (openL xs).length cap, .int .i64 (openNo xs)]) ∧ RdL w'.heap.size w' p cap vw (openL xs) ∧ Below w.heap.size w w'

end Go.Proofs.Ytljegehfdmgcbaa
