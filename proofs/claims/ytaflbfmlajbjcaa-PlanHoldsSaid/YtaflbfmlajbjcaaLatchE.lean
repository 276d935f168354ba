/- The walk of package latch's asked. -/
import Derived.Test.YtaflbfmlajbjcaaLatchD
namespace Go.Proofs.Ytaflbfmlajbjcaa
open Go Go.RowKit

def inT (xs ys : List Turn) (c : Int) : Bool := hasT xs c || hasT ys c
def askT (xs ys : List Turn) (c : Int) (twice : Bool) : Int :=
  if ¬ (0 ≤ c ∧ c < 8) then 2 else if inT xs ys c && twice then 191 else if !inT xs ys c && !twice then 5 else 0
end Go.Proofs.Ytaflbfmlajbjcaa
