/- The walk of the reference's hash. -/
import Derived.Test.YthhdipfadnihjaaHashR
namespace Go.Proofs.Ythhdipfadnihjaa
open Go Go.RowKit

theorem foldV_nil (vs : List (BitVec 64)) : foldV vs [] = vs := rfl
theorem finV_of (S u1 u2 u3 u4 : List (BitVec 64)) (h1 : u1 = roundL (S.set 2 (xorw (hget S 2) 255#64))) (h2 : u2 = roundL u1) (h3 : u3 = roundL u2) (h4 : u4 = roundL u3) : finV S = u4 := by
  rw [h4, h3, h2, h1]; simp only [finV, roundsL]
theorem outV_of (u : List (BitVec 64)) : outV u = xorw (xorw (xorw (hget u 0) (hget u 1)) (hget u 2)) (hget u 3) := rfl
theorem takeV_of (S us1 us2 : List (BitVec 64)) (m : BitVec 64) (h1 : us1 = roundL (S.set 3 (xorw (hget S 3) m))) (h2 : us2 = roundL us1) : takeV S m = us2.set 0 (xorw (hget us2 0) m) := by
  rw [h2, h1]; simp only [takeV, roundsL]
attribute [local irreducible] takeV foldV roundsL finV outV wordOf lastL
/-- The loop's place: the words' block, past the key's. -/
structure RefAt (w : World) (wr : World) (us : List (BitVec 64)) : Prop where
  hd : Hd wr (w.heap.size + 1) 125 us []
  len : us.length = 4
  bel : Below w.heap.size w wr

end Go.Proofs.Ythhdipfadnihjaa
