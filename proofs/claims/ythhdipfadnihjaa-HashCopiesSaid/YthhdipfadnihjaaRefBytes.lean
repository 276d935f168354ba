/- The walk of the reference's Bytes. -/
import Derived.Test.YthhdipfadnihjaaWordsA
namespace Go.Proofs.Ythhdipfadnihjaa
open Go Go.RowKit

theorem byteAt_mod (x : BitVec 64) (j : Nat) : IntKind.u8.wrap (((shrw x (8 * j)).toNat : Int) % 256) = ((byteAt x j).toNat : Int) := by
  rw [IntKind.wrap_u8']
  simp [byteAt, shrw, BitVec.toNat_ushiftRight]
theorem shrw_256 (x : BitVec 64) (j : Nat) : ((shrw x (8 * j)).toNat : Int) / 256 = ((shrw x (8 * (j + 1))).toNat : Int) := by
  simp only [shrw, BitVec.toNat_ushiftRight, Nat.shiftRight_eq_div_pow]
  rw [Nat.mul_add, Nat.pow_add, ← Nat.div_div_eq_div_mul]
  simp
theorem shrw_zero (x : BitVec 64) : shrw x (8 * 0) = x := by simp [shrw]

end Go.Proofs.Ythhdipfadnihjaa
