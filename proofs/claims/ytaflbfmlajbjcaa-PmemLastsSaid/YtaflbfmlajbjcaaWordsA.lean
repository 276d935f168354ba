/- The walks of words.Bytes. -/
import Derived.Test.YtaflbfmlajbjcaaApp
import Derived.Test.YtaflbfmlajbjcaaRows
import Derived.Deep.QuietTactic
import Derived.BigQuiet
import Derived.Deep.RegionLaw
namespace Go.Proofs.Ytaflbfmlajbjcaa
open Go Go.RowKit

theorem elem_u8 : ElemIs Try.prog 45 5 (.int .u8 0) 1 1 := ⟨by kernel_rfl, by kernel_rfl, rfl, by decide⟩

theorem byteAt_wrap (x : BitVec 64) (n : Nat) : IntKind.u8.wrap ((x.toNat : Int) / 2 ^ (8 * (n : Int)).toNat) = ((byteAt x n).toNat : Int) := by
  rw [IntKind.wrap_u8']
  have h : (8 * (n : Int)).toNat = 8 * n := by omega
  rw [h]
  simp [byteAt, BitVec.toNat_ushiftRight, Nat.shiftRight_eq_div_pow]

def bytesTo (x : BitVec 64) (n : Nat) : List (BitVec 8) := (List.range n).map (byteAt x)
def bytesOf (x : BitVec 64) : List (BitVec 8) := bytesTo x 8
def bytesL (xs : List (BitVec 64)) : List (BitVec 8) := xs.flatMap bytesOf
theorem bytesTo_succ (x : BitVec 64) (n : Nat) : bytesTo x (n + 1) = bytesTo x n ++ [byteAt x n] := by simp [bytesTo, List.range_succ]
theorem bytesTo_length (x : BitVec 64) (n : Nat) : (bytesTo x n).length = n := by simp [bytesTo]
theorem bytesL_length (xs : List (BitVec 64)) : (bytesL xs).length = 8 * xs.length := by
  induction xs with
  | nil => rfl
  | cons x xs ih => simp only [bytesL, List.flatMap_cons, List.length_append, List.length_cons] at *; rw [ih, bytesOf, bytesTo_length]; omega
theorem bytesL_take_succ (xs : List (BitVec 64)) (k : Nat) (h : k < xs.length) : bytesL (xs.take (k + 1)) = bytesL (xs.take k) ++ bytesOf xs[k] := by
  rw [List.take_succ_eq_append_getElem h, bytesL, List.flatMap_append]; simp [bytesL]
/-- What has been made when j bytes of word k are there. -/
def madeTo (xs : List (BitVec 64)) (k : Nat) (x : BitVec 64) (j : Nat) : List (BitVec 8) := bytesL (xs.take k) ++ bytesTo x j
theorem madeTo_length (xs : List (BitVec 64)) (k : Nat) (x : BitVec 64) (j : Nat) (h : k ≤ xs.length) : (madeTo xs k x j).length = 8 * k + j := by
  simp [madeTo, bytesL_length, bytesTo_length]; omega

theorem madeTo_succ (xs : List (BitVec 64)) (k : Nat) (x : BitVec 64) (j : Nat) : madeTo xs k x (j + 1) = madeTo xs k x j ++ [byteAt x j] := by
  simp [madeTo, bytesTo_succ]

/-- The state between two rounds of words.Bytes. -/
def BSt (w : World) (ys : List (BitVec 8)) (v : Value) (wr : World) : Prop :=
  Box wr w.heap.size 45 v ∧ wr.ownsRow (w.heap.size + 1) 5 1 v ys.length (ys.map vb) ∧ Below w.heap.size w wr ∧ w.heap.size + 1 ≤ wr.heap.size

end Go.Proofs.Ytaflbfmlajbjcaa
