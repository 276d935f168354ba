/- The walks of the fields of a word. -/
import Derived.Test.YtljegehfdmgcbaaDoorFieldLaw
import Derived.Test.YtljegehfdmgcbaaDoorRows
import Derived.Deep.QuietTactic
import Derived.BigQuiet
namespace Go.Proofs.YtljegehfdmgcbaaDoor
open Go Go.RowKit

/-- Whether a field is there, behind a name. -/
def rightV (a d : Int) : Bool := rightB a d

theorem fieldW_shr (x : BitVec 64) (a d : Nat) : ((andw x (maskW a d)).toNat : Int) / 2 ^ a = ((fieldW x a d).toNat : Int) := by
  unfold andw fieldW
  rw [BitVec.toNat_ushiftRight, Nat.shiftRight_eq_div_pow]
  simp

theorem withW_or (x v : BitVec 64) (a d : Nat) : withW x a d v = orw (x &&& ~~~(andw x (maskW a d))) (shlw v a) := rfl
theorem andNot_w (x y : BitVec 64) : bits .andNot .u64 (x.toNat : Int) (y.toNat : Int) = ((x &&& ~~~y).toNat : Int) := by
  rw [u64_andNot_nat _ _ x.isLt y.isLt, BitVec.toNat_and, BitVec.toNat_not]

theorem maskW0 (d : Nat) (h : d ≤ 64) : (maskW 0 d).toNat = 2 ^ d - 1 := by rw [mask_nat 0 d (by omega)]; simp

end Go.Proofs.YtljegehfdmgcbaaDoor
