/- The walks of plans: closed, right, Check, the reference's comparisons. -/
import Derived.Test.YtenmogokbelahaaPlanLaw
import Derived.Test.YtenmogokbelahaaLatchA
import Derived.Deep.RegionWith
namespace Go.Proofs.Ytenmogokbelahaa
open Go Go.RowKit

theorem elem_put : ElemIs Try.prog 51 122 (.agg #[.int .i64 0, .int .u64 0]) 2 16 := ⟨by kernel_rfl, by kernel_rfl, rfl, by decide⟩
abbrev OwnP (w : World) (p : Option Addr) (cap : Nat) (xs : List Put2) : Prop := OwnG 122 2 pc2 w p cap xs

def av3 (x : Act3) : Value := .agg #[.int .i64 x.1, .int .i64 x.2.1, vw x.2.2]
def pv2 (x : Put2) : Value := .agg #[.int .i64 x.1, vw x.2]

end Go.Proofs.Ytenmogokbelahaa
