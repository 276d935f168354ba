/- The walks of package latch's small functions, and of the slices' functions at turns. -/
import Derived.Test.YtaflbfmlajbjcaaLatchA
namespace Go.Proofs.Ytaflbfmlajbjcaa
open Go Go.RowKit

def tv (t : Turn) : Value := .agg #[.int .i64 t.1, .bool t.2]
def idxT (f : Turn → Bool) (ys : List Turn) : Int := if ys.any f then ((ys.findIdx f : Nat) : Int) else -1
def readsT (ys : List Turn) : Bool := !(ys.any fun t => t.2)
theorem enters {P : Program} {f : FuncId} {fn : Func} {c : Code} (hf : P.funcs[f]? = some fn) (hname : (fn.name == "runtime.NumGoroutine") = false) (hb : fn.body = some c) (args : Array Value) (w : World) :
    (callFunc f args).run P w = .ok (.enter f args) w := by
  have h1 : fn.name ≠ "runtime.NumGoroutine" := by simpa using hname
  simp [callFunc, hf, h1, hb]
end Go.Proofs.Ytaflbfmlajbjcaa
