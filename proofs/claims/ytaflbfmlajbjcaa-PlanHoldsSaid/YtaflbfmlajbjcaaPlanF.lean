/- The walks of plan.Each, and what it goes over. -/
import Derived.Test.YtaflbfmlajbjcaaPlanE
import Derived.Test.YtaflbfmlajbjcaaPlanB
import Derived.Sort.QuietIn
namespace Go.Proofs.Ytaflbfmlajbjcaa
open Go Go.RowKit

/-- A box that holds a plan's acts. -/
structure BoxA (w : World) (W : World) (B : Nat) (p : Option Addr) (c : Nat) (ys : List Act3) : Prop where
  hp : W.heap[B]? = some (.cells #[.slice p ys.length c] 75 (0, 0))
  own : OwnA W p c ys
  src : ∀ b, inP p c b → w.heap.size ≤ b
  ge : w.heap.size ≤ B
  ne : ¬ inP p c B
def encA (ys : List Act3) : List (Array Value) := ys.mapIdx fun i t => #[.int .i64 ((cntA ys i : Nat) : Int), av3 t]
theorem encA_len (ys : List Act3) : (encA ys).length = ys.length := by simp [encA]
theorem encA_get (ys : List Act3) (k : Nat) (h : k < (encA ys).length) : (encA ys)[k] = #[.int .i64 ((cntA ys k : Nat) : Int), av3 (ys[k]'(by simpa [encA] using h))] := by simp [encA]

attribute [local go_sem] Oper.semAt_some
end Go.Proofs.Ytaflbfmlajbjcaa
