/- The walks at turns: Clone, the reference's without, DeleteFunc. -/
import Derived.Test.YtaflbfmlajbjcaaLatchE
import Derived.Test.YtaflbfmlajbjcaaOwnO
namespace Go.Proofs.Ytaflbfmlajbjcaa
open Go Go.RowKit

theorem tc_len (t : Turn) : (tc t).length = 2 := rfl
theorem tc_one (ys : List Turn) : ∀ u ∈ ys.flatMap tc, u.oneCell' = true := by
  intro u hu
  obtain ⟨t, _, ht⟩ := List.mem_flatMap.1 hu
  simp only [tc, List.mem_cons, List.not_mem_nil, or_false] at ht
  rcases ht with rfl | rfl <;> rfl

theorem news_turn {w : World} {g : Nat} {y : Turn} {t : TypeId} {fr : Nat × Nat} (hg : w.heap[g]? = some (.cells #[.int .i64 y.1, .bool y.2] t fr)) : ∀ j u, (tc y)[j]? = some u → w.cell? ((⟨g, 0, none⟩ : Addr).add j) = some u := by
  intro j u hj
  rw [Addr.add_lit]
  have h : (#[Value.int .i64 y.1, .bool y.2] : Array Value)[j]? = some u := by
    rw [← hj]
    simp [tc]
  simp [World.cell?, hg, h]

def withoutT (ys : List Turn) (c : Int) : List Turn := ys.filter fun t => !decide (t.1 = c)
end Go.Proofs.Ytaflbfmlajbjcaa
