/- The walk at turns: DeleteFunc. -/
import Derived.Test.YtaflbfmlajbjcaaLatchF
import Derived.Deep.DeepMust
namespace Go.Proofs.Ytaflbfmlajbjcaa
open Go Go.RowKit

theorem tc_get (ys : List Turn) (i : Nat) (hi : i < ys.length) : (ys.flatMap tc)[i * 2]? = some (.int .i64 ys[i].1) ∧ (ys.flatMap tc)[i * 2 + 1]? = some (.bool ys[i].2) :=
  ⟨by have := flat_get tc_len ys i hi 0 (by omega); simpa [tc] using this, by have := flat_get tc_len ys i hi 1 (by omega); simpa [tc] using this⟩
theorem tc_set (ys : List Turn) (i : Nat) (hi : i < ys.length) (y : Turn) : ((ys.flatMap tc).set (i * 2) (.int .i64 y.1)).set (i * 2 + 1) (.bool y.2) = (ys.set i y).flatMap tc := by
  induction ys generalizing i with
  | nil => simp at hi
  | cons t ys ih =>
    cases i with
    | zero => simp [tc]
    | succ i =>
      have := ih i (by simpa using hi)
      simp only [List.flatMap_cons, List.set_cons_succ, tc, List.cons_append, List.nil_append, show (i + 1) * 2 = i * 2 + 1 + 1 by omega, List.set_cons_succ] at this ⊢
      rw [← this]
theorem flat_take (zs : List Turn) (i : Nat) : (zs.take i).flatMap tc = (zs.flatMap tc).take (i * 2) := by
  induction zs generalizing i with
  | nil => simp
  | cons t zs ih =>
    cases i with
    | zero => simp
    | succ i =>
      rw [List.take_succ_cons, List.flatMap_cons, ih i, List.flatMap_cons]
      simp [tc, show (i + 1) * 2 = i * 2 + 1 + 1 by omega]
end Go.Proofs.Ytaflbfmlajbjcaa
