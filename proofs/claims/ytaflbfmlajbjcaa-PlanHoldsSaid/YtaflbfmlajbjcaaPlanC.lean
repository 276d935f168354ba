/- The walk of the reference's Order. -/
import Derived.Test.YtaflbfmlajbjcaaPlanA
import Derived.Test.YtaflbfmlajbjcaaRegF
namespace Go.Proofs.Ytaflbfmlajbjcaa
open Go Go.RowKit

theorem goA_first {xs : List Put2} (h : 0 < xs.length) : goA (xs.take 1) = ([((1 : Int), xs[0].1, xs[0].2)], lnP xs[0].1) := by
  have h1 : xs.take 1 = xs.take 0 ++ [xs[0]] := List.take_succ_eq_append_getElem h
  rw [h1, goA_snoc]
  simp [goA, stepA]
theorem goA_next {xs : List Put2} {k : Nat} (hk : k + 1 < xs.length) (hb : badP (xs.take (k + 1)) = false) : goA (xs.take (k + 1 + 1)) = ((if lnP xs[k + 1].1 ≠ lnP xs[k].1 then (goA (xs.take (k + 1))).1 ++ shutA (lnP xs[k].1) else (goA (xs.take (k + 1))).1) ++ [((1 : Int), xs[k + 1].1, xs[k + 1].2)], lnP xs[k + 1].1) := by
  have h1 : xs.take (k + 1 + 1) = xs.take (k + 1) ++ [xs[k + 1]] := List.take_succ_eq_append_getElem hk
  have h2 : (goA (xs.take (k + 1))).2 = lnP xs[k].1 := by
    rw [show xs.take (k + 1) = xs.take k ++ [xs[k]] from List.take_succ_eq_append_getElem (by omega), goA_last]
  have h3 : 0 ≤ lnP xs[k].1 := by
    rcases goA_line hb with ⟨h, _⟩ | ⟨_, h⟩
    · have := congrArg List.length h; rw [List.length_take, List.length_nil] at this; omega
    · rwa [h2] at h
  rw [h1, goA_snoc]
  unfold stepA
  rw [h2]
  simp only [h3, and_true]
theorem goA_line1 {xs : List Put2} {k : Nat} (hk : k < xs.length) : (goA (xs.take (k + 1))).2 = lnP xs[k].1 := by
  rw [show xs.take (k + 1) = xs.take k ++ [xs[k]] from List.take_succ_eq_append_getElem hk, goA_last]
theorem badP_step {xs : List Put2} {k : Nat} (hk : k < xs.length) (h : badP (xs.take k) = false) (h0 : 0 ≤ xs[k].1) : badP (xs.take (k + 1)) = false := by
  rw [show xs.take (k + 1) = xs.take k ++ [xs[k]] from List.take_succ_eq_append_getElem hk, badP_snoc, h]
  simp; omega
theorem badP_at {xs : List Put2} {k : Nat} (hk : k < xs.length) (h : xs[k].1 < 0) : badP xs = true := by
  unfold badP
  rw [List.any_eq_true]
  exact ⟨xs[k], List.getElem_mem hk, decide_eq_true h⟩
theorem badP_not {xs : List Put2} {k : Nat} (hk : k < xs.length) (h : badP xs = false) : 0 ≤ xs[k].1 := by
  by_cases h1 : xs[k].1 < 0
  · rw [badP_at hk h1] at h; cases h
  · omega
/-- What Order hands back. -/
def RetO (ps : List Put2) (w : World) (e : Ending) (w' : World) : Prop :=
  ∃ q d, e = .returned (.tuple #[.slice q (ordA ps).length d, .int .i64 (noA ps)]) ∧ OwnA w' q d (ordA ps) ∧ (∀ b, inP q d b → w.heap.size ≤ b) ∧ Below w.heap.size w w'

end Go.Proofs.Ytaflbfmlajbjcaa
