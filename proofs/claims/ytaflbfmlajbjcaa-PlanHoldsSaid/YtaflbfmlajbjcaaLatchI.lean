/- The walks of the reference's given. -/
import Derived.Test.YtaflbfmlajbjcaaLatchH
namespace Go.Proofs.Ytaflbfmlajbjcaa
open Go Go.RowKit

/-- A pair of lists that a call hands back. -/
def RetL (z : List Turn × List Turn) (R : Nat → Prop) (w w' : World) (v : Value) : Prop :=
  ∃ p c q d, v = .agg #[.slice p z.1.length c, .slice q z.2.length d] ∧ RdS w'.heap.size w' p c 2 tc z.1 ∧ RdS w'.heap.size w' q d 2 tc z.2 ∧ (∀ b, inP p c b ∨ inP q d b → R b ∨ w.heap.size ≤ b)
theorem pair_c0 {W : World} {L : Nat} {u v : Value} {t : TypeId} (h : W.heap[L]? = some (.cells #[u, v] t (0, 0))) : W.cell? ⟨L, 0, none⟩ = some u := by simp [World.cell?, h]
theorem pair_c1 {W : World} {L : Nat} {u v : Value} {t : TypeId} (h : W.heap[L]? = some (.cells #[u, v] t (0, 0))) : W.cell? ⟨L, 1, none⟩ = some v := by simp [World.cell?, h]
theorem pair_fr {W : World} {L : Nat} {u v : Value} {t : TypeId} (h : W.heap[L]? = some (.cells #[u, v] t (0, 0))) (k : Nat) : W.frozen? ⟨L, k, none⟩ = false := by simp [World.frozen?, h]
theorem pair_set0 {W : World} {L : Nat} {u v u' : Value} {t : TypeId} (h : W.heap[L]? = some (.cells #[u, v] t (0, 0))) : (W.setCell ⟨L, 0, none⟩ u').heap[L]? = some (.cells #[u', v] t (0, 0)) := by
  have h1 := heap_setCell_same W L 0 _ t u' h
  simpa using h1
theorem pair_set1 {W : World} {L : Nat} {u v v' : Value} {t : TypeId} (h : W.heap[L]? = some (.cells #[u, v] t (0, 0))) : (W.setCell ⟨L, 1, none⟩ v').heap[L]? = some (.cells #[u, v'] t (0, 0)) := by
  have h1 := heap_setCell_same W L 1 _ t v' h
  simpa using h1
theorem RdS.tail1 {B : Nat} {w : World} {g o d : Nat} {t : Turn} {ws : List Turn} (h : RdS B w (some ⟨g, o, none⟩) d 2 tc (t :: ws)) : RdS B w (if d = 1 then some ⟨g, o, none⟩ else some ⟨g, o + 2, none⟩) (d - 1) 2 tc ws := by
  obtain ⟨h1, h2, h3⟩ := h
  have h1' : ws.length + 1 ≤ d := h1
  refine ⟨by omega, by omega, ?_⟩
  by_cases hd : d = 1
  · exact .inl (by omega)
  · rw [if_neg hd]
    rcases h3 with h3 | ⟨b, off, hp, hb, hc⟩
    · omega
    · cases hp
      refine .inr ⟨g, o + 2, rfl, hb, fun i hi j v hv => ?_⟩
      have := hc (i + 1) (by simpa using hi) j v (by simpa using hv)
      rwa [show o + ((i + 1) * 2 + j) = o + 2 + (i * 2 + j) by omega] at this
section
variable {w wr X w9 w10 : World} {p q p' p9 p10 : Option Addr} {c d c' g o d' c9 c10 : Nat} {xs' : List Turn} {t : Turn} {ws : List Turn}
end

end Go.Proofs.Ytaflbfmlajbjcaa
