/- The state of a latch; the walk of give. -/
import Derived.Test.YtaflbfmlajbjcaaLatchG
import Derived.Test.YtaflbfmlajbjcaaRegF
import Derived.ScopeJumps
import Derived.WalkMore
namespace Go.Proofs.Ytaflbfmlajbjcaa
open Go Go.RowKit

theorem lst_c0 {W : World} {L : Nat} {u v x : Value} {t : TypeId} (h : W.heap[L]? = some (.cells #[u, v, x] t (0, 0))) : W.cell? ⟨L, 0, none⟩ = some u := by simp [World.cell?, h]
theorem lst_c1 {W : World} {L : Nat} {u v x : Value} {t : TypeId} (h : W.heap[L]? = some (.cells #[u, v, x] t (0, 0))) : W.cell? ⟨L, 1, none⟩ = some v := by simp [World.cell?, h]
theorem lst_c2 {W : World} {L : Nat} {u v x : Value} {t : TypeId} (h : W.heap[L]? = some (.cells #[u, v, x] t (0, 0))) : W.cell? ⟨L, 2, none⟩ = some x := by simp [World.cell?, h]
theorem lst_fr {W : World} {L : Nat} {u v x : Value} {t : TypeId} (h : W.heap[L]? = some (.cells #[u, v, x] t (0, 0))) (k : Nat) : W.frozen? ⟨L, k, none⟩ = false := by simp [World.frozen?, h]
theorem lst_put {W : World} {L : Nat} {u v x u' v' : Value} {t : TypeId} (h : W.heap[L]? = some (.cells #[u, v, x] t (0, 0))) : ((W.setCell ⟨L, 0, none⟩ u').setCell ⟨L, 1, none⟩ v').heap[L]? = some (.cells #[u', v', x] t (0, 0)) := by
  have h1 := heap_setCell_same W L 0 _ t u' h
  have h2 := heap_setCell_same _ L 1 _ t v' h1
  simpa using h2
section
variable {W : World} {L : Nat} {p : Option Addr} {c : Nat} {xs : List Turn} {q : Option Addr} {d : Nat} {ys : List Turn}
end
/-- What is given: one turn after the other, as long as it may be. -/
def givenT : List Turn → List Turn → List Turn × List Turn
  | h, [] => (h, [])
  | h, t :: ws => if freeT h t then givenT (h ++ [t]) ws else (h, t :: ws)
theorem freeT_nil (t : Turn) : freeT [] t = true := rfl
theorem freeT_cons (h : List Turn) (t : Turn) (hh : h ≠ []) : freeT h t = (!t.2 && readsT h) := by
  obtain ⟨t1, t2⟩ := t
  unfold freeT readsT
  cases t2 with
  | false => induction h with
    | nil => exact absurd rfl hh
    | cons x h ih =>
      by_cases hn : h = []
      · subst hn; simp
      · have := ih hn
        simp only [List.all_cons, List.any_cons, Bool.not_or] at this ⊢
        rw [this]; simp
  | true => cases h with
    | nil => exact absurd rfl hh
    | cons x h => simp
theorem wp_scope_label {P : Program} {a : Act} {w : World} {Q : Exit → Act → World → Prop} {c rest : Code} (l : Nat) (J : Act → World → Prop) (μ : Act → World → Nat) (hf : findLabel ((Code.label l).seq rest) l = some c) (hc : c = Code.skip.seq rest) (h0 : J a w)
    (pass : ∀ a w, J a w → rest.wp P (Exit.jump l (fun a' w' => J a' w' ∧ μ a' w' < μ a w) Q) a w) : (Code.scope ((Code.label l).seq rest)).wp P Q a w := by
  subst hc
  refine wp_scope_jumps l J μ hf (wp_seq (wp_label ?_)) (fun a w h => wp_seq (wp_skip (pass a w h)))
  refine wp_mono (pass a w h0) ?_
  intro e a' w' h
  cases e <;> first | exact h | exact ⟨h.1, h.2.1⟩

def lenAt (L : Nat) (W : World) : Nat := match W.cell? ⟨L, 1, none⟩ with | some (.slice _ n _) => n | _ => 0
theorem Frn.wide {A B : Nat → Prop} {w w' : World} (h : Frn A w w') (hAB : ∀ b, A b → B b) : Frn B w w' := ⟨h.os, h.tape, h.output, h.size, fun b hb hn => h.block b hb (fun ha => hn (hAB b ha))⟩
theorem Frn.grown {T A : Nat → Prop} {w wr w3 : World} (h : Frn T w wr) (hA : ∀ b, A b → grow T w wr b) (k : Frn A wr w3) : Frn T w w3 :=
  ⟨k.os.trans h.os, k.tape.trans h.tape, k.output.trans h.output, Nat.le_trans h.size k.size, fun b hb hn => (k.block b (Nat.lt_of_lt_of_le hb h.size) (fun ha => (hA b ha).elim hn (fun hh => by have := hh.1; omega))).trans (h.block b hb hn)⟩
theorem grow_mono {T : Nat → Prop} {w a b : World} (h : a.heap.size ≤ b.heap.size) {k : Nat} (hk : grow T w a k) : grow T w b k := hk.imp id (fun hh => ⟨hh.1, Nat.lt_of_lt_of_le hh.2 h⟩)
theorem givenT_yes {h : List Turn} {t : Turn} {ws : List Turn} (hf : freeT h t = true) : givenT h (t :: ws) = givenT (h ++ [t]) ws := by conv => lhs; unfold givenT; rw [if_pos hf]
theorem givenT_no {h : List Turn} {t : Turn} {ws : List Turn} (hf : freeT h t = false) : givenT h (t :: ws) = (h, t :: ws) := by conv => lhs; unfold givenT; rw [if_neg (by simp [hf])]
theorem tail_in {g o d b : Nat} {q : Option Addr} (hq : q = if d = 1 then some ⟨g, o, none⟩ else some ⟨g, o + 2, none⟩) (h : inP q (d - 1) b) : inP (some ⟨g, o, none⟩) d b := by
  obtain ⟨a, ha, rfl, h0⟩ := h
  rw [hq, if_neg (by omega)] at ha
  cases ha
  exact ⟨_, rfl, rfl, by omega⟩
end Go.Proofs.Ytaflbfmlajbjcaa
