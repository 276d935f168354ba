/- Flat structs of four and of six fields, by value. -/
import Derived.Test.YtljegehfdmgcbaaOpen
namespace Go.Proofs.Ytljegehfdmgcbaa
open Go Go.RowKit

theorem flat_struct4 {α β γ δ : Type} {P : Program} {t : TypeId} {f0 f1 f2 f3 : Field} {c0 c1 c2 c3 : Nat} {en0 : α → List Value} {en1 : β → List Value} {en2 : γ → List Value} {en3 : δ → List Value} (ht : P.underlying t = some (.struct #[f0, f1, f2, f3])) (hc : P.cellsOf t = c0 + c1 + c2 + c3)
    (h0 : FlatOf P f0.type c0 en0) (h1 : FlatOf P f1.type c1 en1) (h2 : FlatOf P f2.type c2 en2) (h3 : FlatOf P f3.type c3 en3) (o0 : f0.offset = 0) (o1 : f1.offset = c0) (o2 : f2.offset = c0 + c1) (o3 : f3.offset = c0 + c1 + c2) : FlatOf P t (c0 + c1 + c2 + c3) (fun y : α × β × γ × δ => en0 y.1 ++ en1 y.2.1 ++ en2 y.2.2.1 ++ en3 y.2.2.2) := by
  refine ⟨hc, fun y => by simp [h0.size, h1.size, h2.size, h3.size]; omega, fun h => ?_⟩
  obtain ⟨xs, m, _, _, hl, hx, hf⟩ := DataW.trod_struct ht h
  have g0 := hf 0 f0 rfl
  have g1 := hf 1 f1 rfl
  have g2 := hf 2 f2 rfl
  have g3 := hf 3 f3 rfl
  have hx' : xs.length = 4 := hx
  rw [h0.cells, o0] at g0
  rw [h1.cells, o1] at g1
  rw [h2.cells, o2] at g2
  rw [h3.cells, o3] at g3
  rw [List.getElem?_eq_getElem (by omega)] at g0 g1 g2 g3
  obtain ⟨y0, e0⟩ := h0.read g0
  obtain ⟨y1, e1⟩ := h1.read g1
  obtain ⟨y2, e2⟩ := h2.read g2
  obtain ⟨y3, e3⟩ := h3.read g3
  refine ⟨(y0, y1, y2, y3), ?_⟩
  rw [hc] at hl
  simp only [List.drop_zero] at e0
  rw [List.take_of_length_le (by simp; omega)] at e3
  simp only
  rw [← e0, ← e1, ← e2, ← e3, ← List.take_add, ← List.take_add, List.take_append_drop]
theorem flat_struct6 {α β γ δ ε ζ : Type} {P : Program} {t : TypeId} {f0 f1 f2 f3 f4 f5 : Field} {c0 c1 c2 c3 c4 c5 : Nat} {en0 : α → List Value} {en1 : β → List Value} {en2 : γ → List Value} {en3 : δ → List Value} {en4 : ε → List Value} {en5 : ζ → List Value} (ht : P.underlying t = some (.struct #[f0, f1, f2, f3, f4, f5])) (hc : P.cellsOf t = c0 + c1 + c2 + c3 + c4 + c5)
    (h0 : FlatOf P f0.type c0 en0) (h1 : FlatOf P f1.type c1 en1) (h2 : FlatOf P f2.type c2 en2) (h3 : FlatOf P f3.type c3 en3) (h4 : FlatOf P f4.type c4 en4) (h5 : FlatOf P f5.type c5 en5) (o0 : f0.offset = 0) (o1 : f1.offset = c0) (o2 : f2.offset = c0 + c1) (o3 : f3.offset = c0 + c1 + c2) (o4 : f4.offset = c0 + c1 + c2 + c3) (o5 : f5.offset = c0 + c1 + c2 + c3 + c4) : FlatOf P t (c0 + c1 + c2 + c3 + c4 + c5) (fun y : α × β × γ × δ × ε × ζ => en0 y.1 ++ en1 y.2.1 ++ en2 y.2.2.1 ++ en3 y.2.2.2.1 ++ en4 y.2.2.2.2.1 ++ en5 y.2.2.2.2.2) := by
  refine ⟨hc, fun y => by simp [h0.size, h1.size, h2.size, h3.size, h4.size, h5.size]; omega, fun h => ?_⟩
  obtain ⟨xs, m, _, _, hl, hx, hf⟩ := DataW.trod_struct ht h
  have g0 := hf 0 f0 rfl
  have g1 := hf 1 f1 rfl
  have g2 := hf 2 f2 rfl
  have g3 := hf 3 f3 rfl
  have g4 := hf 4 f4 rfl
  have g5 := hf 5 f5 rfl
  have hx' : xs.length = 6 := hx
  rw [h0.cells, o0] at g0
  rw [h1.cells, o1] at g1
  rw [h2.cells, o2] at g2
  rw [h3.cells, o3] at g3
  rw [h4.cells, o4] at g4
  rw [h5.cells, o5] at g5
  rw [List.getElem?_eq_getElem (by omega)] at g0 g1 g2 g3 g4 g5
  obtain ⟨y0, e0⟩ := h0.read g0
  obtain ⟨y1, e1⟩ := h1.read g1
  obtain ⟨y2, e2⟩ := h2.read g2
  obtain ⟨y3, e3⟩ := h3.read g3
  obtain ⟨y4, e4⟩ := h4.read g4
  obtain ⟨y5, e5⟩ := h5.read g5
  refine ⟨(y0, y1, y2, y3, y4, y5), ?_⟩
  rw [hc] at hl
  simp only [List.drop_zero] at e0
  rw [List.take_of_length_le (by simp; omega)] at e5
  simp only
  rw [← e0, ← e1, ← e2, ← e3, ← e4, ← e5, ← List.take_add, ← List.take_add, ← List.take_add, ← List.take_add, List.take_append_drop]
end Go.Proofs.Ytljegehfdmgcbaa
