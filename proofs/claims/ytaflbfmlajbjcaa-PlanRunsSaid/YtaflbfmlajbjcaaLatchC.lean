/- The walks of package latch: has, of, none, New, asked. -/
import Derived.Test.YtaflbfmlajbjcaaLatchB
namespace Go.Proofs.Ytaflbfmlajbjcaa
open Go Go.RowKit

abbrev TurnsAt := Option Addr × Nat × List Turn
def encT (z : TurnsAt) : Value := .slice z.1 z.2.2.length z.2.1
theorem RdS.kept {α : Type} {B : Nat} {w w' : World} {p : Option Addr} {cap c : Nat} {enc : α → List Value} {ys : List α} (h : RdS B w p cap c enc ys) (hb : Below B w w') : RdS B w' p cap c enc ys := by
  obtain ⟨h1, h2, h3⟩ := h
  refine ⟨h1, h2, h3.imp id ?_⟩
  rintro ⟨b, off, hp, hbl, hc⟩
  exact ⟨b, off, hp, hbl, fun i hi j v hv => (hb.cell (p := ⟨b, off + (i * c + j), none⟩) hbl).trans (hc i hi j v hv)⟩
theorem RdS.wide {α : Type} {B B' : Nat} {w : World} {p : Option Addr} {cap c : Nat} {enc : α → List Value} {ys : List α} (h : RdS B w p cap c enc ys) (hB : B ≤ B') : RdS B' w p cap c enc ys := by
  obtain ⟨h1, h2, h3⟩ := h
  refine ⟨h1, h2, h3.imp id ?_⟩
  rintro ⟨b, off, hp, hb, hc⟩
  exact ⟨b, off, hp, Nat.lt_of_lt_of_le hb hB, hc⟩
end Go.Proofs.Ytaflbfmlajbjcaa
