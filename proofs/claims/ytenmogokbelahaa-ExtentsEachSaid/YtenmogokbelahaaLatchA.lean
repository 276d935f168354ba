/- The walks of the reference's latch: Has, Same, free. -/
import Derived.Test.YtenmogokbelahaaApp
import Derived.Test.YtenmogokbelahaaOpen
import Derived.Test.YtenmogokbelahaaRows
import Derived.Deep.QuietTactic
import Derived.BigQuiet
import Derived.Deep.RegionHeld3
namespace Go.Proofs.Ytenmogokbelahaa
open Go Go.RowKit

abbrev Turn := Int × Bool
def tc (t : Turn) : List Value := [.int .i64 t.1, .bool t.2]
theorem RdS.rows {B : Nat} {w : World} {p : Option Addr} {cap : Nat} {ys : List Turn} (h : RdS B w p cap 2 tc ys) (i : Nat) (hi : i < ys.length) :
    ∃ b off, p = some ⟨b, off, none⟩ ∧ b < B ∧ w.cell? ⟨b, off + i * 2, none⟩ = some (.int .i64 ys[i].1) ∧ w.cell? ⟨b, off + i * 2 + 1, none⟩ = some (.bool ys[i].2) := by
  obtain ⟨h1, h2, h3⟩ := h
  rcases h3 with rfl | ⟨b, off, hp, hb, hc⟩
  · omega
  · exact ⟨b, off, hp, hb, by simpa using hc i hi 0 _ rfl, by rw [Nat.add_assoc]; exact hc i hi 1 _ rfl⟩
theorem RdS.len {α : Type} {B : Nat} {w : World} {p : Option Addr} {cap c : Nat} {enc : α → List Value} {ys : List α} (h : RdS B w p cap c enc ys) : ys.length ≤ 9223372036854775807 := by
  have := h.1; have := h.2.1; unfold maxLen at this; omega

def hasT (ys : List Turn) (c : Int) : Bool := ys.any fun t => decide (t.1 = c)
def freeT (held : List Turn) (t : Turn) : Bool := held.all fun x => !(t.2 || x.2)
def sameT (a b : List Turn) : Bool := decide (a = b)
end Go.Proofs.Ytenmogokbelahaa
