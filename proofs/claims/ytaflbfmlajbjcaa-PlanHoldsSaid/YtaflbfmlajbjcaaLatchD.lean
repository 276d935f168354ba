/- The walks of package latch: its state; none, of, New. -/
import Derived.Test.YtaflbfmlajbjcaaLatchC
namespace Go.Proofs.Ytaflbfmlajbjcaa
open Go Go.RowKit

/-- A latch lies in block L: who holds it, who waits. -/
structure LAt (W : World) (L : Nat) (p : Option Addr) (c : Nat) (xs : List Turn) (q : Option Addr) (d : Nat) (ys : List Turn) : Prop where
  c0 : W.cell? ⟨L, 0, none⟩ = some (.slice p xs.length c)
  c1 : W.cell? ⟨L, 1, none⟩ = some (.slice q ys.length d)
  c2 : W.cell? ⟨L, 2, none⟩ = some (.bool true)
  f0 : W.frozen? ⟨L, 0, none⟩ = false
  lt : L < W.heap.size
  rx : RdS W.heap.size W p c 2 tc xs
  ry : RdS W.heap.size W q d 2 tc ys
theorem LAt.below {W W' : World} {L : Nat} {p : Option Addr} {c : Nat} {xs : List Turn} {q : Option Addr} {d : Nat} {ys : List Turn} (h : LAt W L p c xs q d ys) (hb : Below W.heap.size W W') : LAt W' L p c xs q d ys :=
  ⟨(hb.cell (p := ⟨L, 0, none⟩) h.lt).trans h.c0, (hb.cell (p := ⟨L, 1, none⟩) h.lt).trans h.c1, (hb.cell (p := ⟨L, 2, none⟩) h.lt).trans h.c2, (hb.frozen (p := ⟨L, 0, none⟩) h.lt).trans h.f0, Nat.lt_of_lt_of_le h.lt hb.size,
    (h.rx.kept hb).wide hb.size, (h.ry.kept hb).wide hb.size⟩
end Go.Proofs.Ytaflbfmlajbjcaa
