/- The walks of package latch: its state; none, of, New. -/
import Derived.Test.YthhdipfadnihjaaLatchC
namespace Go.Proofs.Ythhdipfadnihjaa
open Go Go.RowKit

/-- A latch lies in block L: who holds it, who waits. -/
structure LAt (W : World) (L : Nat) (p : Option Addr) (c : Nat) (xs : List Turn) (q : Option Addr) (d : Nat) (ys : List Turn) : Prop where
  c0 : W.cell? ⟨L, 0, none⟩ = some (.slice p xs.length c)
  c1 : W.cell? ⟨L, 1, none⟩ = some (.slice q ys.length d)
  c2 : W.cell? ⟨L, 2, none⟩ = some (.bool true)
  f0 : W.frozen? ⟨L, 0, none⟩ = false
  lt : L < W.heap.size
  rx : RdS W.heap.size W p c 2 tc xs
  ry : RdS W.heap.size W q d 2 tc ys
theorem LAt.below {W W' : World} {L : Nat} {p : Option Addr} {c : Nat} {xs : List Turn} {q : Option Addr} {d : Nat} {ys : List Turn} (h : LAt W L p c xs q d ys) (hb : Below W.heap.size W W') : LAt W' L p c xs q d ys :=
  ⟨(hb.cell (p := ⟨L, 0, none⟩) h.lt).trans h.c0, (hb.cell (p := ⟨L, 1, none⟩) h.lt).trans h.c1, (hb.cell (p := ⟨L, 2, none⟩) h.lt).trans h.c2, (hb.frozen (p := ⟨L, 0, none⟩) h.lt).trans h.f0, Nat.lt_of_lt_of_le h.lt hb.size,
    (h.rx.kept hb).wide hb.size, (h.ry.kept hb).wide hb.size⟩
set_option maxHeartbeats 400000 in
theorem lnone_any (L : Nat) (w : World) (h : w.cell? ⟨L, 2, none⟩ = some (.bool true)) :
    Calls Try.prog 58 #[.pointer (some ⟨L, 0, none⟩)] w fun e w' => e = .returned (.bool false) ∧ w = w' := by
  go_enter Try.func58, Try.ntmps58
  go_wp2
  go_ret
  exact ⟨rfl, rfl⟩
set_option maxHeartbeats 400000 in
theorem lnone_nil (w : World) :
    Calls Try.prog 58 #[.pointer none] w fun e w' => e = .returned (.bool true) ∧ w = w' := by
  go_enter Try.func58, Try.ntmps58
  go_wp2
  go_ret
  exact ⟨rfl, rfl⟩
set_option maxHeartbeats 400000 in
theorem of_any (c : Int) (w : World) :
    Calls Try.prog 98 #[.int .i64 c] w fun e w' => e = .returned (.func (.func 127) #[] #[.pointer (some ⟨w.heap.size, 0, none⟩)]) ∧ w.alloc (.cells #[.int .i64 c] 3) = w' := by
  go_enter Try.func98, Try.ntmps98
  go_wp2
  go_ret
  exact ⟨rfl, rfl⟩
theorem of1_enters (args : Array Value) (W : World) : (callFunc 127 args).run Try.prog W = .ok (.enter 127 args) W :=
  enters Try.func127 (by kernel_rfl) rfl args W
set_option maxHeartbeats 400000 in
theorem lnew_any (w : World) :
    Calls Try.prog 29 #[] w fun e w' => e = .returned (.pointer (some ⟨w.heap.size, 0, none⟩)) ∧ LAt w' w.heap.size none 0 [] none 0 [] ∧ Below w.heap.size w w' ∧ w'.heap.size = w.heap.size + 1 := by
  go_enter Try.func29, Try.ntmps29
  go_wp2
  go_ret
  refine ⟨rfl, ⟨by rw [World.cell?_alloc_new]; rfl, by rw [World.cell?_alloc_new]; rfl, by rw [World.cell?_alloc_new]; rfl, ?_, by simp, ⟨by simp, by simp [maxLen], .inl rfl⟩, ⟨by simp, by simp [maxLen], .inl rfl⟩⟩, (Below.refl _ _).alloc (Nat.le_refl _) _, by simp⟩
  show (match (World.alloc w _).heap[w.heap.size]? with | some (.cells _ _ (lo, hi)) => _ | _ => _) = _
  rw [World.alloc_heap_new]
  rfl
end Go.Proofs.Ythhdipfadnihjaa
