/- Boxes of forms and keys; what reads of super blocks. -/
import Derived.Test.YtljegehfdmgcbaaLayoutM
namespace Go.Proofs.Ytljegehfdmgcbaa
open Go Go.RowKit

def FAt (W : World) (O : Nat) (B I R T : Int) : Prop := W.heap[O]? = some (.cells #[.int .i64 B, .int .i64 I, .int .i64 R, .int .i64 T] 23 (0, 0))
def KAt (W : World) (O : Nat) (k0 k1 : BitVec 64) : Prop := W.heap[O]? = some (.cells #[vw k0, vw k1] 25 (0, 0))
theorem FAt.cells {W : World} {O : Nat} {B I R T : Int} (h : FAt W O B I R T) : W.cell? ⟨O, 0, none⟩ = some (.int .i64 B) ∧ W.cell? ⟨O, 1, none⟩ = some (.int .i64 I) ∧ W.cell? ⟨O, 2, none⟩ = some (.int .i64 R) ∧ W.cell? ⟨O, 3, none⟩ = some (.int .i64 T) := by
  refine ⟨?_, ?_, ?_, ?_⟩ <;> simp [World.cell?, show W.heap[O]? = _ from h]
theorem KAt.cells {W : World} {O : Nat} {k0 k1 : BitVec 64} (h : KAt W O k0 k1) : W.cell? ⟨O, 0, none⟩ = some (vw k0) ∧ W.cell? ⟨O, 1, none⟩ = some (vw k1) := by
  refine ⟨?_, ?_⟩ <;> simp [World.cell?, show W.heap[O]? = _ from h]
theorem FAt.below {W W' : World} {O n : Nat} {B I R T : Int} (h : FAt W O B I R T) (hO : O < n) (hb : Below n W W') : FAt W' O B I R T := (hb.block O hO).trans h
theorem KAt.below {W W' : World} {O n : Nat} {k0 k1 : BitVec 64} (h : KAt W O k0 k1) (hO : O < n) (hb : Below n W W') : KAt W' O k0 k1 := (hb.block O hO).trans h
theorem FAt.lt {W : World} {O : Nat} {B I R T : Int} (h : FAt W O B I R T) : O < W.heap.size := (Array.getElem?_eq_some_iff.1 h).1
theorem KAt.lt {W : World} {O : Nat} {k0 k1 : BitVec 64} (h : KAt W O k0 k1) : O < W.heap.size := (Array.getElem?_eq_some_iff.1 h).1
theorem form_key (w : World) (B I R T : Int) (k0 k1 : BitVec 64) : ∃ wa, (w.alloc (.cells #[.int .i64 B, .int .i64 I, .int .i64 R, .int .i64 T] 23)).alloc (.cells #[vw k0, vw k1] 25) = wa ∧
    FAt wa w.heap.size B I R T ∧ KAt wa (w.heap.size + 1) k0 k1 ∧ Below w.heap.size w wa ∧ wa.heap.size = w.heap.size + 2 := by
  refine ⟨_, rfl, (Below.heap_alloc _ _ _ (by simp)).trans (World.alloc_heap_new w _), ?_, ((Below.refl _ _).alloc (Nat.le_refl _) _).alloc (by simp) _, by simp⟩
  have := World.alloc_heap_new (w.alloc (.cells #[.int .i64 B, .int .i64 I, .int .i64 R, .int .i64 T] 23)) (.cells #[vw k0, vw k1] 25)
  rw [World.size_alloc] at this
  exact this
/-- A new box of a layout. -/
theorem lay_made (w : World) (l : Lay) : ∃ wa, w.alloc (.cells #[.int .i64 l.B, .int .i64 l.I, .int .i64 l.R, .int .i64 l.T, .int .u64 (l.k0.toNat : Int), .int .u64 (l.k1.toNat : Int), .int .i64 l.i, .int .i64 l.r, .int .i64 l.m, .int .i64 l.d] 27) = wa ∧ LayAt wa w.heap.size l ∧ Below w.heap.size w wa :=
  ⟨_, rfl, World.alloc_heap_new w _, (Below.refl _ _).alloc (Nat.le_refl _) _⟩
theorem super_rd {base : Nat} {w : World} {v : Value} {l : Lay} (h : w.ownsRow base 24 1 v 64 ((superL l).map vw)) : ∃ p cap, v = .slice p 64 cap ∧ RdL w.heap.size w p cap vw (superL l) := by
  obtain ⟨p, cap, hv, hr, _⟩ := rdl_of_owns (ys := superL l) (by rw [superL_len]; exact h)
  rw [superL_len] at hv
  exact ⟨p, cap, hv, hr⟩
theorem sameSuper (p q : Option Addr) (cp cq : Nat) (l : Lay) (w : World) (hx : RdL w.heap.size w p cp vw (superL l)) (hy : RdL w.heap.size w q cq vw (superL l)) :
    Calls Try.prog 14 #[.slice p 64 cp, .slice q 64 cq] w fun e w' => e = .returned (.bool true) ∧ Below w.heap.size w w' := by
  have h := same_any p q cp cq (superL l) (superL l) w hx hy
  rw [superL_len] at h
  refine h.mono ?_
  rintro e w' ⟨rfl, n, rfl⟩
  refine ⟨by simp [sameB], ⟨rfl, rfl, rfl, Nat.le_refl _, fun _ _ => rfl⟩⟩
end Go.Proofs.Ytljegehfdmgcbaa
