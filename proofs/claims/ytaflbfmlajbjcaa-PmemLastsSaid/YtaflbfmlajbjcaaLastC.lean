/- PmemLasts: the calls of the memory, beside the rows. -/
import Derived.Test.YtaflbfmlajbjcaaLastB
namespace Go.Proofs.Ytaflbfmlajbjcaa
open Go Go.RowKit

section
variable {W w : World} {O gs gf n base : Nat} {N : Nat → Prop} {m : Mem} {R : Nat → Row} {fl : Nat → Int}
theorem store9 (a : Int) (V : BitVec 64) (v : Int) (hv : (V.toNat : Int) = v) (B : Nat) (h : St9 W w O N gs gf n base m R fl) (hi : Inv m R fl B) :
    Calls Try.prog 20 #[.pointer (some ⟨O, 0, none⟩), .int .i64 a, .int .u64 v] w fun e w' => ∃ (r : Int) (m' : Mem), e = .returned (.int .i64 r) ∧ St9 W w' O N gs gf n base m' R fl ∧ Inv m' R fl B := by
  subst hv
  by_cases hr : 0 ≤ a ∧ a < ((8 * m.length : Nat) : Int)
  · obtain ⟨i, rfl⟩ : ∃ i : Nat, a = i := ⟨a.toNat, by omega⟩
    refine (store_any i V w h.mat (by omega)).mono ?_
    rintro e w' ⟨rfl, hm, hf⟩
    exact ⟨0, _, rfl, h.mem hm hf (store_len m i V), inv_store hi i V⟩
  · refine (store_bad a V w h.mat hr).mono ?_
    rintro e w' ⟨rfl, rfl⟩
    exact ⟨4, m, rfl, h, hi⟩
theorem flush9 (i : Nat) (h : St9 W w O N gs gf n base m R fl) (hi : i < m.length) :
    Calls Try.prog 21 #[.pointer (some ⟨O, 0, none⟩), .int .i64 i] w fun e w' => e = .returned (.int .i64 0) ∧ St9 W w' O N gs gf n base (m.flush i) R fl ∧ Frn N w w' := by
  refine (flush_any i w h.mat h.bnd hi).mono ?_
  rintro e w' ⟨rfl, hm, hf⟩
  exact ⟨rfl, h.mem hm hf (flush_len m i), hf⟩
theorem flush9_bad (a : Int) (h : St9 W w O N gs gf n base m R fl) (hi : ¬ (0 ≤ a ∧ a < (m.length : Int))) :
    Calls Try.prog 21 #[.pointer (some ⟨O, 0, none⟩), .int .i64 a] w fun e w' => e = .returned (.int .i64 4) ∧ St9 W w' O N gs gf n base m R fl := by
  refine (flush_bad a w h.mat h.bnd hi).mono ?_
  rintro e w' ⟨rfl, hb⟩
  exact ⟨rfl, h.below hb⟩
theorem evict9 (i : Nat) (h : St9 W w O N gs gf n base m R fl) (hi : i < m.length) :
    Calls Try.prog 23 #[.pointer (some ⟨O, 0, none⟩), .int .i64 i] w fun e w' => e = .returned (.int .i64 0) ∧ St9 W w' O N gs gf n base (m.evict i) R fl ∧ Frn N w w' := by
  refine (evict_any i w h.mat h.bnd hi).mono ?_
  rintro e w' ⟨rfl, hm, hf⟩
  exact ⟨rfl, h.mem hm hf (evict_len m i), hf⟩
theorem evict9_bad (a : Int) (h : St9 W w O N gs gf n base m R fl) (hi : ¬ (0 ≤ a ∧ a < (m.length : Int))) :
    Calls Try.prog 23 #[.pointer (some ⟨O, 0, none⟩), .int .i64 a] w fun e w' => e = .returned (.int .i64 4) ∧ St9 W w' O N gs gf n base m R fl := by
  refine (evict_bad a w h.mat h.bnd hi).mono ?_
  rintro e w' ⟨rfl, hb⟩
  exact ⟨rfl, h.below hb⟩
theorem fence9 (h : St9 W w O N gs gf n base m R fl) :
    Calls Try.prog 22 #[.pointer (some ⟨O, 0, none⟩)] w fun e w' => e = .returned (.int .i64 0) ∧ St9 W w' O N gs gf n base m.fence R fl ∧ Frn N w w' := by
  refine (fence_any w h.mat h.bnd).mono ?_
  rintro e w' ⟨rfl, hm, hf⟩
  exact ⟨rfl, h.mem hm hf (fence_len m), hf⟩
/-- A call's block: three cells. -/
structure XAt (w : World) (X : Nat) (a b v : Int) : Prop where
  c0 : w.cell? ⟨X, 0, none⟩ = some (.int .i64 a)
  c1 : w.cell? ⟨X, 1, none⟩ = some (.int .i64 b)
  c2 : w.cell? ⟨X, 2, none⟩ = some (.int .u64 v)
theorem x_new (w : World) (a b v : Int) (t : TypeId) : XAt (w.alloc (.cells #[.int .i64 a, .int .i64 b, .int .u64 v] t)) w.heap.size a b v := by
  refine ⟨?_, ?_, ?_⟩ <;> (rw [World.cell?, World.alloc_heap_new]; rfl)
end
end Go.Proofs.Ytaflbfmlajbjcaa
