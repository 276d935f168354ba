/- The walk of the chapter's rows. -/
import Derived.Test.YtifmhgfijjjfeaaSumD
import Derived.Lib.SlBytesConst
namespace Go.Proofs.Ytifmhgfijjjfeaa
open Go Go.RowKit

def row9 : List (BitVec 8) := [49#8, 50#8, 51#8, 52#8, 53#8, 54#8, 55#8, 56#8, 57#8]
theorem k1 : (sumw row9).toNat = 11051210869376104954 := by kernel_rfl
theorem k2 : (sumw []).toNat = 0 := by kernel_rfl
theorem k3 : openOk [] = false := rfl
theorem k4 : openOk [0#64, 0#64] = false := by kernel_rfl
theorem k5 : openOk [0#64] = true := by kernel_rfl
theorem beq_nat (n m : Nat) (h : n = m) : ((n : Int) == (m : Int)) = true := by rw [h]; simp

theorem open0 (w : World) : Calls Try.prog 19 #[.slice none 0 0] w fun e w' => (∃ p cap, e = .returned (.tuple #[.slice p 0 cap, .int .i64 130])) ∧ Below w.heap.size w w' :=
  (open_any none 0 [] w (RdL.nil _ _ _) (by decide)).mono fun _ _ ⟨p, cap, he, _, hb⟩ => ⟨⟨p, cap, he⟩, hb⟩
theorem open00 (w : World) : Calls Try.prog 19 #[.slice (some ⟨w.heap.size, 0, none⟩) 2 2] (w.alloc (.cells #[.int .u64 0, .int .u64 0] 22)) fun e w' => (∃ p cap, e = .returned (.tuple #[.slice p 0 cap, .int .i64 130])) ∧ Below w.heap.size w w' :=
  (open_any (some ⟨w.heap.size, 0, none⟩) 2 [0#64, 0#64] _ (rdl_new w 22 vw [0#64, 0#64] (by decide)) (by decide)).mono fun _ _ ⟨p, cap, he, _, hb⟩ =>
    ⟨⟨p, cap, by simpa [openL, openNo, k4] using he⟩, ((Below.refl _ w).alloc (Nat.le_refl _) _).trans (hb.mono (by simp))⟩
theorem open01 (w : World) : Calls Try.prog 19 #[.slice (some ⟨w.heap.size, 0, none⟩) 1 1] (w.alloc (.cells #[.int .u64 0] 22)) fun e w' => (∃ p cap, e = .returned (.tuple #[.slice p 0 cap, .int .i64 0])) ∧ Below w.heap.size w w' :=
  (open_any (some ⟨w.heap.size, 0, none⟩) 1 [0#64] _ (rdl_new w 22 vw [0#64] (by decide)) (by decide)).mono fun _ _ ⟨p, cap, he, _, hb⟩ =>
    ⟨⟨p, cap, by simpa [openL, openNo, k5] using he⟩, ((Below.refl _ w).alloc (Nat.le_refl _) _).trans (hb.mono (by simp))⟩
theorem sum9 (w : World) : Calls Try.prog 15 #[.slice (some ⟨w.heap.size, 0, none⟩) 9 9] (w.alloc (.cells #[.int .u8 49, .int .u8 50, .int .u8 51, .int .u8 52, .int .u8 53, .int .u8 54, .int .u8 55, .int .u8 56, .int .u8 57] 5 (9, 10))) fun e w' => (e = .returned (.int .u64 11051210869376104954)) ∧ Below w.heap.size w w' :=
  (sum_any (some ⟨w.heap.size, 0, none⟩) 9 row9 _ (rdl_block vb row9 (World.alloc_heap_new w _) (by decide))).mono fun _ _ ⟨he, hb⟩ =>
    ⟨by rw [he, vw, k1]; rfl, ((Below.refl _ w).alloc (Nat.le_refl _) _).trans (hb.mono (by simp))⟩
theorem sum0 (w : World) : Calls Try.prog 15 #[.slice none 0 0] w fun e w' => (e = .returned (.int .u64 0)) ∧ Below w.heap.size w w' :=
  (sum_any none 0 [] _ (RdL.nil _ _ _)).mono fun _ _ ⟨he, hb⟩ => ⟨by rw [he, vw, k2]; rfl, hb⟩

set_option maxRecDepth 100000 in
set_option maxHeartbeats 2000000 in
theorem works_any (w : World) : Calls Try.prog 14 #[] w fun e w' => e = .returned (.bool true) ∧ Below w.heap.size w w' := by
  have hcv := fun (w : World) (C : Array Value) (n c : Nat) => Lib.run_convert_bytes_const (P := Try.prog) w 23 5 C n c Try.underlying23 Try.underlying5
  go_enter Try.func14, Try.ntmps14
  go_wp2_with fail
  refine (open0 _).mono ?_
  rintro e w1 ⟨⟨p1, c1, rfl⟩, hb1⟩
  go_wp2_with fail
  refine (open00 _).mono ?_
  rintro e w2 ⟨⟨p2, c2, rfl⟩, hb2⟩
  go_wp2_with fail
  refine (open01 _).mono ?_
  rintro e w3 ⟨⟨p3, c3, rfl⟩, hb3⟩
  go_wp2_with fail
  refine (sum9 _).mono ?_
  rintro e w4 ⟨rfl, hb4⟩
  go_wp2_with fail
  refine (sum0 _).mono ?_
  rintro e w5 ⟨rfl, hb5⟩
  go_wp2_with fail
  refine (num_any _ _).mono ?_
  rintro e w6 ⟨rfl, rfl⟩
  go_wp2_with fail
  refine (num_any _ _).mono ?_
  rintro e w7 ⟨rfl, rfl⟩
  go_wp2_with fail
  refine (num_any _ _).mono ?_
  rintro e w7 ⟨rfl, rfl⟩
  go_wp2_with fail
  go_ret
  refine ⟨rfl, ?_⟩
  have h2 := hb1.trans (hb2.mono hb1.size)
  have h3 := h2.trans (hb3.mono h2.size)
  have h4 := h3.trans (hb4.mono h3.size)
  exact h4.trans (hb5.mono h4.size)

end Go.Proofs.Ytifmhgfijjjfeaa
