/- ScanNone: what is told of none. -/
import Derived.Test.YtenmogokbelahaaScanN
namespace Go.Proofs.Ytenmogokbelahaa
open Go Go.RowKit

set_option maxRecDepth 100000 in
set_option maxHeartbeats 8000000 in
theorem lawScanNone (v : BitVec 64) (w : World) : Calls Try.prog 7 #[vw v] w fun e w' => e = .returned (.bool true) ∧ Below w.heap.size w w' := by
  obtain ⟨W1, hW1⟩ : ∃ W1, w.alloc (.cells #[.int .i64 0, .int .i64 0, .int .u64 0, .int .i64 0, .int .i64 0, .nilFunc, .int .u64 0, .int .u64 0, .bool false, .int .i64 0, .bool false] 74) = W1 := ⟨_, rfl⟩
  have hb1 : Below w.heap.size w W1 := by rw [← hW1]; exact (Below.refl _ _).alloc (Nat.le_refl _) _
  have hc : W1.cell? ⟨w.heap.size, 10, none⟩ = some (.bool false) := by
    have := World.alloc_heap_new w (.cells #[.int .i64 0, .int .i64 0, .int .u64 0, .int .i64 0, .int .i64 0, .nilFunc, .int .u64 0, .int .u64 0, .bool false, .int .i64 0, .bool false] 74)
    rw [hW1] at this
    simp [World.cell?, this]
  have n0 := none_nil W1
  have n1 : Calls Try.prog 71 #[.pointer (some ⟨w.heap.size, 0, none⟩)] W1 fun e w' => e = .returned (.bool true) ∧ W1 = w' := none_at (b := false) W1 hc
  have HW1 := Lib.hid (And.intro hW1 hb1)
  have HN0 := Lib.hid n0
  have HN1 := Lib.hid n1
  clear hW1 hb1 hc n0 n1
  go_enter Try.func7, Try.ntmps7
  go_wp2_with fail
  rw [HW1.out.1]
  refine (wants_none _ _ HN0.out).mono ?_
  rintro e w' ⟨rfl, rfl⟩
  go_wp2_with fail
  refine (wants_none _ _ HN1.out).mono ?_
  rintro e w' ⟨rfl, rfl⟩
  go_wp2_with fail
  refine (found_none _ _ HN0.out).mono ?_
  rintro e w' ⟨rfl, rfl⟩
  go_wp2_with fail
  refine (found_none _ _ HN1.out).mono ?_
  rintro e w' ⟨rfl, rfl⟩
  go_wp2_with fail
  refine (give_none _ _ _ HN0.out).mono ?_
  rintro e w' ⟨rfl, rfl⟩
  go_wp2_with fail
  refine (num10_any _ _).mono ?_
  rintro e w' ⟨rfl, rfl⟩
  go_wp2_with fail
  refine (give_none _ _ _ HN1.out).mono ?_
  rintro e w' ⟨rfl, rfl⟩
  go_wp2_with fail
  refine (num10_any _ _).mono ?_
  rintro e w' ⟨rfl, rfl⟩
  go_wp2_with fail
  refine (loads_none _ _ HN0.out).mono ?_
  rintro e w' ⟨rfl, rfl⟩
  go_wp2_with fail
  refine (loads_none _ _ HN1.out).mono ?_
  rintro e w' ⟨rfl, rfl⟩
  go_wp2_with fail
  refine (copy_none _ _ HN0.out).mono ?_
  rintro e w' ⟨rfl, rfl⟩
  go_wp2_with fail
  refine (copy_none _ _ HN1.out).mono ?_
  rintro e w' ⟨rfl, rfl⟩
  go_wp2_with fail
  refine (works10_any _).mono ?_
  rintro e w2 ⟨rfl, hb2⟩
  go_wp2_with fail
  go_ret
  exact ⟨rfl, HW1.out.2.trans (hb2.mono HW1.out.2.size)⟩
end Go.Proofs.Ytenmogokbelahaa
