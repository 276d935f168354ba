/- The walk of the chapter's rows: works. -/
import Derived.Test.YtljegehfdmgcbaaLayoutI
import Derived.Test.YtljegehfdmgcbaaLayoutJ
import Derived.Test.YtljegehfdmgcbaaLayoutK
namespace Go.Proofs.Ytljegehfdmgcbaa
open Go Go.RowKit

def L13 : Lay := ⟨32, 8, 16, 8, 0#64, 0#64, 9, 11, 15, 16⟩
theorem L13_of : ofL 32 8 16 8 0#64 0#64 = L13 := by decide
theorem L13_no : ofNo 32 8 16 8 = 0 := by decide
theorem L13_bad : ofL 32 64 16 8 0#64 0#64 = lay0 := by decide
theorem L13_bno : ofNo 32 64 16 8 = 2 := by decide
theorem L13_j : placeL L13 1 7 = (512, 0) := by decide
theorem L13_i : placeL L13 2 5 = (640, 0) := by decide
theorem L13_r : placeL L13 3 16 = (944, 0) := by decide
set_option maxRecDepth 100000 in
theorem L13_p : partL L13 1000 = ((5, 0), 0) := by decide +kernel

set_option maxHeartbeats 400000 in
theorem num_any13 (n : Int) (w : World) : Calls Try.prog 11 #[.int .i64 n] w fun e w' => e = .returned (.int .i64 n) ∧ w = w' := by
  go_enter Try.func11, Try.ntmps11
  go_wp2
  go_ret
  exact ⟨rfl, rfl⟩

theorem lay_new (w : World) : LayAt (w.alloc (.cells #[.int .i64 32, .int .i64 8, .int .i64 16, .int .i64 8, .int .u64 0, .int .u64 0, .int .i64 9, .int .i64 11, .int .i64 15, .int .i64 16] 27)) w.heap.size L13 := World.alloc_heap_new w _

set_option maxRecDepth 100000 in
set_option maxHeartbeats 4000000 in
theorem works13_any (w : World) : Calls Try.prog 13 #[] w fun e w' => e = .returned (.bool true) ∧ Below w.heap.size w w' := by
  go_enter Try.func13, Try.ntmps13
  go_wp2_with fail
  refine (of_any 32 8 16 8 0#64 0#64 _).mono ?_
  rintro e w1 ⟨rfl, hb⟩
  rw [L13_of, L13_no]
  obtain ⟨w2, hw2⟩ : ∃ w2, w1.alloc (.cells #[.int .i64 32, .int .i64 8, .int .i64 16, .int .i64 8, .int .u64 0, .int .u64 0, .int .i64 9, .int .i64 11, .int .i64 15, .int .i64 16] 27) = w2 := ⟨_, rfl⟩
  have hl2 : LayAt w2 w1.heap.size L13 := by rw [← hw2]; exact lay_new w1
  have HL2 : Hid (LayAt w2 w1.heap.size L13 ∧ Below w.heap.size w w2) := Lib.hid ⟨hl2, by rw [← hw2]; exact hb.alloc hb.size _⟩
  have hid6 : ∀ v, w2.cell? ⟨w1.heap.size, 9, none⟩ = some v → w2.setCell ⟨w1.heap.size, 9, none⟩ v = w2 := fun v hv => setCell_id hl2 (by have := (lay_cells hl2).2.2.2.2.2.2.2.2.2.1; rw [this] at hv; cases hv; rfl)
  obtain ⟨q0, q1, q2, q3, q4, q5, q6, q7, q8, q9, qf⟩ := lay_cells hl2
  simp only [L13] at q0 q1 q2 q3 q4 q5 q6 q7 q8 q9
  clear hb hl2 hid6
  simp only [lv, L13]
  go_wp2_with fail
  refine (journal_any L13 7 _).mono ?_
  rintro e w3 ⟨rfl, hb⟩
  rw [L13_j]
  clear hw2
  clear q0 q1 q2 q3 q4 q5 q6 q7 q8 q9 qf
  have hl := HL2.out.1.below HL2.out.1.lt (hb.mono (Nat.le_refl _))
  have HL3 : Hid (LayAt w3 w1.heap.size L13 ∧ Below w.heap.size w w3) := Lib.hid ⟨hl, HL2.out.2.trans (hb.mono HL2.out.2.size)⟩
  obtain ⟨q0, q1, q2, q3, q4, q5, q6, q7, q8, q9, qf⟩ := lay_cells hl
  simp only [L13] at q0 q1 q2 q3 q4 q5 q6 q7 q8 q9
  clear hb hl
  go_wp2_with fail
  refine (inode_any L13 5 _).mono ?_
  rintro e w4 ⟨rfl, hb⟩
  rw [L13_i]
  clear q0 q1 q2 q3 q4 q5 q6 q7 q8 q9 qf
  have hl := HL3.out.1.below HL3.out.1.lt (hb.mono (Nat.le_refl _))
  have HL4 : Hid (LayAt w4 w1.heap.size L13 ∧ Below w.heap.size w w4) := Lib.hid ⟨hl, HL3.out.2.trans (hb.mono HL3.out.2.size)⟩
  obtain ⟨q0, q1, q2, q3, q4, q5, q6, q7, q8, q9, qf⟩ := lay_cells hl
  simp only [L13] at q0 q1 q2 q3 q4 q5 q6 q7 q8 q9
  clear hb hl
  go_wp2_with fail
  refine (record_any L13 16 _).mono ?_
  rintro e w5 ⟨rfl, hb⟩
  rw [L13_r]
  clear q0 q1 q2 q3 q4 q5 q6 q7 q8 q9 qf
  have hl := HL4.out.1.below HL4.out.1.lt (hb.mono (Nat.le_refl _))
  have HL5 : Hid (LayAt w5 w1.heap.size L13 ∧ Below w.heap.size w w5) := Lib.hid ⟨hl, HL4.out.2.trans (hb.mono HL4.out.2.size)⟩
  obtain ⟨q0, q1, q2, q3, q4, q5, q6, q7, q8, q9, qf⟩ := lay_cells hl
  simp only [L13] at q0 q1 q2 q3 q4 q5 q6 q7 q8 q9
  clear hb hl
  go_wp2_with fail
  refine (part_any L13 1000 _).mono ?_
  rintro e w6 ⟨rfl, hb⟩
  rw [L13_p]
  clear q0 q1 q2 q3 q4 q5 q6 q7 q8 q9 qf
  have hl := HL5.out.1.below HL5.out.1.lt (hb.mono (Nat.le_refl _))
  have HL6 : Hid (LayAt w6 w1.heap.size L13 ∧ Below w.heap.size w w6) := Lib.hid ⟨hl, HL5.out.2.trans (hb.mono HL5.out.2.size)⟩
  obtain ⟨w7, hw7⟩ : ∃ w7, w6.alloc (.cells #[.int .i64 5, .int .i64 0] 46) = w7 := ⟨_, rfl⟩
  have hp7 : w7.heap[w6.heap.size]? = some (.cells #[.int .i64 5, .int .i64 0] 46 (0, 0)) := by rw [← hw7]; exact World.alloc_heap_new _ _
  have hl7 : LayAt w7 w1.heap.size L13 := by rw [← hw7]; exact (Below.heap_alloc _ _ _ hl.lt).trans hl
  have HL7 : Hid (LayAt w7 w1.heap.size L13 ∧ Below w.heap.size w w7 ∧ w7.heap[w6.heap.size]? = some (.cells #[.int .i64 5, .int .i64 0] 46 (0, 0))) := Lib.hid ⟨hl7, by rw [← hw7]; exact HL6.out.2.alloc HL6.out.2.size _, hp7⟩
  have hr1 : w7.setCell ⟨w6.heap.size, 1, none⟩ (.int .i64 0) = w7 := setCell_id hp7 rfl
  have hr1c : w7.cell? ⟨w6.heap.size, 1, none⟩ = some (.int .i64 0) := by simp [World.cell?, hp7]
  have hr1f : w7.frozen? ⟨w6.heap.size, 1, none⟩ = false := by simp [World.frozen?, hp7]
  clear hp7 hl7 hb hl
  simp only [pv]
  go_wp2_with fail
  refine (of_any 32 64 16 8 0#64 0#64 _).mono ?_
  rintro e w8 ⟨rfl, hb⟩
  rw [L13_bad, L13_bno]
  clear hw7 hr1 hr1c hr1f
  have h8 : LayAt w8 w1.heap.size L13 := HL7.out.1.below HL7.out.1.lt hb
  have hp8 := (hb.block w6.heap.size (Array.getElem?_eq_some_iff.1 HL7.out.2.2).1).trans HL7.out.2.2
  have hb8 := HL7.out.2.1.trans (hb.mono HL7.out.2.1.size)
  obtain ⟨w9, hw9⟩ : ∃ w9, w8.alloc (.cells #[.int .i64 0, .int .i64 0, .int .i64 0, .int .i64 0, .int .u64 0, .int .u64 0, .int .i64 0, .int .i64 0, .int .i64 0, .int .i64 0] 27) = w9 := ⟨_, rfl⟩
  have hz : w9.heap[w8.heap.size]? = some (.cells #[.int .i64 0, .int .i64 0, .int .i64 0, .int .i64 0, .int .u64 0, .int .u64 0, .int .i64 0, .int .i64 0, .int .i64 0, .int .i64 0] 27 (0, 0)) := by rw [← hw9]; exact World.alloc_heap_new _ _
  have HL9 : Hid (LayAt w9 w1.heap.size L13 ∧ Below w.heap.size w w9 ∧ w9.heap[w6.heap.size]? = some (.cells #[.int .i64 5, .int .i64 0] 46 (0, 0))) := Lib.hid ⟨by rw [← hw9]; exact (Below.heap_alloc _ _ _ h8.lt).trans h8, by rw [← hw9]; exact hb8.alloc hb8.size _, by rw [← hw9]; exact (Below.heap_alloc _ _ _ (Array.getElem?_eq_some_iff.1 hp8).1).trans hp8⟩
  obtain ⟨z0, z1, z2, z3, z4, z5, z6, z7, z8, z9, zf⟩ := lay_cells hz
  have hr0 : w9.setCell ⟨w8.heap.size, 0, none⟩ (.int .i64 0) = w9 := setCell_id hz rfl
  have hr1 : w9.setCell ⟨w8.heap.size, 1, none⟩ (.int .i64 0) = w9 := setCell_id hz rfl
  have hr2 : w9.setCell ⟨w8.heap.size, 2, none⟩ (.int .i64 0) = w9 := setCell_id hz rfl
  have hr3 : w9.setCell ⟨w8.heap.size, 3, none⟩ (.int .i64 0) = w9 := setCell_id hz rfl
  have hr4 : w9.setCell ⟨w8.heap.size, 4, none⟩ (.int .u64 0) = w9 := setCell_id hz rfl
  have hr5 : w9.setCell ⟨w8.heap.size, 5, none⟩ (.int .u64 0) = w9 := setCell_id hz rfl
  have hr6 : w9.setCell ⟨w8.heap.size, 6, none⟩ (.int .i64 0) = w9 := setCell_id hz rfl
  have hr7 : w9.setCell ⟨w8.heap.size, 7, none⟩ (.int .i64 0) = w9 := setCell_id hz rfl
  have hr8 : w9.setCell ⟨w8.heap.size, 8, none⟩ (.int .i64 0) = w9 := setCell_id hz rfl
  have hr9 : w9.setCell ⟨w8.heap.size, 9, none⟩ (.int .i64 0) = w9 := setCell_id hz rfl
  clear hz hb8 hp8 h8 hb
  simp only [lv, lay0]
  go_wp2_with fail
  refine (read_short none 0 0 (by omega) _).mono ?_
  rintro e wa ⟨rfl, hb⟩
  clear hw9 z0 z1 z2 z3 z4 z5 z6 z7 z8 z9 zf hr0 hr1 hr2 hr3 hr4 hr5 hr6 hr7 hr8 hr9
  have h8 : LayAt wa w1.heap.size L13 := HL9.out.1.below HL9.out.1.lt hb
  have hp8 := (hb.block w6.heap.size (Array.getElem?_eq_some_iff.1 HL9.out.2.2).1).trans HL9.out.2.2
  have hb8 := HL9.out.2.1.trans (hb.mono HL9.out.2.1.size)
  obtain ⟨wb, hwb⟩ : ∃ wb, wa.alloc (.cells #[.int .i64 0, .int .i64 0, .int .i64 0, .int .i64 0, .int .u64 0, .int .u64 0, .int .i64 0, .int .i64 0, .int .i64 0, .int .i64 0] 27) = wb := ⟨_, rfl⟩
  have hz : wb.heap[wa.heap.size]? = some (.cells #[.int .i64 0, .int .i64 0, .int .i64 0, .int .i64 0, .int .u64 0, .int .u64 0, .int .i64 0, .int .i64 0, .int .i64 0, .int .i64 0] 27 (0, 0)) := by rw [← hwb]; exact World.alloc_heap_new _ _
  have hl : LayAt wb w1.heap.size L13 := by rw [← hwb]; exact (Below.heap_alloc _ _ _ h8.lt).trans h8
  have hpb : wb.heap[w6.heap.size]? = some (.cells #[.int .i64 5, .int .i64 0] 46 (0, 0)) := by rw [← hwb]; exact (Below.heap_alloc _ _ _ (Array.getElem?_eq_some_iff.1 hp8).1).trans hp8
  have HB : Hid (Below w.heap.size w wb) := Lib.hid (by rw [← hwb]; exact hb8.alloc hb8.size _)
  obtain ⟨z0, z1, z2, z3, z4, z5, z6, z7, z8, z9, zf⟩ := lay_cells hz
  have hr0 : wb.setCell ⟨wa.heap.size, 0, none⟩ (.int .i64 0) = wb := setCell_id hz rfl
  have hr1 : wb.setCell ⟨wa.heap.size, 1, none⟩ (.int .i64 0) = wb := setCell_id hz rfl
  have hr2 : wb.setCell ⟨wa.heap.size, 2, none⟩ (.int .i64 0) = wb := setCell_id hz rfl
  have hr3 : wb.setCell ⟨wa.heap.size, 3, none⟩ (.int .i64 0) = wb := setCell_id hz rfl
  have hr4 : wb.setCell ⟨wa.heap.size, 4, none⟩ (.int .u64 0) = wb := setCell_id hz rfl
  have hr5 : wb.setCell ⟨wa.heap.size, 5, none⟩ (.int .u64 0) = wb := setCell_id hz rfl
  have hr6 : wb.setCell ⟨wa.heap.size, 6, none⟩ (.int .i64 0) = wb := setCell_id hz rfl
  have hr7 : wb.setCell ⟨wa.heap.size, 7, none⟩ (.int .i64 0) = wb := setCell_id hz rfl
  have hr8 : wb.setCell ⟨wa.heap.size, 8, none⟩ (.int .i64 0) = wb := setCell_id hz rfl
  have hr9 : wb.setCell ⟨wa.heap.size, 9, none⟩ (.int .i64 0) = wb := setCell_id hz rfl
  have x0 : wb.cell? ⟨w6.heap.size, 0, none⟩ = some (.int .i64 5) := by simp [World.cell?, hpb]
  have x1 : wb.cell? ⟨w6.heap.size, 1, none⟩ = some (.int .i64 0) := by simp [World.cell?, hpb]
  obtain ⟨q0, q1, q2, q3, q4, q5, q6, q7, q8, q9, qf⟩ := lay_cells hl
  simp only [L13] at q0 q1 q2 q3 q4 q5 q6 q7 q8 q9
  clear hz hb8 hp8 h8 hb hl hpb
  simp only [lv, lay0]
  go_wp2_with (go_at_call 11; refine (num_any13 _ _).mono ?_; rintro e w' ⟨rfl, rfl⟩)
  go_ret
  exact ⟨rfl, HB.out⟩
end Go.Proofs.Ytljegehfdmgcbaa
