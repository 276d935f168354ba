/- The walks of the parts: where each begins, how many there are, their words and numbers. -/
import Derived.Test.YtljegehfdmgcbaaLayoutC
namespace Go.Proofs.Ytljegehfdmgcbaa
open Go Go.RowKit

theorem und_box (w : World) (l : Lay) : ∃ wa, w.alloc (.cells #[.int .i64 l.B, .int .i64 l.I, .int .i64 l.R, .int .i64 l.T, vw l.k0, vw l.k1, .int .i64 l.i, .int .i64 l.r, .int .i64 l.m, .int .i64 l.d] 73) = wa ∧ Hid (Below w.heap.size w wa) ∧ Hid (wa.heap.size = w.heap.size + 1) ∧ Hid (wa.heap[w.heap.size]? = some (.cells #[.int .i64 l.B, .int .i64 l.I, .int .i64 l.R, .int .i64 l.T, vw l.k0, vw l.k1, .int .i64 l.i, .int .i64 l.r, .int .i64 l.m, .int .i64 l.d] 73 (0, 0))) :=
  ⟨_, rfl, Lib.hid ((Below.refl _ _).alloc (Nat.le_refl _) _), Lib.hid (by simp), Lib.hid (World.alloc_heap_new w _)⟩

def fromF : Nat → Nat | 0 => 44 | 1 => 46 | 2 => 48 | 3 => 50 | 4 => 52 | _ => 53
def manyF : Nat → Nat | 0 => 45 | 1 => 47 | 2 => 49 | 3 => 51 | 4 => 45 | _ => 54

theorem p_parts_1 (l : Lay) (w : World) : Calls Try.prog 44 #[lv l] w fun e w' => e = .returned (.int .i64 0) ∧ Below w.heap.size w w' := by
  obtain ⟨wa, hwa, HBA, HZA, HF⟩ := und_box w l
  obtain ⟨q0, q1, q2, q3, q4, q5, q6, q7, q8, q9, qf⟩ := lay_cells HF.out
  unfold lv
  go_enter Try.func44, Try.ntmps44
  go_wp2_with fail
  go_ret
  exact ⟨rfl, HBA.out⟩

theorem p_parts_2 (l : Lay) (w : World) : Calls Try.prog 46 #[lv l] w fun e w' => e = .returned (.int .i64 1) ∧ Below w.heap.size w w' := by
  obtain ⟨wa, hwa, HBA, HZA, HF⟩ := und_box w l
  obtain ⟨q0, q1, q2, q3, q4, q5, q6, q7, q8, q9, qf⟩ := lay_cells HF.out
  unfold lv
  go_enter Try.func46, Try.ntmps46
  go_wp2_with fail
  go_ret
  exact ⟨rfl, HBA.out⟩

theorem p_parts_4 (l : Lay) (w : World) : Calls Try.prog 48 #[lv l] w fun e w' => e = .returned (.int .i64 l.i) ∧ Below w.heap.size w w' := by
  obtain ⟨wa, hwa, HBA, HZA, HF⟩ := und_box w l
  obtain ⟨q0, q1, q2, q3, q4, q5, q6, q7, q8, q9, qf⟩ := lay_cells HF.out
  unfold lv
  go_enter Try.func48, Try.ntmps48
  go_wp2_with fail
  go_ret
  exact ⟨rfl, HBA.out⟩

theorem p_parts_6 (l : Lay) (w : World) : Calls Try.prog 50 #[lv l] w fun e w' => e = .returned (.int .i64 l.r) ∧ Below w.heap.size w w' := by
  obtain ⟨wa, hwa, HBA, HZA, HF⟩ := und_box w l
  obtain ⟨q0, q1, q2, q3, q4, q5, q6, q7, q8, q9, qf⟩ := lay_cells HF.out
  unfold lv
  go_enter Try.func50, Try.ntmps50
  go_wp2_with fail
  go_ret
  exact ⟨rfl, HBA.out⟩

theorem p_parts_8 (l : Lay) (w : World) : Calls Try.prog 52 #[lv l] w fun e w' => e = .returned (.int .i64 l.m) ∧ Below w.heap.size w w' := by
  obtain ⟨wa, hwa, HBA, HZA, HF⟩ := und_box w l
  obtain ⟨q0, q1, q2, q3, q4, q5, q6, q7, q8, q9, qf⟩ := lay_cells HF.out
  unfold lv
  go_enter Try.func52, Try.ntmps52
  go_wp2_with fail
  go_ret
  exact ⟨rfl, HBA.out⟩

theorem p_parts_9 (l : Lay) (w : World) : Calls Try.prog 53 #[lv l] w fun e w' => e = .returned (.int .i64 l.d) ∧ Below w.heap.size w w' := by
  obtain ⟨wa, hwa, HBA, HZA, HF⟩ := und_box w l
  obtain ⟨q0, q1, q2, q3, q4, q5, q6, q7, q8, q9, qf⟩ := lay_cells HF.out
  unfold lv
  go_enter Try.func53, Try.ntmps53
  go_wp2_with fail
  go_ret
  exact ⟨rfl, HBA.out⟩

theorem p_one (l : Lay) (w : World) : Calls Try.prog 45 #[lv l] w fun e w' => e = .returned (.int .i64 1) ∧ Below w.heap.size w w' := by
  obtain ⟨wa, hwa, HBA, HZA, HF⟩ := und_box w l
  obtain ⟨q0, q1, q2, q3, q4, q5, q6, q7, q8, q9, qf⟩ := lay_cells HF.out
  unfold lv
  go_enter Try.func45, Try.ntmps45
  go_wp2_with fail
  go_ret
  exact ⟨rfl, HBA.out⟩

theorem p_parts_3 (l : Lay) (w : World) : Calls Try.prog 47 #[lv l] w fun e w' => e = .returned (.int .i64 8) ∧ Below w.heap.size w w' := by
  obtain ⟨wa, hwa, HBA, HZA, HF⟩ := und_box w l
  obtain ⟨q0, q1, q2, q3, q4, q5, q6, q7, q8, q9, qf⟩ := lay_cells HF.out
  unfold lv
  go_enter Try.func47, Try.ntmps47
  go_wp2_with fail
  go_ret
  exact ⟨rfl, HBA.out⟩

theorem p_parts_5 (l : Lay) (w : World) : Calls Try.prog 49 #[lv l] w fun e w' => e = .returned (.int .i64 l.I) ∧ Below w.heap.size w w' := by
  obtain ⟨wa, hwa, HBA, HZA, HF⟩ := und_box w l
  obtain ⟨q0, q1, q2, q3, q4, q5, q6, q7, q8, q9, qf⟩ := lay_cells HF.out
  unfold lv
  go_enter Try.func49, Try.ntmps49
  go_wp2_with fail
  go_ret
  exact ⟨rfl, HBA.out⟩

theorem p_parts_7 (l : Lay) (w : World) : Calls Try.prog 51 #[lv l] w fun e w' => e = .returned (.int .i64 l.R) ∧ Below w.heap.size w w' := by
  obtain ⟨wa, hwa, HBA, HZA, HF⟩ := und_box w l
  obtain ⟨q0, q1, q2, q3, q4, q5, q6, q7, q8, q9, qf⟩ := lay_cells HF.out
  unfold lv
  go_enter Try.func51, Try.ntmps51
  go_wp2_with fail
  go_ret
  exact ⟨rfl, HBA.out⟩

theorem p_parts_10 (l : Lay) (hb : l.d ≤ l.B) (hb2 : 0 ≤ l.d) (hb3 : l.B ≤ 2048) (w : World) : Calls Try.prog 54 #[lv l] w fun e w' => e = .returned (.int .i64 (l.B - l.d)) ∧ Below w.heap.size w w' := by
  obtain ⟨wa, hwa, HBA, HZA, HF⟩ := und_box w l
  obtain ⟨q0, q1, q2, q3, q4, q5, q6, q7, q8, q9, qf⟩ := lay_cells HF.out
  unfold lv
  go_enter Try.func54, Try.ntmps54
  go_wp2_with fail
  go_ret
  exact ⟨rfl, HBA.out⟩

theorem from_any (k : Nat) (l : Lay) (w : World) : Calls Try.prog (fromF k) #[lv l] w fun e w' => e = .returned (.int .i64 (pFrom l k)) ∧ Below w.heap.size w w' := by
  match k with
  | 0 => exact p_parts_1 l w
  | 1 => exact p_parts_2 l w
  | 2 => exact p_parts_4 l w
  | 3 => exact p_parts_6 l w
  | 4 => exact p_parts_8 l w
  | (n + 5) => exact p_parts_9 l w

theorem many_any (k : Nat) (l : Lay) (h : RightL l) (w : World) : Calls Try.prog (manyF k) #[lv l] w fun e w' => e = .returned (.int .i64 (pMany l k)) ∧ Below w.heap.size w w' := by
  have hb := right_bounds h
  match k with
  | 0 => exact p_one l w
  | 1 => exact p_parts_3 l w
  | 2 => exact p_parts_5 l w
  | 3 => exact p_parts_7 l w
  | 4 => exact p_one l w
  | (n + 5) => exact p_parts_10 l (by omega) (by omega) (by omega) w

/-- A part as a value. -/
def pcs (k : Nat) : List Value := [.int .i64 (pKind k), .func (.func (fromF k)) #[] #[], .func (.func (manyF k)) #[] #[], .int .i64 (pWide k), .int .i64 (pFirst k)]

set_option maxHeartbeats 1000000 in
theorem parts_any (w : World) : Calls Try.prog 34 #[] w fun e w' => e = .returned (.slice (some ⟨w.heap.size, 0, none⟩) 6 6) ∧ w' = w.alloc (.cells (pcs 0 ++ pcs 1 ++ pcs 2 ++ pcs 3 ++ pcs 4 ++ pcs 5).toArray 78) := by
  go_enter Try.func34, Try.ntmps34
  go_wp2_with fail
  go_ret
  exact ⟨rfl, rfl⟩

end Go.Proofs.Ytljegehfdmgcbaa
