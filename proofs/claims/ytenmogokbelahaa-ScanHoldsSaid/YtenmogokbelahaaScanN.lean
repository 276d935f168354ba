/- The walk of the statements' own function: works. -/
import Derived.Test.YtenmogokbelahaaScanM
namespace Go.Proofs.Ytenmogokbelahaa
open Go Go.RowKit

theorem look_6 : lookV 1 9#64 rowL 3#64 = (6#64, true) := by decide +kernel
theorem look_5 : lookV 1 9#64 rowL 5#64 = (0#64, false) := by decide +kernel
theorem items_1 : (trI 1 9#64 rowL 3#64).map (·.1) = [0, 1, 2, 1, 3, 2] := by decide +kernel
theorem items_2 : (trI 2 9#64 rowL 3#64).map (·.1) = [6, 4, 2, 3, 1, 2] := by decide +kernel
set_option maxRecDepth 100000 in
set_option maxHeartbeats 8000000 in
theorem works10_any (w : World) : Calls Try.prog 12 #[] w fun e w' => e = .returned (.bool true) ∧ Below w.heap.size w w' := by
  have L1 := fun p w hrd => look_any 1 9#64 p 8 rowL 3#64 w hrd (by decide)
  have L2 := fun p w hrd => look_any 1 9#64 p 8 rowL 5#64 w hrd (by decide)
  rw [look_6] at L1
  rw [look_5] at L2
  have e6 : vw 6#64 = .int .u64 6 := rfl
  have e0 : vw 0#64 = .int .u64 0 := rfl
  simp only at L1 L2
  rw [e6] at L1
  rw [e0] at L2
  clear e6 e0
  have HL1 := Lib.hid L1
  have HL2 := Lib.hid L2
  have HN := Lib.hid (fun w => new_bad 1 1 0#64 w (by decide))
  have HI1 := Lib.hid (fun p c w hrd => loads10_any 1 [0, 1, 2, 1, 3, 2] p c w hrd items_1 (by decide))
  have HI2 := Lib.hid (fun p c w hrd => loads10_any 2 [6, 4, 2, 3, 1, 2] p c w hrd items_2 (by decide))
  clear L1 L2
  go_enter Try.func12, Try.ntmps12
  go_wp2_with fail
  refine (row_any w).mono ?_
  rintro e w1 ⟨rfl, hrd1, hb1, -⟩
  have H1 := Lib.hid (And.intro hrd1 hb1)
  clear hrd1 hb1
  go_wp2_with fail
  refine (HL1.out _ w1 H1.out.1).mono ?_
  rintro e w2 ⟨rfl, hb2⟩
  have H2 := Lib.hid (H1.out.2.trans (hb2.mono H1.out.2.size))
  clear hb2 H1
  go_wp2_with fail
  refine (row_any w2).mono ?_
  rintro e w3 ⟨rfl, hrd3, hb3, -⟩
  have H3 := Lib.hid (And.intro hrd3 (H2.out.trans (hb3.mono H2.out.size)))
  clear hrd3 hb3 H2
  go_wp2_with fail
  refine (HL2.out _ w3 H3.out.1).mono ?_
  rintro e w4 ⟨rfl, hb4⟩
  have H4 := Lib.hid (H3.out.2.trans (hb4.mono H3.out.2.size))
  clear hb4 H3
  go_wp2_with fail
  refine (HN.out w4).mono ?_
  rintro e w5 ⟨rfl, hb5⟩
  have H5 := Lib.hid (H4.out.trans (hb5.mono H4.out.size))
  clear hb5 H4
  go_wp2_with fail
  refine (HI1.out _ 6 _ (rdl_new w5 3 vi [0, 1, 2, 1, 3, 2] (by decide))).mono ?_
  rintro e w6 ⟨rfl, hb6⟩
  have H6 : Hid (Below w.heap.size w w6) := Lib.hid (H5.out.trans ((((Below.refl _ _).alloc (Nat.le_refl _) _).trans (hb6.mono (by simp))).mono H5.out.size))
  clear hb6 H5
  go_wp2_with fail
  refine (HI2.out _ 6 _ (rdl_new w6 3 vi [6, 4, 2, 3, 1, 2] (by decide))).mono ?_
  rintro e w7 ⟨rfl, hb7⟩
  have H7 : Hid (Below w.heap.size w w7) := Lib.hid (H6.out.trans ((((Below.refl _ _).alloc (Nat.le_refl _) _).trans (hb7.mono (by simp))).mono H6.out.size))
  clear hb7 H6
  go_wp2_with fail
  refine (num10_any _ _).mono ?_
  rintro e w8 ⟨rfl, rfl⟩
  go_wp2_with fail
  go_ret
  exact ⟨rfl, H7.out⟩
end Go.Proofs.Ytenmogokbelahaa
