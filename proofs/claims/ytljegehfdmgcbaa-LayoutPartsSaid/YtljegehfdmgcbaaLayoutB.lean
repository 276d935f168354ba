/- The walk of the reference's Of. -/
import Derived.Test.YtljegehfdmgcbaaLayoutA
namespace Go.Proofs.Ytljegehfdmgcbaa
open Go Go.RowKit

set_option maxRecDepth 100000 in
set_option maxHeartbeats 8000000 in
theorem refOf_any (B I R T : Int) (k0 k1 : BitVec 64) (w : World) : Calls Try.prog 10 #[.agg #[.int .i64 B, .int .i64 I, .int .i64 R, .int .i64 T], .agg #[vw k0, vw k1]] w fun e w' =>
    e = .returned (.tuple #[lv (ofL B I R T k0 k1), .int .i64 (ofNo B I R T)]) ∧ Below w.heap.size w w' := by
  obtain ⟨wa, hwa⟩ : ∃ wa, ((w.alloc (.cells #[.int .i64 B, .int .i64 I, .int .i64 R, .int .i64 T] 23)).alloc (.cells #[vw k0, vw k1] 25)).alloc (.cells #[.int .i64 0, .int .i64 0, .int .i64 0, .int .i64 0, .int .u64 0, .int .u64 0, .int .i64 0, .int .i64 0, .int .i64 0, .int .i64 0] 27) = wa := ⟨_, rfl⟩
  have hba : Below w.heap.size w wa := by
    rw [← hwa]; exact (((Below.refl _ _).alloc (Nat.le_refl _) _).alloc (by simp) _).alloc (by simp only [World.size_alloc]; omega) _
  have hza : wa.heap.size = w.heap.size + 3 := by rw [← hwa]; simp
  have hf : wa.heap[w.heap.size]? = some (.cells #[.int .i64 B, .int .i64 I, .int .i64 R, .int .i64 T] 23 (0, 0)) := by
    rw [← hwa]; exact (Below.heap_alloc _ _ _ (by simp only [World.size_alloc]; omega)).trans ((Below.heap_alloc _ _ _ (by simp)).trans (World.alloc_heap_new w _))
  have hk : wa.heap[w.heap.size + 1]? = some (.cells #[vw k0, vw k1] 25 (0, 0)) := by
    have := World.alloc_heap_new (w.alloc (.cells #[.int .i64 B, .int .i64 I, .int .i64 R, .int .i64 T] 23)) (.cells #[vw k0, vw k1] 25)
    rw [World.size_alloc] at this
    rw [← hwa]; exact (Below.heap_alloc _ _ _ (by simp only [World.size_alloc]; omega)).trans this
  have hz : wa.heap[w.heap.size + 2]? = some (.cells #[.int .i64 0, .int .i64 0, .int .i64 0, .int .i64 0, .int .u64 0, .int .u64 0, .int .i64 0, .int .i64 0, .int .i64 0, .int .i64 0] 27 (0, 0)) := by
    have := World.alloc_heap_new ((w.alloc (.cells #[.int .i64 B, .int .i64 I, .int .i64 R, .int .i64 T] 23)).alloc (.cells #[vw k0, vw k1] 25)) (.cells #[.int .i64 0, .int .i64 0, .int .i64 0, .int .i64 0, .int .u64 0, .int .u64 0, .int .i64 0, .int .i64 0, .int .i64 0, .int .i64 0] 27)
    rw [World.size_alloc, World.size_alloc] at this
    rw [← hwa]; exact this
  have HWA := Lib.hid hwa
  have HBA := Lib.hid hba
  have HZ := Lib.hid hz
  have HZA := Lib.hid hza
  have f0 : wa.cell? ⟨w.heap.size, 0, none⟩ = some (.int .i64 B) := by simp [World.cell?, hf]
  have f1 : wa.cell? ⟨w.heap.size, 1, none⟩ = some (.int .i64 I) := by simp [World.cell?, hf]
  have f2 : wa.cell? ⟨w.heap.size, 2, none⟩ = some (.int .i64 R) := by simp [World.cell?, hf]
  have f3 : wa.cell? ⟨w.heap.size, 3, none⟩ = some (.int .i64 T) := by simp [World.cell?, hf]
  have g0 : wa.cell? ⟨w.heap.size + 1, 0, none⟩ = some (vw k0) := by simp [World.cell?, hk]
  have g1 : wa.cell? ⟨w.heap.size + 1, 1, none⟩ = some (vw k1) := by simp [World.cell?, hk]
  obtain ⟨wl, hwl⟩ : ∃ wl, wa.alloc (.cells #[.int .i64 B, .int .i64 I, .int .i64 R, .int .i64 T, .int .u64 (k0.toNat : Int), .int .u64 (k1.toNat : Int), .int .i64 9, .int .i64 0, .int .i64 0, .int .i64 0] 27) = wl := ⟨_, rfl⟩
  have hold : ∀ b, b < wa.heap.size → wl.heap[b]? = wa.heap[b]? := fun b hb => by rw [← hwl]; exact Below.heap_alloc _ _ _ hb
  have l0 : wl.cell? ⟨w.heap.size, 0, none⟩ = some (.int .i64 B) := by simp [World.cell?, hold _ (show w.heap.size < _ by omega), hf]
  have l1 : wl.cell? ⟨w.heap.size, 1, none⟩ = some (.int .i64 I) := by simp [World.cell?, hold _ (show w.heap.size < _ by omega), hf]
  have l2 : wl.cell? ⟨w.heap.size, 2, none⟩ = some (.int .i64 R) := by simp [World.cell?, hold _ (show w.heap.size < _ by omega), hf]
  have l3 : wl.cell? ⟨w.heap.size, 3, none⟩ = some (.int .i64 T) := by simp [World.cell?, hold _ (show w.heap.size < _ by omega), hf]
  have hzl : wl.heap[w.heap.size + 2]? = _ := (hold _ (by omega)).trans hz
  have hnl : wl.heap[wa.heap.size]? = some (.cells #[.int .i64 B, .int .i64 I, .int .i64 R, .int .i64 T, .int .u64 (k0.toNat : Int), .int .u64 (k1.toNat : Int), .int .i64 9, .int .i64 0, .int .i64 0, .int .i64 0] 27 (0, 0)) := by rw [← hwl]; exact World.alloc_heap_new _ _
  have hbl : Below w.heap.size w wl := by rw [← hwl]; exact hba.alloc (by omega) _
  obtain ⟨L0, L1, L2, L3, L4, L5, L6, L7, L8, L9, Lf⟩ := lay_cells hnl
  obtain ⟨d0, d1, d2, d3, d4, d5, d6, d7, d8, d9, df⟩ := lay_cells hzl
  have hs7 : wl.setCell ⟨wa.heap.size, 7, none⟩ (.int .i64 0) = wl := setCell_id hnl rfl
  have hs8 : wl.setCell ⟨wa.heap.size, 8, none⟩ (.int .i64 0) = wl := setCell_id hnl rfl
  have hs9 : wl.setCell ⟨wa.heap.size, 9, none⟩ (.int .i64 0) = wl := setCell_id hnl rfl
  have hne0 : w.heap.size ≠ wa.heap.size := by omega
  have hne1 : w.heap.size + 1 ≠ wa.heap.size := by omega
  have hne2 : w.heap.size + 2 ≠ wa.heap.size := by omega
  have hne0' : wa.heap.size ≠ w.heap.size := by omega
  have hne1' : wa.heap.size ≠ w.heap.size + 1 := by omega
  have hne2' : wa.heap.size ≠ w.heap.size + 2 := by omega
  have HBL := Lib.hid hbl
  have HZL := Lib.hid hzl
  have HNL := Lib.hid hnl
  clear hold hzl hnl hbl
  clear hwa hba hf hk hz hza
  have hzz := HZ.out
  have hr0 : wa.setCell ⟨w.heap.size + 2, 0, none⟩ (.int .i64 0) = wa := setCell_id hzz rfl
  have hr1 : wa.setCell ⟨w.heap.size + 2, 1, none⟩ (.int .i64 0) = wa := setCell_id hzz rfl
  have hr2 : wa.setCell ⟨w.heap.size + 2, 2, none⟩ (.int .i64 0) = wa := setCell_id hzz rfl
  have hr3 : wa.setCell ⟨w.heap.size + 2, 3, none⟩ (.int .i64 0) = wa := setCell_id hzz rfl
  have hr4 : wa.setCell ⟨w.heap.size + 2, 4, none⟩ (.int .u64 0) = wa := setCell_id hzz rfl
  have hr5 : wa.setCell ⟨w.heap.size + 2, 5, none⟩ (.int .u64 0) = wa := setCell_id hzz rfl
  have hr6 : wa.setCell ⟨w.heap.size + 2, 6, none⟩ (.int .i64 0) = wa := setCell_id hzz rfl
  have hr7 : wa.setCell ⟨w.heap.size + 2, 7, none⟩ (.int .i64 0) = wa := setCell_id hzz rfl
  have hr8 : wa.setCell ⟨w.heap.size + 2, 8, none⟩ (.int .i64 0) = wa := setCell_id hzz rfl
  have hr9 : wa.setCell ⟨w.heap.size + 2, 9, none⟩ (.int .i64 0) = wa := setCell_id hzz rfl
  obtain ⟨q0, q1, q2, q3, q4, q5, q6, q7, q8, q9, qf⟩ := lay_cells hzz
  clear hzz
  have HSI : Hid (I.tmod 4 = I % 4 ∨ I < 0) := Lib.hid (by by_cases h : I < 0; exact .inr h; exact .inl (Int.tmod_eq_emod_of_nonneg (by omega)))
  have HSR : Hid (R.tmod 4 = R % 4 ∨ R < 0) := Lib.hid (by by_cases h : R < 0; exact .inr h; exact .inl (Int.tmod_eq_emod_of_nonneg (by omega)))
  by_cases h_1 : B < 32
  case pos =>
    clear d0 d1 d2 d3 d4 d5 d6 d7 d8 d9 df L0 L1 L2 L3 L4 L5 L6 L7 L8 L9 Lf hwl
    have hwa := HWA.out
    go_enter Try.func10, Try.ntmps10
    go_wp2_with fail
    refine bodyPost_ret (v := .tuple #[lv lay0, .int .i64 2]) (by simp [results, Try.results10, go_sem, lv, lay0, q0, q1, q2, q3, q4, q5, q6, q7, q8, q9]) rfl ?_
    have ho : ¬ OfOk B I R T := fun h => absurd h.1.1 (by omega)
    exact ⟨by unfold ofL ofNo; rw [if_neg ho, if_neg ho], HBA.out⟩
  by_cases h_2 : 2048 < B
  case pos =>
    clear d0 d1 d2 d3 d4 d5 d6 d7 d8 d9 df L0 L1 L2 L3 L4 L5 L6 L7 L8 L9 Lf hwl
    have hwa := HWA.out
    go_enter Try.func10, Try.ntmps10
    go_wp2_with fail
    refine bodyPost_ret (v := .tuple #[lv lay0, .int .i64 2]) (by simp [results, Try.results10, go_sem, lv, lay0, q0, q1, q2, q3, q4, q5, q6, q7, q8, q9]) rfl ?_
    have ho : ¬ OfOk B I R T := fun h => absurd h.1.2 (by omega)
    exact ⟨by unfold ofL ofNo; rw [if_neg ho, if_neg ho], HBA.out⟩
  by_cases h_3 : I < 4
  case pos =>
    clear d0 d1 d2 d3 d4 d5 d6 d7 d8 d9 df L0 L1 L2 L3 L4 L5 L6 L7 L8 L9 Lf hwl
    have hwa := HWA.out
    go_enter Try.func10, Try.ntmps10
    go_wp2_with fail
    refine bodyPost_ret (v := .tuple #[lv lay0, .int .i64 2]) (by simp [results, Try.results10, go_sem, lv, lay0, q0, q1, q2, q3, q4, q5, q6, q7, q8, q9]) rfl ?_
    have ho : ¬ OfOk B I R T := fun h => absurd h.2.2.1.1 (by omega)
    exact ⟨by unfold ofL ofNo; rw [if_neg ho, if_neg ho], HBA.out⟩
  by_cases h_4 : 256 < I
  case pos =>
    clear d0 d1 d2 d3 d4 d5 d6 d7 d8 d9 df L0 L1 L2 L3 L4 L5 L6 L7 L8 L9 Lf hwl
    have hwa := HWA.out
    go_enter Try.func10, Try.ntmps10
    go_wp2_with fail
    refine bodyPost_ret (v := .tuple #[lv lay0, .int .i64 2]) (by simp [results, Try.results10, go_sem, lv, lay0, q0, q1, q2, q3, q4, q5, q6, q7, q8, q9]) rfl ?_
    have ho : ¬ OfOk B I R T := fun h => absurd h.2.2.1.2.1 (by omega)
    exact ⟨by unfold ofL ofNo; rw [if_neg ho, if_neg ho], HBA.out⟩
  have hmI : I.tmod 4 = I % 4 := Int.tmod_eq_emod_of_nonneg (by omega)
  have hdI : I.tdiv 4 = I / 4 := Int.tdiv_eq_ediv_of_nonneg (by omega)
  by_cases h_5 : I % 4 = 0
  case neg =>
    clear d0 d1 d2 d3 d4 d5 d6 d7 d8 d9 df L0 L1 L2 L3 L4 L5 L6 L7 L8 L9 Lf hwl
    have hwa := HWA.out
    go_enter Try.func10, Try.ntmps10
    go_wp2_with fail
    refine bodyPost_ret (v := .tuple #[lv lay0, .int .i64 2]) (by simp [results, Try.results10, go_sem, lv, lay0, q0, q1, q2, q3, q4, q5, q6, q7, q8, q9]) rfl ?_
    have ho : ¬ OfOk B I R T := fun h => h_5 h.2.2.1.2.2
    exact ⟨by unfold ofL ofNo; rw [if_neg ho, if_neg ho], HBA.out⟩
  by_cases h_6 : R < 4
  case pos =>
    clear d0 d1 d2 d3 d4 d5 d6 d7 d8 d9 df L0 L1 L2 L3 L4 L5 L6 L7 L8 L9 Lf hwl
    have hwa := HWA.out
    go_enter Try.func10, Try.ntmps10
    go_wp2_with fail
    refine bodyPost_ret (v := .tuple #[lv lay0, .int .i64 2]) (by simp [results, Try.results10, go_sem, lv, lay0, q0, q1, q2, q3, q4, q5, q6, q7, q8, q9]) rfl ?_
    have ho : ¬ OfOk B I R T := fun h => absurd h.2.2.2.1.1 (by omega)
    exact ⟨by unfold ofL ofNo; rw [if_neg ho, if_neg ho], HBA.out⟩
  by_cases h_7 : 1024 < R
  case pos =>
    clear d0 d1 d2 d3 d4 d5 d6 d7 d8 d9 df L0 L1 L2 L3 L4 L5 L6 L7 L8 L9 Lf hwl
    have hwa := HWA.out
    go_enter Try.func10, Try.ntmps10
    go_wp2_with fail
    refine bodyPost_ret (v := .tuple #[lv lay0, .int .i64 2]) (by simp [results, Try.results10, go_sem, lv, lay0, q0, q1, q2, q3, q4, q5, q6, q7, q8, q9]) rfl ?_
    have ho : ¬ OfOk B I R T := fun h => absurd h.2.2.2.1.2.1 (by omega)
    exact ⟨by unfold ofL ofNo; rw [if_neg ho, if_neg ho], HBA.out⟩
  have hmR : R.tmod 4 = R % 4 := Int.tmod_eq_emod_of_nonneg (by omega)
  have hdR : R.tdiv 4 = R / 4 := Int.tdiv_eq_ediv_of_nonneg (by omega)
  by_cases h_8 : R % 4 = 0
  case neg =>
    clear d0 d1 d2 d3 d4 d5 d6 d7 d8 d9 df L0 L1 L2 L3 L4 L5 L6 L7 L8 L9 Lf hwl
    have hwa := HWA.out
    go_enter Try.func10, Try.ntmps10
    go_wp2_with fail
    refine bodyPost_ret (v := .tuple #[lv lay0, .int .i64 2]) (by simp [results, Try.results10, go_sem, lv, lay0, q0, q1, q2, q3, q4, q5, q6, q7, q8, q9]) rfl ?_
    have ho : ¬ OfOk B I R T := fun h => h_8 h.2.2.2.1.2.2
    exact ⟨by unfold ofL ofNo; rw [if_neg ho, if_neg ho], HBA.out⟩
  by_cases h_9 : T < 1
  case pos =>
    clear d0 d1 d2 d3 d4 d5 d6 d7 d8 d9 df L0 L1 L2 L3 L4 L5 L6 L7 L8 L9 Lf hwl
    have hwa := HWA.out
    go_enter Try.func10, Try.ntmps10
    go_wp2_with fail
    refine bodyPost_ret (v := .tuple #[lv lay0, .int .i64 2]) (by simp [results, Try.results10, go_sem, lv, lay0, q0, q1, q2, q3, q4, q5, q6, q7, q8, q9]) rfl ?_
    have ho : ¬ OfOk B I R T := fun h => absurd h.2.1.1 (by omega)
    exact ⟨by unfold ofL ofNo; rw [if_neg ho, if_neg ho], HBA.out⟩
  by_cases h_10 : 40 < T
  case pos =>
    clear d0 d1 d2 d3 d4 d5 d6 d7 d8 d9 df L0 L1 L2 L3 L4 L5 L6 L7 L8 L9 Lf hwl
    have hwa := HWA.out
    go_enter Try.func10, Try.ntmps10
    go_wp2_with fail
    refine bodyPost_ret (v := .tuple #[lv lay0, .int .i64 2]) (by simp [results, Try.results10, go_sem, lv, lay0, q0, q1, q2, q3, q4, q5, q6, q7, q8, q9]) rfl ?_
    have ho : ¬ OfOk B I R T := fun h => absurd h.2.1.2 (by omega)
    exact ⟨by unfold ofL ofNo; rw [if_neg ho, if_neg ho], HBA.out⟩
  have b1 : 32 ≤ B := by omega
  have b2 : B ≤ 2048 := by omega
  have b3 : 4 ≤ I := by omega
  have b4 : I ≤ 256 := by omega
  have b5 : 4 ≤ R := by omega
  have b6 : R ≤ 1024 := by omega
  by_cases h7 : B - (9 + I / 4 + R / 4 + 1) < 4
  · have ho : ¬ OfOk B I R T := fun h => absurd h.2.2.2.2 (by omega)
    have HO := Lib.hid ho
    clear ho
    have hwa := HWA.out
    clear hr0 hr1 hr2 hr3 hr4 hr5 hr6 hr7 hr8 hr9 q0 q1 q2 q3 q4 q5 q6 q7 q8 q9 qf
    go_enter Try.func10, Try.ntmps10
    go_wp2_with fail
    have hsz : wa.heap.size = w.heap.size + 3 := HZA.out
    have hb3 : Below w.heap.size w (((wl.setCell ⟨wa.heap.size, 7, none⟩ (Value.int .i64 (9 + I / 4))).setCell ⟨wa.heap.size, 8, none⟩ (Value.int .i64 (9 + I / 4 + R / 4))).setCell ⟨wa.heap.size, 9, none⟩ (Value.int .i64 (9 + I / 4 + R / 4 + 1))) := ((HBL.out.setCell (by simp only []; omega) _).setCell (by simp only []; omega) _).setCell (by simp only []; omega) _
    have hz3 : (((wl.setCell ⟨wa.heap.size, 7, none⟩ (Value.int .i64 (9 + I / 4))).setCell ⟨wa.heap.size, 8, none⟩ (Value.int .i64 (9 + I / 4 + R / 4))).setCell ⟨wa.heap.size, 9, none⟩ (Value.int .i64 (9 + I / 4 + R / 4 + 1))).heap[w.heap.size + 2]? = _ :=
      (heap_setCell_other _ ⟨wa.heap.size, 9, none⟩ (w.heap.size + 2) (Value.int .i64 (9 + I / 4 + R / 4 + 1)) (by simp only []; omega)).trans ((heap_setCell_other _ ⟨wa.heap.size, 8, none⟩ (w.heap.size + 2) (Value.int .i64 (9 + I / 4 + R / 4)) (by simp only []; omega)).trans ((heap_setCell_other _ ⟨wa.heap.size, 7, none⟩ (w.heap.size + 2) (Value.int .i64 (9 + I / 4)) (by simp only []; omega)).trans HZL.out))
    clear hsz
    obtain ⟨W, hW, h1, h2, h3⟩ := lay_sets hz3 (.int .i64 0) (.int .i64 0) (.int .i64 0) (.int .i64 0) (.int .u64 0) (.int .u64 0) (.int .i64 0) (.int .i64 0) (.int .i64 0) (.int .i64 0)
    rw [hW]
    obtain ⟨c0, c1, c2, c3, c4, c5, c6, c7, c8, c9, hfz⟩ := lay_cells h1
    refine bodyPost_ret (v := .tuple #[lv lay0, .int .i64 2]) (by simp [results, Try.results10, go_sem, lv, lay0, vw, c0, c1, c2, c3, c4, c5, c6, c7, c8, c9]) rfl ?_
    refine ⟨by unfold ofL ofNo; rw [if_neg HO.out, if_neg HO.out], h3 _ _ (by omega) hb3⟩
  · have HO := Lib.hid (show OfOk B I R T from ⟨⟨b1, b2⟩, ⟨by omega, by omega⟩, ⟨b3, b4, h_5⟩, ⟨b5, b6, h_8⟩, by omega⟩)
    have hwa := HWA.out
    clear hr0 hr1 hr2 hr3 hr4 hr5 hr6 hr7 hr8 hr9 q0 q1 q2 q3 q4 q5 q6 q7 q8 q9 qf
    go_enter Try.func10, Try.ntmps10
    go_wp2_with fail
    have hsz : wa.heap.size = w.heap.size + 3 := HZA.out
    have hb3 : Below w.heap.size w (((wl.setCell ⟨wa.heap.size, 7, none⟩ (Value.int .i64 (9 + I / 4))).setCell ⟨wa.heap.size, 8, none⟩ (Value.int .i64 (9 + I / 4 + R / 4))).setCell ⟨wa.heap.size, 9, none⟩ (Value.int .i64 (9 + I / 4 + R / 4 + 1))) := ((HBL.out.setCell (by simp only []; omega) _).setCell (by simp only []; omega) _).setCell (by simp only []; omega) _
    have hz3 : (((wl.setCell ⟨wa.heap.size, 7, none⟩ (Value.int .i64 (9 + I / 4))).setCell ⟨wa.heap.size, 8, none⟩ (Value.int .i64 (9 + I / 4 + R / 4))).setCell ⟨wa.heap.size, 9, none⟩ (Value.int .i64 (9 + I / 4 + R / 4 + 1))).heap[w.heap.size + 2]? = _ :=
      (heap_setCell_other _ ⟨wa.heap.size, 9, none⟩ (w.heap.size + 2) (Value.int .i64 (9 + I / 4 + R / 4 + 1)) (by simp only []; omega)).trans ((heap_setCell_other _ ⟨wa.heap.size, 8, none⟩ (w.heap.size + 2) (Value.int .i64 (9 + I / 4 + R / 4)) (by simp only []; omega)).trans ((heap_setCell_other _ ⟨wa.heap.size, 7, none⟩ (w.heap.size + 2) (Value.int .i64 (9 + I / 4)) (by simp only []; omega)).trans HZL.out))
    clear hsz
    obtain ⟨W, hW, h1, h2, h3⟩ := lay_sets hz3 (.int .i64 B) (.int .i64 I) (.int .i64 R) (.int .i64 T) (.int .u64 (k0.toNat : Int)) (.int .u64 (k1.toNat : Int)) (.int .i64 9) (.int .i64 (9 + I / 4)) (.int .i64 (9 + I / 4 + R / 4)) (.int .i64 (9 + I / 4 + R / 4 + 1))
    rw [hW]
    obtain ⟨c0, c1, c2, c3, c4, c5, c6, c7, c8, c9, hfz⟩ := lay_cells h1
    refine bodyPost_ret (v := .tuple #[lv ⟨B, I, R, T, k0, k1, 9, 9 + I / 4, 9 + I / 4 + R / 4, 9 + I / 4 + R / 4 + 1⟩, .int .i64 0]) (by simp [results, Try.results10, go_sem, lv, lay0, vw, c0, c1, c2, c3, c4, c5, c6, c7, c8, c9]) rfl ?_
    refine ⟨by unfold ofL ofNo; rw [if_pos HO.out, if_pos HO.out], h3 _ _ (by omega) hb3⟩

end Go.Proofs.Ytljegehfdmgcbaa
