/- The walk of the law LayoutPlaces. -/
import Derived.Test.YtljegehfdmgcbaaLayoutN
namespace Go.Proofs.Ytljegehfdmgcbaa
open Go Go.RowKit

theorem place_vals {l : Lay} (hr : RightL l) (n : Int) :
    placeL l 1 n = (if 0 ≤ n then (if n < 8 then (64 + 64 * n, 0) else (0, 4)) else (0, 4)) ∧
    placeL l 2 n = (if 1 ≤ n then (if n ≤ l.I then (64 * l.i + 16 * (n - 1), 0) else (0, 4)) else (0, 4)) ∧
    placeL l 3 n = (if 1 ≤ n then (if n ≤ l.R then (64 * l.r + 16 * (n - 1), 0) else (0, 4)) else (0, 4)) := by
  refine ⟨?_, ?_, ?_⟩
  · unfold placeL
    rw [if_neg (fun h => h hr)]
    simp only [pFirst, pMany, pAt, pFrom, pWide]
    by_cases h1 : 0 ≤ n
    · by_cases h2 : n < 8
      · rw [if_pos (by omega), if_pos h1, if_pos h2]
        simp only [Prod.mk.injEq, and_true]
        omega
      · rw [if_neg (by omega), if_pos h1, if_neg h2]
    · rw [if_neg (by omega), if_neg h1]
  · unfold placeL
    rw [if_neg (fun h => h hr)]
    simp only [pFirst, pMany, pAt, pFrom, pWide]
    by_cases h1 : 1 ≤ n
    · by_cases h2 : n ≤ l.I
      · rw [if_pos (by omega), if_pos h1, if_pos h2]
        simp only [Prod.mk.injEq, and_true]
        omega
      · rw [if_neg (by omega), if_pos h1, if_neg h2]
    · rw [if_neg (by omega), if_neg h1]
  · unfold placeL
    rw [if_neg (fun h => h hr)]
    simp only [pFirst, pMany, pAt, pFrom, pWide]
    by_cases h1 : 1 ≤ n
    · by_cases h2 : n ≤ l.R
      · rw [if_pos (by omega), if_pos h1, if_pos h2]
        simp only [Prod.mk.injEq, and_true]
        omega
      · rw [if_neg (by omega), if_pos h1, if_neg h2]
    · rw [if_neg (by omega), if_neg h1]

set_option maxRecDepth 100000 in
set_option maxHeartbeats 8000000 in
theorem lawLayoutPlaces (B I R T : Int) (k0 k1 : BitVec 64) (n : Int) (w : World) : Calls Try.prog 6 #[.agg #[.int .i64 B, .int .i64 I, .int .i64 R, .int .i64 T], .agg #[vw k0, vw k1], .int .i64 n] w fun e w' => e = .returned (.bool true) ∧ Below w.heap.size w w' := by
  obtain ⟨wa, hwa, hF, hK, hbA, hzA⟩ := form_key w B I R T k0 k1
  obtain ⟨f0, f1, f2, f3⟩ := hF.cells
  obtain ⟨g0, g1⟩ := hK.cells
  have HA := Lib.hid (And.intro hF (And.intro hK (And.intro hbA hzA)))
  clear hF hK hbA hzA
  by_cases hok : OfOk B I R T
  case neg =>
    have e1 : ofNo B I R T = 2 := by unfold ofNo; rw [if_neg hok]
    have e2 : ofL B I R T k0 k1 = lay0 := by unfold ofL; rw [if_neg hok]
    have HE := Lib.hid (And.intro e1 e2)
    clear e1 e2 hok
    go_enter Try.func6, Try.ntmps6
    go_wp2_with fail
    refine (refOf_any B I R T k0 k1 _).mono ?_
    rintro e w1 ⟨rfl, hb1⟩
    rw [HE.out.1, HE.out.2]
    clear hwa f0 f1 f2 f3 g0 g1
    obtain ⟨w2, hw2⟩ : ∃ w2, w1.alloc (.cells #[.int .i64 0, .int .i64 0, .int .i64 0, .int .i64 0, .int .u64 0, .int .u64 0, .int .i64 0, .int .i64 0, .int .i64 0, .int .i64 0] 27) = w2 := ⟨_, rfl⟩
    have hz : w2.heap[w1.heap.size]? = some (.cells #[.int .i64 0, .int .i64 0, .int .i64 0, .int .i64 0, .int .u64 0, .int .u64 0, .int .i64 0, .int .i64 0, .int .i64 0, .int .i64 0] 27 (0, 0)) := by rw [← hw2]; exact World.alloc_heap_new _ _
    have H2 : Hid (Below w.heap.size w w2) := Lib.hid (by
      rw [← hw2]
      have h := hb1.size
      exact (HA.out.2.2.1.trans (hb1.mono (by have := HA.out.2.2.2; omega))).alloc (by have := HA.out.2.2.1.size; omega) _)
    obtain ⟨z0, z1, z2, z3, z4, z5, z6, z7, z8, z9, zf⟩ := lay_cells hz
    have hr0 : w2.setCell ⟨w1.heap.size, 0, none⟩ (.int .i64 0) = w2 := setCell_id hz rfl
    have hr1 : w2.setCell ⟨w1.heap.size, 1, none⟩ (.int .i64 0) = w2 := setCell_id hz rfl
    have hr2 : w2.setCell ⟨w1.heap.size, 2, none⟩ (.int .i64 0) = w2 := setCell_id hz rfl
    have hr3 : w2.setCell ⟨w1.heap.size, 3, none⟩ (.int .i64 0) = w2 := setCell_id hz rfl
    have hr4 : w2.setCell ⟨w1.heap.size, 4, none⟩ (.int .u64 0) = w2 := setCell_id hz rfl
    have hr5 : w2.setCell ⟨w1.heap.size, 5, none⟩ (.int .u64 0) = w2 := setCell_id hz rfl
    have hr6 : w2.setCell ⟨w1.heap.size, 6, none⟩ (.int .i64 0) = w2 := setCell_id hz rfl
    have hr7 : w2.setCell ⟨w1.heap.size, 7, none⟩ (.int .i64 0) = w2 := setCell_id hz rfl
    have hr8 : w2.setCell ⟨w1.heap.size, 8, none⟩ (.int .i64 0) = w2 := setCell_id hz rfl
    have hr9 : w2.setCell ⟨w1.heap.size, 9, none⟩ (.int .i64 0) = w2 := setCell_id hz rfl
    clear hz hb1
    simp only [lv, lay0]
    go_wp2_with fail
    refine (works13_any _).mono ?_
    rintro e w3 ⟨rfl, hb3⟩
    have H3 := Lib.hid (H2.out.trans (hb3.mono H2.out.size))
    clear hb3 hw2 z0 z1 z2 z3 z4 z5 z6 z7 z8 z9 zf hr0 hr1 hr2 hr3 hr4 hr5 hr6 hr7 hr8 hr9
    go_wp2_with fail
    go_ret
    exact ⟨rfl, H3.out⟩
  case pos =>
    have e1 : ofNo B I R T = 0 := by unfold ofNo; rw [if_pos hok]
    have e2 : ofL B I R T k0 k1 = ⟨B, I, R, T, k0, k1, 9, 9 + I / 4, 9 + I / 4 + R / 4, 9 + I / 4 + R / 4 + 1⟩ := by unfold ofL; rw [if_pos hok]
    have hr : RightL ⟨B, I, R, T, k0, k1, 9, 9 + I / 4, 9 + I / 4 + R / 4, 9 + I / 4 + R / 4 + 1⟩ := e2 ▸ right_of hok
    have HE := Lib.hid (And.intro e1 e2)
    have HOK := Lib.hid hok
    obtain ⟨hj, hi, hc⟩ := place_vals hr n
    simp only at hj hi hc
    have HV := Lib.hid (And.intro hj (And.intro hi hc))
    clear e1 e2 hok hr hj hi hc
    go_enter Try.func6, Try.ntmps6
    go_wp2_with fail
    refine (refOf_any B I R T k0 k1 _).mono ?_
    rintro e w1 ⟨rfl, hb1⟩
    rw [HE.out.1, HE.out.2]
    clear hwa f0 f1 f2 f3 g0 g1
    obtain ⟨w2, hw2, hl2, hb2⟩ := lay_made w1 ⟨B, I, R, T, k0, k1, 9, 9 + I / 4, 9 + I / 4 + R / 4, 9 + I / 4 + R / 4 + 1⟩
    simp only at hw2
    have H2 : Hid (LayAt w2 w1.heap.size ⟨B, I, R, T, k0, k1, 9, 9 + I / 4, 9 + I / 4 + R / 4, 9 + I / 4 + R / 4 + 1⟩ ∧ FAt w2 w.heap.size B I R T ∧ Below w.heap.size w w2) := Lib.hid (by
      obtain ⟨hF, hK, hbA, hzA⟩ := HA.out
      have hs1 := hb1.size
      exact ⟨hl2, (hF.below hF.lt hb1).below (hF.below hF.lt hb1).lt hb2, hbA.trans ((hb1.trans (hb2.mono hb1.size)).mono (by omega))⟩)
    obtain ⟨q0, q1, q2, q3, q4, q5, q6, q7, q8, q9, qf⟩ := lay_cells hl2
    simp only at q0 q1 q2 q3 q4 q5 q6 q7 q8 q9
    clear hl2 hb1 hb2
    simp only [lv]
    go_wp2_with fail
    refine (journal_any ⟨B, I, R, T, k0, k1, 9, 9 + I / 4, 9 + I / 4 + R / 4, 9 + I / 4 + R / 4 + 1⟩ n _).mono ?_
    rintro e w3 ⟨rfl, hb⟩
    have H3 : Hid (LayAt w3 w1.heap.size ⟨B, I, R, T, k0, k1, 9, 9 + I / 4, 9 + I / 4 + R / 4, 9 + I / 4 + R / 4 + 1⟩ ∧ FAt w3 w.heap.size B I R T ∧ Below w.heap.size w w3) := Lib.hid ⟨H2.out.1.below H2.out.1.lt hb, H2.out.2.1.below H2.out.2.1.lt hb, H2.out.2.2.trans (hb.mono H2.out.2.2.size)⟩
    clear hb hw2 q0 q1 q2 q3 q4 q5 q6 q7 q8 q9 qf
    obtain ⟨q0, q1, q2, q3, q4, q5, q6, q7, q8, q9, qf⟩ := lay_cells H3.out.1
    simp only at q0 q1 q2 q3 q4 q5 q6 q7 q8 q9
    go_wp2_with fail
    refine (inode_any ⟨B, I, R, T, k0, k1, 9, 9 + I / 4, 9 + I / 4 + R / 4, 9 + I / 4 + R / 4 + 1⟩ n _).mono ?_
    rintro e w4 ⟨rfl, hb⟩
    have H4 : Hid (LayAt w4 w1.heap.size ⟨B, I, R, T, k0, k1, 9, 9 + I / 4, 9 + I / 4 + R / 4, 9 + I / 4 + R / 4 + 1⟩ ∧ FAt w4 w.heap.size B I R T ∧ Below w.heap.size w w4) := Lib.hid ⟨H3.out.1.below H3.out.1.lt hb, H3.out.2.1.below H3.out.2.1.lt hb, H3.out.2.2.trans (hb.mono H3.out.2.2.size)⟩
    clear hb q0 q1 q2 q3 q4 q5 q6 q7 q8 q9 qf
    obtain ⟨q0, q1, q2, q3, q4, q5, q6, q7, q8, q9, qf⟩ := lay_cells H4.out.1
    simp only at q0 q1 q2 q3 q4 q5 q6 q7 q8 q9
    go_wp2_with fail
    refine (record_any ⟨B, I, R, T, k0, k1, 9, 9 + I / 4, 9 + I / 4 + R / 4, 9 + I / 4 + R / 4 + 1⟩ n _).mono ?_
    rintro e w5 ⟨rfl, hb⟩
    have H5 : Hid (LayAt w5 w1.heap.size ⟨B, I, R, T, k0, k1, 9, 9 + I / 4, 9 + I / 4 + R / 4, 9 + I / 4 + R / 4 + 1⟩ ∧ FAt w5 w.heap.size B I R T ∧ Below w.heap.size w w5) := Lib.hid ⟨H4.out.1.below H4.out.1.lt hb, H4.out.2.1.below H4.out.2.1.lt hb, H4.out.2.2.trans (hb.mono H4.out.2.2.size)⟩
    clear hb q0 q1 q2 q3 q4 q5 q6 q7 q8 q9 qf
    obtain ⟨hj, hi, hc⟩ := HV.out
    have hI1 : 4 ≤ I := HOK.out.2.2.1.1
    have hI2 : I ≤ 256 := HOK.out.2.2.1.2.1
    have hR1 : 4 ≤ R := HOK.out.2.2.2.1.1
    have hR2 : R ≤ 1024 := HOK.out.2.2.2.1.2.1
    by_cases h1 : 0 ≤ n <;> by_cases h2 : n < 8 <;> by_cases h3 : 1 ≤ n <;> by_cases h4 : n ≤ I <;> by_cases h5 : n ≤ R <;>
    first
    | (exfalso; omega)
    | (simp only [h1, h2, h3, h4, h5, ↓reduceIte, Int.reduceMul] at hj hi hc
       rw [hj, hi, hc]
       clear hj hi hc
       have hl := lay_cells H5.out.1
       have hf := H5.out.2.1.cells
       obtain ⟨q0, q1, q2, q3, q4, q5, q6, q7, q8, q9, qf⟩ := hl
       obtain ⟨f0, f1, f2, f3⟩ := hf
       simp only at q0 q1 q2 q3 q4 q5 q6 q7 q8 q9
       obtain ⟨d0, d1, d2, d3, d4, d5, d6, d7, d8, d9, df⟩ := lay_cells (V := w5.drew) (O := w1.heap.size) H5.out.1
       simp only at d0 d1 d2 d3 d4 d5 d6 d7 d8 d9
       have e1 : w5.drew.cell? ⟨w.heap.size, 1, none⟩ = some (.int .i64 I) := f1
       have e2 : w5.drew.cell? ⟨w.heap.size, 2, none⟩ = some (.int .i64 R) := f2
       go_wp2_with fail
       first | have b0 : decide (0 ≤ n) = true := decide_eq_true (by omega) | have b0 : decide (0 ≤ n) = false := decide_eq_false (by omega)
       first | have b1 : decide (n < 8) = true := decide_eq_true (by omega) | have b1 : decide (n < 8) = false := decide_eq_false (by omega)
       first | have b2 : decide (1 ≤ n) = true := decide_eq_true (by omega) | have b2 : decide (1 ≤ n) = false := decide_eq_false (by omega)
       first | have b3 : decide (n ≤ I) = true := decide_eq_true (by omega) | have b3 : decide (n ≤ I) = false := decide_eq_false (by omega)
       first | have b4 : decide (n ≤ R) = true := decide_eq_true (by omega) | have b4 : decide (n ≤ R) = false := decide_eq_false (by omega)
       go_quiet (fail)
       have y2 : (w5.drewN nq).cell? ⟨w1.heap.size, 6, none⟩ = some (.int .i64 9) := q6
       have y3 : (w5.drewN nq).cell? ⟨w1.heap.size, 7, none⟩ = some (.int .i64 (9 + I / 4)) := q7
       have HBQ : Hid (Below w.heap.size w (w5.drewN nq)) := Lib.hid (let h := H5.out.2.2; ⟨h.os, h.tape, h.output, h.size, h.block⟩)
       clear q0 q1 q2 q3 q4 q5 q6 q7 q8 q9 qf d0 d1 d2 d3 d4 d5 d6 d7 d8 d9 df f0 f1 f2 f3 e1 e2
       go_wp2_with (go_at_call 11; refine (num_any13 _ _).mono ?_; rintro e w' ⟨rfl, rfl⟩)
       refine (works13_any _).mono ?_
       rintro e w9 ⟨rfl, hb9⟩
       have H9 := Lib.hid (HBQ.out.trans (hb9.mono HBQ.out.size))
       clear hb9
       go_wp2_with fail
       go_ret
       exact ⟨rfl, H9.out⟩)
end Go.Proofs.Ytljegehfdmgcbaa
