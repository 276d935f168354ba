/- Comparing layouts. -/
import Derived.Test.YtljegehfdmgcbaaLayoutB
namespace Go.Proofs.Ytljegehfdmgcbaa
open Go Go.RowKit

theorem vw_eq {a b : BitVec 64} : ((a.toNat : Int) = (b.toNat : Int)) ↔ a = b := ⟨fun h => BitVec.eq_of_toNat_eq (by omega), fun h => by rw [h]⟩
theorem arr_eql (a b c d : BitVec 64) (w : World) : (Op.equalIn 9999 25 (.agg #[vw a, vw b]) (.agg #[vw c, vw d])).run Try.prog w = .ok (decide (a = c) && decide (b = d)) w := by
  rw [show (9999 : Nat) = 9998 + 1 from rfl, Op.equalIn]
  simp only [Sem.run_bind, run_underlying Try.underlying25, Result.andThen_ok]
  simp only [Std.Legacy.Range.forIn_eq_forIn_range', Std.Legacy.Range.size, Nat.sub_zero, Nat.add_sub_cancel, Nat.div_one, List.range'_succ, List.range'_zero, List.forIn_cons, List.forIn_nil]
  unfold vw
  go_simp
  simp only [vw_eq]
  by_cases h1 : a = c <;> by_cases h2 : b = d <;> simp [h1, h2]
theorem lv_eql (x y : Lay) (w : World) : (binOp .eql 27 (lv x) (lv y)).run Try.prog w = .ok (.bool (decide (x = y))) w := by
  unfold lv
  simp [go_sem, arr_eql]
  obtain ⟨B, I, R, T, k0, k1, i, r, m, d⟩ := x
  obtain ⟨B', I', R', T', k0', k1', i', r', m', d'⟩ := y
  simp only [Lay.mk.injEq]
  by_cases h0 : B = B'
  case neg => simp [h0]
  by_cases h1 : I = I'
  case neg => simp [h0, h1]
  by_cases h2 : R = R'
  case neg => simp [h0, h1, h2]
  by_cases h3 : T = T'
  case neg => simp [h0, h1, h2, h3]
  by_cases h4 : k0 = k0'
  case neg => simp [h0, h1, h2, h3, h4]
  by_cases h5 : k1 = k1'
  case neg => simp [h0, h1, h2, h3, h4, h5]
  by_cases h6 : i = i'
  case neg => simp [h0, h1, h2, h3, h4, h5, h6]
  by_cases h7 : r = r'
  case neg => simp [h0, h1, h2, h3, h4, h5, h6, h7]
  by_cases h8 : m = m'
  case neg => simp [h0, h1, h2, h3, h4, h5, h6, h7, h8]
  by_cases h9 : d = d'
  case neg => simp [h0, h1, h2, h3, h4, h5, h6, h7, h8, h9]
  simp [h0, h1, h2, h3, h4, h5, h6, h7, h8, h9]
theorem lv_neq (x y : Lay) (w : World) : (binOp .neq 27 (lv x) (lv y)).run Try.prog w = .ok (.bool (!decide (x = y))) w := by
  unfold lv
  simp [go_sem, arr_eql]
  obtain ⟨B, I, R, T, k0, k1, i, r, m, d⟩ := x
  obtain ⟨B', I', R', T', k0', k1', i', r', m', d'⟩ := y
  simp only [Lay.mk.injEq]
  by_cases h0 : B = B'
  case neg => simp [h0]
  by_cases h1 : I = I'
  case neg => simp [h0, h1]
  by_cases h2 : R = R'
  case neg => simp [h0, h1, h2]
  by_cases h3 : T = T'
  case neg => simp [h0, h1, h2, h3]
  by_cases h4 : k0 = k0'
  case neg => simp [h0, h1, h2, h3, h4]
  by_cases h5 : k1 = k1'
  case neg => simp [h0, h1, h2, h3, h4, h5]
  by_cases h6 : i = i'
  case neg => simp [h0, h1, h2, h3, h4, h5, h6]
  by_cases h7 : r = r'
  case neg => simp [h0, h1, h2, h3, h4, h5, h6, h7]
  by_cases h8 : m = m'
  case neg => simp [h0, h1, h2, h3, h4, h5, h6, h7, h8]
  by_cases h9 : d = d'
  case neg => simp [h0, h1, h2, h3, h4, h5, h6, h7, h8, h9]
  simp [h0, h1, h2, h3, h4, h5, h6, h7, h8, h9]

theorem right_law {B I R T : Int} {k0 k1 : BitVec 64} {i r m d : Int} (h : OfOk B I R T) : decide ((⟨B, I, R, T, k0, k1, 9, 9 + I / 4, 9 + I / 4 + R / 4, 9 + I / 4 + R / 4 + 1⟩ : Lay) = ⟨B, I, R, T, k0, k1, i, r, m, d⟩) = decide (RightL ⟨B, I, R, T, k0, k1, i, r, m, d⟩) := by
  rw [decide_eq_decide]
  simp only [RightL, Lay.mk.injEq, true_and, h]
  constructor
  · rintro ⟨rfl, rfl, rfl, rfl⟩; exact ⟨rfl, rfl, rfl, rfl⟩
  · rintro ⟨rfl, rfl, rfl, rfl⟩; exact ⟨rfl, rfl, rfl, rfl⟩

/-- A layout's cells lie in a block of their own. -/
def LayAt (W : World) (O : Nat) (l : Lay) : Prop := W.heap[O]? = some (.cells #[.int .i64 l.B, .int .i64 l.I, .int .i64 l.R, .int .i64 l.T, vw l.k0, vw l.k1, .int .i64 l.i, .int .i64 l.r, .int .i64 l.m, .int .i64 l.d] 27 (0, 0))
theorem LayAt.below {W W' : World} {O n : Nat} {l : Lay} (h : LayAt W O l) (hO : O < n) (hb : Below n W W') : LayAt W' O l := (hb.block O hO).trans h
theorem LayAt.lt {W : World} {O : Nat} {l : Lay} (h : LayAt W O l) : O < W.heap.size := (Array.getElem?_eq_some_iff.1 h).1
theorem lay_box (w : World) (l : Lay) : ∃ wa, w.alloc (.cells #[.int .i64 l.B, .int .i64 l.I, .int .i64 l.R, .int .i64 l.T, vw l.k0, vw l.k1, .int .i64 l.i, .int .i64 l.r, .int .i64 l.m, .int .i64 l.d] 27) = wa ∧ Hid (Below w.heap.size w wa) ∧ Hid (wa.heap.size = w.heap.size + 1) ∧ Hid (LayAt wa w.heap.size l) :=
  ⟨_, rfl, Lib.hid ((Below.refl _ _).alloc (Nat.le_refl _) _), Lib.hid (by simp), Lib.hid (World.alloc_heap_new w _)⟩

set_option maxRecDepth 100000 in
set_option maxHeartbeats 1000000 in
theorem right_any (l : Lay) (w : World) : Calls Try.prog 28 #[lv l] w fun e w' => e = .returned (.bool (decide (RightL l))) ∧ Below w.heap.size w w' := by
  obtain ⟨B, I, R, T, k0, k1, i, r, m, d⟩ := l
  obtain ⟨wa, hwa, HBA, HZA, HF⟩ := lay_box w ⟨B, I, R, T, k0, k1, i, r, m, d⟩
  obtain ⟨q0, q1, q2, q3, q4, q5, q6, q7, q8, q9, qf⟩ := lay_cells HF.out
  simp only [] at hwa q0 q1 q2 q3 q4 q5 q6 q7 q8 q9
  unfold lv
  go_enter Try.func28, Try.ntmps28
  go_wp2_with fail
  refine (of_any B I R T k0 k1 _).mono ?_
  rintro e w1 ⟨rfl, hb1⟩
  have HB1 := Lib.hid hb1
  clear hb1
  by_cases hok : OfOk B I R T
  · have HO := Lib.hid hok
    clear hok
    have e1 : ofL B I R T k0 k1 = ⟨B, I, R, T, k0, k1, 9, 9 + I / 4, 9 + I / 4 + R / 4, 9 + I / 4 + R / 4 + 1⟩ := by unfold ofL; rw [if_pos HO.out]
    have e2 : ofNo B I R T = 0 := by unfold ofNo; rw [if_pos HO.out]
    rw [e1, e2]
    simp only [lv]
    have heq : ∀ W, (binOp .eql 27 (.agg #[.int .i64 B, .int .i64 I, .int .i64 R, .int .i64 T, .int .u64 (k0.toNat : Int), .int .u64 (k1.toNat : Int), .int .i64 9, .int .i64 (9 + I / 4), .int .i64 (9 + I / 4 + R / 4), .int .i64 (9 + I / 4 + R / 4 + 1)]) (.agg #[.int .i64 B, .int .i64 I, .int .i64 R, .int .i64 T, vw k0, vw k1, .int .i64 i, .int .i64 r, .int .i64 m, .int .i64 d])).run Try.prog W = .ok (.bool (decide (RightL ⟨B, I, R, T, k0, k1, i, r, m, d⟩))) W := fun W => by rw [← right_law HO.out]; exact lv_eql ⟨B, I, R, T, k0, k1, 9, 9 + I / 4, 9 + I / 4 + R / 4, 9 + I / 4 + R / 4 + 1⟩ ⟨B, I, R, T, k0, k1, i, r, m, d⟩ W
    obtain ⟨wb, hwb⟩ : ∃ wb, w1.alloc (.cells #[.int .i64 B, .int .i64 I, .int .i64 R, .int .i64 T, .int .u64 (k0.toNat : Int), .int .u64 (k1.toNat : Int), .int .i64 9, .int .i64 (9 + I / 4), .int .i64 (9 + I / 4 + R / 4), .int .i64 (9 + I / 4 + R / 4 + 1)] 27) = wb := ⟨_, rfl⟩
    have hb2 : Below w.heap.size w wb := by rw [← hwb]; exact (HBA.out.trans (HB1.out.mono (by rw [HZA.out]; omega))).alloc (Nat.le_trans (by rw [HZA.out]; omega) HB1.out.size) _
    have ho2 : LayAt wb w.heap.size ⟨B, I, R, T, k0, k1, i, r, m, d⟩ := by
      have h3 : LayAt w1 w.heap.size ⟨B, I, R, T, k0, k1, i, r, m, d⟩ := HF.out.below (by rw [HZA.out]; omega) HB1.out
      rw [← hwb]; exact (Below.heap_alloc _ _ _ h3.lt).trans h3
    have hn2 : wb.heap[w1.heap.size]? = some (.cells #[.int .i64 B, .int .i64 I, .int .i64 R, .int .i64 T, .int .u64 (k0.toNat : Int), .int .u64 (k1.toNat : Int), .int .i64 9, .int .i64 (9 + I / 4), .int .i64 (9 + I / 4 + R / 4), .int .i64 (9 + I / 4 + R / 4 + 1)] 27 (0, 0)) := by rw [← hwb]; exact World.alloc_heap_new _ _
    have HB2 := Lib.hid hb2
    have HO2 := Lib.hid ho2
    have HN2 := Lib.hid hn2
    obtain ⟨p0, p1, p2, p3, p4, p5, p6, p7, p8, p9, pf⟩ := lay_cells ho2
    obtain ⟨r0, r1, r2, r3, r4, r5, r6, r7, r8, r9, rf⟩ := lay_cells hn2
    clear hb2 ho2 hn2 e1 e2 q0 q1 q2 q3 q4 q5 q6 q7 q8 q9 qf hwa

    go_wp2_with fail
    go_ret
    exact ⟨rfl, HB2.out⟩
  · have HO := Lib.hid hok
    clear hok
    have e1 : ofL B I R T k0 k1 = lay0 := by unfold ofL; rw [if_neg HO.out]
    have e2 : ofNo B I R T = 2 := by unfold ofNo; rw [if_neg HO.out]
    rw [e1, e2]
    simp only [lv, lay0]
    obtain ⟨wb, hwb⟩ : ∃ wb, w1.alloc (.cells #[.int .i64 0, .int .i64 0, .int .i64 0, .int .i64 0, .int .u64 0, .int .u64 0, .int .i64 0, .int .i64 0, .int .i64 0, .int .i64 0] 27) = wb := ⟨_, rfl⟩
    have hb2 : Below w.heap.size w wb := by rw [← hwb]; exact (HBA.out.trans (HB1.out.mono (by rw [HZA.out]; omega))).alloc (Nat.le_trans (by rw [HZA.out]; omega) HB1.out.size) _
    have ho2 : LayAt wb w.heap.size ⟨B, I, R, T, k0, k1, i, r, m, d⟩ := by
      have h3 : LayAt w1 w.heap.size ⟨B, I, R, T, k0, k1, i, r, m, d⟩ := HF.out.below (by rw [HZA.out]; omega) HB1.out
      rw [← hwb]; exact (Below.heap_alloc _ _ _ h3.lt).trans h3
    have hn2 : wb.heap[w1.heap.size]? = some (.cells #[.int .i64 0, .int .i64 0, .int .i64 0, .int .i64 0, .int .u64 0, .int .u64 0, .int .i64 0, .int .i64 0, .int .i64 0, .int .i64 0] 27 (0, 0)) := by rw [← hwb]; exact World.alloc_heap_new _ _
    have HB2 := Lib.hid hb2
    have HO2 := Lib.hid ho2
    have HN2 := Lib.hid hn2
    obtain ⟨p0, p1, p2, p3, p4, p5, p6, p7, p8, p9, pf⟩ := lay_cells ho2
    obtain ⟨r0, r1, r2, r3, r4, r5, r6, r7, r8, r9, rf⟩ := lay_cells hn2
    have hr0 : wb.setCell ⟨w1.heap.size, 0, none⟩ (.int .i64 0) = wb := setCell_id hn2 rfl
    have hr1 : wb.setCell ⟨w1.heap.size, 1, none⟩ (.int .i64 0) = wb := setCell_id hn2 rfl
    have hr2 : wb.setCell ⟨w1.heap.size, 2, none⟩ (.int .i64 0) = wb := setCell_id hn2 rfl
    have hr3 : wb.setCell ⟨w1.heap.size, 3, none⟩ (.int .i64 0) = wb := setCell_id hn2 rfl
    have hr4 : wb.setCell ⟨w1.heap.size, 4, none⟩ (.int .u64 0) = wb := setCell_id hn2 rfl
    have hr5 : wb.setCell ⟨w1.heap.size, 5, none⟩ (.int .u64 0) = wb := setCell_id hn2 rfl
    have hr6 : wb.setCell ⟨w1.heap.size, 6, none⟩ (.int .i64 0) = wb := setCell_id hn2 rfl
    have hr7 : wb.setCell ⟨w1.heap.size, 7, none⟩ (.int .i64 0) = wb := setCell_id hn2 rfl
    have hr8 : wb.setCell ⟨w1.heap.size, 8, none⟩ (.int .i64 0) = wb := setCell_id hn2 rfl
    have hr9 : wb.setCell ⟨w1.heap.size, 9, none⟩ (.int .i64 0) = wb := setCell_id hn2 rfl
    clear hb2 ho2 hn2 e1 e2 q0 q1 q2 q3 q4 q5 q6 q7 q8 q9 qf hwa

    go_wp2_with fail
    have hd : decide (RightL ⟨B, I, R, T, k0, k1, i, r, m, d⟩) = false := decide_eq_false (fun h : RightL ⟨B, I, R, T, k0, k1, i, r, m, d⟩ => HO.out h.1)
    rw [hd]
    go_ret
    exact ⟨rfl, HB2.out⟩
set_option maxRecDepth 100000 in
set_option maxHeartbeats 1000000 in
theorem refRight_any (l : Lay) (w : World) : Calls Try.prog 16 #[lv l] w fun e w' => e = .returned (.bool (decide (RightL l))) ∧ Below w.heap.size w w' := by
  obtain ⟨B, I, R, T, k0, k1, i, r, m, d⟩ := l
  obtain ⟨wa, hwa, HBA, HZA, HF⟩ := lay_box w ⟨B, I, R, T, k0, k1, i, r, m, d⟩
  obtain ⟨q0, q1, q2, q3, q4, q5, q6, q7, q8, q9, qf⟩ := lay_cells HF.out
  simp only [] at hwa q0 q1 q2 q3 q4 q5 q6 q7 q8 q9
  unfold lv
  go_enter Try.func16, Try.ntmps16
  go_wp2_with fail
  refine (refOf_any B I R T k0 k1 _).mono ?_
  rintro e w1 ⟨rfl, hb1⟩
  have HB1 := Lib.hid hb1
  clear hb1
  by_cases hok : OfOk B I R T
  · have HO := Lib.hid hok
    clear hok
    have e1 : ofL B I R T k0 k1 = ⟨B, I, R, T, k0, k1, 9, 9 + I / 4, 9 + I / 4 + R / 4, 9 + I / 4 + R / 4 + 1⟩ := by unfold ofL; rw [if_pos HO.out]
    have e2 : ofNo B I R T = 0 := by unfold ofNo; rw [if_pos HO.out]
    rw [e1, e2]
    simp only [lv]
    have heq : ∀ W, (binOp .eql 27 (.agg #[.int .i64 B, .int .i64 I, .int .i64 R, .int .i64 T, .int .u64 (k0.toNat : Int), .int .u64 (k1.toNat : Int), .int .i64 9, .int .i64 (9 + I / 4), .int .i64 (9 + I / 4 + R / 4), .int .i64 (9 + I / 4 + R / 4 + 1)]) (.agg #[.int .i64 B, .int .i64 I, .int .i64 R, .int .i64 T, vw k0, vw k1, .int .i64 i, .int .i64 r, .int .i64 m, .int .i64 d])).run Try.prog W = .ok (.bool (decide (RightL ⟨B, I, R, T, k0, k1, i, r, m, d⟩))) W := fun W => by rw [← right_law HO.out]; exact lv_eql ⟨B, I, R, T, k0, k1, 9, 9 + I / 4, 9 + I / 4 + R / 4, 9 + I / 4 + R / 4 + 1⟩ ⟨B, I, R, T, k0, k1, i, r, m, d⟩ W
    obtain ⟨wb, hwb⟩ : ∃ wb, w1.alloc (.cells #[.int .i64 B, .int .i64 I, .int .i64 R, .int .i64 T, .int .u64 (k0.toNat : Int), .int .u64 (k1.toNat : Int), .int .i64 9, .int .i64 (9 + I / 4), .int .i64 (9 + I / 4 + R / 4), .int .i64 (9 + I / 4 + R / 4 + 1)] 27) = wb := ⟨_, rfl⟩
    have hb2 : Below w.heap.size w wb := by rw [← hwb]; exact (HBA.out.trans (HB1.out.mono (by rw [HZA.out]; omega))).alloc (Nat.le_trans (by rw [HZA.out]; omega) HB1.out.size) _
    have ho2 : LayAt wb w.heap.size ⟨B, I, R, T, k0, k1, i, r, m, d⟩ := by
      have h3 : LayAt w1 w.heap.size ⟨B, I, R, T, k0, k1, i, r, m, d⟩ := HF.out.below (by rw [HZA.out]; omega) HB1.out
      rw [← hwb]; exact (Below.heap_alloc _ _ _ h3.lt).trans h3
    have hn2 : wb.heap[w1.heap.size]? = some (.cells #[.int .i64 B, .int .i64 I, .int .i64 R, .int .i64 T, .int .u64 (k0.toNat : Int), .int .u64 (k1.toNat : Int), .int .i64 9, .int .i64 (9 + I / 4), .int .i64 (9 + I / 4 + R / 4), .int .i64 (9 + I / 4 + R / 4 + 1)] 27 (0, 0)) := by rw [← hwb]; exact World.alloc_heap_new _ _
    have HB2 := Lib.hid hb2
    have HO2 := Lib.hid ho2
    have HN2 := Lib.hid hn2
    obtain ⟨p0, p1, p2, p3, p4, p5, p6, p7, p8, p9, pf⟩ := lay_cells ho2
    obtain ⟨r0, r1, r2, r3, r4, r5, r6, r7, r8, r9, rf⟩ := lay_cells hn2
    clear hb2 ho2 hn2 e1 e2 q0 q1 q2 q3 q4 q5 q6 q7 q8 q9 qf hwa

    go_wp2_with fail
    go_ret
    exact ⟨rfl, HB2.out⟩
  · have HO := Lib.hid hok
    clear hok
    have e1 : ofL B I R T k0 k1 = lay0 := by unfold ofL; rw [if_neg HO.out]
    have e2 : ofNo B I R T = 2 := by unfold ofNo; rw [if_neg HO.out]
    rw [e1, e2]
    simp only [lv, lay0]
    obtain ⟨wb, hwb⟩ : ∃ wb, w1.alloc (.cells #[.int .i64 0, .int .i64 0, .int .i64 0, .int .i64 0, .int .u64 0, .int .u64 0, .int .i64 0, .int .i64 0, .int .i64 0, .int .i64 0] 27) = wb := ⟨_, rfl⟩
    have hb2 : Below w.heap.size w wb := by rw [← hwb]; exact (HBA.out.trans (HB1.out.mono (by rw [HZA.out]; omega))).alloc (Nat.le_trans (by rw [HZA.out]; omega) HB1.out.size) _
    have ho2 : LayAt wb w.heap.size ⟨B, I, R, T, k0, k1, i, r, m, d⟩ := by
      have h3 : LayAt w1 w.heap.size ⟨B, I, R, T, k0, k1, i, r, m, d⟩ := HF.out.below (by rw [HZA.out]; omega) HB1.out
      rw [← hwb]; exact (Below.heap_alloc _ _ _ h3.lt).trans h3
    have hn2 : wb.heap[w1.heap.size]? = some (.cells #[.int .i64 0, .int .i64 0, .int .i64 0, .int .i64 0, .int .u64 0, .int .u64 0, .int .i64 0, .int .i64 0, .int .i64 0, .int .i64 0] 27 (0, 0)) := by rw [← hwb]; exact World.alloc_heap_new _ _
    have HB2 := Lib.hid hb2
    have HO2 := Lib.hid ho2
    have HN2 := Lib.hid hn2
    obtain ⟨p0, p1, p2, p3, p4, p5, p6, p7, p8, p9, pf⟩ := lay_cells ho2
    obtain ⟨r0, r1, r2, r3, r4, r5, r6, r7, r8, r9, rf⟩ := lay_cells hn2
    have hr0 : wb.setCell ⟨w1.heap.size, 0, none⟩ (.int .i64 0) = wb := setCell_id hn2 rfl
    have hr1 : wb.setCell ⟨w1.heap.size, 1, none⟩ (.int .i64 0) = wb := setCell_id hn2 rfl
    have hr2 : wb.setCell ⟨w1.heap.size, 2, none⟩ (.int .i64 0) = wb := setCell_id hn2 rfl
    have hr3 : wb.setCell ⟨w1.heap.size, 3, none⟩ (.int .i64 0) = wb := setCell_id hn2 rfl
    have hr4 : wb.setCell ⟨w1.heap.size, 4, none⟩ (.int .u64 0) = wb := setCell_id hn2 rfl
    have hr5 : wb.setCell ⟨w1.heap.size, 5, none⟩ (.int .u64 0) = wb := setCell_id hn2 rfl
    have hr6 : wb.setCell ⟨w1.heap.size, 6, none⟩ (.int .i64 0) = wb := setCell_id hn2 rfl
    have hr7 : wb.setCell ⟨w1.heap.size, 7, none⟩ (.int .i64 0) = wb := setCell_id hn2 rfl
    have hr8 : wb.setCell ⟨w1.heap.size, 8, none⟩ (.int .i64 0) = wb := setCell_id hn2 rfl
    have hr9 : wb.setCell ⟨w1.heap.size, 9, none⟩ (.int .i64 0) = wb := setCell_id hn2 rfl
    clear hb2 ho2 hn2 e1 e2 q0 q1 q2 q3 q4 q5 q6 q7 q8 q9 qf hwa

    go_wp2_with fail
    have hd : decide (RightL ⟨B, I, R, T, k0, k1, i, r, m, d⟩) = false := decide_eq_false (fun h : RightL ⟨B, I, R, T, k0, k1, i, r, m, d⟩ => HO.out h.1)
    rw [hd]
    go_ret
    exact ⟨rfl, HB2.out⟩
end Go.Proofs.Ytljegehfdmgcbaa
