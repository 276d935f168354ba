/- The walk of the law LayoutParts. -/
import Derived.Test.YtljegehfdmgcbaaLayoutX
import Derived.Test.YtljegehfdmgcbaaLayoutQ
import Derived.Sort.CutIn
import Derived.Sort.QuietIn
namespace Go.Proofs.Ytljegehfdmgcbaa
open Go Go.RowKit
attribute [local go_sem] Oper.semAt_some

/-- What lies: the form's box, the bound's, the result's, the layout's. -/
def PB (w : World) (B I R T many : Int) (bl : Nat) (l : Lay) (W : World) : Prop :=
  FAt W w.heap.size B I R T ∧ Box W (w.heap.size + 2) 3 (.int .i64 many) ∧ Box W (w.heap.size + 3) 4 (.bool false) ∧ LayAt W bl l ∧ Below w.heap.size w W ∧ w.heap.size + 4 ≤ bl
theorem PB.on {w W W' : World} {B I R T many : Int} {bl n : Nat} {l : Lay} (h : PB w B I R T many bl l W) (hn : bl < n) (hb : Below n W W') : PB w B I R T many bl l W' := by
  have hle := h.2.2.2.2.2
  exact ⟨h.1.below (by omega) hb, h.2.1.below hb (by omega), h.2.2.1.below hb (by omega), h.2.2.2.1.below hn hb, h.2.2.2.2.1.trans (hb.mono (by omega)), hle⟩
theorem PB.go {w W W' : World} {B I R T many : Int} {bl : Nat} {l : Lay} (h : PB w B I R T many bl l W) (hb : Below W.heap.size W W') : PB w B I R T many bl l W' := h.on h.2.2.2.1.lt hb
theorem parts_start (w : World) (B I R T many : Int) (k0 k1 : BitVec 64) : ∃ wa, (((w.alloc (.cells #[.int .i64 B, .int .i64 I, .int .i64 R, .int .i64 T] 23)).alloc (.cells #[vw k0, vw k1] 25)).alloc (.cells #[.int .i64 many] 3)).alloc (.cells #[.bool false] 4) = wa ∧
    FAt wa w.heap.size B I R T ∧ KAt wa (w.heap.size + 1) k0 k1 ∧ Box wa (w.heap.size + 2) 3 (.int .i64 many) ∧ Box wa (w.heap.size + 3) 4 (.bool false) ∧ Below w.heap.size w wa ∧ wa.heap.size = w.heap.size + 4 := by
  obtain ⟨wk, hwk, hF, hK, hb, hz⟩ := form_key w B I R T k0 k1
  refine ⟨_, rfl, ?_⟩
  rw [hwk]
  have h2 : Box (wk.alloc (.cells #[.int .i64 many] 3)) (w.heap.size + 2) 3 (.int .i64 many) := by
    have := Box.new wk 3 (.int .i64 many)
    rwa [hz] at this
  have h3 : Box ((wk.alloc (.cells #[.int .i64 many] 3)).alloc (.cells #[.bool false] 4)) (w.heap.size + 3) 4 (.bool false) := by
    have := Box.new (wk.alloc (.cells #[.int .i64 many] 3)) 4 (.bool false)
    rwa [World.size_alloc, hz] at this
  refine ⟨?_, ?_, h2.alloc _, h3, (hb.alloc hb.size _).alloc (by simp; exact Nat.le_succ_of_le hb.size) _, by simp [hz]⟩
  · exact (Below.heap_alloc _ _ _ (by have := hF.lt; simp; omega)).trans ((Below.heap_alloc _ _ _ hF.lt).trans hF)
  · exact (Below.heap_alloc _ _ _ (by have := hK.lt; simp; omega)).trans ((Below.heap_alloc _ _ _ hK.lt).trans hK)

set_option maxRecDepth 100000 in
set_option maxHeartbeats 8000000 in
theorem parts_bad (B I R T : Int) (k0 k1 : BitVec 64) (word many : Int) (w : World) (hbad : ¬ (OfOk B I R T ∧ B ≤ 64)) :
    Calls Try.prog 7 #[.agg #[.int .i64 B, .int .i64 I, .int .i64 R, .int .i64 T], .agg #[vw k0, vw k1], .int .i64 word, .int .i64 many] w fun e w' => e = .returned (.bool true) ∧ Below w.heap.size w w' := by
  obtain ⟨wa, hwa, hF, hK, hM, hRb, hbA, hzA⟩ := parts_start w B I R T many k0 k1
  obtain ⟨l, hl⟩ : ∃ l, ofL B I R T k0 k1 = l := ⟨_, rfl⟩
  obtain ⟨no, hno⟩ : ∃ no, ofNo B I R T = no := ⟨_, rfl⟩
  obtain ⟨f0, f1, f2, f3⟩ := hF.cells
  obtain ⟨g0, g1⟩ := hK.cells
  have HA := Lib.hid (And.intro hF (And.intro hM (And.intro hRb (And.intro hbA hzA))))
  have HL := Lib.hid hl
  have HNO := Lib.hid hno
  clear hF hK hbA hzA hl hno hM hRb
  have HBAD := Lib.hid hbad
  clear hbad
  go_enter Try.func7, Try.ntmps7
  go_wp2_with fail
  refine (refOf_any B I R T k0 k1 _).mono ?_
  rintro e w1 ⟨rfl, hb1⟩
  rw [HL.out, HNO.out]
  clear hwa f0 f1 f2 f3 g0 g1
  obtain ⟨hF, hM, hRb, hbA, hzA⟩ := HA.out
  obtain ⟨w2, hw2, hl2, hb2⟩ := lay_made w1 l
  have hs1 := hb1.size
  have hb12 : Below wa.heap.size wa w2 := hb1.trans (hb2.mono hb1.size)
  have H2 : Hid (PB w B I R T many w1.heap.size l w2) := Lib.hid ⟨hF.below hF.lt hb12, hM.below hb12 (by omega), hRb.below hb12 (by omega), hl2, hbA.trans (hb12.mono (by omega)), by omega⟩
  have f0 := H2.out.1.cells.1
  clear hF hM hRb hbA hzA hb1 hb2 hs1 hb12 hl2
  unfold lv
  by_cases hok : OfOk B I R T
  case neg =>
    have hno : no = 2 := by rw [← HNO.out]; unfold ofNo; rw [if_neg hok]
    subst hno
    clear hok
    go_wp2_with fail
    refine (works13_any _).mono ?_
    rintro e wz ⟨rfl, hbz⟩
    have HZ := Lib.hid ((H2.out).go hbz)
    have rcz := HZ.out.2.2.1.cell
    have rfz := HZ.out.2.2.1.free
    clear hbz
    go_wp2_with fail
    have rc9 := (HZ.out.2.2.1.set (.bool true)).cell
    refine bodyPost_ret (v := .bool true) (results_cell1 rfl _ _ rfl (v := .bool true) (by simp [go_sem, rc9])) rfl ?_
    exact ⟨rfl, HZ.out.2.2.2.2.1.setCell (p := ⟨w.heap.size + 3, 0, none⟩) (by simp) _⟩
  have hno : no = 0 := by rw [← HNO.out]; unfold ofNo; rw [if_pos hok]
  subst hno
  have hB : 64 < B := Int.not_le.1 fun h => HBAD.out ⟨hok, h⟩
  clear hok
  go_wp2_with fail
  refine (works13_any _).mono ?_
  rintro e wz ⟨rfl, hbz⟩
  have HZ := Lib.hid ((H2.out).go hbz)
  have rcz := HZ.out.2.2.1.cell
  have rfz := HZ.out.2.2.1.free
  clear hbz
  go_wp2_with fail
  have rc9 := (HZ.out.2.2.1.set (.bool true)).cell
  refine bodyPost_ret (v := .bool true) (results_cell1 rfl _ _ rfl (v := .bool true) (by simp [go_sem, rc9])) rfl ?_
  exact ⟨rfl, HZ.out.2.2.2.2.1.setCell (p := ⟨w.heap.size + 3, 0, none⟩) (by simp) _⟩

set_option maxRecDepth 100000 in
set_option maxHeartbeats 8000000 in
theorem parts_far (B I R T : Int) (k0 k1 : BitVec 64) (word many : Int) (w : World) (hok : OfOk B I R T) (hB : B ≤ 64) (hfar : ¬ (0 ≤ word ∧ word < 64 * B)) :
    Calls Try.prog 7 #[.agg #[.int .i64 B, .int .i64 I, .int .i64 R, .int .i64 T], .agg #[vw k0, vw k1], .int .i64 word, .int .i64 many] w fun e w' => e = .returned (.bool true) ∧ Below w.heap.size w w' := by
  obtain ⟨wa, hwa, hF, hK, hM, hRb, hbA, hzA⟩ := parts_start w B I R T many k0 k1
  obtain ⟨l, hl⟩ : ∃ l, ofL B I R T k0 k1 = l := ⟨_, rfl⟩
  obtain ⟨no, hno⟩ : ∃ no, ofNo B I R T = no := ⟨_, rfl⟩
  obtain ⟨f0, f1, f2, f3⟩ := hF.cells
  obtain ⟨g0, g1⟩ := hK.cells
  have HA := Lib.hid (And.intro hF (And.intro hM (And.intro hRb (And.intro hbA hzA))))
  have HL := Lib.hid hl
  have HNO := Lib.hid hno
  clear hF hK hbA hzA hl hno hM hRb
  have hno : no = 0 := by rw [← HNO.out]; unfold ofNo; rw [if_pos hok]
  subst hno
  have hr : RightL l := by rw [← HL.out]; exact right_of hok
  have hlB : l.B = B := by rw [← HL.out]; unfold ofL; rw [if_pos hok]
  have hB1 : 32 ≤ B := hok.1.1
  have HPART := Lib.hid (show partL l word = ((0, 0), 4) from by unfold partL; rw [if_neg (fun h => h hr), if_pos (fun h => hfar ⟨h.1, by rw [hlB] at h; omega⟩)])
  have HFAR := Lib.hid hfar
  clear hok hr hlB hfar
  go_enter Try.func7, Try.ntmps7
  go_wp2_with fail
  refine (refOf_any B I R T k0 k1 _).mono ?_
  rintro e w1 ⟨rfl, hb1⟩
  rw [HL.out, HNO.out]
  clear hwa f0 f1 f2 f3 g0 g1
  obtain ⟨hF, hM, hRb, hbA, hzA⟩ := HA.out
  obtain ⟨w2, hw2, hl2, hb2⟩ := lay_made w1 l
  have hs1 := hb1.size
  have hb12 : Below wa.heap.size wa w2 := hb1.trans (hb2.mono hb1.size)
  have H2 : Hid (PB w B I R T many w1.heap.size l w2) := Lib.hid ⟨hF.below hF.lt hb12, hM.below hb12 (by omega), hRb.below hb12 (by omega), hl2, hbA.trans (hb12.mono (by omega)), by omega⟩
  have f0 := H2.out.1.cells.1
  clear hF hM hRb hbA hzA hb1 hb2 hs1 hb12 hl2
  unfold lv
  obtain ⟨q0, q1, q2, q3, q4, q5, q6, q7, q8, q9, qf⟩ := lay_cells H2.out.2.2.2.1
  have hpp := part_any l word w2
  unfold lv at hpp
  have HPP := Lib.hid hpp
  clear hpp
  go_wp2_with fail
  refine HPP.out.mono ?_
  rintro e w3 ⟨rfl, hb3⟩
  clear q0 q1 q2 q3 q4 q5 q6 q7 q8 q9 qf hw2 f0
  rw [HPART.out]
  have HB3 := Lib.hid hb3
  obtain ⟨w4, hw4⟩ : ∃ w4, w3.alloc (.cells #[.int .i64 0, .int .i64 0] 46) = w4 := ⟨_, rfl⟩
  have hx4 : w4.heap[w3.heap.size]? = some (.cells #[.int .i64 0, .int .i64 0] 46 (0, 0)) := by rw [← hw4]; exact World.alloc_heap_new _ _
  have H4 := Lib.hid (H2.out.go (show Below w2.heap.size w2 w4 by rw [← hw4]; exact hb3.alloc hb3.size _))
  have f0 := H4.out.1.cells.1
  have x0 : w4.cell? ⟨w3.heap.size, 0, none⟩ = some (.int .i64 0) := by simp [World.cell?, hx4]
  have x1 : w4.cell? ⟨w3.heap.size, 1, none⟩ = some (.int .i64 0) := by simp [World.cell?, hx4]
  have HW4 := Lib.hid hw4
  clear hb3 hx4 hw4 f0 x0 x1
  have f0 := H4.out.1.cells.1
  rw [← HW4.out] at f0
  unfold pv
  by_cases h1 : word < 0
  case pos =>
    go_wp2_with (go_at_call 11; refine (num_any13 _ _).mono ?_; rintro e w' ⟨rfl, rfl⟩)
    rw [HW4.out]
    refine (works13_any _).mono ?_
    rintro e wz ⟨rfl, hbz⟩
    have HZ := Lib.hid ((H4.out).go hbz)
    have rcz := HZ.out.2.2.1.cell
    have rfz := HZ.out.2.2.1.free
    clear hbz
    go_wp2_with fail
    have rc9 := (HZ.out.2.2.1.set (.bool true)).cell
    refine bodyPost_ret (v := .bool true) (results_cell1 rfl _ _ rfl (v := .bool true) (by simp [go_sem, rc9])) rfl ?_
    exact ⟨rfl, HZ.out.2.2.2.2.1.setCell (p := ⟨w.heap.size + 3, 0, none⟩) (by simp) _⟩
  have h2 : 64 * B ≤ word := Int.not_lt.1 fun h => HFAR.out ⟨by omega, h⟩
  go_wp2_with (go_at_call 11; refine (num_any13 _ _).mono ?_; rintro e w' ⟨rfl, rfl⟩)
  rw [HW4.out]
  refine (works13_any _).mono ?_
  rintro e wz ⟨rfl, hbz⟩
  have HZ := Lib.hid ((H4.out).go hbz)
  have rcz := HZ.out.2.2.1.cell
  have rfz := HZ.out.2.2.1.free
  clear hbz
  go_wp2_with fail
  have rc9 := (HZ.out.2.2.1.set (.bool true)).cell
  refine bodyPost_ret (v := .bool true) (results_cell1 rfl _ _ rfl (v := .bool true) (by simp [go_sem, rc9])) rfl ?_
  exact ⟨rfl, HZ.out.2.2.2.2.1.setCell (p := ⟨w.heap.size + 3, 0, none⟩) (by simp) _⟩

end Go.Proofs.Ytljegehfdmgcbaa
