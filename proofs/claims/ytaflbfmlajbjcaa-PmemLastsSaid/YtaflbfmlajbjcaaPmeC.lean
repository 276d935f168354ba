/- The law's works. -/
import Derived.Test.YtaflbfmlajbjcaaPmeB
namespace Go.Proofs.Ytaflbfmlajbjcaa
open Go Go.RowKit

def wm0 : Mem := Mem.of (linesOf (List.replicate 16 0#64))
def wm1 : Mem := wm0.store 3 7#64
def wm2 : Mem := wm1.flush 0
def wm3 : Mem := wm2.store 3 8#64
def wm4 : Mem := wm3.fence
def wm5 : Mem := wm4.evict 0
theorem wm0_len : wm0.length = 2 := by kernel_rfl
theorem wm1_len : wm1.length = 2 := by kernel_rfl
theorem wm2_len : wm2.length = 2 := by kernel_rfl
theorem wm3_len : wm3.length = 2 := by kernel_rfl
theorem wm4_len : wm4.length = 2 := by kernel_rfl
theorem wm5_len : wm5.length = 2 := by kernel_rfl
theorem crash_len (m : Mem) (pk : List (BitVec 8)) : (m.crash pk).length = m.length := by simp [Mem.crash, of_len, crashV_len]
theorem wc_a (h : 0 < (wm3.crash [0#8]).length) : (wm3.crash [0#8])[0].now[3] = 0#64 := by kernel_rfl
theorem wc_b (h : 0 < (wm3.crash [1#8]).length) : (wm3.crash [1#8])[0].now[3] = 7#64 := by kernel_rfl
theorem wc_c (h : 0 < (wm3.crash [2#8]).length) : (wm3.crash [2#8])[0].now[3] = 8#64 := by kernel_rfl
theorem wm4_op : wm4.opens.length = 1 := by kernel_rfl
theorem wm5_op : wm5.opens.length = 0 := by kernel_rfl
theorem wm4_l3 : (flatW wm4.lst)[3]? = some 7#64 := by kernel_rfl
set_option maxRecDepth 100000 in
set_option maxHeartbeats 8000000 in
theorem works7_any (w : World) : Calls Try.prog 12 #[] w fun e w' => e = .returned (.bool true) ∧ Below w.heap.size w w' := by
  have hnew := newM_any 16 w (by decide) (by decide) (by decide)
  have HNEW := Lib.hid hnew
  clear hnew
  go_enter Try.func12, Try.ntmps12
  go_wp2_with fail
  refine HNEW.out.mono ?_
  rintro e w1 ⟨O, N, rfl, hm0, hN1, hb1⟩
  have HX1 := Lib.hid (And.intro hm0 (And.intro hN1 hb1))
  clear hm0 hN1 hb1 HNEW
  go_wp2_with fail
  refine (num7_any _ _).mono ?_
  rintro e w' ⟨rfl, rfl⟩
  go_wp2_with fail
  -- Store(3, 7)
  have HST := Lib.hid (show Calls Try.prog 20 #[.pointer (some ⟨O, 0, none⟩), .int .i64 3, .int .u64 7] w' fun e w'' => e = .returned (.int .i64 0) ∧ MAt w'' O wm1 N ∧ Frn N w' w'' from store_any 3 7#64 w' HX1.out.1 (by rw [wm0_len]; decide))
  refine HST.out.mono ?_
  rintro e w2 ⟨rfl, hm1, hf1⟩
  have hB2 : Below w.heap.size w w2 := HX1.out.2.2.trans (hf1.below HX1.out.2.2.size (fun b hb => (HX1.out.2.1 b hb).1))
  have hN2 : ∀ x, N x → w.heap.size ≤ x ∧ x < w2.heap.size := fun x hx => ⟨(HX1.out.2.1 x hx).1, Nat.lt_of_lt_of_le (HX1.out.2.1 x hx).2 hf1.size⟩
  have HX2 := Lib.hid (And.intro hm1 (And.intro hN2 hB2))
  clear hm1 hf1 hB2 hN2 HX1 HST
  go_wp2_with fail
  refine (num7_any _ _).mono ?_
  rintro e w' ⟨rfl, rfl⟩
  go_wp2_with fail
  -- Flush(0)
  have HFL := Lib.hid (show Calls Try.prog 21 #[.pointer (some ⟨O, 0, none⟩), .int .i64 0] w' fun e w'' => e = .returned (.int .i64 0) ∧ MAt w'' O wm2 N ∧ Frn N w' w'' from flush_any 0 w' HX2.out.1 (fun x hx => (HX2.out.2.1 x hx).2) (by rw [wm1_len]; decide))
  refine HFL.out.mono ?_
  rintro e w3 ⟨rfl, hm1, hf1⟩
  have hB2 : Below w.heap.size w w3 := HX2.out.2.2.trans (hf1.below HX2.out.2.2.size (fun b hb => (HX2.out.2.1 b hb).1))
  have hN2 : ∀ x, N x → w.heap.size ≤ x ∧ x < w3.heap.size := fun x hx => ⟨(HX2.out.2.1 x hx).1, Nat.lt_of_lt_of_le (HX2.out.2.1 x hx).2 hf1.size⟩
  have HX3 := Lib.hid (And.intro hm1 (And.intro hN2 hB2))
  clear hm1 hf1 hB2 hN2 HX2 HFL
  go_wp2_with fail
  refine (num7_any _ _).mono ?_
  rintro e w' ⟨rfl, rfl⟩
  go_wp2_with fail
  -- Store(3, 8)
  have HST := Lib.hid (show Calls Try.prog 20 #[.pointer (some ⟨O, 0, none⟩), .int .i64 3, .int .u64 8] w' fun e w'' => e = .returned (.int .i64 0) ∧ MAt w'' O wm3 N ∧ Frn N w' w'' from store_any 3 8#64 w' HX3.out.1 (by rw [wm2_len]; decide))
  refine HST.out.mono ?_
  rintro e w4 ⟨rfl, hm1, hf1⟩
  have hB2 : Below w.heap.size w w4 := HX3.out.2.2.trans (hf1.below HX3.out.2.2.size (fun b hb => (HX3.out.2.1 b hb).1))
  have hN2 : ∀ x, N x → w.heap.size ≤ x ∧ x < w4.heap.size := fun x hx => ⟨(HX3.out.2.1 x hx).1, Nat.lt_of_lt_of_le (HX3.out.2.1 x hx).2 hf1.size⟩
  have HX4 := Lib.hid (And.intro hm1 (And.intro hN2 hB2))
  clear hm1 hf1 hB2 hN2 HX3 HST
  go_wp2_with fail
  refine (num7_any _ _).mono ?_
  rintro e w' ⟨rfl, rfl⟩
  go_wp2_with fail
  -- the words behind crashes
  have HW0 := Lib.hid (show Calls Try.prog 44 #[.pointer (some ⟨O, 0, none⟩), .int .u8 0] w' fun e w'' => e = .returned (.int .u64 0) ∧ Below w'.heap.size w' w'' from by
    have h := word7_any 0#8 w' HX4.out.1 (fun x hx => (HX4.out.2.1 x hx).2) (by rw [crash_len, wm3_len]; decide)
    rw [wc_a] at h
    exact h)
  refine HW0.out.mono ?_
  rintro e w5 ⟨rfl, hb⟩
  have HX5 := Lib.hid (And.intro (HX4.out.1.below hb) (And.intro (show ∀ x, N x → w.heap.size ≤ x ∧ x < w5.heap.size from fun x hx => ⟨(HX4.out.2.1 x hx).1, Nat.lt_of_lt_of_le (HX4.out.2.1 x hx).2 hb.size⟩) (HX4.out.2.2.trans (hb.mono HX4.out.2.2.size))))
  clear hb HX4 HW0
  go_wp2_with fail
  have HW1 := Lib.hid (show Calls Try.prog 44 #[.pointer (some ⟨O, 0, none⟩), .int .u8 1] w5 fun e w'' => e = .returned (.int .u64 7) ∧ Below w5.heap.size w5 w'' from by
    have h := word7_any 1#8 w5 HX5.out.1 (fun x hx => (HX5.out.2.1 x hx).2) (by rw [crash_len, wm3_len]; decide)
    rw [wc_b] at h
    exact h)
  refine HW1.out.mono ?_
  rintro e w6 ⟨rfl, hb⟩
  have HX6 := Lib.hid (And.intro (HX5.out.1.below hb) (And.intro (show ∀ x, N x → w.heap.size ≤ x ∧ x < w6.heap.size from fun x hx => ⟨(HX5.out.2.1 x hx).1, Nat.lt_of_lt_of_le (HX5.out.2.1 x hx).2 hb.size⟩) (HX5.out.2.2.trans (hb.mono HX5.out.2.2.size))))
  clear hb HX5 HW1
  go_wp2_with fail
  have HW2 := Lib.hid (show Calls Try.prog 44 #[.pointer (some ⟨O, 0, none⟩), .int .u8 2] w6 fun e w'' => e = .returned (.int .u64 8) ∧ Below w6.heap.size w6 w'' from by
    have h := word7_any 2#8 w6 HX6.out.1 (fun x hx => (HX6.out.2.1 x hx).2) (by rw [crash_len, wm3_len]; decide)
    rw [wc_c] at h
    exact h)
  refine HW2.out.mono ?_
  rintro e w7 ⟨rfl, hb⟩
  have HX7 := Lib.hid (And.intro (HX6.out.1.below hb) (And.intro (show ∀ x, N x → w.heap.size ≤ x ∧ x < w7.heap.size from fun x hx => ⟨(HX6.out.2.1 x hx).1, Nat.lt_of_lt_of_le (HX6.out.2.1 x hx).2 hb.size⟩) (HX6.out.2.2.trans (hb.mono HX6.out.2.2.size))))
  clear hb HX6 HW2
  go_wp2_with fail
  -- New(12)
  refine (newM_bad 12 w7 (by unfold RightN; omega)).mono ?_
  rintro e w8 ⟨rfl, hb⟩
  have HX8 := Lib.hid (And.intro (HX7.out.1.below hb) (And.intro (show ∀ x, N x → w.heap.size ≤ x ∧ x < w8.heap.size from fun x hx => ⟨(HX7.out.2.1 x hx).1, Nat.lt_of_lt_of_le (HX7.out.2.1 x hx).2 hb.size⟩) (HX7.out.2.2.trans (hb.mono HX7.out.2.2.size))))
  clear hb HX7
  go_wp2_with fail
  -- Fence
  refine (fence_any w8 HX8.out.1 (fun x hx => (HX8.out.2.1 x hx).2)).mono ?_
  rintro e w9 ⟨rfl, hm1, hf1⟩
  have hB2 : Below w.heap.size w w9 := HX8.out.2.2.trans (hf1.below HX8.out.2.2.size (fun b hb => (HX8.out.2.1 b hb).1))
  have hN2 : ∀ x, N x → w.heap.size ≤ x ∧ x < w9.heap.size := fun x hx => ⟨(HX8.out.2.1 x hx).1, Nat.lt_of_lt_of_le (HX8.out.2.1 x hx).2 hf1.size⟩
  have HX9 := Lib.hid (And.intro (show MAt w9 O wm4 N from hm1) (And.intro hN2 hB2))
  clear hm1 hf1 hB2 hN2 HX8
  go_wp2_with fail
  refine (num7_any _ _).mono ?_
  rintro e w' ⟨rfl, rfl⟩
  go_wp2_with fail
  -- Lasting
  have hl := lasting_any w' HX9.out.1
  rw [wm4_len] at hl
  have HL := Lib.hid hl
  clear hl
  refine HL.out.mono ?_
  rintro e w10 ⟨q1, d1, rfl, -, hb⟩
  have HX10 := Lib.hid (And.intro (HX9.out.1.below hb) (And.intro (show ∀ x, N x → w.heap.size ≤ x ∧ x < w10.heap.size from fun x hx => ⟨(HX9.out.2.1 x hx).1, Nat.lt_of_lt_of_le (HX9.out.2.1 x hx).2 hb.size⟩) (HX9.out.2.2.trans (hb.mono HX9.out.2.2.size))))
  clear hb HX9 HL
  go_wp2_with fail
  have hl := lasting_any w10 HX10.out.1
  rw [wm4_len] at hl
  have HL := Lib.hid hl
  clear hl
  refine HL.out.mono ?_
  rintro e w11 ⟨q2, d2, rfl, hr, hb⟩
  obtain ⟨b3, o3, rfl, hb3, hc3⟩ := hr.at 3 (by rw [flatW_len, lst_len, wm4_len]; decide)
  have hv3 : (flatW wm4.lst)[3]'(by rw [flatW_len, lst_len, wm4_len]; decide) = 7#64 := (List.getElem?_eq_some_iff.1 wm4_l3).2
  rw [hv3] at hc3
  have hc4 : w11.cell? ⟨b3, o3 + 3, none⟩ = some (.int .u64 7) := hc3
  have HX11 := Lib.hid (And.intro (HX10.out.1.below hb) (And.intro (show ∀ x, N x → w.heap.size ≤ x ∧ x < w11.heap.size from fun x hx => ⟨(HX10.out.2.1 x hx).1, Nat.lt_of_lt_of_le (HX10.out.2.1 x hx).2 hb.size⟩) (HX10.out.2.2.trans (hb.mono HX10.out.2.2.size))))
  clear hb HX10 HL hr hb3 hc3 hv3
  go_wp2_with fail
  clear hc4
  -- opens
  have ho := opens7_any w11 HX11.out.1 (fun x hx => (HX11.out.2.1 x hx).2)
  rw [wm4_op] at ho
  have HO := Lib.hid ho
  clear ho
  refine HO.out.mono ?_
  rintro e w12 ⟨q3, d3, rfl, -, -, hb⟩
  have HX12 := Lib.hid (And.intro (HX11.out.1.below hb) (And.intro (show ∀ x, N x → w.heap.size ≤ x ∧ x < w12.heap.size from fun x hx => ⟨(HX11.out.2.1 x hx).1, Nat.lt_of_lt_of_le (HX11.out.2.1 x hx).2 hb.size⟩) (HX11.out.2.2.trans (hb.mono HX11.out.2.2.size))))
  clear hb HX11 HO
  go_wp2_with fail
  -- Evict(0)
  have HEV := Lib.hid (show Calls Try.prog 23 #[.pointer (some ⟨O, 0, none⟩), .int .i64 0] w12 fun e w'' => e = .returned (.int .i64 0) ∧ MAt w'' O wm5 N ∧ Frn N w12 w'' from evict_any 0 w12 HX12.out.1 (fun x hx => (HX12.out.2.1 x hx).2) (by rw [wm4_len]; decide))
  refine HEV.out.mono ?_
  rintro e w13 ⟨rfl, hm1, hf1⟩
  have hB2 : Below w.heap.size w w13 := HX12.out.2.2.trans (hf1.below HX12.out.2.2.size (fun b hb => (HX12.out.2.1 b hb).1))
  have hN2 : ∀ x, N x → w.heap.size ≤ x ∧ x < w13.heap.size := fun x hx => ⟨(HX12.out.2.1 x hx).1, Nat.lt_of_lt_of_le (HX12.out.2.1 x hx).2 hf1.size⟩
  have HX13 := Lib.hid (And.intro hm1 (And.intro hN2 hB2))
  clear hm1 hf1 hB2 hN2 HX12 HEV
  go_wp2_with fail
  refine (num7_any _ _).mono ?_
  rintro e w' ⟨rfl, rfl⟩
  go_wp2_with fail
  have ho := opens7_any w' HX13.out.1 (fun x hx => (HX13.out.2.1 x hx).2)
  rw [wm5_op] at ho
  have HO := Lib.hid ho
  clear ho
  refine HO.out.mono ?_
  rintro e w14 ⟨q3, d3, rfl, -, -, hb⟩
  have HX14 := Lib.hid (And.intro (HX13.out.1.below hb) (And.intro (show ∀ x, N x → w.heap.size ≤ x ∧ x < w14.heap.size from fun x hx => ⟨(HX13.out.2.1 x hx).1, Nat.lt_of_lt_of_le (HX13.out.2.1 x hx).2 hb.size⟩) (HX13.out.2.2.trans (hb.mono HX13.out.2.2.size))))
  clear hb HX13 HO
  go_wp2_with fail
  refine (num7_any _ _).mono ?_
  rintro e w' ⟨rfl, rfl⟩
  go_wp2_with fail
  -- Store(16, 1)
  have HST := Lib.hid (show Calls Try.prog 20 #[.pointer (some ⟨O, 0, none⟩), .int .i64 16, .int .u64 1] w' fun e w'' => e = .returned (.int .i64 4) ∧ w' = w'' from store_bad 16 1#64 w' HX14.out.1 (by rw [wm5_len]; omega))
  refine HST.out.mono ?_
  rintro e w'' ⟨rfl, rfl⟩
  go_wp2_with fail
  refine (num7_any _ _).mono ?_
  rintro e w'' ⟨rfl, rfl⟩
  go_wp2_with fail
  refine (evict_bad 2 w'' HX14.out.1 (fun x hx => (HX14.out.2.1 x hx).2) (by rw [wm5_len]; omega)).mono ?_
  rintro e w15 ⟨rfl, hb⟩
  have HB := Lib.hid (HX14.out.2.2.trans (hb.mono HX14.out.2.2.size))
  clear hb HST
  go_wp2_with fail
  refine (num7_any _ _).mono ?_
  rintro e w'' ⟨rfl, rfl⟩
  go_wp2_with fail
  go_ret
  exact ⟨rfl, HB.out⟩
end Go.Proofs.Ytaflbfmlajbjcaa
