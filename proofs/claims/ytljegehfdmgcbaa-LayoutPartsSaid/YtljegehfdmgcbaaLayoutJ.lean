/- The walks of layout.place, Journal, Inode, Record. -/
import Derived.Test.YtljegehfdmgcbaaLayoutG
import Derived.Deep.RegionHeld3
import Derived.Deep.QuietTactic
import Derived.BigQuiet
import Derived.Laws.EntriesVeiled
namespace Go.Proofs.Ytljegehfdmgcbaa
open Go Go.RowKit

set_option maxRecDepth 100000 in
set_option maxHeartbeats 4000000 in
theorem place_1 (l : Lay) (n : Int) (w : World) : Calls Try.prog 32 #[lv l, .int .i64 2, .int .i64 n] w fun e w' => e = .returned (.tuple #[.int .i64 (placeL l 1 n).1, .int .i64 (placeL l 1 n).2]) ∧ Below w.heap.size w w' := by
  obtain ⟨wa, hwa, HBA, HZA, HF⟩ := lay_box w l
  obtain ⟨q0, q1, q2, q3, q4, q5, q6, q7, q8, q9, qf⟩ := lay_cells HF.out
  have hra := right_any l wa
  unfold lv at hra ⊢
  have HRA := Lib.hid hra
  clear hra
  by_cases hr : RightL l
  case neg =>
    have hp : placeL l 1 n = (0, 2) := by unfold placeL; rw [if_pos hr]
    have HP := Lib.hid hp
    have hd : decide (RightL l) = false := decide_eq_false hr
    clear hp hr
    go_enter Try.func32, Try.ntmps32
    go_wp2_with fail
    refine HRA.out.mono ?_
    rintro e w1 ⟨rfl, hb1⟩
    have HB1 := Lib.hid hb1
    clear hb1
    rw [hd]
    clear hd
    go_wp2_with fail
    go_ret2
    rw [HP.out]
    exact ⟨rfl, HBA.out.trans (HB1.out.mono (by rw [HZA.out]; omega))⟩
  case pos =>
    have HR := Lib.hid hr
    have hd : decide (RightL l) = true := decide_eq_true hr
    have HBN := Lib.hid (right_bounds hr)
    clear hr
    go_enter Try.func32, Try.ntmps32
    go_wp2_with fail
    refine HRA.out.mono ?_
    rintro e w1 ⟨rfl, hb1⟩
    rw [hd]
    have hL1 : LayAt w1 w.heap.size l := HF.out.below (by rw [HZA.out]; omega) hb1
    clear q0 q1 q2 q3 q4 q5 q6 q7 q8 q9 qf hwa hd
    obtain ⟨q0, q1, q2, q3, q4, q5, q6, q7, q8, q9, qf⟩ := lay_cells hL1
    have hz1 : w.heap.size < w1.heap.size := hL1.lt
    have hbw1 : Below w.heap.size w w1 := HBA.out.trans (hb1.mono (by rw [HZA.out]; omega))
    obtain ⟨w2, hw2⟩ : ∃ w2, w1.alloc (.cells #[.int .i64 l.B, .int .i64 l.I, .int .i64 l.R, .int .i64 l.T, vw l.k0, vw l.k1, .int .i64 l.i, .int .i64 l.r, .int .i64 l.m, .int .i64 l.d] 73) = w2 := ⟨_, rfl⟩
    have hz2 : w2.heap.size = w1.heap.size + 1 := by rw [← hw2]; simp
    have hU2 : UAt w2 w1.heap.size l := by rw [← hw2]; exact World.alloc_heap_new _ _
    obtain ⟨w3, hw3⟩ : ∃ w3, w2.alloc (.cells (pcs 0 ++ pcs 1 ++ pcs 2 ++ pcs 3 ++ pcs 4 ++ pcs 5).toArray 78) = w3 := ⟨_, rfl⟩
    have hz3 : w3.heap.size = w2.heap.size + 1 := by rw [← hw3]; simp
    have hU3 : UAt w3 w1.heap.size l := by rw [← hw3]; exact (Below.heap_alloc _ _ _ (by omega)).trans hU2
    have hQ3 : QAt w3 w2.heap.size := by rw [← hw3]; exact World.alloc_heap_new _ _
    have hbW : Below w.heap.size w w3 := by
      rw [← hw3, ← hw2]
      exact (hbw1.alloc hbw1.size _).alloc (Nat.le_trans hbw1.size (by simp)) _
    have HS := Lib.hid (show UAt w3 w1.heap.size l ∧ QAt w3 w2.heap.size ∧ Below w.heap.size w w3 from ⟨hU3, hQ3, hbW⟩)
    have HW3 := Lib.hid hw3
    clear hU2 hU3 hQ3 hbW hL1 hb1 hw3 hbw1 hz2 hz3
    go_wp2_with fail
    refine (parts_any w2).mono ?_
    rintro e w3' ⟨rfl, rfl⟩
    rw [HW3.out]
    clear hw2 q0 q1 q2 q3 q4 q5 q6 q7 q8 q9 qf
    go_wp2_with fail
    go_loopw [18] (fun i wr => ∃ k : Nat, k ≤ 6 ∧ i = .int .i64 k ∧ UAt wr w1.heap.size l ∧ QAt wr w2.heap.size ∧ Below w.heap.size w wr ∧ (1 < k → ¬ (pFirst 1 ≤ n ∧ n ≤ pFirst 1 + pMany l 1 - 1))) (fun i _ => 6 - (intOf i).toNat)
    case atStart => exact ⟨0, by omega, rfl, HS.out.1, HS.out.2.1, HS.out.2.2, by omega⟩
    case round =>
      clear HS
      obtain ⟨k, hk, rfl, hU, hQ, hb, hno⟩ := hrel
      have hbn1 := HBN.out.1.2
      have hbn2 := HBN.out.2.1
      have hbn3 := HBN.out.2.2.1
      have hz2 : w2.heap.size < wr.heap.size := (Array.getElem?_eq_some_iff.1 hQ).1
      have hz3 : w1.heap.size < wr.heap.size := (Array.getElem?_eq_some_iff.1 hU).1
      by_cases hk6 : k < 6
      · obtain ⟨p0, p1, p2, p3, p4⟩ := hQ.cells k hk6
        obtain ⟨w4, hw4⟩ : ∃ w4, wr.alloc (.cells #[.int .i64 (pKind k), .func (.func (fromF k)) #[] #[], .func (.func (manyF k)) #[] #[], .int .i64 (pWide k), .int .i64 (pFirst k)] 78) = w4 := ⟨_, rfl⟩
        obtain ⟨bp, hbp⟩ : ∃ bp, wr.heap.size = bp := ⟨_, rfl⟩
        have hP4 : PAt w4 bp k := by rw [← hw4, ← hbp]; exact World.alloc_heap_new _ _
        have hU4 : UAt w4 w1.heap.size l := by rw [← hw4]; exact (Below.heap_alloc _ _ _ hz3).trans hU
        have hQ4 : QAt w4 w2.heap.size := by rw [← hw4]; exact (Below.heap_alloc _ _ _ hz2).trans hQ
        have hb4 : Below w.heap.size w w4 := by rw [← hw4]; exact hb.alloc hb.size _
        have hz4 : w4.heap.size = bp + 1 := by rw [← hw4, ← hbp]; simp
        have HPUQ := Lib.hid (show PAt w4 bp k ∧ UAt w4 w1.heap.size l ∧ QAt w4 w2.heap.size ∧ Below w.heap.size w w4 ∧ w4.heap.size = bp + 1 ∧ w1.heap.size < bp ∧ w2.heap.size < bp from ⟨hP4, hU4, hQ4, hb4, hz4, by omega, by omega⟩)
        by_cases hkK : k = 1
        · subst hkK
          have hcl : ∀ W, Below w4.heap.size w4 W → (W.cell? ⟨bp, 0, none⟩ = some (.int .i64 2) ∧ W.cell? ⟨bp, 1, none⟩ = some (.func (.func 46) #[] #[]) ∧ W.cell? ⟨bp, 2, none⟩ = some (.func (.func 47) #[] #[]) ∧ W.cell? ⟨bp, 3, none⟩ = some (.int .i64 64) ∧ W.cell? ⟨bp, 4, none⟩ = some (.int .i64 0)) ∧ UAt W w1.heap.size l ∧ QAt W w2.heap.size := fun W hW => by
            have hP : PAt W bp 1 := (hW.block _ (by omega)).trans hP4
            exact ⟨hP.cells, (hW.block _ (by omega)).trans hU4, (hW.block _ (by omega)).trans hQ4⟩
          have HCL := Lib.hid hcl
          obtain ⟨⟨m0, m1, m2, m3, m4⟩, hU4', _⟩ := hcl w4.drew (Below.refl _ _).drew
          obtain ⟨u0, u1, u2, u3, u4, u5, u6, u7, u8, u9, uf⟩ := lay_cells hU4'
          have g0 : w4.cell? ⟨bp, 0, none⟩ = some (.int .i64 2) := m0
          have g2 : w4.cell? ⟨bp, 2, none⟩ = some (.func (.func 47) #[] #[]) := m2
          have g4 : w4.cell? ⟨bp, 4, none⟩ = some (.int .i64 0) := m4
          have HNO : Hid (pFirst 1 = 0 ∧ pMany l 1 = 8) := Lib.hid ⟨rfl, rfl⟩
          have hq0 : wr.cell? ⟨w2.heap.size, 5, none⟩ = some (.int .i64 2) := p0
          have hq1 : wr.cell? ⟨w2.heap.size, 5 + 1, none⟩ = some (.func (.func 46) #[] #[]) := p1
          have hq2 : wr.cell? ⟨w2.heap.size, 5 + 2, none⟩ = some (.func (.func 47) #[] #[]) := p2
          have hq3 : wr.cell? ⟨w2.heap.size, 5 + 3, none⟩ = some (.int .i64 64) := p3
          have hq4 : wr.cell? ⟨w2.heap.size, 5 + 4, none⟩ = some (.int .i64 0) := p4
          have hw4' : wr.alloc (.cells #[.int .i64 2, .func (.func 46) #[] #[], .func (.func 47) #[] #[], .int .i64 64, .int .i64 0] 78) = w4 := hw4
          have hid3 : ∀ v, w4.cell? ⟨bp, 4, none⟩ = some v → w4.setCell ⟨bp, 4, none⟩ v = w4 := fun v hv => setCell_id hP4 (by have := hP4.cells.2.2.2.2; rw [this] at hv; cases hv; rfl)
          have hid4 : w4.setCell ⟨bp, 4, none⟩ (.int .i64 0) = w4 := hid3 _ g4
          have hfz4 : ∀ j, w4.frozen? ⟨bp, j, none⟩ = false := fun j => by simp [World.frozen?, show w4.heap[bp]? = _ from hP4]
          clear hU hQ hb hno hz2 hz3 p0 p1 p2 p3 p4 hw4 hP4 hU4 hQ4 hb4 hz4 hcl hU4' hid3
          go_wp2_with fail
          go_region_held3 (fun w' => w'.cell? ⟨bp, 0, none⟩ = some (.int .i64 2) ∧ w'.cell? ⟨bp, 2, none⟩ = some (.func (.func 47) #[] #[]) ∧ w'.cell? ⟨bp, 4, none⟩ = some (.int .i64 0) ∧ w'.cell? ⟨w1.heap.size, 0, none⟩ = some (.int .i64 l.B) ∧ w'.cell? ⟨w1.heap.size, 1, none⟩ = some (.int .i64 l.I) ∧ w'.cell? ⟨w1.heap.size, 2, none⟩ = some (.int .i64 l.R) ∧ w'.cell? ⟨w1.heap.size, 3, none⟩ = some (.int .i64 l.T) ∧ w'.cell? ⟨w1.heap.size, 4, none⟩ = some (vw l.k0) ∧ w'.cell? ⟨w1.heap.size, 5, none⟩ = some (vw l.k1) ∧ w'.cell? ⟨w1.heap.size, 6, none⟩ = some (.int .i64 l.i) ∧ w'.cell? ⟨w1.heap.size, 7, none⟩ = some (.int .i64 l.r) ∧ w'.cell? ⟨w1.heap.size, 8, none⟩ = some (.int .i64 l.m) ∧ w'.cell? ⟨w1.heap.size, 9, none⟩ = some (.int .i64 l.d))
            (first | exact ⟨m0, m2, m4, u0, u1, u2, u3, u4, u5, u6, u7, u8, u9⟩ | exact ⟨z0, z2, z4, y0, y1, y2, y3, y4, y5, y6, y7, y8, y9⟩)
            (first
            | (go_at_call 47
               refine (p_parts_3 l _).mono ?_
               rintro e w5 ⟨rfl, hb5⟩
               obtain ⟨⟨z0, z1, z2, z3, z4⟩, hU5, hQ5⟩ := HCL.out w5 ((Below.refl _ _).drew.trans hb5)
               obtain ⟨y0, y1, y2, y3, y4, y5, y6, y7, y8, y9, yf⟩ := lay_cells hU5
               have HB5 := Lib.hid ((Below.refl w4.heap.size w4).drew.trans hb5)
               clear hb5 hU5 hQ5)
            | (go_at_call 27
               refine (in_any _ _ _ _).mono ?_
               rintro e w6 ⟨rfl, rfl⟩))
          all_goals
            have HUQ := Lib.hid (And.intro (HCL.out _ HB5.out).2.1 (HCL.out _ HB5.out).2.2)
            have ew : IntKind.i64.wrap (IntKind.i64.wrap (8) - 1) = 7 := by rw [IntKind.wrap_i64, IntKind.wrap_i64]; omega
            rw [ew]
            clear ew
            cases hin : inb n 0 7
            · clear z0 z1 z2 z3 z4 y0 y1 y2 y3 y4 y5 y6 y7 y8 y9 yf m0 m1 m2 m3 m4 u0 u1 u2 u3 u4 u5 u6 u7 u8 u9 uf g0 g2 g4 hq0 hq1 hq2 hq3 hq4 hw4' hid4 hfz4
              go_wp2_with fail
              go_roundw
              case rel => exact ⟨1 + 1, by omega, by go_num, HUQ.out.1, HUQ.out.2, HPUQ.out.2.2.2.1.trans (HB5.out.mono (by have := HPUQ.out.2.2.2.2.1; have := HPUQ.out.2.2.2.1.size; omega)), fun _ h => inb_false hin (by simp only [pFirst, pMany] at h; omega)⟩
              case measure => simp [intOf]
            · have hin' := inb_true hin
              have hn1 := hin'.1
              have hn2 := hin'.2
              clear hin' m0 m1 m2 m3 m4 u0 u1 u2 u3 u4 u5 u6 u7 u8 u9 uf g0 g2 g4 hq0 hq1 hq2 hq3 hq4 hw4' hid4 hfz4
              go_wp2_with fail
              refine (at_1 l n ⟨by omega, by omega⟩ _).mono ?_
              rintro e w7 ⟨rfl, hb7⟩
              have HB7 := Lib.hid hb7
              clear hb7 z0 z1 z2 z3 z4 y0 y1 y2 y3 y4 y5 y6 y7 y8 y9 yf
              go_wp2_with fail
              go_ret2
              have hp : placeL l 1 n = (64 + n * 64, 0) := by
                unfold placeL
                rw [if_neg (fun h => h HR.out), if_pos (by simp only [pFirst, pMany]; omega)]
                simp only [pAt, pFrom, pWide, pFirst, Prod.mk.injEq, and_true]
                omega
              rw [hp]
              have hsz := HPUQ.out.2.2.2.1.size
              exact ⟨rfl, HPUQ.out.2.2.2.1.trans ((HB5.out.trans (HB7.out.mono HB5.out.size)).mono hsz)⟩
        · have hne : ¬ pKind k = 2 := by unfold pKind; omega
          obtain ⟨m0, m1, m2, m3, m4⟩ := hP4.cells
          obtain ⟨d0, d1, d2, d3, d4⟩ := PAt.cells (W := w4.drew) hP4
          have HNX : Hid (1 < k + 1 → ¬ (pFirst 1 ≤ n ∧ n ≤ pFirst 1 + pMany l 1 - 1)) := Lib.hid (fun h => hno (by omega))
          clear hU hQ hb hno hz2 hz3 hP4 hU4 hQ4 hb4 hz4 hbn1 hbn2 hbn3 hkK
          go_wp2_with fail
          go_quiet (fail)
          go_wp2_with fail
          go_roundw
          case rel => exact ⟨k + 1, by omega, by go_num, HPUQ.out.2.1, HPUQ.out.2.2.1, (let h := HPUQ.out.2.2.2.1; ⟨h.os, h.tape, h.output, h.size, h.block⟩), HNX.out⟩
          case measure => simp [intOf]; omega
      · obtain rfl : k = 6 := by omega
        have HB := Lib.hid hb
        have hp : placeL l 1 n = (0, 4) := by
          unfold placeL
          rw [if_neg (fun h => h HR.out), if_neg (hno (by omega))]
        have HP := Lib.hid hp
        clear hp hno hb hU hQ hbn1 hbn2 hbn3
        go_wp2_with fail
        go_ret2
        rw [HP.out]
        exact ⟨rfl, HB.out⟩

set_option maxRecDepth 100000 in
set_option maxHeartbeats 1000000 in
theorem journal_any (l : Lay) (n : Int) (w : World) : Calls Try.prog 17 #[lv l, .int .i64 n] w fun e w' => e = .returned (.tuple #[.int .i64 (placeL l 1 n).1, .int .i64 (placeL l 1 n).2]) ∧ Below w.heap.size w w' := by
  obtain ⟨wa, hwa, HBA, HZA, HF⟩ := lay_box w l
  obtain ⟨q0, q1, q2, q3, q4, q5, q6, q7, q8, q9, qf⟩ := lay_cells HF.out
  have hra := place_1 l n wa
  unfold lv at hra ⊢
  have HRA := Lib.hid hra
  clear hra
  go_enter Try.func17, Try.ntmps17
  go_wp2_with fail
  refine HRA.out.mono ?_
  rintro e w1 ⟨rfl, hb1⟩
  have HB1 := Lib.hid hb1
  clear hb1
  go_wp2_with fail
  go_ret2
  exact ⟨rfl, HBA.out.trans (HB1.out.mono (by rw [HZA.out]; omega))⟩

set_option maxRecDepth 100000 in
set_option maxHeartbeats 4000000 in
theorem place_2 (l : Lay) (n : Int) (w : World) : Calls Try.prog 32 #[lv l, .int .i64 3, .int .i64 n] w fun e w' => e = .returned (.tuple #[.int .i64 (placeL l 2 n).1, .int .i64 (placeL l 2 n).2]) ∧ Below w.heap.size w w' := by
  obtain ⟨wa, hwa, HBA, HZA, HF⟩ := lay_box w l
  obtain ⟨q0, q1, q2, q3, q4, q5, q6, q7, q8, q9, qf⟩ := lay_cells HF.out
  have hra := right_any l wa
  unfold lv at hra ⊢
  have HRA := Lib.hid hra
  clear hra
  by_cases hr : RightL l
  case neg =>
    have hp : placeL l 2 n = (0, 2) := by unfold placeL; rw [if_pos hr]
    have HP := Lib.hid hp
    have hd : decide (RightL l) = false := decide_eq_false hr
    clear hp hr
    go_enter Try.func32, Try.ntmps32
    go_wp2_with fail
    refine HRA.out.mono ?_
    rintro e w1 ⟨rfl, hb1⟩
    have HB1 := Lib.hid hb1
    clear hb1
    rw [hd]
    clear hd
    go_wp2_with fail
    go_ret2
    rw [HP.out]
    exact ⟨rfl, HBA.out.trans (HB1.out.mono (by rw [HZA.out]; omega))⟩
  case pos =>
    have HR := Lib.hid hr
    have hd : decide (RightL l) = true := decide_eq_true hr
    have HBN := Lib.hid (right_bounds hr)
    clear hr
    go_enter Try.func32, Try.ntmps32
    go_wp2_with fail
    refine HRA.out.mono ?_
    rintro e w1 ⟨rfl, hb1⟩
    rw [hd]
    have hL1 : LayAt w1 w.heap.size l := HF.out.below (by rw [HZA.out]; omega) hb1
    clear q0 q1 q2 q3 q4 q5 q6 q7 q8 q9 qf hwa hd
    obtain ⟨q0, q1, q2, q3, q4, q5, q6, q7, q8, q9, qf⟩ := lay_cells hL1
    have hz1 : w.heap.size < w1.heap.size := hL1.lt
    have hbw1 : Below w.heap.size w w1 := HBA.out.trans (hb1.mono (by rw [HZA.out]; omega))
    obtain ⟨w2, hw2⟩ : ∃ w2, w1.alloc (.cells #[.int .i64 l.B, .int .i64 l.I, .int .i64 l.R, .int .i64 l.T, vw l.k0, vw l.k1, .int .i64 l.i, .int .i64 l.r, .int .i64 l.m, .int .i64 l.d] 73) = w2 := ⟨_, rfl⟩
    have hz2 : w2.heap.size = w1.heap.size + 1 := by rw [← hw2]; simp
    have hU2 : UAt w2 w1.heap.size l := by rw [← hw2]; exact World.alloc_heap_new _ _
    obtain ⟨w3, hw3⟩ : ∃ w3, w2.alloc (.cells (pcs 0 ++ pcs 1 ++ pcs 2 ++ pcs 3 ++ pcs 4 ++ pcs 5).toArray 78) = w3 := ⟨_, rfl⟩
    have hz3 : w3.heap.size = w2.heap.size + 1 := by rw [← hw3]; simp
    have hU3 : UAt w3 w1.heap.size l := by rw [← hw3]; exact (Below.heap_alloc _ _ _ (by omega)).trans hU2
    have hQ3 : QAt w3 w2.heap.size := by rw [← hw3]; exact World.alloc_heap_new _ _
    have hbW : Below w.heap.size w w3 := by
      rw [← hw3, ← hw2]
      exact (hbw1.alloc hbw1.size _).alloc (Nat.le_trans hbw1.size (by simp)) _
    have HS := Lib.hid (show UAt w3 w1.heap.size l ∧ QAt w3 w2.heap.size ∧ Below w.heap.size w w3 from ⟨hU3, hQ3, hbW⟩)
    have HW3 := Lib.hid hw3
    clear hU2 hU3 hQ3 hbW hL1 hb1 hw3 hbw1 hz2 hz3
    go_wp2_with fail
    refine (parts_any w2).mono ?_
    rintro e w3' ⟨rfl, rfl⟩
    rw [HW3.out]
    clear hw2 q0 q1 q2 q3 q4 q5 q6 q7 q8 q9 qf
    go_wp2_with fail
    go_loopw [18] (fun i wr => ∃ k : Nat, k ≤ 6 ∧ i = .int .i64 k ∧ UAt wr w1.heap.size l ∧ QAt wr w2.heap.size ∧ Below w.heap.size w wr ∧ (2 < k → ¬ (pFirst 2 ≤ n ∧ n ≤ pFirst 2 + pMany l 2 - 1))) (fun i _ => 6 - (intOf i).toNat)
    case atStart => exact ⟨0, by omega, rfl, HS.out.1, HS.out.2.1, HS.out.2.2, by omega⟩
    case round =>
      clear HS
      obtain ⟨k, hk, rfl, hU, hQ, hb, hno⟩ := hrel
      have hbn1 := HBN.out.1.2
      have hbn2 := HBN.out.2.1
      have hbn3 := HBN.out.2.2.1
      have hz2 : w2.heap.size < wr.heap.size := (Array.getElem?_eq_some_iff.1 hQ).1
      have hz3 : w1.heap.size < wr.heap.size := (Array.getElem?_eq_some_iff.1 hU).1
      by_cases hk6 : k < 6
      · obtain ⟨p0, p1, p2, p3, p4⟩ := hQ.cells k hk6
        obtain ⟨w4, hw4⟩ : ∃ w4, wr.alloc (.cells #[.int .i64 (pKind k), .func (.func (fromF k)) #[] #[], .func (.func (manyF k)) #[] #[], .int .i64 (pWide k), .int .i64 (pFirst k)] 78) = w4 := ⟨_, rfl⟩
        obtain ⟨bp, hbp⟩ : ∃ bp, wr.heap.size = bp := ⟨_, rfl⟩
        have hP4 : PAt w4 bp k := by rw [← hw4, ← hbp]; exact World.alloc_heap_new _ _
        have hU4 : UAt w4 w1.heap.size l := by rw [← hw4]; exact (Below.heap_alloc _ _ _ hz3).trans hU
        have hQ4 : QAt w4 w2.heap.size := by rw [← hw4]; exact (Below.heap_alloc _ _ _ hz2).trans hQ
        have hb4 : Below w.heap.size w w4 := by rw [← hw4]; exact hb.alloc hb.size _
        have hz4 : w4.heap.size = bp + 1 := by rw [← hw4, ← hbp]; simp
        have HPUQ := Lib.hid (show PAt w4 bp k ∧ UAt w4 w1.heap.size l ∧ QAt w4 w2.heap.size ∧ Below w.heap.size w w4 ∧ w4.heap.size = bp + 1 ∧ w1.heap.size < bp ∧ w2.heap.size < bp from ⟨hP4, hU4, hQ4, hb4, hz4, by omega, by omega⟩)
        by_cases hkK : k = 2
        · subst hkK
          have hcl : ∀ W, Below w4.heap.size w4 W → (W.cell? ⟨bp, 0, none⟩ = some (.int .i64 3) ∧ W.cell? ⟨bp, 1, none⟩ = some (.func (.func 48) #[] #[]) ∧ W.cell? ⟨bp, 2, none⟩ = some (.func (.func 49) #[] #[]) ∧ W.cell? ⟨bp, 3, none⟩ = some (.int .i64 16) ∧ W.cell? ⟨bp, 4, none⟩ = some (.int .i64 1)) ∧ UAt W w1.heap.size l ∧ QAt W w2.heap.size := fun W hW => by
            have hP : PAt W bp 2 := (hW.block _ (by omega)).trans hP4
            exact ⟨hP.cells, (hW.block _ (by omega)).trans hU4, (hW.block _ (by omega)).trans hQ4⟩
          have HCL := Lib.hid hcl
          obtain ⟨⟨m0, m1, m2, m3, m4⟩, hU4', _⟩ := hcl w4.drew (Below.refl _ _).drew
          obtain ⟨u0, u1, u2, u3, u4, u5, u6, u7, u8, u9, uf⟩ := lay_cells hU4'
          have g0 : w4.cell? ⟨bp, 0, none⟩ = some (.int .i64 3) := m0
          have g2 : w4.cell? ⟨bp, 2, none⟩ = some (.func (.func 49) #[] #[]) := m2
          have g4 : w4.cell? ⟨bp, 4, none⟩ = some (.int .i64 1) := m4
          have HNO : Hid (pFirst 2 = 1 ∧ pMany l 2 = l.I) := Lib.hid ⟨rfl, rfl⟩
          have hq0 : wr.cell? ⟨w2.heap.size, 10, none⟩ = some (.int .i64 3) := p0
          have hq1 : wr.cell? ⟨w2.heap.size, 10 + 1, none⟩ = some (.func (.func 48) #[] #[]) := p1
          have hq2 : wr.cell? ⟨w2.heap.size, 10 + 2, none⟩ = some (.func (.func 49) #[] #[]) := p2
          have hq3 : wr.cell? ⟨w2.heap.size, 10 + 3, none⟩ = some (.int .i64 16) := p3
          have hq4 : wr.cell? ⟨w2.heap.size, 10 + 4, none⟩ = some (.int .i64 1) := p4
          have hw4' : wr.alloc (.cells #[.int .i64 3, .func (.func 48) #[] #[], .func (.func 49) #[] #[], .int .i64 16, .int .i64 1] 78) = w4 := hw4
          have hid3 : ∀ v, w4.cell? ⟨bp, 4, none⟩ = some v → w4.setCell ⟨bp, 4, none⟩ v = w4 := fun v hv => setCell_id hP4 (by have := hP4.cells.2.2.2.2; rw [this] at hv; cases hv; rfl)
          have hid4 : w4.setCell ⟨bp, 4, none⟩ (.int .i64 1) = w4 := hid3 _ g4
          have hfz4 : ∀ j, w4.frozen? ⟨bp, j, none⟩ = false := fun j => by simp [World.frozen?, show w4.heap[bp]? = _ from hP4]
          clear hU hQ hb hno hz2 hz3 p0 p1 p2 p3 p4 hw4 hP4 hU4 hQ4 hb4 hz4 hcl hU4' hid3
          go_wp2_with fail
          go_region_held3 (fun w' => w'.cell? ⟨bp, 0, none⟩ = some (.int .i64 3) ∧ w'.cell? ⟨bp, 2, none⟩ = some (.func (.func 49) #[] #[]) ∧ w'.cell? ⟨bp, 4, none⟩ = some (.int .i64 1) ∧ w'.cell? ⟨w1.heap.size, 0, none⟩ = some (.int .i64 l.B) ∧ w'.cell? ⟨w1.heap.size, 1, none⟩ = some (.int .i64 l.I) ∧ w'.cell? ⟨w1.heap.size, 2, none⟩ = some (.int .i64 l.R) ∧ w'.cell? ⟨w1.heap.size, 3, none⟩ = some (.int .i64 l.T) ∧ w'.cell? ⟨w1.heap.size, 4, none⟩ = some (vw l.k0) ∧ w'.cell? ⟨w1.heap.size, 5, none⟩ = some (vw l.k1) ∧ w'.cell? ⟨w1.heap.size, 6, none⟩ = some (.int .i64 l.i) ∧ w'.cell? ⟨w1.heap.size, 7, none⟩ = some (.int .i64 l.r) ∧ w'.cell? ⟨w1.heap.size, 8, none⟩ = some (.int .i64 l.m) ∧ w'.cell? ⟨w1.heap.size, 9, none⟩ = some (.int .i64 l.d))
            (first | exact ⟨m0, m2, m4, u0, u1, u2, u3, u4, u5, u6, u7, u8, u9⟩ | exact ⟨z0, z2, z4, y0, y1, y2, y3, y4, y5, y6, y7, y8, y9⟩)
            (first
            | (go_at_call 49
               refine (p_parts_5 l _).mono ?_
               rintro e w5 ⟨rfl, hb5⟩
               obtain ⟨⟨z0, z1, z2, z3, z4⟩, hU5, hQ5⟩ := HCL.out w5 ((Below.refl _ _).drew.trans hb5)
               obtain ⟨y0, y1, y2, y3, y4, y5, y6, y7, y8, y9, yf⟩ := lay_cells hU5
               have HB5 := Lib.hid ((Below.refl w4.heap.size w4).drew.trans hb5)
               clear hb5 hU5 hQ5)
            | (go_at_call 27
               refine (in_any _ _ _ _).mono ?_
               rintro e w6 ⟨rfl, rfl⟩))
          all_goals
            have HUQ := Lib.hid (And.intro (HCL.out _ HB5.out).2.1 (HCL.out _ HB5.out).2.2)
            have ew : IntKind.i64.wrap (IntKind.i64.wrap (1 + l.I) - 1) = l.I := by rw [IntKind.wrap_i64, IntKind.wrap_i64]; omega
            rw [ew]
            clear ew
            cases hin : inb n 1 l.I
            · clear z0 z1 z2 z3 z4 y0 y1 y2 y3 y4 y5 y6 y7 y8 y9 yf m0 m1 m2 m3 m4 u0 u1 u2 u3 u4 u5 u6 u7 u8 u9 uf g0 g2 g4 hq0 hq1 hq2 hq3 hq4 hw4' hid4 hfz4
              go_wp2_with fail
              go_roundw
              case rel => exact ⟨2 + 1, by omega, by go_num, HUQ.out.1, HUQ.out.2, HPUQ.out.2.2.2.1.trans (HB5.out.mono (by have := HPUQ.out.2.2.2.2.1; have := HPUQ.out.2.2.2.1.size; omega)), fun _ h => inb_false hin (by simp only [pFirst, pMany] at h; omega)⟩
              case measure => simp [intOf]
            · have hin' := inb_true hin
              have hn1 := hin'.1
              have hn2 := hin'.2
              clear hin' m0 m1 m2 m3 m4 u0 u1 u2 u3 u4 u5 u6 u7 u8 u9 uf g0 g2 g4 hq0 hq1 hq2 hq3 hq4 hw4' hid4 hfz4
              go_wp2_with fail
              refine (at_2 l (n - 1) (by have := HBN.out; omega) ⟨by omega, by omega⟩ _).mono ?_
              rintro e w7 ⟨rfl, hb7⟩
              have HB7 := Lib.hid hb7
              clear hb7 z0 z1 z2 z3 z4 y0 y1 y2 y3 y4 y5 y6 y7 y8 y9 yf
              go_wp2_with fail
              go_ret2
              have hp : placeL l 2 n = (l.i * 64 + (n - 1) * 16, 0) := by
                unfold placeL
                rw [if_neg (fun h => h HR.out), if_pos (by simp only [pFirst, pMany]; omega)]
                simp only [pAt, pFrom, pWide, pFirst]
              rw [hp]
              have hsz := HPUQ.out.2.2.2.1.size
              exact ⟨rfl, HPUQ.out.2.2.2.1.trans ((HB5.out.trans (HB7.out.mono HB5.out.size)).mono hsz)⟩
        · have hne : ¬ pKind k = 3 := by unfold pKind; omega
          obtain ⟨m0, m1, m2, m3, m4⟩ := hP4.cells
          obtain ⟨d0, d1, d2, d3, d4⟩ := PAt.cells (W := w4.drew) hP4
          have HNX : Hid (2 < k + 1 → ¬ (pFirst 2 ≤ n ∧ n ≤ pFirst 2 + pMany l 2 - 1)) := Lib.hid (fun h => hno (by omega))
          clear hU hQ hb hno hz2 hz3 hP4 hU4 hQ4 hb4 hz4 hbn1 hbn2 hbn3 hkK
          go_wp2_with fail
          go_quiet (fail)
          go_wp2_with fail
          go_roundw
          case rel => exact ⟨k + 1, by omega, by go_num, HPUQ.out.2.1, HPUQ.out.2.2.1, (let h := HPUQ.out.2.2.2.1; ⟨h.os, h.tape, h.output, h.size, h.block⟩), HNX.out⟩
          case measure => simp [intOf]; omega
      · obtain rfl : k = 6 := by omega
        have HB := Lib.hid hb
        have hp : placeL l 2 n = (0, 4) := by
          unfold placeL
          rw [if_neg (fun h => h HR.out), if_neg (hno (by omega))]
        have HP := Lib.hid hp
        clear hp hno hb hU hQ hbn1 hbn2 hbn3
        go_wp2_with fail
        go_ret2
        rw [HP.out]
        exact ⟨rfl, HB.out⟩

set_option maxRecDepth 100000 in
set_option maxHeartbeats 1000000 in
theorem inode_any (l : Lay) (n : Int) (w : World) : Calls Try.prog 18 #[lv l, .int .i64 n] w fun e w' => e = .returned (.tuple #[.int .i64 (placeL l 2 n).1, .int .i64 (placeL l 2 n).2]) ∧ Below w.heap.size w w' := by
  obtain ⟨wa, hwa, HBA, HZA, HF⟩ := lay_box w l
  obtain ⟨q0, q1, q2, q3, q4, q5, q6, q7, q8, q9, qf⟩ := lay_cells HF.out
  have hra := place_2 l n wa
  unfold lv at hra ⊢
  have HRA := Lib.hid hra
  clear hra
  go_enter Try.func18, Try.ntmps18
  go_wp2_with fail
  refine HRA.out.mono ?_
  rintro e w1 ⟨rfl, hb1⟩
  have HB1 := Lib.hid hb1
  clear hb1
  go_wp2_with fail
  go_ret2
  exact ⟨rfl, HBA.out.trans (HB1.out.mono (by rw [HZA.out]; omega))⟩

set_option maxRecDepth 100000 in
set_option maxHeartbeats 4000000 in
theorem place_3 (l : Lay) (n : Int) (w : World) : Calls Try.prog 32 #[lv l, .int .i64 4, .int .i64 n] w fun e w' => e = .returned (.tuple #[.int .i64 (placeL l 3 n).1, .int .i64 (placeL l 3 n).2]) ∧ Below w.heap.size w w' := by
  obtain ⟨wa, hwa, HBA, HZA, HF⟩ := lay_box w l
  obtain ⟨q0, q1, q2, q3, q4, q5, q6, q7, q8, q9, qf⟩ := lay_cells HF.out
  have hra := right_any l wa
  unfold lv at hra ⊢
  have HRA := Lib.hid hra
  clear hra
  by_cases hr : RightL l
  case neg =>
    have hp : placeL l 3 n = (0, 2) := by unfold placeL; rw [if_pos hr]
    have HP := Lib.hid hp
    have hd : decide (RightL l) = false := decide_eq_false hr
    clear hp hr
    go_enter Try.func32, Try.ntmps32
    go_wp2_with fail
    refine HRA.out.mono ?_
    rintro e w1 ⟨rfl, hb1⟩
    have HB1 := Lib.hid hb1
    clear hb1
    rw [hd]
    clear hd
    go_wp2_with fail
    go_ret2
    rw [HP.out]
    exact ⟨rfl, HBA.out.trans (HB1.out.mono (by rw [HZA.out]; omega))⟩
  case pos =>
    have HR := Lib.hid hr
    have hd : decide (RightL l) = true := decide_eq_true hr
    have HBN := Lib.hid (right_bounds hr)
    clear hr
    go_enter Try.func32, Try.ntmps32
    go_wp2_with fail
    refine HRA.out.mono ?_
    rintro e w1 ⟨rfl, hb1⟩
    rw [hd]
    have hL1 : LayAt w1 w.heap.size l := HF.out.below (by rw [HZA.out]; omega) hb1
    clear q0 q1 q2 q3 q4 q5 q6 q7 q8 q9 qf hwa hd
    obtain ⟨q0, q1, q2, q3, q4, q5, q6, q7, q8, q9, qf⟩ := lay_cells hL1
    have hz1 : w.heap.size < w1.heap.size := hL1.lt
    have hbw1 : Below w.heap.size w w1 := HBA.out.trans (hb1.mono (by rw [HZA.out]; omega))
    obtain ⟨w2, hw2⟩ : ∃ w2, w1.alloc (.cells #[.int .i64 l.B, .int .i64 l.I, .int .i64 l.R, .int .i64 l.T, vw l.k0, vw l.k1, .int .i64 l.i, .int .i64 l.r, .int .i64 l.m, .int .i64 l.d] 73) = w2 := ⟨_, rfl⟩
    have hz2 : w2.heap.size = w1.heap.size + 1 := by rw [← hw2]; simp
    have hU2 : UAt w2 w1.heap.size l := by rw [← hw2]; exact World.alloc_heap_new _ _
    obtain ⟨w3, hw3⟩ : ∃ w3, w2.alloc (.cells (pcs 0 ++ pcs 1 ++ pcs 2 ++ pcs 3 ++ pcs 4 ++ pcs 5).toArray 78) = w3 := ⟨_, rfl⟩
    have hz3 : w3.heap.size = w2.heap.size + 1 := by rw [← hw3]; simp
    have hU3 : UAt w3 w1.heap.size l := by rw [← hw3]; exact (Below.heap_alloc _ _ _ (by omega)).trans hU2
    have hQ3 : QAt w3 w2.heap.size := by rw [← hw3]; exact World.alloc_heap_new _ _
    have hbW : Below w.heap.size w w3 := by
      rw [← hw3, ← hw2]
      exact (hbw1.alloc hbw1.size _).alloc (Nat.le_trans hbw1.size (by simp)) _
    have HS := Lib.hid (show UAt w3 w1.heap.size l ∧ QAt w3 w2.heap.size ∧ Below w.heap.size w w3 from ⟨hU3, hQ3, hbW⟩)
    have HW3 := Lib.hid hw3
    clear hU2 hU3 hQ3 hbW hL1 hb1 hw3 hbw1 hz2 hz3
    go_wp2_with fail
    refine (parts_any w2).mono ?_
    rintro e w3' ⟨rfl, rfl⟩
    rw [HW3.out]
    clear hw2 q0 q1 q2 q3 q4 q5 q6 q7 q8 q9 qf
    go_wp2_with fail
    go_loopw [18] (fun i wr => ∃ k : Nat, k ≤ 6 ∧ i = .int .i64 k ∧ UAt wr w1.heap.size l ∧ QAt wr w2.heap.size ∧ Below w.heap.size w wr ∧ (3 < k → ¬ (pFirst 3 ≤ n ∧ n ≤ pFirst 3 + pMany l 3 - 1))) (fun i _ => 6 - (intOf i).toNat)
    case atStart => exact ⟨0, by omega, rfl, HS.out.1, HS.out.2.1, HS.out.2.2, by omega⟩
    case round =>
      clear HS
      obtain ⟨k, hk, rfl, hU, hQ, hb, hno⟩ := hrel
      have hbn1 := HBN.out.1.2
      have hbn2 := HBN.out.2.1
      have hbn3 := HBN.out.2.2.1
      have hz2 : w2.heap.size < wr.heap.size := (Array.getElem?_eq_some_iff.1 hQ).1
      have hz3 : w1.heap.size < wr.heap.size := (Array.getElem?_eq_some_iff.1 hU).1
      by_cases hk6 : k < 6
      · obtain ⟨p0, p1, p2, p3, p4⟩ := hQ.cells k hk6
        obtain ⟨w4, hw4⟩ : ∃ w4, wr.alloc (.cells #[.int .i64 (pKind k), .func (.func (fromF k)) #[] #[], .func (.func (manyF k)) #[] #[], .int .i64 (pWide k), .int .i64 (pFirst k)] 78) = w4 := ⟨_, rfl⟩
        obtain ⟨bp, hbp⟩ : ∃ bp, wr.heap.size = bp := ⟨_, rfl⟩
        have hP4 : PAt w4 bp k := by rw [← hw4, ← hbp]; exact World.alloc_heap_new _ _
        have hU4 : UAt w4 w1.heap.size l := by rw [← hw4]; exact (Below.heap_alloc _ _ _ hz3).trans hU
        have hQ4 : QAt w4 w2.heap.size := by rw [← hw4]; exact (Below.heap_alloc _ _ _ hz2).trans hQ
        have hb4 : Below w.heap.size w w4 := by rw [← hw4]; exact hb.alloc hb.size _
        have hz4 : w4.heap.size = bp + 1 := by rw [← hw4, ← hbp]; simp
        have HPUQ := Lib.hid (show PAt w4 bp k ∧ UAt w4 w1.heap.size l ∧ QAt w4 w2.heap.size ∧ Below w.heap.size w w4 ∧ w4.heap.size = bp + 1 ∧ w1.heap.size < bp ∧ w2.heap.size < bp from ⟨hP4, hU4, hQ4, hb4, hz4, by omega, by omega⟩)
        by_cases hkK : k = 3
        · subst hkK
          have hcl : ∀ W, Below w4.heap.size w4 W → (W.cell? ⟨bp, 0, none⟩ = some (.int .i64 4) ∧ W.cell? ⟨bp, 1, none⟩ = some (.func (.func 50) #[] #[]) ∧ W.cell? ⟨bp, 2, none⟩ = some (.func (.func 51) #[] #[]) ∧ W.cell? ⟨bp, 3, none⟩ = some (.int .i64 16) ∧ W.cell? ⟨bp, 4, none⟩ = some (.int .i64 1)) ∧ UAt W w1.heap.size l ∧ QAt W w2.heap.size := fun W hW => by
            have hP : PAt W bp 3 := (hW.block _ (by omega)).trans hP4
            exact ⟨hP.cells, (hW.block _ (by omega)).trans hU4, (hW.block _ (by omega)).trans hQ4⟩
          have HCL := Lib.hid hcl
          obtain ⟨⟨m0, m1, m2, m3, m4⟩, hU4', _⟩ := hcl w4.drew (Below.refl _ _).drew
          obtain ⟨u0, u1, u2, u3, u4, u5, u6, u7, u8, u9, uf⟩ := lay_cells hU4'
          have g0 : w4.cell? ⟨bp, 0, none⟩ = some (.int .i64 4) := m0
          have g2 : w4.cell? ⟨bp, 2, none⟩ = some (.func (.func 51) #[] #[]) := m2
          have g4 : w4.cell? ⟨bp, 4, none⟩ = some (.int .i64 1) := m4
          have HNO : Hid (pFirst 3 = 1 ∧ pMany l 3 = l.R) := Lib.hid ⟨rfl, rfl⟩
          have hq0 : wr.cell? ⟨w2.heap.size, 15, none⟩ = some (.int .i64 4) := p0
          have hq1 : wr.cell? ⟨w2.heap.size, 15 + 1, none⟩ = some (.func (.func 50) #[] #[]) := p1
          have hq2 : wr.cell? ⟨w2.heap.size, 15 + 2, none⟩ = some (.func (.func 51) #[] #[]) := p2
          have hq3 : wr.cell? ⟨w2.heap.size, 15 + 3, none⟩ = some (.int .i64 16) := p3
          have hq4 : wr.cell? ⟨w2.heap.size, 15 + 4, none⟩ = some (.int .i64 1) := p4
          have hw4' : wr.alloc (.cells #[.int .i64 4, .func (.func 50) #[] #[], .func (.func 51) #[] #[], .int .i64 16, .int .i64 1] 78) = w4 := hw4
          have hid3 : ∀ v, w4.cell? ⟨bp, 4, none⟩ = some v → w4.setCell ⟨bp, 4, none⟩ v = w4 := fun v hv => setCell_id hP4 (by have := hP4.cells.2.2.2.2; rw [this] at hv; cases hv; rfl)
          have hid4 : w4.setCell ⟨bp, 4, none⟩ (.int .i64 1) = w4 := hid3 _ g4
          have hfz4 : ∀ j, w4.frozen? ⟨bp, j, none⟩ = false := fun j => by simp [World.frozen?, show w4.heap[bp]? = _ from hP4]
          clear hU hQ hb hno hz2 hz3 p0 p1 p2 p3 p4 hw4 hP4 hU4 hQ4 hb4 hz4 hcl hU4' hid3
          go_wp2_with fail
          go_region_held3 (fun w' => w'.cell? ⟨bp, 0, none⟩ = some (.int .i64 4) ∧ w'.cell? ⟨bp, 2, none⟩ = some (.func (.func 51) #[] #[]) ∧ w'.cell? ⟨bp, 4, none⟩ = some (.int .i64 1) ∧ w'.cell? ⟨w1.heap.size, 0, none⟩ = some (.int .i64 l.B) ∧ w'.cell? ⟨w1.heap.size, 1, none⟩ = some (.int .i64 l.I) ∧ w'.cell? ⟨w1.heap.size, 2, none⟩ = some (.int .i64 l.R) ∧ w'.cell? ⟨w1.heap.size, 3, none⟩ = some (.int .i64 l.T) ∧ w'.cell? ⟨w1.heap.size, 4, none⟩ = some (vw l.k0) ∧ w'.cell? ⟨w1.heap.size, 5, none⟩ = some (vw l.k1) ∧ w'.cell? ⟨w1.heap.size, 6, none⟩ = some (.int .i64 l.i) ∧ w'.cell? ⟨w1.heap.size, 7, none⟩ = some (.int .i64 l.r) ∧ w'.cell? ⟨w1.heap.size, 8, none⟩ = some (.int .i64 l.m) ∧ w'.cell? ⟨w1.heap.size, 9, none⟩ = some (.int .i64 l.d))
            (first | exact ⟨m0, m2, m4, u0, u1, u2, u3, u4, u5, u6, u7, u8, u9⟩ | exact ⟨z0, z2, z4, y0, y1, y2, y3, y4, y5, y6, y7, y8, y9⟩)
            (first
            | (go_at_call 51
               refine (p_parts_7 l _).mono ?_
               rintro e w5 ⟨rfl, hb5⟩
               obtain ⟨⟨z0, z1, z2, z3, z4⟩, hU5, hQ5⟩ := HCL.out w5 ((Below.refl _ _).drew.trans hb5)
               obtain ⟨y0, y1, y2, y3, y4, y5, y6, y7, y8, y9, yf⟩ := lay_cells hU5
               have HB5 := Lib.hid ((Below.refl w4.heap.size w4).drew.trans hb5)
               clear hb5 hU5 hQ5)
            | (go_at_call 27
               refine (in_any _ _ _ _).mono ?_
               rintro e w6 ⟨rfl, rfl⟩))
          all_goals
            have HUQ := Lib.hid (And.intro (HCL.out _ HB5.out).2.1 (HCL.out _ HB5.out).2.2)
            have ew : IntKind.i64.wrap (IntKind.i64.wrap (1 + l.R) - 1) = l.R := by rw [IntKind.wrap_i64, IntKind.wrap_i64]; omega
            rw [ew]
            clear ew
            cases hin : inb n 1 l.R
            · clear z0 z1 z2 z3 z4 y0 y1 y2 y3 y4 y5 y6 y7 y8 y9 yf m0 m1 m2 m3 m4 u0 u1 u2 u3 u4 u5 u6 u7 u8 u9 uf g0 g2 g4 hq0 hq1 hq2 hq3 hq4 hw4' hid4 hfz4
              go_wp2_with fail
              go_roundw
              case rel => exact ⟨3 + 1, by omega, by go_num, HUQ.out.1, HUQ.out.2, HPUQ.out.2.2.2.1.trans (HB5.out.mono (by have := HPUQ.out.2.2.2.2.1; have := HPUQ.out.2.2.2.1.size; omega)), fun _ h => inb_false hin (by simp only [pFirst, pMany] at h; omega)⟩
              case measure => simp [intOf]
            · have hin' := inb_true hin
              have hn1 := hin'.1
              have hn2 := hin'.2
              clear hin' m0 m1 m2 m3 m4 u0 u1 u2 u3 u4 u5 u6 u7 u8 u9 uf g0 g2 g4 hq0 hq1 hq2 hq3 hq4 hw4' hid4 hfz4
              go_wp2_with fail
              refine (at_3 l (n - 1) (by have := HBN.out; omega) ⟨by omega, by omega⟩ _).mono ?_
              rintro e w7 ⟨rfl, hb7⟩
              have HB7 := Lib.hid hb7
              clear hb7 z0 z1 z2 z3 z4 y0 y1 y2 y3 y4 y5 y6 y7 y8 y9 yf
              go_wp2_with fail
              go_ret2
              have hp : placeL l 3 n = (l.r * 64 + (n - 1) * 16, 0) := by
                unfold placeL
                rw [if_neg (fun h => h HR.out), if_pos (by simp only [pFirst, pMany]; omega)]
                simp only [pAt, pFrom, pWide, pFirst]
              rw [hp]
              have hsz := HPUQ.out.2.2.2.1.size
              exact ⟨rfl, HPUQ.out.2.2.2.1.trans ((HB5.out.trans (HB7.out.mono HB5.out.size)).mono hsz)⟩
        · have hne : ¬ pKind k = 4 := by unfold pKind; omega
          obtain ⟨m0, m1, m2, m3, m4⟩ := hP4.cells
          obtain ⟨d0, d1, d2, d3, d4⟩ := PAt.cells (W := w4.drew) hP4
          have HNX : Hid (3 < k + 1 → ¬ (pFirst 3 ≤ n ∧ n ≤ pFirst 3 + pMany l 3 - 1)) := Lib.hid (fun h => hno (by omega))
          clear hU hQ hb hno hz2 hz3 hP4 hU4 hQ4 hb4 hz4 hbn1 hbn2 hbn3 hkK
          go_wp2_with fail
          go_quiet (fail)
          go_wp2_with fail
          go_roundw
          case rel => exact ⟨k + 1, by omega, by go_num, HPUQ.out.2.1, HPUQ.out.2.2.1, (let h := HPUQ.out.2.2.2.1; ⟨h.os, h.tape, h.output, h.size, h.block⟩), HNX.out⟩
          case measure => simp [intOf]; omega
      · obtain rfl : k = 6 := by omega
        have HB := Lib.hid hb
        have hp : placeL l 3 n = (0, 4) := by
          unfold placeL
          rw [if_neg (fun h => h HR.out), if_neg (hno (by omega))]
        have HP := Lib.hid hp
        clear hp hno hb hU hQ hbn1 hbn2 hbn3
        go_wp2_with fail
        go_ret2
        rw [HP.out]
        exact ⟨rfl, HB.out⟩

set_option maxRecDepth 100000 in
set_option maxHeartbeats 1000000 in
theorem record_any (l : Lay) (n : Int) (w : World) : Calls Try.prog 19 #[lv l, .int .i64 n] w fun e w' => e = .returned (.tuple #[.int .i64 (placeL l 3 n).1, .int .i64 (placeL l 3 n).2]) ∧ Below w.heap.size w w' := by
  obtain ⟨wa, hwa, HBA, HZA, HF⟩ := lay_box w l
  obtain ⟨q0, q1, q2, q3, q4, q5, q6, q7, q8, q9, qf⟩ := lay_cells HF.out
  have hra := place_3 l n wa
  unfold lv at hra ⊢
  have HRA := Lib.hid hra
  clear hra
  go_enter Try.func19, Try.ntmps19
  go_wp2_with fail
  refine HRA.out.mono ?_
  rintro e w1 ⟨rfl, hb1⟩
  have HB1 := Lib.hid hb1
  clear hb1
  go_wp2_with fail
  go_ret2
  exact ⟨rfl, HBA.out.trans (HB1.out.mono (by rw [HZA.out]; omega))⟩

end Go.Proofs.Ytljegehfdmgcbaa
