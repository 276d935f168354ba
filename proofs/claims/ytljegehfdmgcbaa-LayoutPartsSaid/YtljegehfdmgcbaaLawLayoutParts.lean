/- The walk of the law LayoutParts, where there is a layout and a word. -/
import Derived.Test.YtljegehfdmgcbaaLawLayoutPartsA
namespace Go.Proofs.Ytljegehfdmgcbaa
open Go Go.RowKit
attribute [local go_sem] Oper.semAt_some

set_option maxRecDepth 100000 in
set_option maxHeartbeats 8000000 in
theorem parts_good (B I R T : Int) (k0 k1 : BitVec 64) (word many : Int) (w : World) (hok : OfOk B I R T) (hB : B ≤ 64) (hw0 : 0 ≤ word) (hwB : word < 64 * B) :
    Calls Try.prog 7 #[.agg #[.int .i64 B, .int .i64 I, .int .i64 R, .int .i64 T], .agg #[vw k0, vw k1], .int .i64 word, .int .i64 many] w fun e w' => e = .returned (.bool true) ∧ Below w.heap.size w w' := by
  obtain ⟨wa, hwa, hF, hK, hM, hRb, hbA, hzA⟩ := parts_start w B I R T many k0 k1
  obtain ⟨l, hl⟩ : ∃ l, ofL B I R T k0 k1 = l := ⟨_, rfl⟩
  obtain ⟨no, hno⟩ : ∃ no, ofNo B I R T = no := ⟨_, rfl⟩
  obtain ⟨f0, f1, f2, f3⟩ := hF.cells
  obtain ⟨g0, g1⟩ := hK.cells
  have HA := Lib.hid (And.intro hF (And.intro hM (And.intro hRb (And.intro hbA hzA))))
  have HL := Lib.hid hl
  have HNO := Lib.hid hno
  clear hF hK hbA hzA hl hno hM hRb
  have hno : no = 0 := by rw [← HNO.out]; unfold ofNo; rw [if_pos hok]
  subst hno
  have hr : RightL l := by rw [← HL.out]; exact right_of hok
  have hlB : l.B = B := by rw [← HL.out]; unfold ofL; rw [if_pos hok]
  have hB1 : 32 ≤ B := hok.1.1
  obtain ⟨⟨y1, y2⟩, hy⟩ : ∃ y, refP l word = y := ⟨_, rfl⟩
  have HPART := Lib.hid (show partL l word = ((y1, y2), 0) from by unfold partL; rw [if_neg (fun h => h hr), if_neg (fun h => h ⟨hw0, by rw [hlB]; omega⟩), last_ref hr word hw0 (by rw [hlB]; exact hwB), hy])
  have HR := Lib.hid hr
  have HLB := Lib.hid hlB
  have HY := Lib.hid hy
  clear hok hr hlB hy
  refine (callsIn_wide (n := 0)).1 ?_
  refine callsIn_of_wp_marks Try.func7 rfl trivial ?_ rfl
  simp only [Try.ntmps7, List.size_toArray, List.length_cons, List.length_nil, Nat.reduceAdd, Nat.reduceSub, Array.replicate_succ, Array.replicate_zero, List.push_toArray, List.append_toArray, List.nil_append, List.cons_append]
  refine wpIn_wide.2 ?_
  go_wp2_with fail
  refine (refOf_any B I R T k0 k1 _).mono ?_
  rintro e w1 ⟨rfl, hb1⟩
  rw [HL.out, HNO.out]
  clear hwa f0 f1 f2 f3 g0 g1
  obtain ⟨hF, hM, hRb, hbA, hzA⟩ := HA.out
  obtain ⟨w2, hw2, hl2, hb2⟩ := lay_made w1 l
  have hs1 := hb1.size
  have hb12 : Below wa.heap.size wa w2 := hb1.trans (hb2.mono hb1.size)
  have H2 : Hid (PB w B I R T many w1.heap.size l w2) := Lib.hid ⟨hF.below hF.lt hb12, hM.below hb12 (by omega), hRb.below hb12 (by omega), hl2, hbA.trans (hb12.mono (by omega)), by omega⟩
  have f0 := H2.out.1.cells.1
  clear hF hM hRb hbA hzA hb1 hb2 hs1 hb12 hl2
  unfold lv
  obtain ⟨q0, q1, q2, q3, q4, q5, q6, q7, q8, q9, qf⟩ := lay_cells H2.out.2.2.2.1
  have hpp := part_any l word w2
  unfold lv at hpp
  have HPP := Lib.hid hpp
  clear hpp
  go_wp2_with fail
  refine HPP.out.mono ?_
  rintro e w3 ⟨rfl, hb3⟩
  clear q0 q1 q2 q3 q4 q5 q6 q7 q8 q9 qf hw2 f0
  rw [HPART.out]
  obtain ⟨w4, hw4⟩ : ∃ w4, w3.alloc (.cells #[.int .i64 y1, .int .i64 y2] 46) = w4 := ⟨_, rfl⟩
  have hx4 : w4.heap[w3.heap.size]? = some (.cells #[.int .i64 y1, .int .i64 y2] 46 (0, 0)) := by rw [← hw4]; exact World.alloc_heap_new _ _
  have H4 := Lib.hid (H2.out.go (show Below w2.heap.size w2 w4 by rw [← hw4]; exact hb3.alloc hb3.size _))
  have f0 := H4.out.1.cells.1
  have x0 : w4.cell? ⟨w3.heap.size, 0, none⟩ = some (.int .i64 y1) := by simp [World.cell?, hx4]
  have x1 : w4.cell? ⟨w3.heap.size, 1, none⟩ = some (.int .i64 y2) := by simp [World.cell?, hx4]
  obtain ⟨q0, q1, q2, q3, q4, q5, q6, q7, q8, q9, qf⟩ := lay_cells H4.out.2.2.2.1
  have hrp := refPart_any l HR.out word hw0 (by rw [HLB.out]; exact hwB) w4.drew
  rw [HY.out] at hrp
  unfold lv pv at hrp
  have HRP := Lib.hid hrp
  have HX4 := Lib.hid hx4
  clear hb3 hx4 hrp
  unfold pv
  go_wp2_with fail
  go_region_held3 (fun w' => w'.cell? ⟨w3.heap.size, 0, none⟩ = some (.int .i64 y1) ∧ w'.cell? ⟨w3.heap.size, 1, none⟩ = some (.int .i64 y2) ∧ w'.cell? ⟨w1.heap.size, 0, none⟩ = some (.int .i64 l.B) ∧ w'.cell? ⟨w1.heap.size, 1, none⟩ = some (.int .i64 l.I) ∧ w'.cell? ⟨w1.heap.size, 2, none⟩ = some (.int .i64 l.R) ∧ w'.cell? ⟨w1.heap.size, 3, none⟩ = some (.int .i64 l.T) ∧ w'.cell? ⟨w1.heap.size, 4, none⟩ = some (vw l.k0) ∧ w'.cell? ⟨w1.heap.size, 5, none⟩ = some (vw l.k1) ∧ w'.cell? ⟨w1.heap.size, 6, none⟩ = some (.int .i64 l.i) ∧ w'.cell? ⟨w1.heap.size, 7, none⟩ = some (.int .i64 l.r) ∧ w'.cell? ⟨w1.heap.size, 8, none⟩ = some (.int .i64 l.m) ∧ w'.cell? ⟨w1.heap.size, 9, none⟩ = some (.int .i64 l.d))
    (first | exact ⟨x0, x1, q0, q1, q2, q3, q4, q5, q6, q7, q8, q9⟩ | exact ⟨z0, z1, r0, r1, r2, r3, r4, r5, r6, r7, r8, r9⟩)
    (first
     | (go_at_call 11; refine (num_any13 _ _).mono ?_; rintro e w' ⟨rfl, rfl⟩)
     | (go_at_call 25
        refine HRP.out.mono ?_
        rintro e w5 ⟨rfl, hb5⟩
        have hb45 : Below w4.heap.size w4 w5 := (Below.refl _ w4).drew.trans hb5
        have H5 := Lib.hid (H4.out.go hb45)
        have hx5 : w5.heap[w3.heap.size]? = _ := (hb45.block _ (Array.getElem?_eq_some_iff.1 HX4.out).1).trans HX4.out
        have z0 : w5.cell? ⟨w3.heap.size, 0, none⟩ = some (.int .i64 y1) := by simp [World.cell?, hx5]
        have z1 : w5.cell? ⟨w3.heap.size, 1, none⟩ = some (.int .i64 y2) := by simp [World.cell?, hx5]
        obtain ⟨r0, r1, r2, r3, r4, r5, r6, r7, r8, r9, rf⟩ := lay_cells H5.out.2.2.2.1
        clear hb5 hx5 hb45))
  have H5x := Lib.hid (And.intro H5.out H5.out.2.2.2.1)
  have hps := refParts_any l HR.out w5
  unfold lv at hps
  have HPS := Lib.hid hps
  have HX5 := Lib.hid (And.intro z0 z1)
  clear hps z0 z1 x0 x1 q0 q1 q2 q3 q4 q5 q6 q7 q8 q9 qf f0 hw4
  go_wp2_with fail
  refine HPS.out.mono ?_
  rintro e w6 ⟨qw, dw, qa, da, rfl, hrw, hra, hb6⟩
  obtain ⟨w7, hw7⟩ : ∃ w7, (w6.alloc (.cells #[.slice qw (itemsL l).length dw] 61)).alloc (.cells #[.slice qa (itemsL l).length da] 62) = w7 := ⟨_, rfl⟩
  have hb67 : Below w6.heap.size w6 w7 := by rw [← hw7]; exact ((Below.refl _ _).alloc (Nat.le_refl _) _).alloc (by simp) _
  have hbw : Box w7 w6.heap.size 61 (.slice qw (itemsL l).length dw) := by rw [← hw7]; exact (Box.new _ _ _).alloc _
  have hba : Box w7 (w6.heap.size + 1) 62 (.slice qa (itemsL l).length da) := by
    have := Box.new (w6.alloc (.cells #[.slice qw (itemsL l).length dw] 61)) 62 (.slice qa (itemsL l).length da)
    rw [World.size_alloc] at this
    rw [← hw7]; exact this
  have hz7 : w7.heap.size = w6.heap.size + 2 := by rw [← hw7]; simp
  have H7 := Lib.hid (H5.out.go (hb6.trans (hb67.mono hb6.size)))
  have HRW := Lib.hid (And.intro (hrw.keptB hb67) (And.intro (hra.keptB hb67) (And.intro hbw (And.intro hba hz7))))
  have hlt6 : w1.heap.size < w6.heap.size := Nat.lt_of_lt_of_le H5.out.2.2.2.1.lt hb6.size
  obtain ⟨m0, m1, m2, m3, m4, m5, m6, m7, m8, m9, mf⟩ := lay_cells H7.out.2.2.2.1
  have hea := each13_any l w7
  unfold lv at hea
  have HEA := Lib.hid hea
  clear hrw hra hb6 r0 r1 r2 r3 r4 r5 r6 r7 r8 r9 rf hb67 hbw hba hz7 hea
  go_wp2_with fail
  refine HEA.out.mono ?_
  rintro e w8 ⟨rfl, hL8, hb8⟩
  obtain ⟨W0, hW0⟩ : ∃ W0, w8.alloc (.cells #[.int .i64 0] 3) = W0 := ⟨_, rfl⟩
  obtain ⟨zs, hzs⟩ : ∃ zs, itemsL l = zs := ⟨_, rfl⟩
  have hzl : zs.length ≤ 12288 := by
    rw [← hzs, itemsL_len HR.out]
    have h9 : ∀ k, preL l (k + 1) ≤ preL l k + 2048 := fun k => by rw [preL_succ]; have := pMany_nn HR.out k; omega
    have h0 : preL l 0 = 0 := rfl
    have e0 : preL l 1 ≤ preL l 0 + 2048 := h9 0
    have e1 : preL l 2 ≤ preL l 1 + 2048 := h9 1
    have e2 : preL l 3 ≤ preL l 2 + 2048 := h9 2
    have e3 : preL l 4 ≤ preL l 3 + 2048 := h9 3
    have e4 : preL l 5 ≤ preL l 4 + 2048 := h9 4
    have e5 : preL l 6 ≤ preL l 5 + 2048 := h9 5
    omega
  have hA0 : PL w zs l many w6.heap.size w7.heap.size w8.heap.size qw dw qa da 0 W0 := by
    obtain ⟨hrw, hra, hbw, hba, hz7⟩ := HRW.out
    obtain ⟨_, hbm, hbr, _, hbe, hle⟩ := H7.out
    have hlt8 := hL8.lt
    have hal : Below w8.heap.size w8 W0 := by rw [← hW0]; exact (Below.refl _ _).alloc (Nat.le_refl _) _
    have b70 : Below w7.heap.size w7 W0 := hb8.trans (hal.mono hb8.size)
    have hs7 := b70.size
    have hbx : w8.heap.size < W0.heap.size := by rw [← hW0]; simp
    rw [← hzs]
    exact ⟨⟨hbe.trans (b70.mono (by omega)), by omega⟩, by omega, by omega, by omega, by omega, hbm.below b70 (by omega), hbr.below b70 (by omega), hbw.below b70 (by omega), hba.below b70 (by omega),
      hL8.below hlt8 hal, by rw [← hW0]; exact Box.new _ _ _, (hrw.keptB (b70.mono (by omega))).widen (by omega), (hra.keptB (b70.mono (by omega))).widen (by omega)⟩
  obtain ⟨Bw, hBw⟩ : ∃ Bw, w6.heap.size = Bw := ⟨_, rfl⟩
  obtain ⟨Bs, hBs⟩ : ∃ Bs, w7.heap.size = Bs := ⟨_, rfl⟩
  obtain ⟨b0, hb0⟩ : ∃ b0, w8.heap.size = b0 := ⟨_, rfl⟩
  have hnil := func13_nil
  have HW0 := Lib.hid hW0
  have HZS := Lib.hid hzs
  have HA0 := Lib.hid hA0
  have HBB := Lib.hid (And.intro hBw (And.intro hBs hb0))
  clear hb8 hL8 m0 m1 m2 m3 m4 m5 m6 m7 m8 m9 mf hw7 hW0 hzs hA0 hBw hBs hb0
  go_wp2_with fail
  rw [HW0.out]
  rw [HBB.out.1, HBB.out.2.1, HBB.out.2.2] at HA0
  rw [HZS.out, HBB.out.1, HBB.out.2.1, HBB.out.2.2]
  refine (wpIn_wide (n := 0)).1 ?_
  clear HBB HW0 hnil HEA HRW H7 HPS HX5 H5x H5 HRP HX4 H4 HPP H2 HA HY HPART hlt6
  refine wpIn_loop_rounds 3 ?_
  rw [roundsIn_succ]
  have hc0 : W0.cell? ⟨b0, 0, none⟩ = some (.int .i64 0) := HA0.out.tn.cell
  gi_wp2
  obtain ⟨U0, hU0⟩ : ∃ U, (W0.alloc (Obj.cells #[Value.int IntKind.i64 0] 3)) = U := ⟨_, rfl⟩
  obtain ⟨N0, hN0⟩ : ∃ N, W0.heap.size = N := ⟨_, rfl⟩
  have hV0 : PL w zs l many Bw Bs b0 qw dw qa da 0 U0 := by rw [← hU0]; exact HA0.out.kept (X := fun _ => False) (T := fun _ => False) ((Keep.start _ _).alloc _) (fun _ h => h.elim)
  have hbn0 : Box U0 N0 3 (vnL 0) := by rw [← hU0, ← hN0]; exact Box.new _ _ _
  have hlb0 : b0 < N0 := by rw [← hN0]; exact HA0.out.tn.lt
  have hsU0 : U0.heap.size = N0 + 1 := by rw [← hU0, ← hN0]; simp
  have HV0 := Lib.hid hV0
  have HN0 := Lib.hid hbn0
  have HSU0 := Lib.hid hsU0
  rw [hU0, hN0]
  clear hV0 hbn0 hc0 hU0 hsU0
  have hit0 : Iter Try.prog 33 #[.pointer (some ⟨Bs, 0, none⟩)] (encI zs) (fun b => b = Bs) U0 := by rw [← HZS.out]; exact each13_iter Bs l U0 HV0.out.bs
  refine rf_brk (id := 2) (gf := 33) (lb := #[.pointer (some ⟨Bs, 0, none⟩)]) rfl (enters_of Try.func33 (by kernel_rfl) rfl)
    hit0 (by intro x hx; obtain ⟨y, _, rfl⟩ := List.mem_map.1 hx; rfl) ?hFP0
    (fun k T W => Keep (fun b => b = N0) U0 T W ∧ Box W N0 3 (vnL k) ∧ (k = 0 ∨ (k : Int) < many))
    (fun k T W => Keep (fun b => b = N0) U0 T W ∧ Box W N0 3 (vnL k) ∧ many ≤ k ∧ (k = 1 ∨ (k : Int) ≤ many)) ?hJ0 ?hJb0
    (fun D W => PL w zs l many Bw Bs b0 qw dw qa da 0 W ∧ (∃ m, Box W N0 3 (vnL m) ∧ LeaveAtL many zs.length m) ∧ N0 < D ∧ W.heap[D]? = some (.deferred (some [])) ∧ Frn (fun b => b = N0) U0 W)
    ?h00 ?hround0 ?hdone0 ?hstop0 ?hrest0
  case hFP0 =>
    rintro b rfl
    exact HV0.out.bs.lt
  case hJ0 =>
    rintro k T W W' ⟨h1, h2, h3⟩ hf
    exact ⟨h1.go hf, h2.kept (h1.own hf HN0.out.lt), h3⟩
  case hJb0 =>
    rintro k T W W' ⟨h1, h2, h3⟩ hf
    exact ⟨h1.go hf, h2.kept (h1.own hf HN0.out.lt), h3⟩
  case h00 => exact ⟨Keep.start _ _, HN0.out, .inl rfl⟩
  case hround0 =>
    clear hit0
    rintro l' k hk T W ⟨hs, hbox, hmk⟩ hTl hTW hkW
    have hk' : k < zs.length := by simpa [encI] using hk
    rw [encI_get]
    obtain ⟨y, hy⟩ : ∃ y, zs[k] = y := ⟨_, rfl⟩
    rw [hy]
    obtain ⟨y1', y2, y3⟩ := y
    unfold itA
    simp only
    gi_wp2
    have hWa : Kps (fun b => b = Bs ∨ T b) W (W.alloc (.cells #[.int .i64 y2, .int .i64 y3] 46)) := (Kps.refl _ _).alloc _
    refine ⟨hWa, fun W2 hf hsz hk2 _ => ?_⟩
    have hs1 := hs.alloc (.cells #[.int .i64 y2, .int .i64 y3] 46)
    have hs2 := hs1.goSame hf hsz
    have hbox2 : Box W2 N0 3 (vnL k) := (hbox.alloc (.cells #[.int .i64 y2, .int .i64 y3] 46)).kept (hs1.own hf HN0.out.lt)
    have hx2 : W2.heap[W.heap.size]? = some (.cells #[.int .i64 y2, .int .i64 y3] 46 (0, 0)) := (hf.block _ (by simp) (fun ht => Nat.lt_irrefl _ (hTW _ ht))).trans (World.alloc_heap_new W _)
    have hx0 : W2.cell? ⟨W.heap.size, 0, none⟩ = some (.int .i64 y2) := by simp [World.cell?, hx2]
    have hx1 : W2.cell? ⟨W.heap.size, 1, none⟩ = some (.int .i64 y3) := by simp [World.cell?, hx2]
    have hA2 := HV0.out.kept hs2 (by rintro b rfl; omega)
    have hcn : W2.cell? ⟨N0, 0, none⟩ = some (.int .i64 (k : Int)) := hbox2.cell
    have hcw := hA2.bw.cell
    have hca := hA2.ba.cell
    have hct : W2.cell? ⟨b0, 0, none⟩ = some (.int .i64 0) := hA2.tn.cell
    have hcm := hA2.bm.cell
    obtain ⟨⟨ob, off, hpo, hob, hcx, hcy⟩, oa, ofa, hpa, hoa, hcz⟩ := hA2.at2 k hk'
    rw [hpo] at hcw
    rw [hpa] at hca
    rw [hy] at hcx hcy hcz
    simp only at hcx hcy hcz
    have hnf : ¬ (N0 = Bs) ∧ ¬ T N0 := ⟨by have := HA0.out.lts; omega, hs2.notT (by have := HSU0.out; omega)⟩
    have hks : ∀ nq u, Kps (fun b => b = Bs ∨ T b) W2 ((W2.drewN nq).setCell ⟨N0, 0, none⟩ u) := by
      intro nq u
      have h0 : Kps (fun b => b = Bs ∨ T b) W2 (W2.drewN nq) := ⟨rfl, rfl, rfl, Nat.le_refl _, fun _ _ _ => rfl⟩
      exact h0.trans (kps_set ⟨N0, 0, none⟩ hnf.1 hnf.2 _)
    have HS2 := Lib.hid hs2
    have HB2 := Lib.hid hbox2
    have HF2 := Lib.hid (And.intro hcm hct)
    have hk3 : (k : Int) < (zs.length : Int) := by omega
    have hk4 : (k : Int) ≤ 12288 := by omega
    have hle5 : decide (zs.length ≤ k) = false := decide_eq_false (by omega)
    have hne2 : b0 ≠ N0 := by omega
    have hne3 : w.heap.size + 2 ≠ N0 := by have := HA0.out.lw; have := HA0.out.ltw; omega
    have hpn := part_neq y2 y3
    have hq1 : ∀ n, (W2.drewN n).rangeAt W.heap.size 0 [.int .i64 y2, .int .i64 y3] := fun n => rangeAt2 hx0 hx1
    have hq2 : ∀ n, (W2.drewN n).rangeAt ob (off + k * 2) [.int .i64 y2, .int .i64 y3] := fun n => rangeAt2 hcx hcy
    have HQ := Lib.hid (And.intro hq1 hq2)
    clear hf hkW hk2 hs hs1 hbox hs2 hbox2 hA2 hWa hx2 hpo hpa hsz hnf hq1 hq2
    gi_wp2
    refine wpIn_region_quietR_lit (by kernel_rfl) (by kernel_rfl) (by kernel_rfl) ?_
    repeat (gi_big_quiet_step (fail))
    refine wpQuietIn_nil ?_
    rintro _ ⟨nq, rfl⟩
    clear hcn hct hcm hcw hca hcx hcy hcz hx0 hx1 hpn HQ
    have hfz : (W2.drewN nq).frozen? ⟨N0, 0, none⟩ = false := HB2.out.free
    have hcn : (W2.drewN nq).cell? ⟨N0, 0, none⟩ = some (.int .i64 (k : Int)) := HB2.out.cell
    have hcm : (W2.drewN nq).cell? ⟨w.heap.size + 2, 0, none⟩ = some (.int .i64 many) := HF2.out.1
    have hct : (W2.drewN nq).cell? ⟨b0, 0, none⟩ = some (.int .i64 0) := HF2.out.2
    by_cases hm : many ≤ (k : Int) + 1
    · skip
      gi_wp2
      refine ⟨⟨rfl, ((HS2.out.drewN nq : Keep (fun b => b = N0) U0 T (W2.drewN nq))).set ⟨N0, 0, none⟩ (.inl rfl) _, ?_, by omega⟩, ?_⟩
      · have := ((show Box (W2.drewN nq) N0 3 (vnL k) from HB2.out).set (vnL (k + 1)))
        have e : Value.int IntKind.i64 ((k : Int) + 1) = vnL (k + 1) := by simp [vnL]
        rw [e]; exact this
      · exact hks nq _
    · skip
      gi_wp2
      refine ⟨⟨((HS2.out.drewN nq : Keep (fun b => b = N0) U0 T (W2.drewN nq))).set ⟨N0, 0, none⟩ (.inl rfl) _, ?_, .inr (by omega)⟩, ?_⟩
      · have := ((show Box (W2.drewN nq) N0 3 (vnL k) from HB2.out).set (vnL (k + 1)))
        have e : Value.int IntKind.i64 ((k : Int) + 1) = vnL (k + 1) := by simp [vnL]
        rw [e]; exact this
      · exact hks nq _
  case hdone0 =>
    rintro D T W ⟨hs, hbox, hmk⟩ hTD hTW hkW hD hK
    rw [encI_len] at hbox hmk
    have hD' : N0 + 1 ≤ D := by rw [← HSU0.out]; exact hD
    refine ⟨HV0.out.kept hs (by rintro b rfl; omega), ⟨_, hbox, by unfold LeaveAtL; omega⟩, by omega, hK, hs.frn⟩
  case hstop0 =>
    rintro D k T W hk hk1 ⟨hs, hbox, hmk⟩ hTD hTW hkW hD hK
    rw [encI_len] at hk
    have hD' : N0 + 1 ≤ D := by rw [← HSU0.out]; exact hD
    exact ⟨HV0.out.kept hs (by rintro b rfl; omega), ⟨_, hbox, by unfold LeaveAtL; omega⟩, by omega, hK, hs.frn⟩
  rintro D0 V1 ⟨hA1, ⟨m0, hN1', hmm⟩, hD0, hK0, hF0⟩
  clear hit0
  have hc1 : V1.cell? ⟨b0, 0, none⟩ = some (.int .i64 0) := hA1.tn.cell
  have hc2 := hA1.bm.cell
  have hc3 := hA1.bw.cell
  have hc4 : V1.cell? ⟨N0, 0, none⟩ = some (.int .i64 (m0 : Int)) := hN1'.cell
  have HA := Lib.hid hA1
  have HF0 := Lib.hid hF0
  have HM := Lib.hid hmm
  clear hA1 hN1' hF0 hmm
  gi_upto_region 24 with fail
  gi_cut [135] from 115 (fun s135 wx => s135 = .bool false ∧ wx = V1)
  case first =>
    skip
    skip
    gi_wp2
    all_goals first
      | (gi_meet; exact ⟨rfl, rfl⟩)
      | (exfalso; have hmm := HM.out; unfold LeaveAtL at hmm; omega)
  obtain ⟨rfl, rfl⟩ := hcut
  gi_wp2
  clear hc1 hc2 hc3 hc4
  obtain ⟨V1', hW1⟩ : ∃ V', wc.alloc (Obj.cells #[Value.int IntKind.i64 1] 3) = V' := ⟨_, rfl⟩
  have hA1 : PL w zs l many Bw Bs wc.heap.size qw dw qa da 1 V1' := by rw [← hW1]; exact HA.out.next 1
  have hle0 : wc.heap.size + 1 = V1'.heap.size := by rw [← hW1, World.size_alloc]
  have hk0 : V1'.heap[D0]? = some (.deferred (some [])) := by rw [← hW1]; exact (Below.heap_alloc wc _ _ (Array.getElem?_eq_some_iff.1 hK0).1).trans hK0
  skip
  rw [hW1]
  obtain ⟨b1, hb1⟩ : ∃ b, wc.heap.size = b := ⟨_, rfl⟩
  rw [hb1] at hA1 hle0 ⊢
  have hD0' : D0 < b1 := by have := (Array.getElem?_eq_some_iff.1 hK0).1; omega
  have HA1 := Lib.hid hA1
  have HK0 := Lib.hid hk0
  clear hW1 HA hK0 hk0 
  clear hb1
  clear HF0 HM
  rw [roundsIn_succ]
  have hc1 : V1'.cell? ⟨b1, 0, none⟩ = some (.int .i64 1) := HA1.out.tn.cell
  gi_wp2
  obtain ⟨U1, hU1⟩ : ∃ U, (V1'.alloc (Obj.cells #[Value.int IntKind.i64 0] 3)) = U := ⟨_, rfl⟩
  obtain ⟨N1, hN1⟩ : ∃ N, V1'.heap.size = N := ⟨_, rfl⟩
  have hV1 : PL w zs l many Bw Bs b1 qw dw qa da 1 U1 := by rw [← hU1]; exact HA1.out.kept (X := fun _ => False) (T := fun _ => False) ((Keep.start _ _).alloc _) (fun _ h => h.elim)
  have hbn1 : Box U1 N1 3 (vnL 0) := by rw [← hU1, ← hN1]; exact Box.new _ _ _
  have hlb1 : b1 < N1 := by rw [← hN1]; exact HA1.out.tn.lt
  have hsU1 : U1.heap.size = N1 + 1 := by rw [← hU1, ← hN1]; simp
  have HKU := Lib.hid (show U1.heap[D0]? = some (.deferred (some [])) from by rw [← hU1]; exact (Below.heap_alloc _ _ _ (Array.getElem?_eq_some_iff.1 HK0.out).1).trans HK0.out)
  have HV1 := Lib.hid hV1
  have HN1 := Lib.hid hbn1
  have HSU1 := Lib.hid hsU1
  rw [hU1, hN1]
  clear hV1 hbn1 hc1 hU1 hsU1
  have hit1 : Iter Try.prog 33 #[.pointer (some ⟨Bs, 0, none⟩)] (encI zs) (fun b => b = Bs) U1 := by rw [← HZS.out]; exact each13_iter Bs l U1 HV1.out.bs
  refine rf_brk (id := 2) (gf := 33) (lb := #[.pointer (some ⟨Bs, 0, none⟩)]) rfl (enters_of Try.func33 (by kernel_rfl) rfl)
    hit1 (by intro x hx; obtain ⟨y, _, rfl⟩ := List.mem_map.1 hx; rfl) ?hFP1
    (fun k T W => Keep (fun b => b = N1) U1 T W ∧ Box W N1 3 (vnL k) ∧ True)
    (fun k T W => Keep (fun b => b = N1) U1 T W ∧ Box W N1 3 (vnL k) ∧ False) ?hJ1 ?hJb1
    (fun D W => PL w zs l many Bw Bs b1 qw dw qa da 1 W ∧ (∃ m, Box W N1 3 (vnL m) ∧ m = zs.length) ∧ N1 < D ∧ W.heap[D]? = some (.deferred (some [])) ∧ Frn (fun b => b = N1) U1 W)
    ?h01 ?hround1 ?hdone1 ?hstop1 ?hrest1
  case hFP1 =>
    rintro b rfl
    exact HV1.out.bs.lt
  case hJ1 =>
    rintro k T W W' ⟨h1, h2, h3⟩ hf
    exact ⟨h1.go hf, h2.kept (h1.own hf HN1.out.lt), h3⟩
  case hJb1 =>
    rintro k T W W' ⟨h1, h2, h3⟩ hf
    exact ⟨h1.go hf, h2.kept (h1.own hf HN1.out.lt), h3⟩
  case h01 => exact ⟨Keep.start _ _, HN1.out, trivial⟩
  case hround1 =>
    clear hit1
    rintro l' k hk T W ⟨hs, hbox, hmk⟩ hTl hTW hkW
    have hk' : k < zs.length := by simpa [encI] using hk
    rw [encI_get]
    obtain ⟨y, hy⟩ : ∃ y, zs[k] = y := ⟨_, rfl⟩
    rw [hy]
    obtain ⟨y1', y2, y3⟩ := y
    unfold itA
    simp only
    gi_wp2
    have hWa : Kps (fun b => b = Bs ∨ T b) W (W.alloc (.cells #[.int .i64 y2, .int .i64 y3] 46)) := (Kps.refl _ _).alloc _
    refine ⟨hWa, fun W2 hf hsz hk2 _ => ?_⟩
    have hs1 := hs.alloc (.cells #[.int .i64 y2, .int .i64 y3] 46)
    have hs2 := hs1.goSame hf hsz
    have hbox2 : Box W2 N1 3 (vnL k) := (hbox.alloc (.cells #[.int .i64 y2, .int .i64 y3] 46)).kept (hs1.own hf HN1.out.lt)
    have hx2 : W2.heap[W.heap.size]? = some (.cells #[.int .i64 y2, .int .i64 y3] 46 (0, 0)) := (hf.block _ (by simp) (fun ht => Nat.lt_irrefl _ (hTW _ ht))).trans (World.alloc_heap_new W _)
    have hx0 : W2.cell? ⟨W.heap.size, 0, none⟩ = some (.int .i64 y2) := by simp [World.cell?, hx2]
    have hx1 : W2.cell? ⟨W.heap.size, 1, none⟩ = some (.int .i64 y3) := by simp [World.cell?, hx2]
    have hA2 := HV1.out.kept hs2 (by rintro b rfl; omega)
    have hcn : W2.cell? ⟨N1, 0, none⟩ = some (.int .i64 (k : Int)) := hbox2.cell
    have hcw := hA2.bw.cell
    have hca := hA2.ba.cell
    have hct : W2.cell? ⟨b1, 0, none⟩ = some (.int .i64 1) := hA2.tn.cell
    have hcm := hA2.bm.cell
    obtain ⟨⟨ob, off, hpo, hob, hcx, hcy⟩, oa, ofa, hpa, hoa, hcz⟩ := hA2.at2 k hk'
    rw [hpo] at hcw
    rw [hpa] at hca
    rw [hy] at hcx hcy hcz
    simp only at hcx hcy hcz
    have hnf : ¬ (N1 = Bs) ∧ ¬ T N1 := ⟨by have := HA1.out.lts; omega, hs2.notT (by have := HSU1.out; omega)⟩
    have hks : ∀ nq u, Kps (fun b => b = Bs ∨ T b) W2 ((W2.drewN nq).setCell ⟨N1, 0, none⟩ u) := by
      intro nq u
      have h0 : Kps (fun b => b = Bs ∨ T b) W2 (W2.drewN nq) := ⟨rfl, rfl, rfl, Nat.le_refl _, fun _ _ _ => rfl⟩
      exact h0.trans (kps_set ⟨N1, 0, none⟩ hnf.1 hnf.2 _)
    have HS2 := Lib.hid hs2
    have HB2 := Lib.hid hbox2
    have HF2 := Lib.hid (And.intro hcm hct)
    have hk3 : (k : Int) < (zs.length : Int) := by omega
    have hk4 : (k : Int) ≤ 12288 := by omega
    have hle5 : decide (zs.length ≤ k) = false := decide_eq_false (by omega)
    have hne2 : b1 ≠ N1 := by omega
    have hne3 : w.heap.size + 2 ≠ N1 := by have := HA1.out.lw; have := HA1.out.ltw; omega
    have hpn := part_neq y2 y3
    have hq1 : ∀ n, (W2.drewN n).rangeAt W.heap.size 0 [.int .i64 y2, .int .i64 y3] := fun n => rangeAt2 hx0 hx1
    have hq2 : ∀ n, (W2.drewN n).rangeAt ob (off + k * 2) [.int .i64 y2, .int .i64 y3] := fun n => rangeAt2 hcx hcy
    have HQ := Lib.hid (And.intro hq1 hq2)
    clear hf hkW hk2 hs hs1 hbox hs2 hbox2 hA2 hWa hx2 hpo hpa hsz hnf hq1 hq2
    gi_wp2
    refine wpIn_region_quietR_lit (by kernel_rfl) (by kernel_rfl) (by kernel_rfl) ?_
    repeat (gi_big_quiet_step (fail))
    refine wpQuietIn_nil ?_
    rintro _ ⟨nq, rfl⟩
    clear hcn hct hcm hcw hca hcx hcy hcz hx0 hx1 hpn HQ
    have hfz : (W2.drewN nq).frozen? ⟨N1, 0, none⟩ = false := HB2.out.free
    have hcn : (W2.drewN nq).cell? ⟨N1, 0, none⟩ = some (.int .i64 (k : Int)) := HB2.out.cell
    have hcm : (W2.drewN nq).cell? ⟨w.heap.size + 2, 0, none⟩ = some (.int .i64 many) := HF2.out.1
    have hct : (W2.drewN nq).cell? ⟨b1, 0, none⟩ = some (.int .i64 1) := HF2.out.2
    gi_wp2
    refine ⟨⟨((HS2.out.drewN nq : Keep (fun b => b = N1) U1 T (W2.drewN nq))).set ⟨N1, 0, none⟩ (.inl rfl) _, ?_, trivial⟩, ?_⟩
    · have := ((show Box (W2.drewN nq) N1 3 (vnL k) from HB2.out).set (vnL (k + 1)))
      have e : Value.int IntKind.i64 ((k : Int) + 1) = vnL (k + 1) := by simp [vnL]
      rw [e]; exact this
    · exact hks nq _
  case hdone1 =>
    rintro D T W ⟨hs, hbox, hmk⟩ hTD hTW hkW hD hK
    rw [encI_len] at hbox
    have hD' : N1 + 1 ≤ D := by rw [← HSU1.out]; exact hD
    refine ⟨HV1.out.kept hs (by rintro b rfl; omega), ⟨_, hbox, rfl⟩, by omega, hK, hs.frn⟩
  case hstop1 =>
    rintro D k T W hk hk1 ⟨hs, hbox, hmk⟩ hTD hTW hkW hD hK
    exact hmk.elim
  rintro D1 V2 ⟨hA2, ⟨m1, hN2', hmm⟩, hD1, hK1, hF1⟩
  clear hit1
  have hc1 : V2.cell? ⟨b1, 0, none⟩ = some (.int .i64 1) := hA2.tn.cell
  have hc2 := hA2.bm.cell
  have hc3 := hA2.bw.cell
  have hc4 : V2.cell? ⟨N1, 0, none⟩ = some (.int .i64 (m1 : Int)) := hN2'.cell
  have HA := Lib.hid hA2
  have HF1 := Lib.hid hF1
  have HM := Lib.hid hmm
  clear hA2 hN2' hF1 hmm
  gi_upto_region 24 with fail
  gi_cut [135] from 115 (fun s135 wx => s135 = .bool false ∧ wx = V2)
  case first =>
    have hz : m1 = zs.length := HM.out
    subst hz
    gi_wp2
    all_goals first
      | (gi_meet; exact ⟨rfl, rfl⟩)
      | (exfalso; have hmm := HM.out; unfold LeaveAtL at hmm; omega)
  obtain ⟨rfl, rfl⟩ := hcut
  gi_wp2
  clear hc1 hc2 hc3 hc4
  obtain ⟨V2', hW2⟩ : ∃ V', wc.alloc (Obj.cells #[Value.int IntKind.i64 2] 3) = V' := ⟨_, rfl⟩
  have hA2 : PL w zs l many Bw Bs wc.heap.size qw dw qa da 2 V2' := by rw [← hW2]; exact HA.out.next 2
  have hle1 : wc.heap.size + 1 = V2'.heap.size := by rw [← hW2, World.size_alloc]
  have hk1 : V2'.heap[D1]? = some (.deferred (some [])) := by rw [← hW2]; exact (Below.heap_alloc wc _ _ (Array.getElem?_eq_some_iff.1 hK1).1).trans hK1
  have hk0' : V2'.heap[D0]? = some (.deferred (some [])) := by rw [← hW2]; exact (Below.heap_alloc wc _ _ (Nat.lt_of_lt_of_le (by have := HSU1.out; omega) HF1.out.size)).trans ((HF1.out.block D0 (by have := HSU1.out; omega) (by intro h; omega)).trans HKU.out)
  rw [hW2]
  obtain ⟨b2, hb2⟩ : ∃ b, wc.heap.size = b := ⟨_, rfl⟩
  rw [hb2] at hA2 hle1 ⊢
  have hD1' : D1 < b2 := by have := (Array.getElem?_eq_some_iff.1 hK1).1; omega
  have HA2 := Lib.hid hA2
  have HK1 := Lib.hid hk1
  clear hW2 HA hK1 hk1 HK0
  clear hb2
  clear HF1 HM
  rw [roundsIn_succ]
  have hc2 : V2'.cell? ⟨b2, 0, none⟩ = some (.int .i64 2) := HA2.out.tn.cell
  skip
  have HK0 := Lib.hid hk0'
  clear hk0'
  have e1 : D1 ≠ w.heap.size + 3 := by have := HA1.out.lw; have := HA1.out.ltw; omega
  have e0 : D0 ≠ w.heap.size + 3 := by have := HA0.out.lw; have := HA0.out.ltw; omega
  have fin : ∀ w4, Below V2'.heap.size V2' w4 → (w4.cell? ⟨w.heap.size + 3, 0, none⟩ = some (.bool false) ∧ w4.frozen? ⟨w.heap.size + 3, 0, none⟩ = false) ∧
      (w4.setCell ⟨w.heap.size + 3, 0, none⟩ (.bool true)).heap[D1]? = some (.deferred (some [])) ∧ (w4.setCell ⟨w.heap.size + 3, 0, none⟩ (.bool true)).heap[D0]? = some (.deferred (some [])) ∧
      (((w4.setCell ⟨w.heap.size + 3, 0, none⟩ (.bool true)).putObj D1 (.deferred none)).putObj D0 (.deferred none)).cell? ⟨w.heap.size + 3, 0, none⟩ = some (.bool true) ∧
      Below w.heap.size w (((w4.setCell ⟨w.heap.size + 3, 0, none⟩ (.bool true)).putObj D1 (.deferred none)).putObj D0 (.deferred none)) := by
    intro w4 hb4
    have hbr4 := HA2.out.br.below hb4 HA2.out.br.lt
    have hkD : ∀ D, D < V2'.heap.size → D ≠ w.heap.size + 3 → (w4.setCell ⟨w.heap.size + 3, 0, none⟩ (.bool true)).heap[D]? = V2'.heap[D]? := fun D hD hne =>
      (Below.heap_setCell w4 ⟨w.heap.size + 3, 0, none⟩ _ D hne).trans (hb4.block D hD)
    have hw : Below w.heap.size w (w4.setCell ⟨w.heap.size + 3, 0, none⟩ (.bool true)) := (HA2.out.at_.below hb4).1.setCell (p := ⟨w.heap.size + 3, 0, none⟩) (by simp) _
    have hbF := hbr4.set (.bool true)
    refine ⟨⟨hbr4.cell, hbr4.free⟩, (hkD D1 (by omega) e1).trans HK1.out, (hkD D0 (by omega) e0).trans HK0.out, ?_, ?_⟩
    · exact (cell_putObj (D := D0) (B := w.heap.size + 3) (o := .deferred none) e0 0).trans ((cell_putObj (o := .deferred none) e1 0).trans hbF.cell)
    · exact below_putObj (below_putObj hw (by have := HA1.out.lw; have := HA1.out.ltw; omega) _) (by have := HA0.out.lw; have := HA0.out.ltw; omega) _
  have FIN := Lib.hid fin
  clear fin
  gi_wp2
  go_wp2_with fail
  refine (works13_any V2').mono ?_
  rintro e w9 ⟨rfl, hb9⟩
  have HB9 := Lib.hid hb9
  obtain ⟨⟨hc9, hf9⟩, _⟩ := FIN.out w9 HB9.out
  clear hb9
  go_wp2_with fail
  obtain ⟨_, hd1, hd0, hc, hw⟩ := FIN.out w9 HB9.out
  exact leave2 rfl hd1 hd0 (by omega) (results_cell1 rfl _ _ rfl (v := .bool true) (by simp [go_sem, hc])) ⟨rfl, hw⟩

theorem lawLayoutParts (B I R T : Int) (k0 k1 : BitVec 64) (word many : Int) (w : World) :
    Calls Try.prog 7 #[.agg #[.int .i64 B, .int .i64 I, .int .i64 R, .int .i64 T], .agg #[vw k0, vw k1], .int .i64 word, .int .i64 many] w fun e w' => e = .returned (.bool true) ∧ Below w.heap.size w w' := by
  by_cases h : OfOk B I R T ∧ B ≤ 64
  · by_cases h2 : 0 ≤ word ∧ word < 64 * B
    · exact parts_good B I R T k0 k1 word many w h.1 h.2 h2.1 h2.2
    · exact parts_far B I R T k0 k1 word many w h.1 h.2 h2
  · exact parts_bad B I R T k0 k1 word many w h
end Go.Proofs.Ytljegehfdmgcbaa
