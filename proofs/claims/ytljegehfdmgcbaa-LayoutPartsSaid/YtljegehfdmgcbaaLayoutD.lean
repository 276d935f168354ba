/- The walks of padded, Super, the reference's Super. -/
import Derived.Test.YtljegehfdmgcbaaLayoutC
import Derived.Test.YtljegehfdmgcbaaAppZ
import Derived.Test.YtljegehfdmgcbaaSumD
namespace Go.Proofs.Ytljegehfdmgcbaa
open Go Go.RowKit

def ofw (n : Int) : BitVec 64 := BitVec.ofInt 64 n
theorem vw_ofw {n : Int} (h : 0 ≤ n) (h2 : n ≤ 9223372036854775807) : vw (ofw n) = .int .u64 n := by
  unfold vw ofw
  rw [BitVec.toNat_ofInt]
  congr 1
  omega
def superW (l : Lay) : List (BitVec 64) := [0x31574f5247444548#64, ofw l.B, ofw l.I, ofw l.R, ofw l.T, l.k0, l.k1]
def superL (l : Lay) : List (BitVec 64) := sealL (superW l) ++ List.replicate 56 0#64
theorem superL_len (l : Lay) : (superL l).length = 64 := by simp [superL, sealL, superW]

set_option maxHeartbeats 1000000 in
theorem padded_any (base g cap : Nat) (l : Lay) (w : World) (hown : w.ownsRow base 24 1 (.slice (some ⟨g, 0, none⟩) 8 cap) 8 ((sealL (superW l)).map vw)) (hbase : base ≤ w.heap.size) (hg : base ≤ g) :
    Calls Try.prog 29 #[.slice (some ⟨g, 0, none⟩) 8 cap] w fun e w' => ∃ v, e = .returned v ∧ w'.ownsRow base 24 1 v 64 ((superL l).map vw) ∧ Below base w w' := by
  have HO := Lib.hid hown
  clear hown
  go_enter Try.func29, Try.ntmps29
  go_wp2_with (at_builtin; refine wpList_append_zeros rfl _ _ _ _ rfl .i64 .i64 elem_u64 Try.underlying3 rfl rfl base g cap 8 _ rfl HO.out 56 rfl (by omega) (by omega) (by omega) hbase ?_
               intro v w1 hown1 hgr)
  go_ret
  have e1 : (superL l).map vw = (sealL (superW l)).map vw ++ List.replicate 56 (.int .u64 0) := by
    unfold superL
    rw [List.map_append, List.map_replicate]
    rfl
  rw [e1]
  exact ⟨v, rfl, hown1, (Below.refl _ _).grown hgr hbase (fun k hk => by cases hk; exact hg)⟩

/-- The seven words of a super block in a new block. -/
theorem super_row (w : World) (l : Lay) (h : RightL l) : RdL (w.heap.size + 1) (w.alloc (.cells #[.int .u64 3555397645633865032, .int .u64 l.B, .int .u64 l.I, .int .u64 l.R, .int .u64 l.T, vw l.k0, vw l.k1] 24)) (some ⟨w.heap.size, 0, none⟩) 7 vw (superW l) := by
  obtain ⟨⟨h1, h2, h3, h4, h5⟩, _⟩ := h
  have hh := World.alloc_heap_new w (.cells #[.int .u64 3555397645633865032, .int .u64 l.B, .int .u64 l.I, .int .u64 l.R, .int .u64 l.T, vw l.k0, vw l.k1] 24)
  have eB : vw (ofw l.B) = .int .u64 l.B := vw_ofw (by omega) (by omega)
  have eI : vw (ofw l.I) = .int .u64 l.I := vw_ofw (by omega) (by omega)
  have eR : vw (ofw l.R) = .int .u64 l.R := vw_ofw (by omega) (by omega)
  have eT : vw (ofw l.T) = .int .u64 l.T := vw_ofw (by omega) (by omega)
  have e0 : vw 0x31574f5247444548#64 = .int .u64 3555397645633865032 := rfl
  generalize w.alloc (.cells #[.int .u64 3555397645633865032, .int .u64 l.B, .int .u64 l.I, .int .u64 l.R, .int .u64 l.T, vw l.k0, vw l.k1] 24) = W at hh ⊢
  have hc : ∀ j, W.cell? ⟨w.heap.size, j, none⟩ = #[Value.int .u64 3555397645633865032, .int .u64 l.B, .int .u64 l.I, .int .u64 l.R, .int .u64 l.T, vw l.k0, vw l.k1][j]? := fun j => by simp [World.cell?, hh]
  refine ⟨by simp [superW], by simp [maxLen], .inr ⟨w.heap.size, 0, rfl, by omega, fun i hi => ?_⟩⟩
  have hi7 : i < 7 := by simpa [superW] using hi
  rcases (show i = 0 ∨ i = 1 ∨ i = 2 ∨ i = 3 ∨ i = 4 ∨ i = 5 ∨ i = 6 by omega) with rfl | rfl | rfl | rfl | rfl | rfl | rfl <;> rw [hc] <;> simp only [superW, List.getElem_cons_zero, List.getElem_cons_succ, e0, eB, eI, eR, eT] <;> rfl

set_option maxRecDepth 100000 in
set_option maxHeartbeats 2000000 in
theorem super_right (l : Lay) (w : World) (h : RightL l) : Calls Try.prog 12 #[lv l] w fun e w' => ∃ v, e = .returned (.tuple #[v, .int .i64 0]) ∧ w'.ownsRow w.heap.size 24 1 v 64 ((superL l).map vw) ∧ Below w.heap.size w w' := by
  have H := Lib.hid h
  have hd : decide (RightL l) = true := decide_eq_true h
  have hrow := fun w => super_row w l h
  have HROW := Lib.hid hrow
  have hra := right_any l
  rw [hd] at hra
  have HRA := Lib.hid hra
  have hbnd := right_bounds h
  have hT : 1 ≤ l.T ∧ l.T ≤ 40 := h.1.2.1
  have hb1 : 0 ≤ l.B := by omega
  have hb2 : l.B ≤ 2048 := by omega
  have hb3 : 0 ≤ l.I := by omega
  have hb4 : l.I ≤ 256 := by omega
  have hb5 : 0 ≤ l.R := by omega
  have hb6 : l.R ≤ 1024 := by omega
  have hb7 : 0 ≤ l.T := by omega
  have hb8 : l.T ≤ 40 := by omega
  clear h hrow hra hd hbnd hT
  obtain ⟨wa, hwa, HBA, HZA, HF⟩ := lay_box w l
  obtain ⟨q0, q1, q2, q3, q4, q5, q6, q7, q8, q9, qf⟩ := lay_cells HF.out
  have hra := HRA.out wa
  unfold lv at hra
  have HRA := Lib.hid hra
  clear hra
  unfold lv
  go_enter Try.func12, Try.ntmps12
  go_wp2_with fail
  refine HRA.out.mono ?_
  rintro e w1 ⟨rfl, hb1'⟩
  have hF1 : LayAt w1 w.heap.size l := HF.out.below (by rw [HZA.out]; omega) hb1'
  obtain ⟨wf, hwf⟩ : ∃ wf, w1.alloc (.cells #[.int .i64 l.B, .int .i64 l.I, .int .i64 l.R, .int .i64 l.T] 23) = wf := ⟨_, rfl⟩
  have hFf : LayAt wf w.heap.size l := by rw [← hwf]; exact (Below.heap_alloc _ _ _ hF1.lt).trans hF1
  have hff : wf.heap[w1.heap.size]? = some (.cells #[.int .i64 l.B, .int .i64 l.I, .int .i64 l.R, .int .i64 l.T] 23 (0, 0)) := by rw [← hwf]; exact World.alloc_heap_new _ _
  have hbf : Below w.heap.size w wf := by
    rw [← hwf]
    exact (HBA.out.trans (hb1'.mono (by rw [HZA.out]; omega))).alloc (Nat.le_trans (by rw [HZA.out]; omega) hb1'.size) _
  have hsf : w.heap.size ≤ wf.heap.size := hbf.size
  obtain ⟨p0, p1, p2, p3, p4, p5, p6, p7, p8, p9, pf⟩ := lay_cells hFf
  obtain ⟨m0, m1, m2, m3, m4, m5, m6, m7, m8, m9, mf⟩ := lay_cells hF1
  have f0 : wf.cell? ⟨w1.heap.size, 0, none⟩ = some (.int .i64 l.B) := by simp [World.cell?, hff]
  have f1 : wf.cell? ⟨w1.heap.size, 1, none⟩ = some (.int .i64 l.I) := by simp [World.cell?, hff]
  have f2 : wf.cell? ⟨w1.heap.size, 2, none⟩ = some (.int .i64 l.R) := by simp [World.cell?, hff]
  have f3 : wf.cell? ⟨w1.heap.size, 3, none⟩ = some (.int .i64 l.T) := by simp [World.cell?, hff]
  have HBF := Lib.hid hbf
  have HSF := Lib.hid hsf
  have HB1 := Lib.hid hb1'
  clear hF1 hFf hff hbf hsf hb1' q0 q1 q2 q3 q4 q5 q6 q7 q8 q9 qf
  go_wp2_with fail
  have hso := seal_any (some ⟨wf.heap.size, 0, none⟩) 7 (superW l) _ ((HROW.out wf).wide (by simp)) (by simp [superW])
  refine Calls.mono hso ?_
  rintro e w2 ⟨v, rfl, hown, hb2⟩
  have hl8 : (sealL (superW l)).length = 8 := by simp [sealL, superW]
  rw [hl8] at hown
  obtain ⟨g, cap, rfl, hg⟩ : ∃ g cap, v = .slice (some ⟨g, 0, none⟩) 8 cap ∧ wf.heap.size ≤ g := by
    rcases hown.2 with ⟨_, h0⟩ | ⟨g, cap, cur, hv, hbg, _⟩
    · omega
    · exact ⟨g, cap, hv, Nat.le_trans (by simp) hbg⟩
  have hown2 := own_wide hown (show wf.heap.size ≤ _ by simp)
  have hb3' : Below wf.heap.size wf w2 := ((Below.refl _ wf).alloc (Nat.le_refl _) _).trans (hb2.mono (by simp))
  have hs2 := hb3'.size
  have HB3 := Lib.hid hb3'
  have HOWN := Lib.hid hown2
  have HS2 := Lib.hid hs2
  have HG := Lib.hid hg
  clear hso hown hown2 hb2 hb3' hl8 hs2 hg
  go_wp2_with fail
  refine (padded_any wf.heap.size g cap l _ HOWN.out HS2.out HG.out).mono ?_
  rintro e w3 ⟨v, rfl, hown3, hb4'⟩
  have HO3 := Lib.hid hown3
  have HB4 := Lib.hid hb4'
  clear hown3 hb4'
  go_wp2_with fail
  go_ret2
  exact ⟨v, rfl, own_wide HO3.out HSF.out, HBF.out.trans ((HB3.out.trans HB4.out).mono HSF.out)⟩

set_option maxRecDepth 100000 in
set_option maxHeartbeats 1000000 in
theorem super_wrong (l : Lay) (w : World) (h : ¬ RightL l) : Calls Try.prog 12 #[lv l] w fun e w' => e = .returned (.tuple #[.slice none 0 0, .int .i64 2]) ∧ Below w.heap.size w w' := by
  have hd : decide (RightL l) = false := decide_eq_false h
  obtain ⟨wa, hwa, HBA, HZA, HF⟩ := lay_box w l
  obtain ⟨q0, q1, q2, q3, q4, q5, q6, q7, q8, q9, qf⟩ := lay_cells HF.out
  have hra := right_any l wa
  rw [hd] at hra
  unfold lv at hra
  have HRA := Lib.hid hra
  clear hra hd h
  unfold lv
  go_enter Try.func12, Try.ntmps12
  go_wp2_with fail
  refine HRA.out.mono ?_
  rintro e w1 ⟨rfl, hb1⟩
  have HB1 := Lib.hid hb1
  clear hb1
  go_wp2_with fail
  go_ret2
  exact ⟨rfl, HBA.out.trans (HB1.out.mono (by rw [HZA.out]; omega))⟩

set_option maxRecDepth 100000 in
set_option maxHeartbeats 2000000 in
theorem refSuper_any (l : Lay) (w : World) (h : RightL l) : Calls Try.prog 15 #[lv l] w fun e w' => ∃ v, e = .returned v ∧ w'.ownsRow w.heap.size 24 1 v 64 ((superL l).map vw) ∧ Below w.heap.size w w' := by
  have hrow := fun w => super_row w l h
  have HROW := Lib.hid hrow
  have hbnd := right_bounds h
  have hT : 1 ≤ l.T ∧ l.T ≤ 40 := h.1.2.1
  have hb1 : 0 ≤ l.B := by omega
  have hb2 : l.B ≤ 2048 := by omega
  have hb3 : 0 ≤ l.I := by omega
  have hb4 : l.I ≤ 256 := by omega
  have hb5 : 0 ≤ l.R := by omega
  have hb6 : l.R ≤ 1024 := by omega
  have hb7 : 0 ≤ l.T := by omega
  have hb8 : l.T ≤ 40 := by omega
  clear h hrow hbnd hT
  obtain ⟨wa, hwa, HBA, HZA, HF⟩ := lay_box w l
  obtain ⟨q0, q1, q2, q3, q4, q5, q6, q7, q8, q9, qf⟩ := lay_cells HF.out
  unfold lv
  go_enter Try.func15, Try.ntmps15
  go_wp2_with fail
  have hso := refSeal_any (some ⟨wa.heap.size, 0, none⟩) 7 (superW l) _ ((HROW.out wa).wide (by simp)) (by simp [superW])
  refine Calls.mono hso ?_
  rintro e w2 ⟨v, rfl, hown, hb2⟩
  have hl8 : (sealL (superW l)).length = 8 := by simp [sealL, superW]
  rw [hl8] at hown
  obtain ⟨g, cap, rfl, hg⟩ : ∃ g cap, v = .slice (some ⟨g, 0, none⟩) 8 cap ∧ wa.heap.size ≤ g := by
    rcases hown.2 with ⟨_, h0⟩ | ⟨g, cap, cur, hv, hbg, _⟩
    · omega
    · exact ⟨g, cap, hv, Nat.le_trans (by simp) hbg⟩
  have hown2 := own_wide hown (show wa.heap.size ≤ _ by simp)
  have hb3' : Below wa.heap.size wa w2 := ((Below.refl _ wa).alloc (Nat.le_refl _) _).trans (hb2.mono (by simp))
  have HB3 := Lib.hid hb3'
  have HOWN := Lib.hid hown2
  have HG := Lib.hid hg
  clear hso hown hown2 hb2 hb3' hl8 hg
  go_wp2_with (at_builtin; refine wpList_append_zeros rfl _ _ _ _ rfl .i64 .i64 elem_u64 Try.underlying3 rfl rfl wa.heap.size g cap 8 _ rfl HOWN.out 56 rfl (by omega) (by omega) (by omega) HB3.out.size ?_
               intro v w1 hown1 hgr)
  go_ret
  have e1 : (superL l).map vw = (sealL (superW l)).map vw ++ List.replicate 56 (.int .u64 0) := by
    unfold superL
    rw [List.map_append, List.map_replicate]
    rfl
  rw [e1]
  have hsz := HZA.out
  exact ⟨v, rfl, own_wide hown1 (by omega), HBA.out.trans ((HB3.out.grown hgr HB3.out.size (fun k hk => by cases hk; exact HG.out)).mono (by omega))⟩
end Go.Proofs.Ytljegehfdmgcbaa
