/- The walk of the law BitmapOf. -/
import Derived.Test.YtljegehfdmgcbaaDoorBmJ
namespace Go.Proofs.YtljegehfdmgcbaaDoor
open Go Go.RowKit

set_option maxRecDepth 100000 in
set_option maxHeartbeats 8000000 in
theorem lawBitmapOf (many : Int) (p : Option Addr) (cap : Nat) (l : List (BitVec 64)) (w : World) (hT : TabAt w) (hrd : RdL w.heap.size w p cap vw l) :
    Calls Tryd.prog 6 #[.int .i64 many, .slice p l.length cap] w fun e w' => e = .returned (.bool true) ∧ Below w.heap.size w w' := by
  have h0 := hT.lt
  have hlen := hrd.len
  have HT := Lib.hid hT
  have HR := Lib.hid hrd
  clear hT hrd
  by_cases h20 : 20 < l.length
  · have h20' : (20 : Int) < (l.length : Int) := by omega
    clear h20
    go_enter Tryd.func6, Tryd.ntmps6
    go_wp2_with fail
    refine (works05_any w HT.out).mono ?_
    rintro e w1 ⟨rfl, hb⟩
    have HB := Lib.hid hb
    clear hb
    go_wp2_with fail
    go_ret
    exact ⟨rfl, HB.out⟩
  have h20' : (l.length : Int) ≤ 20 := by omega
  go_enter Tryd.func6, Tryd.ntmps6
  go_wp2_with (at_builtin
               refine wpList_append0 rfl (.tmp 17) (.tmp 18) _ rfl elem_w64 vw w.heap.size l _ rfl _ _ _ rfl (own_empty w _ _ _ (Nat.le_refl _)) (HR.out.below ((Below.refl _ _).alloc (Nat.le_refl _) _)) (fun _ => rfl) ?_ ?_ ?_ ?_
               · omega
               · omega
               · simp
               intro v w5 hown hg _
               have hb5 : Below w.heap.size w w5 := ((Below.refl _ w).alloc (Nat.le_refl _) _).grown hg (by simp) (by intro b hb; cases hb; exact Nat.le_refl _)
               obtain ⟨p5, c5, rfl, hr5, _⟩ := rdl_of_owns hown
               have HR5 := Lib.hid hr5
               have HB5 := Lib.hid hb5
               clear hown hg hr5 hb5)
  refine (ofBm_any many p5 c5 l w5 HR5.out (by omega)).mono ?_
  rintro e w6 (⟨q, n, rfl, hmn, hright, O, g, c, rfl, hbm, hO, hg, hb6⟩ | ⟨rfl, hno, hb6⟩)
  · have H6 : Hid (BmAt w6 O g c l n ∧ Below w.heap.size w w6) := Lib.hid ⟨hbm, HB5.out.trans (hb6.mono HB5.out.size)⟩
    have HRT := Lib.hid (And.intro hright (show OfOkB many l from ⟨n, hmn, hbm.n1, hbm.n2, hright⟩))
    have HMN := Lib.hid hmn
    have HRO := Lib.hid (refOf05 many p cap l w6 ((HR.out.below H6.out.2).wide H6.out.2.size) (by omega))
    clear hbm hO hg hb6 hright hmn HB5 HR5
    go_wp2_with fail
    refine HRO.out.mono ?_
    rintro e w7 (⟨g2, n', rfl, hmn', hn1, hn2, _, hrd2, _, hb7⟩ | ⟨rfl, hno, _⟩)
    · have hnn : n' = n := by have := HMN.out; omega
      subst hnn
      have H7 : Hid (BmAt w7 O g c l n' ∧ Below w.heap.size w w7 ∧ RdL w7.heap.size w7 (some ⟨g2, 0, none⟩) n' vbo (bitsB l n')) := Lib.hid ⟨H6.out.1.below hb7, H6.out.2.trans (hb7.mono H6.out.2.size), hrd2⟩
      have HW := Lib.hid (words_bm w7 H7.out.1)
      clear hmn' hrd2 hb7 HRO H6
      go_wp2_with (go_at_call 11; refine (num_any05 _ _).mono ?_; rintro e w' ⟨rfl, rfl⟩)
      refine HW.out.mono ?_
      rintro e w8 ⟨v, rfl, hown, hb8⟩
      obtain ⟨p8, c8, rfl, hr8, _⟩ := rdl_of_owns hown
      have H8 : Hid (BmAt w8 O g c l n' ∧ Below w.heap.size w w8 ∧ RdL w8.heap.size w8 (some ⟨g2, 0, none⟩) n' vbo (bitsB l n')) := Lib.hid ⟨H7.out.1.below hb8, H7.out.2.1.trans (hb8.mono H7.out.2.1.size), (H7.out.2.2.below hb8).wide hb8.size⟩
      have HO2 := Lib.hid (ofBm_any many p8 c8 l w8 hr8 (by omega))
      clear hown hr8 hb8 HW H7
      go_wp2_with fail
      refine HO2.out.mono ?_
      rintro e w9 (⟨q, n2, rfl, hmn2, _, O2, gg, cc, rfl, hbm2, _, _, hb9⟩ | ⟨rfl, hno, _⟩)
      · have hnn : n2 = n' := by have := HMN.out; omega
        subst hnn
        have H9 : Hid (BmAt w9 O g c l n2 ∧ Below w.heap.size w w9 ∧ RdL w9.heap.size w9 (some ⟨g2, 0, none⟩) n2 vbo (bitsB l n2) ∧ BmAt w9 O2 gg cc l n2) := Lib.hid ⟨H8.out.1.below hb9, H8.out.2.1.trans (hb9.mono H8.out.2.1.size), (H8.out.2.2.below hb9).wide hb9.size, hbm2⟩
        have HIS := Lib.hid (is_any (some ⟨g2, 0, none⟩) n2 w9 H9.out.1 HRT.out.1 (HT.out.below h0 H9.out.2.1) H9.out.2.2.1)
        clear hmn2 hbm2 hb9 HO2 H8
        go_wp2_with fail
        refine HIS.out.mono ?_
        rintro e w10 ⟨rfl, hb10⟩
        have H10 : Hid (BmAt w10 O g c l n2 ∧ Below w.heap.size w w10 ∧ BmAt w10 O2 gg cc l n2) := Lib.hid ⟨H9.out.1.below hb10, H9.out.2.1.trans (hb10.mono H9.out.2.1.size), H9.out.2.2.2.below hb10⟩
        have HW := Lib.hid (words_bm w10 H10.out.1)
        clear hb10 HIS H9
        go_wp2_with fail
        refine HW.out.mono ?_
        rintro e w11 ⟨v, rfl, hown, hb11⟩
        obtain ⟨p11, c11, rfl, hr11, _⟩ := rdl_of_owns hown
        have H11 : Hid (BmAt w11 O g c l n2 ∧ Below w.heap.size w w11 ∧ BmAt w11 O2 gg cc l n2) := Lib.hid ⟨H10.out.1.below hb11, H10.out.2.1.trans (hb11.mono H10.out.2.1.size), H10.out.2.2.below hb11⟩
        have HSM := Lib.hid (same_any p11 p c11 cap l l w11 hr11 ((HR.out.below H11.out.2.1).wide H11.out.2.1.size))
        rw [sameB_self] at HSM
        clear hown hr11 hb11 HW H10
        go_wp2_with fail
        refine HSM.out.mono ?_
        rintro e w12 ⟨rfl, nq, hw12⟩
        have hb12 : Below w11.heap.size w11 w12 := by rw [← hw12]; exact below_drewN (Below.refl _ _) nq
        have H12 : Hid (BmAt w12 O g c l n2 ∧ Below w.heap.size w w12 ∧ BmAt w12 O2 gg cc l n2) := Lib.hid ⟨H11.out.1.below hb12, H11.out.2.1.trans (hb12.mono H11.out.2.1.size), H11.out.2.2.below hb12⟩
        have HS2 := Lib.hid (same_bm w12 H12.out.1 H12.out.2.2)
        rw [decide_eq_true (show n2 = n2 ∧ l = l from ⟨rfl, rfl⟩)] at HS2
        clear hw12 hb12 HSM H11
        go_wp2_with (go_at_call 11; refine (num_any05 _ _).mono ?_; rintro e w' ⟨rfl, rfl⟩)
        refine HS2.out.mono ?_
        rintro e w13 ⟨rfl, hb13⟩
        have H13 := Lib.hid (H12.out.2.1.trans (hb13.mono H12.out.2.1.size))
        have HWK := Lib.hid (works05_any w13 (HT.out.below h0 H13.out))
        clear hb13 HS2 H12
        go_wp2_with fail
        refine HWK.out.mono ?_
        rintro e w14 ⟨rfl, hb14⟩
        have H14 := Lib.hid (H13.out.trans (hb14.mono H13.out.size))
        clear hb14
        go_wp2_with fail
        go_ret
        exact ⟨rfl, H14.out⟩
      · exact absurd HRT.out.2 hno
    · exact absurd HRT.out.2 hno
  · have H6 : Hid (Below w.heap.size w w6) := Lib.hid (HB5.out.trans (hb6.mono HB5.out.size))
    have HNO := Lib.hid hno
    have HRO := Lib.hid (refOf05 many p cap l w6 ((HR.out.below H6.out).wide H6.out.size) (by omega))
    clear hb6 hno HB5 HR5
    go_wp2_with fail
    refine HRO.out.mono ?_
    rintro e w7 (⟨g2, n', rfl, hmn', hn1, hn2, hright, _⟩ | ⟨rfl, _, hb7⟩)
    · exact absurd ⟨n', hmn', hn1, hn2, hright⟩ HNO.out
    · have H7 := Lib.hid (H6.out.trans (hb7.mono H6.out.size))
      have HWK := Lib.hid (works05_any w7 (HT.out.below h0 H7.out))
      clear hb7 HRO
      go_wp2_with (go_at_call 11; refine (num_any05 _ _).mono ?_; rintro e w' ⟨rfl, rfl⟩)
      refine HWK.out.mono ?_
      rintro e w14 ⟨rfl, hb14⟩
      have H14 := Lib.hid (H7.out.trans (hb14.mono H7.out.size))
      clear hb14
      go_wp2_with fail
      go_ret
      exact ⟨rfl, H14.out⟩
end Go.Proofs.YtljegehfdmgcbaaDoor
