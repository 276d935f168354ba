/- The walks of the reference's Put, Cut. -/
import Derived.Test.YtenmogokbelahaaExtK
namespace Go.Proofs.Ytenmogokbelahaa
open Go Go.RowKit

set_option maxRecDepth 100000 in
set_option maxHeartbeats 8000000 in
theorem refCut_any (p : Option Addr) (cap : Nat) (l : List Ext3) (b : Int) (w : World) (hrd : RdS w.heap.size w p cap 3 xc l) :
    Calls Try.prog 47 #[.slice p l.length cap, .int .i64 b] w (RetPC (cutL l b) w) := by
  obtain ⟨n, hn⟩ : ∃ n, l.length = n := ⟨_, rfl⟩
  have hof := refOfT_any p cap l w hrd
  rw [hn] at hof
  rw [hn]
  clear hrd hn
  cases ho : ofX l with
  | none =>
    rw [ho, show (Option.isSome (none : Option (List Int))) = false from rfl] at hof
    have HOF := Lib.hid hof
    have HE : Hid (cutL l b = ([], [], 2)) := Lib.hid (by unfold cutL; rw [ho])
    clear hof ho
    go_enter Try.func47, Try.ntmps47
    go_wp2_with fail
    refine HOF.out.mono ?_
    rintro e w1 ⟨t', htl, htt, rfl, hb1⟩
    obtain ⟨htm, hbm, hlm, hth⟩ := tab_made (ty := 95) (zc := Try.zeroCells95) w1 t' htl zero_cellsM
    obtain ⟨T, hT⟩ : ∃ T, w1.heap.size = T := ⟨_, rfl⟩
    obtain ⟨w2, hw2⟩ : ∃ w2, (w1.alloc (.cells Try.zeroCells95 95)).setCells w1.heap.size 0 (tb t') = w2 := ⟨_, rfl⟩
    rw [hw2] at htm hbm hlm
    rw [hT] at htm hlm
    have HWM := Lib.hid (And.intro hT (And.intro hw2 hth))
    have HTL := Lib.hid htl
    have HTT := Lib.hid htt
    have H2 : Hid (TabAt w2 T 95 t' ∧ Below w.heap.size w w2 ∧ w.heap.size ≤ T ∧ T < w2.heap.size) := Lib.hid ⟨htm, hb1.trans (hbm.mono hb1.size), by rw [← hT]; exact hb1.size, hlm⟩
    clear htm hbm hlm hth hb1 hT hw2 htt htl
    go_wp2_with (refine wpList_store_mid rfl 95 (.tmp 7) (.tmp 14) rfl w1.heap.size 0 (tb t').toArray rfl rfl (by simpa [tb_len, HTL.out] using HWM.out.2.2) (by simp only [List.size_toArray, tb_len, HTL.out]; kernel_rfl) (all_oneCell_toArray (tb_one _)) ?_; rw [List.toList_toArray, HWM.out.2.1, HWM.out.1])
    refine bodyPost_ret (results_3 rfl _ _) rfl ?_
    rw [HE.out]
    exact RetPC.none 2 H2.out.2.1
  | some t =>
    rw [ho, show (Option.isSome (some t)) = true from rfl] at hof
    have HOF := Lib.hid hof
    have HO := Lib.hid ho
    clear hof ho
    by_cases h1 : b < 0
    · have d1 : decide (b < 0) = true := decide_eq_true h1
      have HE : Hid (cutL l b = ([], [], 2)) := Lib.hid (by unfold cutL; rw [HO.out]; exact if_pos (.inl h1))
      clear h1
      go_enter Try.func47, Try.ntmps47
      go_wp2_with fail
      refine HOF.out.mono ?_
      rintro e w1 ⟨t', htl, htt, rfl, hb1⟩
      obtain ⟨htm, hbm, hlm, hth⟩ := tab_made (ty := 95) (zc := Try.zeroCells95) w1 t' htl zero_cellsM
      obtain ⟨T, hT⟩ : ∃ T, w1.heap.size = T := ⟨_, rfl⟩
      obtain ⟨w2, hw2⟩ : ∃ w2, (w1.alloc (.cells Try.zeroCells95 95)).setCells w1.heap.size 0 (tb t') = w2 := ⟨_, rfl⟩
      rw [hw2] at htm hbm hlm
      rw [hT] at htm hlm
      have HWM := Lib.hid (And.intro hT (And.intro hw2 hth))
      have HTL := Lib.hid htl
      have HTT := Lib.hid htt
      have H2 : Hid (TabAt w2 T 95 t' ∧ Below w.heap.size w w2 ∧ w.heap.size ≤ T ∧ T < w2.heap.size) := Lib.hid ⟨htm, hb1.trans (hbm.mono hb1.size), by rw [← hT]; exact hb1.size, hlm⟩
      clear htm hbm hlm hth hb1 hT hw2 htt htl
      go_wp2_with (refine wpList_store_mid rfl 95 (.tmp 7) (.tmp 14) rfl w1.heap.size 0 (tb t').toArray rfl rfl (by simpa [tb_len, HTL.out] using HWM.out.2.2) (by simp only [List.size_toArray, tb_len, HTL.out]; kernel_rfl) (all_oneCell_toArray (tb_one _)) ?_; rw [List.toList_toArray, HWM.out.2.1, HWM.out.1])
      refine bodyPost_ret (results_3 rfl _ _) rfl ?_
      rw [HE.out]
      exact RetPC.none 2 H2.out.2.1
    · have d1 : decide (b < 0) = false := decide_eq_false h1
      by_cases h2 : 128 < b
      · have d2 : decide (128 < b) = true := decide_eq_true h2
        have HE : Hid (cutL l b = ([], [], 2)) := Lib.hid (by unfold cutL; rw [HO.out]; exact if_pos (.inr h2))
        clear h1 h2
        go_enter Try.func47, Try.ntmps47
        go_wp2_with fail
        refine HOF.out.mono ?_
        rintro e w1 ⟨t', htl, htt, rfl, hb1⟩
        obtain ⟨htm, hbm, hlm, hth⟩ := tab_made (ty := 95) (zc := Try.zeroCells95) w1 t' htl zero_cellsM
        obtain ⟨T, hT⟩ : ∃ T, w1.heap.size = T := ⟨_, rfl⟩
        obtain ⟨w2, hw2⟩ : ∃ w2, (w1.alloc (.cells Try.zeroCells95 95)).setCells w1.heap.size 0 (tb t') = w2 := ⟨_, rfl⟩
        rw [hw2] at htm hbm hlm
        rw [hT] at htm hlm
        have HWM := Lib.hid (And.intro hT (And.intro hw2 hth))
        have HTL := Lib.hid htl
        have HTT := Lib.hid htt
        have H2 : Hid (TabAt w2 T 95 t' ∧ Below w.heap.size w w2 ∧ w.heap.size ≤ T ∧ T < w2.heap.size) := Lib.hid ⟨htm, hb1.trans (hbm.mono hb1.size), by rw [← hT]; exact hb1.size, hlm⟩
        clear htm hbm hlm hth hb1 hT hw2 htt htl
        go_wp2_with (refine wpList_store_mid rfl 95 (.tmp 7) (.tmp 14) rfl w1.heap.size 0 (tb t').toArray rfl rfl (by simpa [tb_len, HTL.out] using HWM.out.2.2) (by simp only [List.size_toArray, tb_len, HTL.out]; kernel_rfl) (all_oneCell_toArray (tb_one _)) ?_; rw [List.toList_toArray, HWM.out.2.1, HWM.out.1])
        refine bodyPost_ret (results_3 rfl _ _) rfl ?_
        rw [HE.out]
        exact RetPC.none 2 H2.out.2.1
      · have d2 : decide (128 < b) = false := decide_eq_false h2
        have HE : Hid (cutL l b = (listX (cutK t b.toNat (128 - b.toNat)).1 128, (cutK t b.toNat (128 - b.toNat)).2, 0)) := Lib.hid (by unfold cutL; rw [HO.out]; exact if_neg (fun h => h.elim h1 h2))
        obtain ⟨i, rfl⟩ : ∃ i : Nat, b = i := ⟨b.toNat, by omega⟩
        have HOK := Lib.hid (ofX_ok HO.out).1
        have hib : i ≤ 128 := by omega
        clear h1 h2
        go_enter Try.func47, Try.ntmps47
        go_wp2_with fail
        refine HOF.out.mono ?_
        rintro e w1 ⟨t', htl, htt, rfl, hb1⟩
        obtain ⟨htm, hbm, hlm, hth⟩ := tab_made (ty := 95) (zc := Try.zeroCells95) w1 t' htl zero_cellsM
        obtain ⟨T, hT⟩ : ∃ T, w1.heap.size = T := ⟨_, rfl⟩
        obtain ⟨w2, hw2⟩ : ∃ w2, (w1.alloc (.cells Try.zeroCells95 95)).setCells w1.heap.size 0 (tb t') = w2 := ⟨_, rfl⟩
        rw [hw2] at htm hbm hlm
        rw [hT] at htm hlm
        have HWM := Lib.hid (And.intro hT (And.intro hw2 hth))
        have HTL := Lib.hid htl
        have HTT := Lib.hid htt
        have H2 : Hid (TabAt w2 T 95 t' ∧ Below w.heap.size w w2 ∧ w.heap.size ≤ T ∧ T < w2.heap.size) := Lib.hid ⟨htm, hb1.trans (hbm.mono hb1.size), by rw [← hT]; exact hb1.size, hlm⟩
        clear htm hbm hlm hth hb1 hT hw2 htt htl
        go_wp2_with (refine wpList_store_mid rfl 95 (.tmp 7) (.tmp 14) rfl w1.heap.size 0 (tb t').toArray rfl rfl (by simpa [tb_len, HTL.out] using HWM.out.2.2) (by simp only [List.size_toArray, tb_len, HTL.out]; kernel_rfl) (all_oneCell_toArray (tb_one _)) ?_; rw [List.toList_toArray, HWM.out.2.1, HWM.out.1])
        have htt := HTT.out t rfl
        subst htt
        go_loopw [9, 10] (fun x9 i9 wr => ∃ (k : Nat) (p : Option Addr) (cap : Nat), i + k ≤ 128 ∧ x9 = .slice p (cutK t' i k).2.length cap ∧ i9 = .int .i64 ((i + k : Nat) : Int) ∧ TabAt wr T 95 (cutK t' i k).1 ∧ OwnRn wr p cap (cutK t' i k).2 ∧ (∀ b, inP p cap b → w2.heap.size ≤ b) ∧ Below w.heap.size w wr ∧ w2.heap.size ≤ wr.heap.size) (fun _ i9 _ => 128 - (intOf i9).toNat)
        case atStart => exact ⟨0, none, 0, by omega, rfl, rfl, H2.out.1, OwnG.nil _ _ _ _ _, fun b hb => (by obtain ⟨x, hx, -⟩ := hb; cases hx), H2.out.2.1, Nat.le_refl _⟩
        case round =>
          obtain ⟨k, p9, c9, hk, rfl, rfl, hta, hown, hfr, hb, hsz⟩ := hrel
          have hst := cutK_ok HOK.out (b := i) k
          by_cases hlt : i + k < 128
          · obtain ⟨I, hI⟩ : ∃ I, i + k = I := ⟨_, rfl⟩
            have hIl : I < (cutK t' i k).1.length := by rw [hst.1.len]; omega
            have hlt' : (I : Int) < 128 := by omega
            have hI0 : (0 : Int) ≤ (I : Int) := by omega
            obtain ⟨tc, tf⟩ := hta.cell I hIl
            obtain ⟨a, ha⟩ : ∃ a, (cutK t' i k).1[I] = a := ⟨_, rfl⟩
            rw [ha] at tc
            have hgd : (cutK t' i k).1.getD I 0 = a := by rw [List.getD_eq_getElem?_getD, List.getElem?_eq_getElem hIl]; exact ha
            have e9 : cutK t' i (k + 1) = ((cutK t' i k).1.set I 0, if a = 0 then (cutK t' i k).2 else joinR (cutK t' i k).2 a) := by show putX (cutK t' i k) (i + k) 0 = _; rw [hI]; unfold putX; rw [hgd]
            have hw1 : IntKind.i64.wrap ((I : Int) + 1) = ((I + 1 : Nat) : Int) := by rw [IntKind.wrap_i64]; omega
            obtain ⟨n9, hn9⟩ : ∃ n9, (cutK t' i k).2.length = n9 := ⟨_, rfl⟩
            rw [hI, hn9]
            have hTl := hta.lt
            have hrun := refRun_any p9 c9 (cutK t' i k).2 a wr (OwnG.rds rc_len hown) (by have := hst.2.1; omega) (fun x hx => by have := hst.2.2 x hx; omega)
            rw [hn9] at hrun
            have HRUN := Lib.hid hrun
            have HK := Lib.hid (And.intro hta (And.intro hown (And.intro hfr (And.intro hb (And.intro hsz (And.intro hI (And.intro e9 hn9)))))))
            clear hta hown hfr hb hsz hst ha hgd e9 hrun hn9 hIl hk hI hlt
            by_cases ha0 : a = 0
            · have ba : (a != 0) = false := by rw [ha0]; rfl
              have ba2 : (a == 0) = true := by rw [ha0]; rfl
              have H5 : Hid (TabAt (wr.setCell ⟨T, I, none⟩ (.int .i64 0)) T 95 (cutK t' i (k + 1)).1 ∧ OwnRn (wr.setCell ⟨T, I, none⟩ (.int .i64 0)) p9 c9 (cutK t' i (k + 1)).2 ∧ (∀ b, inP p9 c9 b → w2.heap.size ≤ b) ∧ Below w.heap.size w (wr.setCell ⟨T, I, none⟩ (.int .i64 0)) ∧ w2.heap.size ≤ (wr.setCell ⟨T, I, none⟩ (.int .i64 0)).heap.size ∧ (cutK t' i (k + 1)).2.length = n9) := Lib.hid (by
                rw [HK.out.2.2.2.2.2.2.1, if_pos ha0]
                have hf9 : Frn (fun b => b = T) wr (wr.setCell ⟨T, I, none⟩ (.int .i64 0)) := Frn.setCell (T := fun b => b = T) (Frn.refl _ wr) ⟨T, I, none⟩ (.inl rfl) _
                exact ⟨HK.out.1.set I 0, OwnG.keep HK.out.2.1 (fun b hb => hf9.block b (OwnG.lt HK.out.2.1 hb) (fun e => by have := HK.out.2.2.1 b hb; have := H2.out.2.2.2; omega)), HK.out.2.2.1, HK.out.2.2.2.1.trans (hf9.below HK.out.2.2.2.1.size (fun b e => by have := H2.out.2.2.1; omega)), Nat.le_trans HK.out.2.2.2.2.1 hf9.size, HK.out.2.2.2.2.2.2.2⟩)
              clear ha0 HRUN
              go_wp2_with fail
              go_roundw
              case rel => exact ⟨k + 1, p9, c9, by have := HK.out.2.2.2.2.2.1; omega, by rw [H5.out.2.2.2.2.2], by have := HK.out.2.2.2.2.2.1; rw [← this]; first | rfl | (go_num; done) | (congr 1; omega), H5.out.1, H5.out.2.1, H5.out.2.2.1, H5.out.2.2.2.1, H5.out.2.2.2.2.1⟩
              case measure => simp [intOf]; omega
            · have ba : (a != 0) = true := by rw [bne_iff_ne]; exact ha0
              have ba2 : (a == 0) = false := beq_eq_false_iff_ne.2 ha0
              have HA0 := Lib.hid ha0
              clear ha0
              go_wp2_with fail
              refine HRUN.out.mono ?_
              rintro e w5 ⟨p5, c5, rfl, ho5, hp5, hb5⟩
              have ht5 := HK.out.1.below hb5
              have hIl : I < (cutK t' i k).1.length := by have := (cutK_ok HOK.out (b := i) k).1.len; omega
              have tf5 := (ht5.cell I hIl).2
              have tc5 := (hb5.cell (p := ⟨T, I, none⟩) hTl).trans tc
              have H5 : Hid (TabAt (w5.setCell ⟨T, I, none⟩ (.int .i64 0)) T 95 (cutK t' i (k + 1)).1 ∧ OwnRn (w5.setCell ⟨T, I, none⟩ (.int .i64 0)) p5 c5 (cutK t' i (k + 1)).2 ∧ (∀ b, inP p5 c5 b → w2.heap.size ≤ b) ∧ Below w.heap.size w (w5.setCell ⟨T, I, none⟩ (.int .i64 0)) ∧ w2.heap.size ≤ (w5.setCell ⟨T, I, none⟩ (.int .i64 0)).heap.size ∧ (joinR (cutK t' i k).2 a).length = (cutK t' i (k + 1)).2.length) := Lib.hid (by
                rw [HK.out.2.2.2.2.2.2.1, if_neg HA0.out]
                have hf9 : Frn (fun b => b = T) w5 (w5.setCell ⟨T, I, none⟩ (.int .i64 0)) := Frn.setCell (T := fun b => b = T) (Frn.refl _ w5) ⟨T, I, none⟩ (.inl rfl) _
                have hb9 := HK.out.2.2.2.1.trans (hb5.mono HK.out.2.2.2.1.size)
                exact ⟨ht5.set I 0, OwnG.keep ho5 (fun b hb => hf9.block b (OwnG.lt ho5 hb) (fun e => by have := hp5 b hb; omega)), fun b hb => Nat.le_trans HK.out.2.2.2.2.1 (hp5 b hb), hb9.trans (hf9.below hb9.size (fun b e => by have := H2.out.2.2.1; omega)), Nat.le_trans HK.out.2.2.2.2.1 (Nat.le_trans hb5.size hf9.size), rfl⟩)
              rw [H5.out.2.2.2.2.2]
              clear ht5 ho5 hp5 hb5 HRUN hIl tc tf hTl
              go_wp2_with fail
              go_roundw
              case rel => exact ⟨k + 1, p5, c5, by have := HK.out.2.2.2.2.2.1; omega, rfl, by have := HK.out.2.2.2.2.2.1; rw [← this]; first | rfl | (go_num; done) | (congr 1; omega), H5.out.1, H5.out.2.1, H5.out.2.2.1, H5.out.2.2.2.1, H5.out.2.2.2.2.1⟩
              case measure => simp [intOf]; omega
          · have hk8 : k = 128 - i := by omega
            have hI : i + k = 128 := by omega
            rw [hI]
            have HLT := Lib.hid (refListT_any (cutK t' i k).1 wr hst.1)
            have hl9 := hst.1.len
            have HL9 := Lib.hid hl9
            have HTA := Lib.hid hta
            have HK := Lib.hid (And.intro hfr (And.intro hb (And.intro hsz (And.intro hk8 hown))))
            obtain ⟨n9, hn9⟩ : ∃ n9, (cutK t' i k).2.length = n9 := ⟨_, rfl⟩
            rw [hn9]
            have HN9 := Lib.hid hn9
            clear hta hown hfr hb hsz hst hk8 hlt hI hn9 hk hl9
            go_wp2_with (refine wpList_load_mid rfl 95 (.tmp 7) rfl T 0 rfl (tb (cutK t' i k).1) (.array 128 3) HTA.out.range (by kernel_rfl) rfl (by rw [tb_len, HL9.out]; kernel_rfl) ?_)
            refine HLT.out.mono ?_
            rintro e w5 ⟨p5, c5, rfl, ho5, hf5, hb5⟩
            have H5 := Lib.hid (And.intro ho5 (And.intro hf5 hb5))
            clear ho5 hf5 hb5 HLT
            go_wp2_with fail
            refine bodyPost_ret (results_3 rfl _ _) rfl ?_
            rw [HE.out, Int.toNat_natCast]
            have hk8 := HK.out.2.2.2.1
            rw [← hk8]
            exact ⟨p5, c5, p9, c9, by rw [← HN9.out]; rfl, H5.out.1, OwnG.below HK.out.2.2.2.2 H5.out.2.2, fun b hb => Nat.le_trans HK.out.2.1.size (H5.out.2.1 b hb), fun b hb => Nat.le_trans H2.out.2.1.size (HK.out.1 b hb), HK.out.2.1.trans (H5.out.2.2.mono HK.out.2.1.size)⟩
end Go.Proofs.Ytenmogokbelahaa
