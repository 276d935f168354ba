/- The walk of the reference's Put. -/
import Derived.Test.YtenmogokbelahaaExtL
namespace Go.Proofs.Ytenmogokbelahaa
open Go Go.RowKit

set_option maxRecDepth 100000 in
set_option maxHeartbeats 16000000 in
theorem refPut_any (p : Option Addr) (cap : Nat) (l : List Ext3) (f d m : Int) (w : World) (hrd : RdS w.heap.size w p cap 3 xc l) :
    Calls Try.prog 42 #[.slice p l.length cap, .agg #[.int .i64 f, .int .i64 d, .int .i64 m]] w (RetPC (putL l (f, d, m)) w) := by
  obtain ⟨n, hn⟩ : ∃ n, l.length = n := ⟨_, rfl⟩
  have hxn := XCells.new w f d m 81
  have hb0 := below_allocX w (.cells #[.int .i64 f, .int .i64 d, .int .i64 m] 81)
  obtain ⟨wb, hwb⟩ : ∃ wb, w.alloc (.cells #[.int .i64 f, .int .i64 d, .int .i64 m] 81) = wb := ⟨_, rfl⟩
  obtain ⟨X, hX⟩ : ∃ X, w.heap.size = X := ⟨_, rfl⟩
  rw [hwb, hX] at hxn
  rw [hwb] at hb0
  have hof := refOfT_any p cap l wb (hrd.onX hb0)
  rw [hn] at hof
  have HXB := Lib.hid (And.intro hwb hX)
  have HXC := Lib.hid (And.intro hb0 hxn)
  have HRT := Lib.hid (fun V => refRightX_any f d m V)
  rw [hn]
  clear hrd hn hxn hb0 hwb hX
  cases ho : ofX l with
  | none =>
    rw [ho, show (Option.isSome (none : Option (List Int))) = false from rfl] at hof
    have HOF := Lib.hid hof
    have HE : Hid (putL l (f, d, m) = ([], [], 2)) := Lib.hid (by unfold putL; rw [ho])
    clear hof ho
    go_enter Try.func42, Try.ntmps42
    go_upto_region 1 with fail
    rw [HXB.out.1, HXB.out.2]
    go_wp2_with fail
    refine HOF.out.mono ?_
    rintro e w1 ⟨t', htl, htt, rfl, hb1⟩
    obtain ⟨htm, hbm, hlm, hth⟩ := tab_made (ty := 95) (zc := Try.zeroCells95) w1 t' htl zero_cellsM
    obtain ⟨T, hT⟩ : ∃ T, w1.heap.size = T := ⟨_, rfl⟩
    obtain ⟨w2, hw2⟩ : ∃ w2, (w1.alloc (.cells Try.zeroCells95 95)).setCells w1.heap.size 0 (tb t') = w2 := ⟨_, rfl⟩
    rw [hw2] at htm hbm hlm
    rw [hT] at htm hlm
    have HWM := Lib.hid (And.intro hT (And.intro hw2 hth))
    have HTL := Lib.hid htl
    have HTT := Lib.hid htt
    have hxw := HXC.out.2.below (hb1.trans (hbm.mono hb1.size))
    have H2 : Hid (TabAt w2 T 95 t' ∧ Below w.heap.size w w2 ∧ w.heap.size ≤ T ∧ T < w2.heap.size ∧ XCells w2 X 0 f d m ∧ X < T) := Lib.hid ⟨htm, HXC.out.1.trans ((hb1.mono HXC.out.1.size).trans (hbm.mono (Nat.le_trans HXC.out.1.size hb1.size))), by rw [← hT]; exact Nat.le_trans HXC.out.1.size hb1.size, hlm, hxw, by rw [← hT]; exact Nat.lt_of_lt_of_le HXC.out.2.lt hb1.size⟩
    obtain ⟨x0, x1, x2, xl⟩ := hxw
    rw [Nat.zero_add] at x1 x2
    clear xl
    clear htm hbm hlm hth hb1 hT hw2 htt htl
    go_wp2_with (refine wpList_store_mid rfl 95 (.tmp 7) (.tmp 16) rfl w1.heap.size 0 (tb t').toArray rfl rfl (by simpa [tb_len, HTL.out] using HWM.out.2.2) (by simp only [List.size_toArray, tb_len, HTL.out]; kernel_rfl) (all_oneCell_toArray (tb_one _)) ?_; rw [List.toList_toArray, HWM.out.2.1, HWM.out.1])
    refine bodyPost_ret (results_3 rfl _ _) rfl ?_
    rw [HE.out]
    exact RetPC.none 2 H2.out.2.1
  | some t =>
    rw [ho, show (Option.isSome (some t)) = true from rfl] at hof
    have HOF := Lib.hid hof
    have HO := Lib.hid ho
    clear hof ho
    by_cases hr : rightX (f, d, m) = true
    · have HR := Lib.hid hr
      have hxr := (right_iff _).1 hr
      simp only at hxr
      rw [hr] at HRT
      obtain ⟨F, rfl⟩ : ∃ F : Nat, f = F := ⟨f.toNat, by omega⟩
      obtain ⟨D, rfl⟩ : ∃ D : Nat, d = D := ⟨d.toNat, by omega⟩
      obtain ⟨Mm, rfl⟩ : ∃ Mm : Nat, m = Mm := ⟨m.toNat, by omega⟩
      have hF : F + Mm ≤ 128 := by omega
      have hD : D + Mm ≤ 2048 := by omega
      have hM8 : (Mm : Int) ≤ 128 := by omega
      have HOK := Lib.hid (ofX_ok HO.out).1
      clear hr hxr
      go_enter Try.func42, Try.ntmps42
      go_upto_region 1 with fail
      rw [HXB.out.1, HXB.out.2]
      go_wp2_with fail
      refine HOF.out.mono ?_
      rintro e w1 ⟨t', htl, htt, rfl, hb1⟩
      obtain ⟨htm, hbm, hlm, hth⟩ := tab_made (ty := 95) (zc := Try.zeroCells95) w1 t' htl zero_cellsM
      obtain ⟨T, hT⟩ : ∃ T, w1.heap.size = T := ⟨_, rfl⟩
      obtain ⟨w2, hw2⟩ : ∃ w2, (w1.alloc (.cells Try.zeroCells95 95)).setCells w1.heap.size 0 (tb t') = w2 := ⟨_, rfl⟩
      rw [hw2] at htm hbm hlm
      rw [hT] at htm hlm
      have HWM := Lib.hid (And.intro hT (And.intro hw2 hth))
      have HTL := Lib.hid htl
      have HTT := Lib.hid htt
      have hxw := HXC.out.2.below (hb1.trans (hbm.mono hb1.size))
      have H2 : Hid (TabAt w2 T 95 t' ∧ Below w.heap.size w w2 ∧ w.heap.size ≤ T ∧ T < w2.heap.size ∧ XCells w2 X 0 F D Mm ∧ X < T) := Lib.hid ⟨htm, HXC.out.1.trans ((hb1.mono HXC.out.1.size).trans (hbm.mono (Nat.le_trans HXC.out.1.size hb1.size))), by rw [← hT]; exact Nat.le_trans HXC.out.1.size hb1.size, hlm, hxw, by rw [← hT]; exact Nat.lt_of_lt_of_le HXC.out.2.lt hb1.size⟩
      obtain ⟨x0, x1, x2, xl⟩ := hxw
      rw [Nat.zero_add] at x1 x2
      clear xl
      clear htm hbm hlm hth hb1 hT hw2 htt htl
      go_wp2_with (refine wpList_store_mid rfl 95 (.tmp 7) (.tmp 16) rfl w1.heap.size 0 (tb t').toArray rfl rfl (by simpa [tb_len, HTL.out] using HWM.out.2.2) (by simp only [List.size_toArray, tb_len, HTL.out]; kernel_rfl) (all_oneCell_toArray (tb_one _)) ?_; rw [List.toList_toArray, HWM.out.2.1, HWM.out.1])
      have htt := HTT.out t rfl
      subst htt
      refine (HRT.out _).mono ?_
      rintro e w3 ⟨rfl, hb3⟩
      have H3 : Hid (TabAt w3 T 95 t' ∧ Below w.heap.size w w3 ∧ XCells w3 X 0 F D Mm ∧ T < w3.heap.size) := Lib.hid ⟨H2.out.1.below hb3, H2.out.2.1.trans (hb3.mono H2.out.2.1.size), H2.out.2.2.2.2.1.below hb3, Nat.lt_of_lt_of_le H2.out.2.2.2.1 hb3.size⟩
      clear hb3 x0 x1 x2
      go_wp2_with fail
      go_loopw [9] (fun i9 wr => ∃ k : Nat, k ≤ Mm ∧ i9 = .int .i64 k ∧ (∀ j, j < k → ¬ ((D + j : Nat) : Int) ∈ t') ∧ TabAt wr T 95 t' ∧ Below w.heap.size w wr ∧ XCells wr X 0 F D Mm ∧ w3.heap.size ≤ wr.heap.size) (fun i9 _ => Mm - (intOf i9).toNat)
      case atStart => exact ⟨0, Nat.zero_le _, rfl, fun j h => absurd h (Nat.not_lt_zero j), H3.out.1, H3.out.2.1, H3.out.2.2.1, Nat.le_refl _⟩
      case round =>
        obtain ⟨k, hk, rfl, hprev, hta, hb, hxc, hsz⟩ := hrel
        have HS := Lib.hid (And.intro hprev (And.intro hta (And.intro hb (And.intro hxc hsz))))
        obtain ⟨y0, y1, y2, yl⟩ := hxc
        rw [Nat.zero_add] at y1 y2
        by_cases hlt : k < Mm
        · have hlt' : (k : Int) < (Mm : Int) := by omega
          obtain ⟨E, hE⟩ : ∃ E, D + k = E := ⟨_, rfl⟩
          have hw2 : IntKind.i64.wrap ((D : Int) + (k : Int)) = (E : Int) := by rw [IntKind.wrap_i64]; omega
          have hhas := hasT_any t' (E : Int) wr HOK.out
          have HKE := Lib.hid hE
          have hl9 := HOK.out.len
          have HL9 := Lib.hid hl9
          clear hprev hta hb hsz hE hl9
          by_cases hd : (E : Int) ∈ t'
          · rw [decide_eq_true hd] at hhas
            have HHA := Lib.hid hhas
            have HE : Hid (putL l ((F : Int), (D : Int), (Mm : Int)) = ([], [], 2)) := Lib.hid (by unfold putL; rw [HO.out]; exact if_pos (.inr (hit_iff.2 ⟨k, hlt, by rw [HKE.out]; exact hd⟩)))
            clear hhas hd
            go_wp2_with (refine wpList_load_mid rfl 95 (.tmp 7) rfl T 0 rfl (tb t') (.array 128 3) HS.out.2.1.range (by kernel_rfl) rfl (by rw [tb_len, HL9.out]; kernel_rfl) ?_)
            refine HHA.out.mono ?_
            rintro e w5 ⟨rfl, hb5⟩
            have H5 := Lib.hid (HS.out.2.2.1.trans (hb5.mono HS.out.2.2.1.size))
            clear hb5 y0 y1 y2 yl HHA
            go_wp2_with fail
            refine bodyPost_ret (results_3 rfl _ _) rfl ?_
            rw [HE.out]
            exact RetPC.none 2 H5.out
          · rw [decide_eq_false hd] at hhas
            have HHA := Lib.hid hhas
            have HD := Lib.hid hd
            clear hhas hd
            go_wp2_with (refine wpList_load_mid rfl 95 (.tmp 7) rfl T 0 rfl (tb t') (.array 128 3) HS.out.2.1.range (by kernel_rfl) rfl (by rw [tb_len, HL9.out]; kernel_rfl) ?_)
            refine HHA.out.mono ?_
            rintro e w5 ⟨rfl, hb5⟩
            have H5 : Hid (TabAt w5 T 95 t' ∧ Below w.heap.size w w5 ∧ XCells w5 X 0 F D Mm ∧ w3.heap.size ≤ w5.heap.size) := Lib.hid ⟨HS.out.2.1.below hb5, HS.out.2.2.1.trans (hb5.mono HS.out.2.2.1.size), HS.out.2.2.2.1.below hb5, Nat.le_trans HS.out.2.2.2.2 hb5.size⟩
            clear hb5 y0 y1 y2 yl HHA
            go_wp2_with fail
            go_roundw
            case rel => exact ⟨k + 1, hlt, by go_num, fun j hj => (Nat.lt_succ_iff_lt_or_eq.1 hj).elim (HS.out.1 j) (fun e => by subst e; rw [HKE.out]; exact HD.out), H5.out⟩
            case measure => simp [intOf]; omega
        · obtain rfl : Mm = k := by omega
          have hnl : ¬ (Mm : Int) < (Mm : Int) := by omega
          have HH : Hid (hitX t' ((F : Int), (D : Int), (Mm : Int)) = false) := Lib.hid (Bool.eq_false_iff.2 (fun h => by obtain ⟨j, hj, hm⟩ := hit_iff.1 h; exact hprev j hj hm))
          have HPUT : Hid (putL l ((F : Int), (D : Int), (Mm : Int)) = if 10 < (listX (putK t' F D Mm).1 128).length then ([], [], 3) else (listX (putK t' F D Mm).1 128, (putK t' F D Mm).2, 0)) := Lib.hid (by unfold putL; rw [HO.out]; exact if_neg (fun h => h.elim (fun h => by rw [HR.out] at h; cases h) (fun h => by rw [HH.out] at h; cases h)))
          clear hprev hta hb hsz hlt hk
          go_wp2_with fail
          clear y0 y1 y2 yl
          go_loopw [10, 11] (fun x9 i9 wr => ∃ (k : Nat) (p : Option Addr) (cap : Nat), k ≤ Mm ∧ x9 = .slice p (putK t' F D k).2.length cap ∧ i9 = .int .i64 k ∧ TabAt wr T 95 (putK t' F D k).1 ∧ OwnRn wr p cap (putK t' F D k).2 ∧ (∀ b, inP p cap b → w3.heap.size ≤ b) ∧ Below w.heap.size w wr ∧ XCells wr X 0 F D Mm ∧ w3.heap.size ≤ wr.heap.size) (fun _ i9 _ => Mm - (intOf i9).toNat)
          case atStart => exact ⟨0, none, 0, Nat.zero_le _, rfl, rfl, HS.out.2.1, OwnG.nil _ _ _ _ _, fun b hb => (by obtain ⟨x, hx, -⟩ := hb; cases hx), HS.out.2.2.1, HS.out.2.2.2.1, HS.out.2.2.2.2⟩
          case round =>
            clear HS
            obtain ⟨k, p9, c9, hk, rfl, rfl, hta, hown, hfr, hb, hxc, hsz⟩ := hrel
            have hst := putK_ok HOK.out (f := F) (d := D) (m := Mm) hD k hk
            by_cases hlt : k < Mm
            · have hlt' : (k : Int) < (Mm : Int) := by omega
              obtain ⟨I, hI⟩ : ∃ I, F + k = I := ⟨_, rfl⟩
              obtain ⟨E, hE⟩ : ∃ E, D + k = E := ⟨_, rfl⟩
              have hIl : I < (putK t' F D k).1.length := by rw [hst.1.len]; omega
              have hI1 : (I : Int) < 128 := by omega
              have hI0 : (0 : Int) ≤ (I : Int) := by omega
              have hw1 : IntKind.i64.wrap ((F : Int) + (k : Int)) = (I : Int) := by rw [IntKind.wrap_i64]; omega
              have hw2 : IntKind.i64.wrap ((D : Int) + (k : Int)) = (E : Int) := by rw [IntKind.wrap_i64]; omega
              obtain ⟨tc, tf⟩ := hta.cell I hIl
              obtain ⟨a, ha⟩ : ∃ a, (putK t' F D k).1[I] = a := ⟨_, rfl⟩
              rw [ha] at tc
              have hgd : (putK t' F D k).1.getD I 0 = a := by rw [List.getD_eq_getElem?_getD, List.getElem?_eq_getElem hIl]; exact ha
              have e9 : putK t' F D (k + 1) = ((putK t' F D k).1.set I (E : Int), if a = 0 then (putK t' F D k).2 else joinR (putK t' F D k).2 a) := by show putX (putK t' F D k) (F + k) ((D + k : Nat) : Int) = _; rw [hI, hE]; unfold putX; rw [hgd]
              obtain ⟨n9, hn9⟩ : ∃ n9, (putK t' F D k).2.length = n9 := ⟨_, rfl⟩
              rw [hn9]
              have hTl := hta.lt
              have hrun := refRun_any p9 c9 (putK t' F D k).2 a wr (OwnG.rds rc_len hown) (by have := hst.2.1; omega) (fun x hx => by have := hst.2.2 x hx; omega)
              rw [hn9] at hrun
              have HRUN := Lib.hid hrun
              have HK := Lib.hid (And.intro hta (And.intro hown (And.intro hfr (And.intro hb (And.intro hsz (And.intro hxc (And.intro e9 hn9)))))))
              have HIL := Lib.hid hIl
              have hXT : X ≠ T := by have := H2.out.2.2.2.2.2; omega
              obtain ⟨y0, y1, y2, yl⟩ := hxc
              rw [Nat.zero_add] at y1 y2
              clear hta hown hfr hb hsz hst ha hgd e9 hrun hn9 hIl hI hE
              by_cases ha0 : a = 0
              · have ba : (a != 0) = false := by rw [ha0]; rfl
                have ba2 : (a == 0) = true := by rw [ha0]; rfl
                have H5 : Hid (TabAt (wr.setCell ⟨T, I, none⟩ (.int .i64 (E : Int))) T 95 (putK t' F D (k + 1)).1 ∧ OwnRn (wr.setCell ⟨T, I, none⟩ (.int .i64 (E : Int))) p9 c9 (putK t' F D (k + 1)).2 ∧ (∀ b, inP p9 c9 b → w3.heap.size ≤ b) ∧ Below w.heap.size w (wr.setCell ⟨T, I, none⟩ (.int .i64 (E : Int))) ∧ XCells (wr.setCell ⟨T, I, none⟩ (.int .i64 (E : Int))) X 0 F D Mm ∧ w3.heap.size ≤ (wr.setCell ⟨T, I, none⟩ (.int .i64 (E : Int))).heap.size ∧ (putK t' F D (k + 1)).2.length = n9) := Lib.hid (by
                  rw [HK.out.2.2.2.2.2.2.1, if_pos ha0]
                  have hf9 : Frn (fun b => b = T) wr (wr.setCell ⟨T, I, none⟩ (.int .i64 (E : Int))) := Frn.setCell (T := fun b => b = T) (Frn.refl _ wr) ⟨T, I, none⟩ (.inl rfl) _
                  have hx9 := hf9.block X yl hXT
                  exact ⟨HK.out.1.set I (E : Int), OwnG.keep HK.out.2.1 (fun b hb => hf9.block b (OwnG.lt HK.out.2.1 hb) (fun e => by have := HK.out.2.2.1 b hb; have := H3.out.2.2.2; omega)), HK.out.2.2.1, HK.out.2.2.2.1.trans (hf9.below HK.out.2.2.2.1.size (fun b e => by have := H2.out.2.2.1; omega)), ⟨(World.cell?_of_block (w := wr) (a := ⟨X, 0, none⟩) hx9).trans y0, (World.cell?_of_block (w := wr) (a := ⟨X, 1, none⟩) hx9).trans y1, (World.cell?_of_block (w := wr) (a := ⟨X, 2, none⟩) hx9).trans y2, Nat.lt_of_lt_of_le yl hf9.size⟩, Nat.le_trans HK.out.2.2.2.2.1 hf9.size, HK.out.2.2.2.2.2.2.2⟩)
                clear ha0 HRUN
                go_wp2_with fail
                go_roundw
                case rel => exact ⟨k + 1, p9, c9, hlt, by rw [H5.out.2.2.2.2.2.2], by go_num, H5.out.1, H5.out.2.1, H5.out.2.2.1, H5.out.2.2.2.1, H5.out.2.2.2.2.1, H5.out.2.2.2.2.2.1⟩
                case measure => simp [intOf]; omega
              · have ba : (a != 0) = true := by rw [bne_iff_ne]; exact ha0
                have ba2 : (a == 0) = false := beq_eq_false_iff_ne.2 ha0
                have HA0 := Lib.hid ha0
                clear ha0
                go_wp2_with fail
                refine HRUN.out.mono ?_
                rintro e w5 ⟨p5, c5, rfl, ho5, hp5, hb5⟩
                have ht5 := HK.out.1.below hb5
                have tf5 := (ht5.cell I HIL.out).2
                have tc5 := (hb5.cell (p := ⟨T, I, none⟩) hTl).trans tc
                replace y0 := (hb5.cell (p := ⟨X, 0, none⟩) yl).trans y0
                replace y1 := (hb5.cell (p := ⟨X, 1, none⟩) yl).trans y1
                replace y2 := (hb5.cell (p := ⟨X, 2, none⟩) yl).trans y2
                have yl5 := Nat.lt_of_lt_of_le yl hb5.size
                have H5 : Hid (TabAt (w5.setCell ⟨T, I, none⟩ (.int .i64 (E : Int))) T 95 (putK t' F D (k + 1)).1 ∧ OwnRn (w5.setCell ⟨T, I, none⟩ (.int .i64 (E : Int))) p5 c5 (putK t' F D (k + 1)).2 ∧ (∀ b, inP p5 c5 b → w3.heap.size ≤ b) ∧ Below w.heap.size w (w5.setCell ⟨T, I, none⟩ (.int .i64 (E : Int))) ∧ XCells (w5.setCell ⟨T, I, none⟩ (.int .i64 (E : Int))) X 0 F D Mm ∧ w3.heap.size ≤ (w5.setCell ⟨T, I, none⟩ (.int .i64 (E : Int))).heap.size ∧ (joinR (putK t' F D k).2 a).length = (putK t' F D (k + 1)).2.length) := Lib.hid (by
                  rw [HK.out.2.2.2.2.2.2.1, if_neg HA0.out]
                  have hf9 : Frn (fun b => b = T) w5 (w5.setCell ⟨T, I, none⟩ (.int .i64 (E : Int))) := Frn.setCell (T := fun b => b = T) (Frn.refl _ w5) ⟨T, I, none⟩ (.inl rfl) _
                  have hb9 := HK.out.2.2.2.1.trans (hb5.mono HK.out.2.2.2.1.size)
                  have hx9 := hf9.block X yl5 hXT
                  exact ⟨ht5.set I (E : Int), OwnG.keep ho5 (fun b hb => hf9.block b (OwnG.lt ho5 hb) (fun e => by have := hp5 b hb; omega)), fun b hb => Nat.le_trans HK.out.2.2.2.2.1 (hp5 b hb), hb9.trans (hf9.below hb9.size (fun b e => by have := H2.out.2.2.1; omega)), ⟨(World.cell?_of_block (w := w5) (a := ⟨X, 0, none⟩) hx9).trans y0, (World.cell?_of_block (w := w5) (a := ⟨X, 1, none⟩) hx9).trans y1, (World.cell?_of_block (w := w5) (a := ⟨X, 2, none⟩) hx9).trans y2, Nat.lt_of_lt_of_le yl5 hf9.size⟩, Nat.le_trans HK.out.2.2.2.2.1 (Nat.le_trans hb5.size hf9.size), rfl⟩)
                rw [H5.out.2.2.2.2.2.2]
                clear ht5 ho5 hp5 hb5 HRUN tc tf hTl yl5
                go_wp2_with fail
                go_roundw
                case rel => exact ⟨k + 1, p5, c5, hlt, rfl, by go_num, H5.out.1, H5.out.2.1, H5.out.2.2.1, H5.out.2.2.2.1, H5.out.2.2.2.2.1, H5.out.2.2.2.2.2.1⟩
                case measure => simp [intOf]; omega
            · obtain rfl : Mm = k := by omega
              have HLT := Lib.hid (refListT_any (putK t' F D Mm).1 wr hst.1)
              have hl9 := hst.1.len
              have HL9 := Lib.hid hl9
              have HTA := Lib.hid hta
              have hll := (listX_small hst.1 128 (Nat.le_refl _)).2
              have HK := Lib.hid (And.intro hfr (And.intro hb (And.intro hsz hown)))
              obtain ⟨y0, y1, y2, yl⟩ := hxc
              rw [Nat.zero_add] at y1 y2
              obtain ⟨n9, hn9⟩ : ∃ n9, (putK t' F D Mm).2.length = n9 := ⟨_, rfl⟩
              rw [hn9]
              have HN9 := Lib.hid hn9
              obtain ⟨N, hN⟩ : ∃ N, (listX (putK t' F D Mm).1 128).length = N := ⟨_, rfl⟩
              rw [hN] at HLT hll
              have HNN := Lib.hid hN
              clear hta hown hfr hb hsz hst hlt hn9 hN hl9
              by_cases h10 : 10 < N
              · have dl : decide (10 < (N : Int)) = true := decide_eq_true (by omega)
                have HE : Hid (putL l ((F : Int), (D : Int), (Mm : Int)) = ([], [], 3)) := Lib.hid (by rw [HPUT.out, HNN.out, if_pos h10])
                clear h10
                go_wp2_with (refine wpList_load_mid rfl 95 (.tmp 7) rfl T 0 rfl (tb (putK t' F D Mm).1) (.array 128 3) HTA.out.range (by kernel_rfl) rfl (by rw [tb_len, HL9.out]; kernel_rfl) ?_)
                refine HLT.out.mono ?_
                rintro e w5 ⟨p5, c5, rfl, ho5, hf5, hb5⟩
                have H5 := Lib.hid (HK.out.2.1.trans (hb5.mono HK.out.2.1.size))
                clear ho5 hf5 hb5 HLT
                go_wp2_with fail
                refine bodyPost_ret (results_3 rfl _ _) rfl ?_
                rw [HE.out]
                exact RetPC.none 3 H5.out
              · have dl : decide (10 < (N : Int)) = false := decide_eq_false (by omega)
                have HE : Hid (putL l ((F : Int), (D : Int), (Mm : Int)) = (listX (putK t' F D Mm).1 128, (putK t' F D Mm).2, 0)) := Lib.hid (by rw [HPUT.out, HNN.out, if_neg h10])
                clear h10
                go_wp2_with (refine wpList_load_mid rfl 95 (.tmp 7) rfl T 0 rfl (tb (putK t' F D Mm).1) (.array 128 3) HTA.out.range (by kernel_rfl) rfl (by rw [tb_len, HL9.out]; kernel_rfl) ?_)
                refine HLT.out.mono ?_
                rintro e w5 ⟨p5, c5, rfl, ho5, hf5, hb5⟩
                have H5 := Lib.hid (And.intro ho5 (And.intro hf5 hb5))
                clear ho5 hf5 hb5 HLT
                go_wp2_with fail
                refine bodyPost_ret (results_3 rfl _ _) rfl ?_
                rw [HE.out]
                exact ⟨p5, c5, p9, c9, by rw [← HN9.out, ← HNN.out]; rfl, H5.out.1, OwnG.below HK.out.2.2.2 H5.out.2.2, fun b hb => Nat.le_trans HK.out.2.1.size (H5.out.2.1 b hb), fun b hb => Nat.le_trans H3.out.2.1.size (HK.out.1 b hb), HK.out.2.1.trans (H5.out.2.2.mono HK.out.2.1.size)⟩
    · rw [Bool.not_eq_true] at hr
      have HE : Hid (putL l (f, d, m) = ([], [], 2)) := Lib.hid (by unfold putL; rw [HO.out]; exact if_pos (.inl hr))
      rw [hr] at HRT
      clear hr
      go_enter Try.func42, Try.ntmps42
      go_upto_region 1 with fail
      rw [HXB.out.1, HXB.out.2]
      go_wp2_with fail
      refine HOF.out.mono ?_
      rintro e w1 ⟨t', htl, htt, rfl, hb1⟩
      obtain ⟨htm, hbm, hlm, hth⟩ := tab_made (ty := 95) (zc := Try.zeroCells95) w1 t' htl zero_cellsM
      obtain ⟨T, hT⟩ : ∃ T, w1.heap.size = T := ⟨_, rfl⟩
      obtain ⟨w2, hw2⟩ : ∃ w2, (w1.alloc (.cells Try.zeroCells95 95)).setCells w1.heap.size 0 (tb t') = w2 := ⟨_, rfl⟩
      rw [hw2] at htm hbm hlm
      rw [hT] at htm hlm
      have HWM := Lib.hid (And.intro hT (And.intro hw2 hth))
      have HTL := Lib.hid htl
      have HTT := Lib.hid htt
      have hxw := HXC.out.2.below (hb1.trans (hbm.mono hb1.size))
      have H2 : Hid (TabAt w2 T 95 t' ∧ Below w.heap.size w w2 ∧ w.heap.size ≤ T ∧ T < w2.heap.size ∧ XCells w2 X 0 f d m ∧ X < T) := Lib.hid ⟨htm, HXC.out.1.trans ((hb1.mono HXC.out.1.size).trans (hbm.mono (Nat.le_trans HXC.out.1.size hb1.size))), by rw [← hT]; exact Nat.le_trans HXC.out.1.size hb1.size, hlm, hxw, by rw [← hT]; exact Nat.lt_of_lt_of_le HXC.out.2.lt hb1.size⟩
      obtain ⟨x0, x1, x2, xl⟩ := hxw
      rw [Nat.zero_add] at x1 x2
      clear xl
      clear htm hbm hlm hth hb1 hT hw2 htt htl
      go_wp2_with (refine wpList_store_mid rfl 95 (.tmp 7) (.tmp 16) rfl w1.heap.size 0 (tb t').toArray rfl rfl (by simpa [tb_len, HTL.out] using HWM.out.2.2) (by simp only [List.size_toArray, tb_len, HTL.out]; kernel_rfl) (all_oneCell_toArray (tb_one _)) ?_; rw [List.toList_toArray, HWM.out.2.1, HWM.out.1])
      refine (HRT.out _).mono ?_
      rintro e w3 ⟨rfl, hb3⟩
      have H3 := Lib.hid (H2.out.2.1.trans (hb3.mono H2.out.2.1.size))
      clear hb3 x0 x1 x2
      go_wp2_with fail
      refine bodyPost_ret (results_3 rfl _ _) rfl ?_
      rw [HE.out]
      exact RetPC.none 2 H3.out
end Go.Proofs.Ytenmogokbelahaa
