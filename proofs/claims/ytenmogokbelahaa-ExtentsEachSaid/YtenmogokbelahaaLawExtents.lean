/- The laws ExtentsPuts, ExtentsCuts. -/
import Derived.Test.YtenmogokbelahaaExtM
import Derived.Test.YtenmogokbelahaaExtO
namespace Go.Proofs.Ytenmogokbelahaa
open Go Go.RowKit

theorem RdS.frontX {α : Type} {B : Nat} {w : World} {p : Option Addr} {cap c : Nat} {enc : α → List Value} {ys zs : List α} (h : RdS B w p cap c enc (ys ++ zs)) : RdS B w p cap c enc ys := by
  obtain ⟨h1, h2, h3⟩ := h
  rw [List.length_append] at h1
  refine ⟨by omega, h2, h3.imp id ?_⟩
  rintro ⟨b, off, hp, hb, hc⟩
  refine ⟨b, off, hp, hb, fun i hi j v hv => hc i (by rw [List.length_append]; omega) j v ?_⟩
  rwa [List.getElem_append_left hi]
set_option maxRecDepth 100000 in
set_option maxHeartbeats 8000000 in
theorem lent_any (p : Option Addr) (cap : Nat) (l : List Ext3) (w : World) (hrd : RdS w.heap.size w p cap 3 xc l) (hl : l.length ≤ 1000) :
    Calls Try.prog 40 #[.slice p l.length cap] w fun e w' => ∃ p' cap', e = .returned (.slice p' l.length cap') ∧ OwnX w' p' cap' (l ++ [(77, 0, 0)]) ∧ (∀ b, inP p' cap' b → w.heap.size ≤ b) ∧ Below w.heap.size w w' := by
  obtain ⟨n, hn⟩ : ∃ n, l.length = n := ⟨_, rfl⟩
  have HL := Lib.hid hn
  have HLM : Hid (n ≤ 1000) := Lib.hid (by omega)
  have HRD := Lib.hid (hrd.keep (w' := w.alloc (.cells #[] 81)) (fun b hb => ((Below.refl _ w).alloc (Nat.le_refl _) (.cells #[] 81)).block b (hrd.inlt hb)))
  rw [hn]
  have hn0 : (0 : Int) ≤ (n : Int) := by omega
  clear hrd hn hl
  go_enter Try.func40, Try.ntmps40
  go_wp2_with (at_builtin; first
    | (refine wpList_copyG rfl (.tmp 3) (.tmp 4) _ rfl elem_exts (by decide) xc_len xc_one w.heap.size _ rfl (own_empty w w.heap.size 81 3 (Nat.le_refl _)) p cap l w.heap.size (by rw [HL.out]; rfl) HRD.out (by rw [HL.out]; have := HLM.out; omega) (by simp) ?_
       rw [HL.out]
       intro pc cc wc hown hpc hg
       have hbc : Below w.heap.size w wc := below_grown ((Below.refl _ w).alloc (Nat.le_refl _) _) hg (by simp) (by intro b hb; cases hb; exact Nat.le_refl _)
       have HC := Lib.hid (And.intro hown (And.intro hpc hbc))
       have HOW : Hid (OwnX (wc.alloc (.cells #[.int .i64 77, .int .i64 0, .int .i64 0] 81)) pc cc l) := Lib.hid (OwnG.below hown (below_allocX wc _))
       clear hown hpc hg hbc)
    | (refine wpList_appG rfl (.tmp 5) (.tmp 7) _ rfl elem_exts (by decide) xc_len xc_one pc cc l [((77 : Int), (0 : Int), (0 : Int))] (by rw [HL.out]; rfl) HOW.out _ 1 1 rfl rfl 81 (0, 0) (World.alloc_heap_new _ _) (Nat.succ_pos _) ⟨by rw [HL.out]; have := HLM.out; omega, by simp⟩ ?_
       rw [HL.out]
       intro p' cap' w' happ
       have hfr := AppG.of (Frn.alloc _ wc _) happ
       have hcp := (OwnG.rds xc_len hfr.1).1
       have hcm := (OwnG.rds xc_len hfr.1).2.1
       rw [List.length_append, HL.out] at hcp
       have hc1 : (n : Int) ≤ (cap' : Int) := by simp at hcp; omega
       have hc2 : (cap' : Int) ≤ 9223372036854775807 := by unfold maxLen at hcm; omega
       unfold maxLen at hcm
       have HA := Lib.hid hfr
       clear happ hfr hcp))
  go_ret
  exact ⟨p', cap', rfl, HA.out.1, fun b hb => (HA.out.2.2 b hb).elim (HC.out.2.1 b) (fun h => Nat.le_trans HC.out.2.2.size h.1), HC.out.2.2.trans (HA.out.2.1.below HC.out.2.2.size HC.out.2.1)⟩
set_option maxRecDepth 100000 in
set_option maxHeartbeats 8000000 in
theorem lawExtentsPuts (p : Option Addr) (cap : Nat) (l : List Ext3) (f d m : Int) (w : World) (hrd : RdS w.heap.size w p cap 3 xc l) :
    Calls Try.prog 8 #[.slice p l.length cap, .agg #[.int .i64 f, .int .i64 d, .int .i64 m]] w fun e w' => e = .returned (.bool true) ∧ Below w.heap.size w w' := by
  obtain ⟨n, hn⟩ : ∃ n, l.length = n := ⟨_, rfl⟩
  have hxn := XCells.new w f d m 81
  have hb0 := below_allocX w (.cells #[.int .i64 f, .int .i64 d, .int .i64 m] 81)
  obtain ⟨wb, hwb⟩ : ∃ wb, w.alloc (.cells #[.int .i64 f, .int .i64 d, .int .i64 m] 81) = wb := ⟨_, rfl⟩
  obtain ⟨X, hX⟩ : ∃ X, w.heap.size = X := ⟨_, rfl⟩
  rw [hwb, hX] at hxn
  rw [hwb] at hb0
  have HXB := Lib.hid (And.intro hwb hX)
  have HB0 := Lib.hid hb0
  have HXN := Lib.hid hxn
  have HRD := Lib.hid hrd
  have HN := Lib.hid hn
  have hlen := hrd.len
  rw [hn] at hlen
  rw [hn]
  clear hrd hn hb0 hxn hwb hX
  by_cases h30 : 30 < n
  · have d1 : decide (30 < (n : Int)) = true := decide_eq_true (by omega)
    clear h30
    go_enter Try.func8, Try.ntmps8
    go_upto_region 1 with fail
    rw [HXB.out.1, HXB.out.2]
    go_wp2_with fail
    refine (works06_any _).mono ?_
    rintro e w' ⟨rfl, hb⟩
    have H9 := Lib.hid (HB0.out.trans (hb.mono HB0.out.size))
    clear hb
    go_wp2_with fail
    go_ret
    exact ⟨rfl, H9.out⟩
  · have d1 : decide (30 < (n : Int)) = false := decide_eq_false (by omega)
    have hn0 : (0 : Int) ≤ (n : Int) := by omega
    have hn30 : (n : Int) ≤ 30 := by omega
    have hle := lent_any p cap l wb (HRD.out.onX HB0.out) (by rw [HN.out]; omega)
    rw [HN.out] at hle
    have HLE := Lib.hid hle
    clear hle h30
    go_enter Try.func8, Try.ntmps8
    go_upto_region 1 with fail
    rw [HXB.out.1, HXB.out.2]
    go_wp2_with fail
    refine HLE.out.mono ?_
    rintro e w1 ⟨pm, cm, rfl, hom, hfm, hb1⟩
    have hbw1 := HB0.out.trans (hb1.mono HB0.out.size)
    have HM := Lib.hid (And.intro hom hbw1)
    have hp1 := putE_any pm cm l f d m w1 (OwnG.rds xc_len hom).frontX
    rw [HN.out] at hp1
    have HP1 := Lib.hid hp1
    obtain ⟨x0, x1, x2, xl⟩ := HXN.out.below hb1
    rw [Nat.zero_add] at x1 x2
    clear hp1 hom hfm hb1 hbw1 HLE
    go_wp2_with fail
    refine HP1.out.mono ?_
    rintro e w2 ⟨p1, c1, p2, c2, rfl, ho1, ho2, -, -, hb2⟩
    have hbw2 := HM.out.2.trans (hb2.mono HM.out.2.size)
    have H2 := Lib.hid (And.intro ho1 (And.intro ho2 (And.intro (OwnG.below HM.out.1 hb2) hbw2)))
    have hp2 := refPut_any p cap l f d m w2 (HRD.out.onX hbw2)
    rw [HN.out] at hp2
    have HP2 := Lib.hid hp2
    replace x0 := (hb2.cell (p := ⟨X, 0, none⟩) xl).trans x0
    replace x1 := (hb2.cell (p := ⟨X, 1, none⟩) xl).trans x1
    replace x2 := (hb2.cell (p := ⟨X, 2, none⟩) xl).trans x2
    obtain ⟨r, hr⟩ : ∃ r, putL l (f, d, m) = r := ⟨_, rfl⟩
    rw [hr] at H2 HP2
    clear hp2 ho1 ho2 hb2 hbw2 HP1
    try rw [hr]
    clear hr
    go_wp2_with fail
    refine HP2.out.mono ?_
    rintro e w3 ⟨p3, c3, p4, c4, rfl, ho3, ho4, -, -, hb3⟩
    have H3 := Lib.hid (And.intro (OwnG.below H2.out.1 hb3) (And.intro (OwnG.below H2.out.2.1 hb3) (And.intro (OwnG.below H2.out.2.2.1 hb3) (And.intro ho3 (And.intro ho4 (H2.out.2.2.2.trans (hb3.mono H2.out.2.2.2.size)))))))
    clear ho3 ho4 hb3 HP2 x0 x1 x2 xl
    obtain ⟨r1, r2, k⟩ := r
    simp only at H3
    obtain ⟨n1, hn1⟩ : ∃ n1, r1.length = n1 := ⟨_, rfl⟩
    obtain ⟨n2, hn2⟩ : ∃ n2, r2.length = n2 := ⟨_, rfl⟩
    have hs1 : Calls Try.prog 43 #[.slice p1 r1.length c1, .slice p3 r1.length c3] w3 fun e w' => e = .returned (.bool true) ∧ Below w3.heap.size w3 w' := (sameList_any p1 p3 c1 c3 r1 r1 w3 (OwnG.rds xc_len H3.out.1) (OwnG.rds xc_len H3.out.2.2.2.1)).mono (fun e w' h => ⟨by rw [h.1, decide_eq_true rfl], (by obtain ⟨q, rfl⟩ := h.2; exact below_drewN (Below.refl _ w3) q)⟩)
    rw [hn1] at hs1
    have HS1 := Lib.hid hs1
    clear hs1
    rw [hn1, hn2]
    go_wp2_with fail
    refine HS1.out.mono ?_
    rintro e w4 ⟨rfl, hb4⟩
    have hs2 : Calls Try.prog 44 #[.slice p2 r2.length c2, .slice p4 r2.length c4] w4 fun e w' => e = .returned (.bool true) ∧ Below w4.heap.size w4 w' := (sameRuns_any p2 p4 c2 c4 r2 r2 w4 (OwnG.rds rc_len (OwnG.below H3.out.2.1 hb4)) (OwnG.rds rc_len (OwnG.below H3.out.2.2.2.2.1 hb4))).mono (fun e w' h => ⟨by rw [h.1, decide_eq_true rfl], (by obtain ⟨q, rfl⟩ := h.2; exact below_drewN (Below.refl _ w4) q)⟩)
    rw [hn2] at hs2
    have HS2 := Lib.hid hs2
    have H4 := Lib.hid (And.intro (OwnG.below H3.out.2.2.1 hb4) (H3.out.2.2.2.2.2.trans (hb4.mono H3.out.2.2.2.2.2.size)))
    clear hb4 hs2 HS1
    go_wp2_with fail
    refine HS2.out.mono ?_
    rintro e w5 ⟨rfl, hb5⟩
    have H5 := Lib.hid (And.intro (OwnG.below H4.out.1 hb5) (H4.out.2.trans (hb5.mono H4.out.2.size)))
    clear hb5 HS2
    go_wp2_with fail
    refine (num06_any _ _).mono ?_
    rintro e w6 ⟨rfl, hw6⟩
    subst hw6
    have bk : (k == k) = true := beq_self_eq_true k
    have hs3 : Calls Try.prog 43 #[.slice pm l.length cm, .slice p l.length cap] w5 fun e w' => e = .returned (.bool true) ∧ Below w5.heap.size w5 w' := (sameList_any pm p cm cap l l w5 (OwnG.rds xc_len H5.out.1).frontX (HRD.out.onX H5.out.2)).mono (fun e w' h => ⟨by rw [h.1, decide_eq_true rfl], (by obtain ⟨q, rfl⟩ := h.2; exact below_drewN (Below.refl _ w5) q)⟩)
    rw [HN.out] at hs3
    have HS3 := Lib.hid hs3
    clear hs3
    go_wp2_with fail
    refine HS3.out.mono ?_
    rintro e w7 ⟨rfl, hb7⟩
    have hm7 := OwnG.below H5.out.1 hb7
    have hnl : n < (l ++ [((77 : Int), (0 : Int), (0 : Int))]).length := by rw [List.length_append, HN.out]; exact Nat.lt_succ_self n
    obtain ⟨g, o, rfl, hin, hxc, -⟩ := OwnX.row hm7 n hnl
    have he7 : (l ++ [((77 : Int), (0 : Int), (0 : Int))])[n]'hnl = (77, 0, 0) := by rw [List.getElem_append_right (by rw [HN.out]; exact Nat.le_refl n)]; simp [HN.out]
    rw [he7] at hxc
    have c77 := hxc.c0
    simp only at c77
    have hcp := (OwnG.rds xc_len hm7).1
    have hcm := (OwnG.rds xc_len hm7).2.1
    rw [List.length_append, HN.out] at hcp
    unfold maxLen at hcm
    have hq1 : ((n + 1 : Nat) : Int) ≤ (cm : Int) := by simp at hcp; omega
    have hw1 : IntKind.i64.wrap ((n : Int) + 1) = ((n + 1 : Nat) : Int) := by rw [IntKind.wrap_i64]; omega
    have hq2 : (0 : Int) ≤ ((n + 1 : Nat) : Int) := by omega
    have hq3 : (cm : Int) ≤ 9223372036854775807 := by omega
    have hq4 : (n : Int) < ((n + 1 : Nat) : Int) := by omega
    have H7 := Lib.hid (H5.out.2.trans (hb7.mono H5.out.2.size))
    clear hb7 hm7 hnl hin hxc he7 hcp HS3
    go_wp2_with fail
    refine (works06_any _).mono ?_
    rintro e w' ⟨rfl, hb⟩
    have H9 := Lib.hid (H7.out.trans (hb.mono H7.out.size))
    clear hb
    go_wp2_with fail
    go_ret
    exact ⟨rfl, H9.out⟩
set_option maxRecDepth 100000 in
set_option maxHeartbeats 8000000 in
theorem lawExtentsCuts (p : Option Addr) (cap : Nat) (l : List Ext3) (b : Int) (w : World) (hrd : RdS w.heap.size w p cap 3 xc l) :
    Calls Try.prog 9 #[.slice p l.length cap, .int .i64 b] w fun e w' => e = .returned (.bool true) ∧ Below w.heap.size w w' := by
  obtain ⟨n, hn⟩ : ∃ n, l.length = n := ⟨_, rfl⟩
  have hb0 := Below.refl w.heap.size w
  have HB0 := Lib.hid hb0
  have HRD := Lib.hid hrd
  have HN := Lib.hid hn
  have hlen := hrd.len
  rw [hn] at hlen
  rw [hn]
  clear hrd hn hb0
  by_cases h30 : 30 < n
  · have d1 : decide (30 < (n : Int)) = true := decide_eq_true (by omega)
    clear h30
    go_enter Try.func9, Try.ntmps9
    go_wp2_with fail
    refine (works06_any _).mono ?_
    rintro e w' ⟨rfl, hb⟩
    have H9 := Lib.hid (HB0.out.trans (hb.mono HB0.out.size))
    clear hb
    go_wp2_with fail
    go_ret
    exact ⟨rfl, H9.out⟩
  · have d1 : decide (30 < (n : Int)) = false := decide_eq_false (by omega)
    have hn0 : (0 : Int) ≤ (n : Int) := by omega
    have hn30 : (n : Int) ≤ 30 := by omega
    have hle := lent_any p cap l w (HRD.out.onX HB0.out) (by rw [HN.out]; omega)
    rw [HN.out] at hle
    have HLE := Lib.hid hle
    clear hle h30
    go_enter Try.func9, Try.ntmps9
    go_wp2_with fail
    refine HLE.out.mono ?_
    rintro e w1 ⟨pm, cm, rfl, hom, hfm, hb1⟩
    have hbw1 := HB0.out.trans (hb1.mono HB0.out.size)
    have HM := Lib.hid (And.intro hom hbw1)
    have hp1 := cutX_any pm cm l b w1 (OwnG.rds xc_len hom).frontX
    rw [HN.out] at hp1
    have HP1 := Lib.hid hp1
    clear hp1 hom hfm hb1 hbw1 HLE
    go_wp2_with fail
    refine HP1.out.mono ?_
    rintro e w2 ⟨p1, c1, p2, c2, rfl, ho1, ho2, -, -, hb2⟩
    have hbw2 := HM.out.2.trans (hb2.mono HM.out.2.size)
    have H2 := Lib.hid (And.intro ho1 (And.intro ho2 (And.intro (OwnG.below HM.out.1 hb2) hbw2)))
    have hp2 := refCut_any p cap l b w2 (HRD.out.onX hbw2)
    rw [HN.out] at hp2
    have HP2 := Lib.hid hp2
    obtain ⟨r, hr⟩ : ∃ r, cutL l b = r := ⟨_, rfl⟩
    rw [hr] at H2 HP2
    clear hp2 ho1 ho2 hb2 hbw2 HP1
    try rw [hr]
    clear hr
    go_wp2_with fail
    refine HP2.out.mono ?_
    rintro e w3 ⟨p3, c3, p4, c4, rfl, ho3, ho4, -, -, hb3⟩
    have H3 := Lib.hid (And.intro (OwnG.below H2.out.1 hb3) (And.intro (OwnG.below H2.out.2.1 hb3) (And.intro (OwnG.below H2.out.2.2.1 hb3) (And.intro ho3 (And.intro ho4 (H2.out.2.2.2.trans (hb3.mono H2.out.2.2.2.size)))))))
    clear ho3 ho4 hb3 HP2
    obtain ⟨r1, r2, k⟩ := r
    simp only at H3
    obtain ⟨n1, hn1⟩ : ∃ n1, r1.length = n1 := ⟨_, rfl⟩
    obtain ⟨n2, hn2⟩ : ∃ n2, r2.length = n2 := ⟨_, rfl⟩
    have hs1 : Calls Try.prog 43 #[.slice p1 r1.length c1, .slice p3 r1.length c3] w3 fun e w' => e = .returned (.bool true) ∧ Below w3.heap.size w3 w' := (sameList_any p1 p3 c1 c3 r1 r1 w3 (OwnG.rds xc_len H3.out.1) (OwnG.rds xc_len H3.out.2.2.2.1)).mono (fun e w' h => ⟨by rw [h.1, decide_eq_true rfl], (by obtain ⟨q, rfl⟩ := h.2; exact below_drewN (Below.refl _ w3) q)⟩)
    rw [hn1] at hs1
    have HS1 := Lib.hid hs1
    clear hs1
    rw [hn1, hn2]
    go_wp2_with fail
    refine HS1.out.mono ?_
    rintro e w4 ⟨rfl, hb4⟩
    have hs2 : Calls Try.prog 44 #[.slice p2 r2.length c2, .slice p4 r2.length c4] w4 fun e w' => e = .returned (.bool true) ∧ Below w4.heap.size w4 w' := (sameRuns_any p2 p4 c2 c4 r2 r2 w4 (OwnG.rds rc_len (OwnG.below H3.out.2.1 hb4)) (OwnG.rds rc_len (OwnG.below H3.out.2.2.2.2.1 hb4))).mono (fun e w' h => ⟨by rw [h.1, decide_eq_true rfl], (by obtain ⟨q, rfl⟩ := h.2; exact below_drewN (Below.refl _ w4) q)⟩)
    rw [hn2] at hs2
    have HS2 := Lib.hid hs2
    have H4 := Lib.hid (And.intro (OwnG.below H3.out.2.2.1 hb4) (H3.out.2.2.2.2.2.trans (hb4.mono H3.out.2.2.2.2.2.size)))
    clear hb4 hs2 HS1
    go_wp2_with fail
    refine HS2.out.mono ?_
    rintro e w5 ⟨rfl, hb5⟩
    have H5 := Lib.hid (And.intro (OwnG.below H4.out.1 hb5) (H4.out.2.trans (hb5.mono H4.out.2.size)))
    clear hb5 HS2
    go_wp2_with fail
    refine (num06_any _ _).mono ?_
    rintro e w6 ⟨rfl, hw6⟩
    subst hw6
    have bk : (k == k) = true := beq_self_eq_true k
    have hs3 : Calls Try.prog 43 #[.slice pm l.length cm, .slice p l.length cap] w5 fun e w' => e = .returned (.bool true) ∧ Below w5.heap.size w5 w' := (sameList_any pm p cm cap l l w5 (OwnG.rds xc_len H5.out.1).frontX (HRD.out.onX H5.out.2)).mono (fun e w' h => ⟨by rw [h.1, decide_eq_true rfl], (by obtain ⟨q, rfl⟩ := h.2; exact below_drewN (Below.refl _ w5) q)⟩)
    rw [HN.out] at hs3
    have HS3 := Lib.hid hs3
    clear hs3
    go_wp2_with fail
    refine HS3.out.mono ?_
    rintro e w7 ⟨rfl, hb7⟩
    have hm7 := OwnG.below H5.out.1 hb7
    have hnl : n < (l ++ [((77 : Int), (0 : Int), (0 : Int))]).length := by rw [List.length_append, HN.out]; exact Nat.lt_succ_self n
    obtain ⟨g, o, rfl, hin, hxc, -⟩ := OwnX.row hm7 n hnl
    have he7 : (l ++ [((77 : Int), (0 : Int), (0 : Int))])[n]'hnl = (77, 0, 0) := by rw [List.getElem_append_right (by rw [HN.out]; exact Nat.le_refl n)]; simp [HN.out]
    rw [he7] at hxc
    have c77 := hxc.c0
    simp only at c77
    have hcp := (OwnG.rds xc_len hm7).1
    have hcm := (OwnG.rds xc_len hm7).2.1
    rw [List.length_append, HN.out] at hcp
    unfold maxLen at hcm
    have hq1 : ((n + 1 : Nat) : Int) ≤ (cm : Int) := by simp at hcp; omega
    have hw1 : IntKind.i64.wrap ((n : Int) + 1) = ((n + 1 : Nat) : Int) := by rw [IntKind.wrap_i64]; omega
    have hq2 : (0 : Int) ≤ ((n + 1 : Nat) : Int) := by omega
    have hq3 : (cm : Int) ≤ 9223372036854775807 := by omega
    have hq4 : (n : Int) < ((n + 1 : Nat) : Int) := by omega
    have H7 := Lib.hid (H5.out.2.trans (hb7.mono H5.out.2.size))
    clear hb7 hm7 hnl hin hxc he7 hcp HS3
    go_wp2_with fail
    refine (works06_any _).mono ?_
    rintro e w' ⟨rfl, hb⟩
    have H9 := Lib.hid (H7.out.trans (hb.mono H7.out.size))
    clear hb
    go_wp2_with fail
    go_ret
    exact ⟨rfl, H9.out⟩
theorem RdS.mapX {α β : Type} {B : Nat} {w : World} {p : Option Addr} {cap c : Nat} {enc : α → List Value} {enc' : β → List Value} {ys : List α} (h : RdS B w p cap c enc ys) (f : α → β) (he : ∀ y, enc y = enc' (f y)) : RdS B w p cap c enc' (ys.map f) := by
  obtain ⟨h1, h2, h3⟩ := h
  refine ⟨by simpa using h1, h2, h3.imp id ?_⟩
  rintro ⟨b, off, hp, hb, hc⟩
  refine ⟨b, off, hp, hb, fun i hi j v hv => ?_⟩
  have hi2 : i < ys.length := by simpa using hi
  refine hc i hi2 j v ?_
  rw [he]
  simpa using hv
theorem lawExtentsPuts_of {α : Type} {enc : α → List Value} (p : Option Addr) (cap : Nat) (ys : List α) (f d m : Int) (W : World) (hr : RdS W.heap.size W p cap 3 enc ys) (g : α → Ext3) (hg : ∀ y, enc y = xc (g y)) :
    Calls Try.prog 8 #[.slice p ys.length cap, .agg #[.int .i64 f, .int .i64 d, .int .i64 m]] W fun e w' => e = .returned (.bool true) ∧ Below W.heap.size W w' := by
  have := lawExtentsPuts p cap (ys.map g) f d m W (hr.mapX g hg)
  rwa [List.length_map] at this
theorem lawExtentsCuts_of {α : Type} {enc : α → List Value} (p : Option Addr) (cap : Nat) (ys : List α) (b : Int) (W : World) (hr : RdS W.heap.size W p cap 3 enc ys) (g : α → Ext3) (hg : ∀ y, enc y = xc (g y)) :
    Calls Try.prog 9 #[.slice p ys.length cap, .int .i64 b] W fun e w' => e = .returned (.bool true) ∧ Below W.heap.size W w' := by
  have := lawExtentsCuts p cap (ys.map g) b W (hr.mapX g hg)
  rwa [List.length_map] at this
end Go.Proofs.Ytenmogokbelahaa
