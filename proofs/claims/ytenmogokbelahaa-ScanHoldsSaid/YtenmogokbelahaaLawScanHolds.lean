/- ScanHolds: what a reader finds beside a change's stores. -/
import Derived.Test.YtenmogokbelahaaSlotJ
namespace Go.Proofs.Ytenmogokbelahaa
open Go Go.RowKit

set_option maxRecDepth 100000 in
set_option maxHeartbeats 16000000 in
theorem lawScanHolds (left : BitVec 64) (p : Option Addr) (cap : Nat) (s : List (BitVec 64)) (what : Int) (K P key : BitVec 64) (pt : Option Addr) (ct : Nat) (ts : List (BitVec 8)) (w : World) (hrd : RdL w.heap.size w p cap vw s) (hrt : RdL w.heap.size w pt ct vb ts) :
    Calls Try.prog 5 #[vw left, .slice p s.length cap, .int .i64 what, .agg #[vw K, vw P], vw key, .slice pt ts.length ct] w fun e w' => e = .returned (.bool true) ∧ Below w.heap.size w w' := by
  obtain ⟨W1, hW1⟩ : ∃ W1, w.alloc (.cells #[vw K, vw P] 49) = W1 := ⟨_, rfl⟩
  have hb1 : Below w.heap.size w W1 := by rw [← hW1]; exact (Below.refl _ _).alloc (Nat.le_refl _) _
  have hx1 : W1.heap[w.heap.size]? = some (.cells #[vw K, vw P] 49 (0, 0)) := by rw [← hW1]; exact World.alloc_heap_new _ _
  have hz1 : W1.heap.size = w.heap.size + 1 := by rw [← hW1]; simp
  have HRD := Lib.hid (fun W (hb : Below w.heap.size w W) => (hrd.below hb).wide hb.size)
  have HRT := Lib.hid (fun W (hb : Below w.heap.size w W) => (hrt.below hb).wide hb.size)
  clear hrd hrt
  by_cases hl : s.length ≤ 56 ∧ ts.length ≤ 300
  · obtain ⟨hl, ht⟩ := hl
    have hl' : (s.length : Int) ≤ 56 := by omega
    have ht' : (ts.length : Int) ≤ 300 := by omega
    have HC := Lib.hid (check_any left p cap s W1 (HRD.out W1 hb1) (by omega))
    have HW1 := Lib.hid (And.intro hW1 (And.intro hb1 (And.intro hx1 hz1)))
    clear hW1 hb1 hx1 hz1
    go_enter Try.func5, Try.ntmps5
    go_wp2_with fail
    rw [HW1.out.1]
    refine HC.out.mono ?_
    rintro e w2 ⟨v, rfl, hset, hb2⟩
    have H2 := Lib.hid (HW1.out.2.1.trans (hb2.mono HW1.out.2.1.size))
    have hx2 := (hb2.block w.heap.size (by have := HW1.out.2.2.2; omega)).trans HW1.out.2.2.1
    have hz2 : w.heap.size < w2.heap.size := by have := HW1.out.2.2.2; have := hb2.size; omega
    have HX2 := Lib.hid (And.intro hx2 hz2)
    clear hb2 HC hx2 hz2
    by_cases hv : v = 0
    · subst hv
      have hS := hset rfl
      have h56 := hS.1.l56
      have h4 := hS.1.l4
      have hev := hS.1.ev
      have hrlen : (readL left s).length ≤ 100000 := by
        have h1 := set_len hS
        have h2 := hS.1.nm
        omega
      clear hset hS HW1
      have c0 : w2.cell? ⟨w.heap.size, 0, none⟩ = some (vw K) := by simp [World.cell?, HX2.out.1]
      have c1 : w2.cell? ⟨w.heap.size, 1, none⟩ = some (vw P) := by simp [World.cell?, HX2.out.1]
      have HPUT := Lib.hid (put_any left p cap s K P w2 (HRD.out w2 H2.out) (by omega))
      go_wp2_with fail
      refine HPUT.out.mono ?_
      rintro e w3 ⟨v1, no, rfl, hpk, hb3⟩
      have H3 := Lib.hid (H2.out.trans (hb3.mono H2.out.size))
      have c0 := (hb3.cell (p := ⟨w.heap.size, 0, none⟩) HX2.out.2).trans c0
      have c1 := (hb3.cell (p := ⟨w.heap.size, 1, none⟩) HX2.out.2).trans c1
      have HPK := Lib.hid hpk
      clear hpk hb3 HPUT HX2
      by_cases hw0 : what = 0
      · subst hw0
        clear c0 c1
        by_cases hno : no = 0
        · subst hno
          obtain ⟨l, q, d, rfl, hown, -, hgood⟩ := HPK.out rfl
          have HOW := Lib.hid hown
          have HGOOD := Lib.hid hgood
          have hl2 := hgood.1
          have HRE := Lib.hid (read_any left p cap s w3 (HRD.out w3 H3.out) (by omega))
          clear hown hgood HPK
          go_wp2_with fail
          refine HRE.out.mono ?_
          rintro e w5 ⟨q5, d5, v5, rfl, ho5, -, hb5⟩
          have H5 := Lib.hid (H3.out.trans (hb5.mono H3.out.size))
          have hr5 := ho5.rds pc_len
          have HR5 := Lib.hid hr5
          have hrs5 : RdS w5.heap.size w5 q d 2 sc l := (HOW.out.below hb5).rds sc_len
          have HS5 := Lib.hid hrs5
          have HAP := Lib.hid (apply_any p cap s q d l w5 (HRD.out w5 H5.out) hrs5 (by omega) (by omega) (by omega) HGOOD.out.2.1)
          clear ho5 hb5 hr5 hrs5 HRE HOW
          go_wp2_with fail
          refine HAP.out.mono ?_
          rintro e w6 ⟨q6, d6, rfl, hr6, -, hb6⟩
          have H56 := Lib.hid hb6
          have H6 := Lib.hid (H5.out.trans (hb6.mono H5.out.size))
          obtain ⟨row, hrow⟩ : ∃ row, rowT s l l.length = row := ⟨_, rfl⟩
          have hrl : row.length = s.length := by rw [← hrow, rowT_len]
          rw [hrow] at hr6
          have hre := read_any left q6 d6 row w6 hr6 (by omega)
          rw [hrl] at hre
          have HRE2 := Lib.hid hre
          have hlr : (readL left row).length ≤ 100000 := by
            have h1 := readN_len left row (rawS row)
            have h2 := (rawS_ok row).1
            have h3 : readL left row = readN left row (rawS row) := rfl
            rw [h3]
            omega
          have HLR := Lib.hid hlr
          have HROW := Lib.hid hrow
          clear hr6 hb6 hre hrl hlr hrow HAP
          go_wp2_with fail
          refine HRE2.out.mono ?_
          rintro e w7 ⟨q7, d7, v7, rfl, ho7, -, hb7⟩
          have H57 := Lib.hid (H56.out.trans (hb7.mono H56.out.size))
          have H7 := Lib.hid (H6.out.trans (hb7.mono H6.out.size))
          have HR7 := Lib.hid (ho7.rds pc_len)
          have hrs7 : RdS w7.heap.size w7 q d 2 sc l := RdS.wideB (RdS.keep HS5.out (fun b hi => H57.out.block b (HS5.out.inlt hi))) H57.out.size
          have HBT := Lib.hid (between_any 1 (by decide) left p cap s key q d l pt ct ts w7 (HRD.out w7 H7.out) hrs7 (HRT.out w7 H7.out) (by omega) (by omega) (by omega) hl2 (by omega) HGOOD.out.2.1)
          clear ho7 hb7 hrs7 HRE2
          go_wp2_with fail
          refine HBT.out.mono ?_
          rintro e w8 ⟨r, t, hrch, hdone, rfl, hb8⟩
          have H8 := Lib.hid (H7.out.trans (hb8.mono H7.out.size))
          have H78 := Lib.hid hb8
          have H58 := Lib.hid (H57.out.trans (hb8.mono H57.out.size))
          have hok := HGOOD.out.2.2 key r t hrch hdone
          rw [HROW.out] at hok
          have HHO := Lib.hid (holds_any q5 d5 (readL left s) q7 d7 (readL left row) key r.found w8 (RdS.wideB (RdS.keep HR5.out (fun b hi => H58.out.block b (HR5.out.inlt hi))) H58.out.size) (RdS.wideB (RdS.keep HR7.out (fun b hi => H78.out.block b (HR7.out.inlt hi))) H78.out.size) hrlen HLR.out hok)
          clear hrch hdone hb8 hok HBT
          go_wp2_with fail
          refine HHO.out.mono ?_
          rintro e w9 ⟨rfl, rfl⟩
          go_wp2_with fail
          refine (works10_any _).mono ?_
          rintro e wz ⟨rfl, hbz⟩
          go_wp2_with fail
          go_ret
          exact ⟨rfl, H8.out.trans (hbz.mono H8.out.size)⟩
        · have hno' : (no != 0) = true := bne_iff_ne.2 hno
          clear hno HPK
          go_wp2_with fail
          refine (works10_any _).mono ?_
          rintro e wz ⟨rfl, hbz⟩
          go_wp2_with fail
          go_ret
          exact ⟨rfl, H3.out.trans (hbz.mono H3.out.size)⟩
      · have hq0 : (what == 0) = false := beq_eq_false_iff_ne.2 hw0
        by_cases hw1 : what = 1
        · subst hw1
          clear hw0 HPK
          have HTK := Lib.hid (take_any left p cap s K w3 (HRD.out w3 H3.out) (by omega))
          go_wp2_with fail
          refine HTK.out.mono ?_
          rintro e w4 ⟨v1, no, rfl, hpk, hb4⟩
          have H4 := Lib.hid (H3.out.trans (hb4.mono H3.out.size))
          have HPK := Lib.hid hpk
          clear hpk hb4 HTK c0 c1
          by_cases hno : no = 0
          · subst hno
            obtain ⟨l, q, d, rfl, hown, -, hgood⟩ := HPK.out rfl
            have HOW := Lib.hid hown
            have HGOOD := Lib.hid hgood
            have hl2 := hgood.1
            have HRE := Lib.hid (read_any left p cap s w4 (HRD.out w4 H4.out) (by omega))
            clear hown hgood HPK
            go_wp2_with fail
            refine HRE.out.mono ?_
            rintro e w5 ⟨q5, d5, v5, rfl, ho5, -, hb5⟩
            have H5 := Lib.hid (H4.out.trans (hb5.mono H4.out.size))
            have hr5 := ho5.rds pc_len
            have HR5 := Lib.hid hr5
            have hrs5 : RdS w5.heap.size w5 q d 2 sc l := (HOW.out.below hb5).rds sc_len
            have HS5 := Lib.hid hrs5
            have HAP := Lib.hid (apply_any p cap s q d l w5 (HRD.out w5 H5.out) hrs5 (by omega) (by omega) (by omega) HGOOD.out.2.1)
            clear ho5 hb5 hr5 hrs5 HRE HOW
            go_wp2_with fail
            refine HAP.out.mono ?_
            rintro e w6 ⟨q6, d6, rfl, hr6, -, hb6⟩
            have H56 := Lib.hid hb6
            have H6 := Lib.hid (H5.out.trans (hb6.mono H5.out.size))
            obtain ⟨row, hrow⟩ : ∃ row, rowT s l l.length = row := ⟨_, rfl⟩
            have hrl : row.length = s.length := by rw [← hrow, rowT_len]
            rw [hrow] at hr6
            have hre := read_any left q6 d6 row w6 hr6 (by omega)
            rw [hrl] at hre
            have HRE2 := Lib.hid hre
            have hlr : (readL left row).length ≤ 100000 := by
              have h1 := readN_len left row (rawS row)
              have h2 := (rawS_ok row).1
              have h3 : readL left row = readN left row (rawS row) := rfl
              rw [h3]
              omega
            have HLR := Lib.hid hlr
            have HROW := Lib.hid hrow
            clear hr6 hb6 hre hrl hlr hrow HAP
            go_wp2_with fail
            refine HRE2.out.mono ?_
            rintro e w7 ⟨q7, d7, v7, rfl, ho7, -, hb7⟩
            have H57 := Lib.hid (H56.out.trans (hb7.mono H56.out.size))
            have H7 := Lib.hid (H6.out.trans (hb7.mono H6.out.size))
            have HR7 := Lib.hid (ho7.rds pc_len)
            have hrs7 : RdS w7.heap.size w7 q d 2 sc l := RdS.wideB (RdS.keep HS5.out (fun b hi => H57.out.block b (HS5.out.inlt hi))) H57.out.size
            have HBT := Lib.hid (between_any 2 (by decide) left p cap s key q d l pt ct ts w7 (HRD.out w7 H7.out) hrs7 (HRT.out w7 H7.out) (by omega) (by omega) (by omega) hl2 (by omega) HGOOD.out.2.1)
            clear ho7 hb7 hrs7 HRE2
            go_wp2_with fail
            refine HBT.out.mono ?_
            rintro e w8 ⟨r, t, hrch, hdone, rfl, hb8⟩
            have H8 := Lib.hid (H7.out.trans (hb8.mono H7.out.size))
            have H78 := Lib.hid hb8
            have H58 := Lib.hid (H57.out.trans (hb8.mono H57.out.size))
            have hok := HGOOD.out.2.2 key r t hrch hdone
            rw [HROW.out] at hok
            have HHO := Lib.hid (holds_any q5 d5 (readL left s) q7 d7 (readL left row) key r.found w8 (RdS.wideB (RdS.keep HR5.out (fun b hi => H58.out.block b (HR5.out.inlt hi))) H58.out.size) (RdS.wideB (RdS.keep HR7.out (fun b hi => H78.out.block b (HR7.out.inlt hi))) H78.out.size) hrlen HLR.out hok)
            clear hrch hdone hb8 hok HBT
            go_wp2_with fail
            refine HHO.out.mono ?_
            rintro e w9 ⟨rfl, rfl⟩
            go_wp2_with fail
            refine (works10_any _).mono ?_
            rintro e wz ⟨rfl, hbz⟩
            go_wp2_with fail
            go_ret
            exact ⟨rfl, H8.out.trans (hbz.mono H8.out.size)⟩
          · have hno' : (no != 0) = true := bne_iff_ne.2 hno
            clear hno HPK
            go_wp2_with fail
            refine (works10_any _).mono ?_
            rintro e wz ⟨rfl, hbz⟩
            go_wp2_with fail
            go_ret
            exact ⟨rfl, H4.out.trans (hbz.mono H4.out.size)⟩
        · have hq1 : (what == 1) = false := beq_eq_false_iff_ne.2 hw1
          have HSW := Lib.hid (swap_any left p cap s K P w3 (HRD.out w3 H3.out) (by omega))
          clear HPK
          by_cases hw3 : what = 3
          · subst hw3
            clear hw0 hw1
            go_wp2_with fail
            refine HSW.out.mono ?_
            rintro e w4 ⟨v1, no, rfl, -, hpk, hb4⟩
            have H4 := Lib.hid (H3.out.trans (hb4.mono H3.out.size))
            have HPK := Lib.hid hpk
            clear hpk hb4 HSW c0 c1
            by_cases hno : no = 0
            · subst hno
              obtain ⟨l, q, d, rfl, hown, -, hgood⟩ := HPK.out rfl
              have HOW := Lib.hid hown
              have HGOOD := Lib.hid hgood
              have hl2 := hgood.1
              have HRE := Lib.hid (read_any left p cap s w4 (HRD.out w4 H4.out) (by omega))
              clear hown hgood HPK
              go_wp2_with fail
              refine HRE.out.mono ?_
              rintro e w5 ⟨q5, d5, v5, rfl, ho5, -, hb5⟩
              have H5 := Lib.hid (H4.out.trans (hb5.mono H4.out.size))
              have hr5 := ho5.rds pc_len
              have HR5 := Lib.hid hr5
              have hrs5 : RdS w5.heap.size w5 q d 2 sc l := (HOW.out.below hb5).rds sc_len
              have HS5 := Lib.hid hrs5
              have HAP := Lib.hid (apply_any p cap s q d l w5 (HRD.out w5 H5.out) hrs5 (by omega) (by omega) (by omega) HGOOD.out.2.1)
              clear ho5 hb5 hr5 hrs5 HRE HOW
              go_wp2_with fail
              refine HAP.out.mono ?_
              rintro e w6 ⟨q6, d6, rfl, hr6, -, hb6⟩
              have H56 := Lib.hid hb6
              have H6 := Lib.hid (H5.out.trans (hb6.mono H5.out.size))
              obtain ⟨row, hrow⟩ : ∃ row, rowT s l l.length = row := ⟨_, rfl⟩
              have hrl : row.length = s.length := by rw [← hrow, rowT_len]
              rw [hrow] at hr6
              have hre := read_any left q6 d6 row w6 hr6 (by omega)
              rw [hrl] at hre
              have HRE2 := Lib.hid hre
              have hlr : (readL left row).length ≤ 100000 := by
                have h1 := readN_len left row (rawS row)
                have h2 := (rawS_ok row).1
                have h3 : readL left row = readN left row (rawS row) := rfl
                rw [h3]
                omega
              have HLR := Lib.hid hlr
              have HROW := Lib.hid hrow
              clear hr6 hb6 hre hrl hlr hrow HAP
              go_wp2_with fail
              refine HRE2.out.mono ?_
              rintro e w7 ⟨q7, d7, v7, rfl, ho7, -, hb7⟩
              have H57 := Lib.hid (H56.out.trans (hb7.mono H56.out.size))
              have H7 := Lib.hid (H6.out.trans (hb7.mono H6.out.size))
              have HR7 := Lib.hid (ho7.rds pc_len)
              have hrs7 : RdS w7.heap.size w7 q d 2 sc l := RdS.wideB (RdS.keep HS5.out (fun b hi => H57.out.block b (HS5.out.inlt hi))) H57.out.size
              have HBT := Lib.hid (between_any 2 (by decide) left p cap s key q d l pt ct ts w7 (HRD.out w7 H7.out) hrs7 (HRT.out w7 H7.out) (by omega) (by omega) (by omega) hl2 (by omega) HGOOD.out.2.1)
              clear ho7 hb7 hrs7 HRE2
              go_wp2_with fail
              refine HBT.out.mono ?_
              rintro e w8 ⟨r, t, hrch, hdone, rfl, hb8⟩
              have H8 := Lib.hid (H7.out.trans (hb8.mono H7.out.size))
              have H78 := Lib.hid hb8
              have H58 := Lib.hid (H57.out.trans (hb8.mono H57.out.size))
              have hok := HGOOD.out.2.2 key r t hrch hdone
              rw [HROW.out] at hok
              have HHO := Lib.hid (holds_any q5 d5 (readL left s) q7 d7 (readL left row) key r.found w8 (RdS.wideB (RdS.keep HR5.out (fun b hi => H58.out.block b (HR5.out.inlt hi))) H58.out.size) (RdS.wideB (RdS.keep HR7.out (fun b hi => H78.out.block b (HR7.out.inlt hi))) H78.out.size) hrlen HLR.out hok)
              clear hrch hdone hb8 hok HBT
              go_wp2_with fail
              refine HHO.out.mono ?_
              rintro e w9 ⟨rfl, rfl⟩
              go_wp2_with fail
              refine (works10_any _).mono ?_
              rintro e wz ⟨rfl, hbz⟩
              go_wp2_with fail
              go_ret
              exact ⟨rfl, H8.out.trans (hbz.mono H8.out.size)⟩
            · have hno' : (no != 0) = true := bne_iff_ne.2 hno
              clear hno HPK
              go_wp2_with fail
              refine (works10_any _).mono ?_
              rintro e wz ⟨rfl, hbz⟩
              go_wp2_with fail
              go_ret
              exact ⟨rfl, H4.out.trans (hbz.mono H4.out.size)⟩
          · have hq3 : (what == 3) = false := beq_eq_false_iff_ne.2 hw3
            clear hw0 hw1 hw3
            go_wp2_with fail
            refine HSW.out.mono ?_
            rintro e w4 ⟨v1, no, rfl, hpk, -, hb4⟩
            have H4 := Lib.hid (H3.out.trans (hb4.mono H3.out.size))
            have HPK := Lib.hid hpk
            clear hpk hb4 HSW c0 c1
            by_cases hno : no = 0
            · subst hno
              obtain ⟨l, q, d, rfl, hown, -, hgood⟩ := HPK.out rfl
              have HOW := Lib.hid hown
              have HGOOD := Lib.hid hgood
              have hl2 := hgood.1
              have HRE := Lib.hid (read_any left p cap s w4 (HRD.out w4 H4.out) (by omega))
              clear hown hgood HPK
              go_wp2_with fail
              refine HRE.out.mono ?_
              rintro e w5 ⟨q5, d5, v5, rfl, ho5, -, hb5⟩
              have H5 := Lib.hid (H4.out.trans (hb5.mono H4.out.size))
              have hr5 := ho5.rds pc_len
              have HR5 := Lib.hid hr5
              have hrs5 : RdS w5.heap.size w5 q d 2 sc l := (HOW.out.below hb5).rds sc_len
              have HS5 := Lib.hid hrs5
              have HAP := Lib.hid (apply_any p cap s q d l w5 (HRD.out w5 H5.out) hrs5 (by omega) (by omega) (by omega) HGOOD.out.2.1)
              clear ho5 hb5 hr5 hrs5 HRE HOW
              go_wp2_with fail
              refine HAP.out.mono ?_
              rintro e w6 ⟨q6, d6, rfl, hr6, -, hb6⟩
              have H56 := Lib.hid hb6
              have H6 := Lib.hid (H5.out.trans (hb6.mono H5.out.size))
              obtain ⟨row, hrow⟩ : ∃ row, rowT s l l.length = row := ⟨_, rfl⟩
              have hrl : row.length = s.length := by rw [← hrow, rowT_len]
              rw [hrow] at hr6
              have hre := read_any left q6 d6 row w6 hr6 (by omega)
              rw [hrl] at hre
              have HRE2 := Lib.hid hre
              have hlr : (readL left row).length ≤ 100000 := by
                have h1 := readN_len left row (rawS row)
                have h2 := (rawS_ok row).1
                have h3 : readL left row = readN left row (rawS row) := rfl
                rw [h3]
                omega
              have HLR := Lib.hid hlr
              have HROW := Lib.hid hrow
              clear hr6 hb6 hre hrl hlr hrow HAP
              go_wp2_with fail
              refine HRE2.out.mono ?_
              rintro e w7 ⟨q7, d7, v7, rfl, ho7, -, hb7⟩
              have H57 := Lib.hid (H56.out.trans (hb7.mono H56.out.size))
              have H7 := Lib.hid (H6.out.trans (hb7.mono H6.out.size))
              have HR7 := Lib.hid (ho7.rds pc_len)
              have hrs7 : RdS w7.heap.size w7 q d 2 sc l := RdS.wideB (RdS.keep HS5.out (fun b hi => H57.out.block b (HS5.out.inlt hi))) H57.out.size
              have HBT := Lib.hid (between_any 1 (by decide) left p cap s key q d l pt ct ts w7 (HRD.out w7 H7.out) hrs7 (HRT.out w7 H7.out) (by omega) (by omega) (by omega) hl2 (by omega) HGOOD.out.2.1)
              clear ho7 hb7 hrs7 HRE2
              go_wp2_with fail
              refine HBT.out.mono ?_
              rintro e w8 ⟨r, t, hrch, hdone, rfl, hb8⟩
              have H8 := Lib.hid (H7.out.trans (hb8.mono H7.out.size))
              have H78 := Lib.hid hb8
              have H58 := Lib.hid (H57.out.trans (hb8.mono H57.out.size))
              have hok := HGOOD.out.2.2 key r t hrch hdone
              rw [HROW.out] at hok
              have HHO := Lib.hid (holds_any q5 d5 (readL left s) q7 d7 (readL left row) key r.found w8 (RdS.wideB (RdS.keep HR5.out (fun b hi => H58.out.block b (HR5.out.inlt hi))) H58.out.size) (RdS.wideB (RdS.keep HR7.out (fun b hi => H78.out.block b (HR7.out.inlt hi))) H78.out.size) hrlen HLR.out hok)
              clear hrch hdone hb8 hok HBT
              go_wp2_with fail
              refine HHO.out.mono ?_
              rintro e w9 ⟨rfl, rfl⟩
              go_wp2_with fail
              refine (works10_any _).mono ?_
              rintro e wz ⟨rfl, hbz⟩
              go_wp2_with fail
              go_ret
              exact ⟨rfl, H8.out.trans (hbz.mono H8.out.size)⟩
            · have hno' : (no != 0) = true := bne_iff_ne.2 hno
              clear hno HPK
              go_wp2_with fail
              refine (works10_any _).mono ?_
              rintro e wz ⟨rfl, hbz⟩
              go_wp2_with fail
              go_ret
              exact ⟨rfl, H4.out.trans (hbz.mono H4.out.size)⟩
    · have hv' : (v != 0) = true := bne_iff_ne.2 hv
      clear hset hv
      go_wp2_with fail
      refine (works10_any _).mono ?_
      rintro e wz ⟨rfl, hbz⟩
      go_wp2_with fail
      go_ret
      exact ⟨rfl, H2.out.trans (hbz.mono H2.out.size)⟩
  · have hl' : ¬ ((s.length : Int) ≤ 56 ∧ (ts.length : Int) ≤ 300) := by omega
    have HW1 := Lib.hid (And.intro hW1 hb1)
    clear hW1 hb1 hx1 hz1 hl
    by_cases hs : 56 < (s.length : Int)
    · clear hl'
      go_enter Try.func5, Try.ntmps5
      go_wp2_with fail
      rw [HW1.out.1]
      go_wp2_with fail
      refine (works10_any _).mono ?_
      rintro e wz ⟨rfl, hbz⟩
      go_wp2_with fail
      go_ret
      exact ⟨rfl, HW1.out.2.trans (hbz.mono HW1.out.2.size)⟩
    · have ht : 300 < (ts.length : Int) := by omega
      have hs' : (s.length : Int) ≤ 56 := by omega
      clear hl' hs
      go_enter Try.func5, Try.ntmps5
      go_wp2_with fail
      rw [HW1.out.1]
      go_wp2_with fail
      refine (works10_any _).mono ?_
      rintro e wz ⟨rfl, hbz⟩
      go_wp2_with fail
      go_ret
      exact ⟨rfl, HW1.out.2.trans (hbz.mono HW1.out.2.size)⟩
end Go.Proofs.Ytenmogokbelahaa
