/- The walk of the law LayoutReads. -/
import Derived.Test.YtljegehfdmgcbaaLayoutR
import Derived.Test.YtljegehfdmgcbaaLayoutS
namespace Go.Proofs.Ytljegehfdmgcbaa
open Go Go.RowKit

/-- What lies: the form's box, the key's, the bend's. -/
def RB (w : World) (B I R T : Int) (k0 k1 : BitVec 64) (more n : Int) (W : World) : Prop :=
  FAt W w.heap.size B I R T ∧ KAt W (w.heap.size + 1) k0 k1 ∧ W.heap[w.heap.size + 2]? = some (.cells #[.int .i64 more, .int .i64 n] 53 (0, 0)) ∧ Below w.heap.size w W ∧ w.heap.size + 3 ≤ W.heap.size
theorem RB.go {w W W' : World} {B I R T : Int} {k0 k1 : BitVec 64} {more n : Int} (h : RB w B I R T k0 k1 more n W) (hb : Below W.heap.size W W') : RB w B I R T k0 k1 more n W' :=
  ⟨h.1.below h.1.lt hb, h.2.1.below h.2.1.lt hb, (hb.block _ (by have := h.2.2.2.2; omega)).trans h.2.2.1, h.2.2.2.1.trans (hb.mono h.2.2.2.1.size), Nat.le_trans h.2.2.2.2 hb.size⟩

set_option maxRecDepth 100000 in
set_option maxHeartbeats 8000000 in
theorem lawLayoutReads (B I R T : Int) (k0 k1 : BitVec 64) (more n : Int) (y : BitVec 64) (p : Option Addr) (cap : Nat) (fs : List (BitVec 64)) (w : World) (hrd : RdL w.heap.size w p cap vw fs) :
    Calls Try.prog 5 #[.agg #[.int .i64 B, .int .i64 I, .int .i64 R, .int .i64 T], .agg #[vw k0, vw k1], .agg #[.int .i64 more, .int .i64 n], vw y, .slice p fs.length cap] w fun e w' => e = .returned (.bool true) ∧ Below w.heap.size w w' := by
  obtain ⟨wk, hwk, hF, hK, hbk, hzk⟩ := form_key w B I R T k0 k1
  obtain ⟨wa, hwa⟩ : ∃ wa, wk.alloc (.cells #[.int .i64 more, .int .i64 n] 53) = wa := ⟨_, rfl⟩
  have hba : Below wk.heap.size wk wa := by rw [← hwa]; exact (Below.refl _ _).alloc (Nat.le_refl _) _
  have hA : RB w B I R T k0 k1 more n wa := by
    refine ⟨hF.below hF.lt hba, hK.below hK.lt hba, ?_, hbk.trans (hba.mono (by omega)), ?_⟩
    · have := World.alloc_heap_new wk (.cells #[.int .i64 more, .int .i64 n] 53)
      rw [hzk] at this
      rw [← hwa]; exact this
    · rw [← hwa]; simp; omega
  have hrda := (hrd.below hA.2.2.2.1).wide hA.2.2.2.1.size
  have HZK := Lib.hid hzk
  have HA := Lib.hid hA
  have HRD := Lib.hid hrda
  clear hF hK hbk hzk hba hA hrd hrda
  go_enter Try.func5, Try.ntmps5
  by_cases h100 : 100 < fs.length
  case pos =>
    have h100' : (100 : Int) < (fs.length : Int) := by omega
    go_wp2_with fail
    refine (works13_any _).mono ?_
    rintro e w3 ⟨rfl, hb3⟩
    have H3 := Lib.hid (HA.out.2.2.2.1.trans (hb3.mono HA.out.2.2.2.1.size))
    clear hb3 hwa hwk
    go_wp2_with fail
    go_ret
    exact ⟨rfl, H3.out⟩
  have h100' : ¬ (100 : Int) < (fs.length : Int) := by omega
  go_wp2_with (at_builtin
               refine wpList_append0 rfl (.tmp 22) (.tmp 23) _ rfl elem_u64 vw wa.heap.size fs _ rfl _ _ _ rfl (own_empty wa _ _ _ (Nat.le_refl _)) (HRD.out.below ((Below.refl _ _).alloc (Nat.le_refl _) _)) (fun _ => rfl) ?_ ?_ ?_ ?_
               · omega
               · omega
               · simp
               intro v w5 hown hg _
               have hb5 : Below wa.heap.size wa w5 := ((Below.refl _ wa).alloc (Nat.le_refl _) _).grown hg (by simp) (by intro b hb; cases hb; exact Nat.le_refl _)
               obtain ⟨p5, c5, rfl, hr5, _⟩ := rdl_of_owns hown
               have HR5 := Lib.hid hr5
               have H5 := Lib.hid (HA.out.go hb5)
               have HB5 := Lib.hid hb5
               clear hown hg hr5 hb5)
  refine (read_any p5 c5 fs w5 HR5.out).mono ?_
  rintro e w6 ⟨rfl, hb6⟩
  have HSZ : Hid (w.heap.size ≤ w6.heap.size) := Lib.hid (Nat.le_trans H5.out.2.2.2.1.size hb6.size)
  obtain ⟨xl, xe, hxx⟩ : ∃ xl xe, readL fs = (xl, xe) := ⟨_, _, rfl⟩
  rw [hxx]
  obtain ⟨w7, hw7, hl7, hb7⟩ := lay_made w6 xl
  have hb57 : Below w5.heap.size w5 w7 := hb6.trans (hb7.mono hb6.size)
  have H7 := Lib.hid (And.intro (H5.out.go hb57) hl7)
  have HX := Lib.hid hxx
  have hrr := refRead_any p cap fs w7 ((HRD.out.below (HB5.out.trans (hb57.mono HB5.out.size))).wide (HB5.out.trans (hb57.mono HB5.out.size)).size)
  rw [hxx] at hrr
  have HRR := Lib.hid hrr
  clear hrr hxx hb6 hb7 hb57 hl7 hwa hwk
  simp only [lv]
  go_wp2_with fail
  refine HRR.out.mono ?_
  rintro e w8 ⟨rfl, hb8⟩
  obtain ⟨w9, hw9, hl9, hb9⟩ := lay_made w8 xl
  have hb79 : Below w7.heap.size w7 w9 := hb8.trans (hb9.mono hb8.size)
  have hbl1 : w6.heap.size < w8.heap.size := Nat.lt_of_lt_of_le H7.out.2.lt hb8.size
  have H9 := Lib.hid (show RB w B I R T k0 k1 more n w9 ∧ LayAt w9 w6.heap.size xl ∧ LayAt w9 w8.heap.size xl from ⟨H7.out.1.go hb79, H7.out.2.below H7.out.2.lt hb79, hl9⟩)
  obtain ⟨m0, m1, m2, m3, m4, m5, m6, m7, m8, m9, mf⟩ := lay_cells H9.out.2.1
  obtain ⟨n0, n1, n2, n3, n4, n5, n6, n7, n8, n9, nf⟩ := lay_cells H9.out.2.2
  have heq : ∀ W, (binOp .neq 27 (.agg #[.int .i64 xl.B, .int .i64 xl.I, .int .i64 xl.R, .int .i64 xl.T, vw xl.k0, vw xl.k1, .int .i64 xl.i, .int .i64 xl.r, .int .i64 xl.m, .int .i64 xl.d]) (.agg #[.int .i64 xl.B, .int .i64 xl.I, .int .i64 xl.R, .int .i64 xl.T, vw xl.k0, vw xl.k1, .int .i64 xl.i, .int .i64 xl.r, .int .i64 xl.m, .int .i64 xl.d])).run Try.prog W = .ok (.bool false) W := fun W => by
    have := lv_neq xl xl W
    simpa [lv] using this
  obtain ⟨f0, f1, f2, f3⟩ := H9.out.1.1.cells
  obtain ⟨g0, g1⟩ := H9.out.1.2.1.cells
  have t0 : w9.cell? ⟨wk.heap.size, 0, none⟩ = some (.int .i64 more) := by rw [HZK.out]; simp [World.cell?, H9.out.1.2.2.1]
  have t1 : w9.cell? ⟨wk.heap.size, 1, none⟩ = some (.int .i64 n) := by rw [HZK.out]; simp [World.cell?, H9.out.1.2.2.1]
  clear hb8 hb9 hb79 hl9 hw7
  simp only [lv]
  go_wp2_with (go_at_call 11; refine (num_any13 _ _).mono ?_; rintro e w' ⟨rfl, rfl⟩)
  clear heq hw9 f0 f1 f2 f3 g0 g1 t0 t1 m0 m1 m2 m3 m4 m5 m6 m7 m8 m9 mf n0 n1 n2 n3 n4 n5 n6 n7 n8 n9 nf
  by_cases hgood : OfOk B I R T ∧ B ≤ 64 ∧ -1 ≤ more ∧ more ≤ 1 ∧ 0 ≤ n ∧ n ≤ 63
  case neg =>
    refine (device_bad B I R T k0 k1 more n y w9 hgood).mono ?_
    rintro e w10 ⟨rfl, hb10⟩
    have H10 := Lib.hid (H9.out.1.2.2.2.1.trans (hb10.mono H9.out.1.2.2.2.1.size))
    clear hb10
    go_wp2_with fail
    refine (works13_any _).mono ?_
    rintro e w3 ⟨rfl, hb3⟩
    have H3 := Lib.hid (H10.out.trans (hb3.mono H10.out.size))
    clear hb3
    go_wp2_with fail
    go_ret
    exact ⟨rfl, H3.out⟩
  obtain ⟨a1, a2, a3, a4, a5, a6⟩ := hgood
  obtain ⟨k, rfl⟩ : ∃ k : Nat, n = k := ⟨n.toNat, by omega⟩
  refine (device_good B I R T k0 k1 more k y w9 a1 a2 a3 a4 (by omega)).mono ?_
  rintro e w10 ⟨b, dc, ws, rfl, hrw, hb10, hge⟩
  have hs9 : w8.heap.size < w9.heap.size := H9.out.2.2.lt
  obtain ⟨yl, ye, hyy⟩ : ∃ yl ye, readL ws = (yl, ye) := ⟨_, _, rfl⟩
  have hr1 := read_any (some ⟨b, 0, none⟩) dc ws w10 hrw
  rw [hyy] at hr1
  have HR1 := Lib.hid hr1
  have HRW := Lib.hid hrw
  have HYY := Lib.hid hyy
  have H10 := Lib.hid (show LayAt w10 w6.heap.size xl ∧ LayAt w10 w8.heap.size xl ∧ Below w.heap.size w w10 ∧ w.heap.size ≤ w6.heap.size from ⟨H9.out.2.1.below H9.out.2.1.lt hb10, H9.out.2.2.below H9.out.2.2.lt hb10, H9.out.1.2.2.2.1.trans (hb10.mono H9.out.1.2.2.2.1.size), HSZ.out⟩)
  clear hr1 hrw hyy hb10 a1 a2 a3 a4 a5 a6
  go_wp2_with fail
  refine HR1.out.mono ?_
  rintro e w11 ⟨rfl, hb11⟩
  have hl11 := H10.out.1.below H10.out.1.lt hb11
  have hl11b := H10.out.2.1.below H10.out.2.1.lt hb11
  obtain ⟨m0, m1, m2, m3, m4, m5, m6, m7, m8, m9, mf⟩ := lay_cells hl11
  have HL11 := Lib.hid hl11
  have H11 := Lib.hid (show LayAt w11 w8.heap.size xl ∧ Below w.heap.size w w11 ∧ RdL w11.heap.size w11 (some ⟨b, 0, none⟩) dc vw ws from ⟨hl11b, H10.out.2.2.1.trans (hb11.mono H10.out.2.2.1.size), (HRW.out.below hb11).wide hb11.size⟩)
  clear hl11 hl11b hb11
  simp only [lv]
  go_wp2_with fail
  obtain ⟨V, hV, hh, hoth, hbel⟩ := lay_sets HL11.out (.int .i64 yl.B) (.int .i64 yl.I) (.int .i64 yl.R) (.int .i64 yl.T) (.int .u64 (yl.k0.toNat : Int)) (.int .u64 (yl.k1.toNat : Int)) (.int .i64 yl.i) (.int .i64 yl.r) (.int .i64 yl.m) (.int .i64 yl.d)
  rw [hV]
  have hlV : LayAt V w6.heap.size yl := hh
  have hlV2 : LayAt V w8.heap.size xl := (hoth _ (by omega)).trans H11.out.1
  have hbV : Below w.heap.size w V := hbel _ _ H10.out.2.2.2 H11.out.2.1
  have hVs : w11.heap.size ≤ V.heap.size := (hbel w6.heap.size w11 (Nat.le_refl _) (Below.refl _ _)).size
  have hrV : RdL V.heap.size V (some ⟨b, 0, none⟩) dc vw ws := (H11.out.2.2.keep (fun a ha _ => by cases ha; exact hoth b (by omega))).wide hVs
  have hr2 := refRead_any (some ⟨b, 0, none⟩) dc ws V hrV
  rw [HYY.out] at hr2
  have HR2 := Lib.hid hr2
  have HV := Lib.hid (And.intro hlV (And.intro hlV2 hbV))
  clear hV hh hoth hbel hlV hlV2 hbV hVs hrV hr2 m0 m1 m2 m3 m4 m5 m6 m7 m8 m9 mf
  refine HR2.out.mono ?_
  rintro e V1 ⟨rfl, hv1⟩
  have hl1 := HV.out.1.below HV.out.1.lt hv1
  have hl2 := HV.out.2.1.below HV.out.2.1.lt hv1
  obtain ⟨n0, n1, n2, n3, n4, n5, n6, n7, n8, n9, nf⟩ := lay_cells hl2
  have HL1 := Lib.hid hl1
  have HL2 := Lib.hid hl2
  have HB1 := Lib.hid (HV.out.2.2.trans (hv1.mono HV.out.2.2.size))
  have hne6 : w6.heap.size ≠ w8.heap.size := by omega
  have hne8 : w8.heap.size ≠ w6.heap.size := by omega
  obtain ⟨i0, i1, i2, i3, i4, i5, i6, i7, i8, i9, jf⟩ := lay_cells hl1
  clear hl1 hl2 hv1
  have heq : ∀ W, (binOp .eql 27 (.agg #[.int .i64 yl.B, .int .i64 yl.I, .int .i64 yl.R, .int .i64 yl.T, vw yl.k0, vw yl.k1, .int .i64 yl.i, .int .i64 yl.r, .int .i64 yl.m, .int .i64 yl.d]) (.agg #[.int .i64 yl.B, .int .i64 yl.I, .int .i64 yl.R, .int .i64 yl.T, vw yl.k0, vw yl.k1, .int .i64 yl.i, .int .i64 yl.r, .int .i64 yl.m, .int .i64 yl.d])).run Try.prog W = .ok (.bool true) W := fun W => by
    have := lv_eql yl yl W
    simpa [lv] using this
  have heq2 : ∀ W, (binOp .eql 27 (.agg #[.int .i64 yl.B, .int .i64 yl.I, .int .i64 yl.R, .int .i64 yl.T, vw yl.k0, vw yl.k1, .int .i64 yl.i, .int .i64 yl.r, .int .i64 yl.m, .int .i64 yl.d]) (.agg #[.int .i64 yl.B, .int .i64 yl.I, .int .i64 yl.R, .int .i64 yl.T, (.int .u64 (yl.k0.toNat : Int)), (.int .u64 (yl.k1.toNat : Int)), .int .i64 yl.i, .int .i64 yl.r, .int .i64 yl.m, .int .i64 yl.d])).run Try.prog W = .ok (.bool true) W := heq
  simp only [lv]
  go_wp2_with (go_at_call 11; refine (num_any13 _ _).mono ?_; rintro e w' ⟨rfl, rfl⟩)
  obtain ⟨V2, hV2, _, _, hbel⟩ := lay_sets HL2.out (.int .i64 yl.B) (.int .i64 yl.I) (.int .i64 yl.R) (.int .i64 yl.T) (.int .u64 (yl.k0.toNat : Int)) (.int .u64 (yl.k1.toNat : Int)) (.int .i64 yl.i) (.int .i64 yl.r) (.int .i64 yl.m) (.int .i64 yl.d)
  rw [hV2]
  have hsz := HSZ.out
  have HBV := Lib.hid (hbel w.heap.size w (by omega) HB1.out)
  clear hV2 hbel hsz heq heq2 n0 n1 n2 n3 n4 n5 n6 n7 n8 n9 nf i0 i1 i2 i3 i4 i5 i6 i7 i8 i9 jf
  refine (works13_any _).mono ?_
  rintro e w3 ⟨rfl, hb3⟩
  have H3 := Lib.hid (HBV.out.trans (hb3.mono HBV.out.size))
  clear hb3
  go_wp2_with fail
  go_ret
  exact ⟨rfl, H3.out⟩
end Go.Proofs.Ytljegehfdmgcbaa
