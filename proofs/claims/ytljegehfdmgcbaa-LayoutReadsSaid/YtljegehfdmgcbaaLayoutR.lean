/- The walk of the reference's Read. -/
import Derived.Test.YtljegehfdmgcbaaLayoutP
import Derived.Deep.QuietTactic
import Derived.BigQuiet
import Derived.Deep.RegionHeld3
namespace Go.Proofs.Ytljegehfdmgcbaa
open Go Go.RowKit

set_option maxRecDepth 100000 in
set_option maxHeartbeats 4000000 in
theorem refRead_short (p : Option Addr) (n cap : Nat) (hn : n < 64) (w : World) : Calls Try.prog 23 #[.slice p n cap] w fun e w' => e = .returned (.tuple #[lv lay0, .int .i64 230]) ∧ Below w.heap.size w w' := by
  obtain ⟨wa, hwa⟩ : ∃ wa, w.alloc (.cells #[.int .i64 0, .int .i64 0, .int .i64 0, .int .i64 0, .int .u64 0, .int .u64 0, .int .i64 0, .int .i64 0, .int .i64 0, .int .i64 0] 27) = wa := ⟨_, rfl⟩
  have hba : Below w.heap.size w wa := by rw [← hwa]; exact (Below.refl _ _).alloc (Nat.le_refl _) _
  have hz : wa.heap[w.heap.size]? = some (.cells #[.int .i64 0, .int .i64 0, .int .i64 0, .int .i64 0, .int .u64 0, .int .u64 0, .int .i64 0, .int .i64 0, .int .i64 0, .int .i64 0] 27 (0, 0)) := by rw [← hwa]; exact World.alloc_heap_new w _
  obtain ⟨e0, e1, e2, e3, e4, e5, e6, e7, e8, e9, ef⟩ := lay_cells hz
  have hr0 : wa.setCell ⟨w.heap.size, 0, none⟩ (.int .i64 0) = wa := setCell_id hz rfl
  have hr1 : wa.setCell ⟨w.heap.size, 1, none⟩ (.int .i64 0) = wa := setCell_id hz rfl
  have hr2 : wa.setCell ⟨w.heap.size, 2, none⟩ (.int .i64 0) = wa := setCell_id hz rfl
  have hr3 : wa.setCell ⟨w.heap.size, 3, none⟩ (.int .i64 0) = wa := setCell_id hz rfl
  have hr4 : wa.setCell ⟨w.heap.size, 4, none⟩ (.int .u64 0) = wa := setCell_id hz rfl
  have hr5 : wa.setCell ⟨w.heap.size, 5, none⟩ (.int .u64 0) = wa := setCell_id hz rfl
  have hr6 : wa.setCell ⟨w.heap.size, 6, none⟩ (.int .i64 0) = wa := setCell_id hz rfl
  have hr7 : wa.setCell ⟨w.heap.size, 7, none⟩ (.int .i64 0) = wa := setCell_id hz rfl
  have hr8 : wa.setCell ⟨w.heap.size, 8, none⟩ (.int .i64 0) = wa := setCell_id hz rfl
  have hr9 : wa.setCell ⟨w.heap.size, 9, none⟩ (.int .i64 0) = wa := setCell_id hz rfl
  have HBA := Lib.hid hba
  have hn' : (n : Int) < 64 := by omega
  clear hba hz
  go_enter Try.func23, Try.ntmps23
  go_wp2_with fail
  refine bodyPost_ret (v := .tuple #[lv lay0, .int .i64 230]) (by simp [results, Try.results23, go_sem, lv, lay0, e0, e1, e2, e3, e4, e5, e6, e7, e8, e9]) rfl ?_
  exact ⟨rfl, HBA.out⟩

set_option maxRecDepth 100000 in
set_option maxHeartbeats 8000000 in
theorem refRead_long (p : Option Addr) (cap : Nat) (ws : List (BitVec 64)) (hn : 64 ≤ ws.length) (w : World) (hrd : RdL w.heap.size w p cap vw ws) :
    Calls Try.prog 23 #[.slice p ws.length cap] w fun e w' => e = .returned (.tuple #[lv (readL ws).1, .int .i64 (readL ws).2]) ∧ Below w.heap.size w w' := by
  have hlen := hrd.len
  have hcap := hrd.1
  have hcapm := hrd.2.1
  obtain ⟨b, off, rfl, hb, _⟩ := hrd.at 1 (by omega)
  have hcw : ∀ j (h : j < ws.length), w.cell? ⟨b, off + j, none⟩ = some (vw ws[j]) := fun j h => by
    obtain ⟨b', off', he, _, hc⟩ := hrd.at j h
    cases he
    exact hc
  obtain ⟨x1, h1⟩ : ∃ x, wd ws 1 = x := ⟨_, rfl⟩
  obtain ⟨x2, h2⟩ : ∃ x, wd ws 2 = x := ⟨_, rfl⟩
  obtain ⟨x3, h3⟩ : ∃ x, wd ws 3 = x := ⟨_, rfl⟩
  obtain ⟨x4, h4⟩ : ∃ x, wd ws 4 = x := ⟨_, rfl⟩
  obtain ⟨x5, h5⟩ : ∃ x, wd ws 5 = x := ⟨_, rfl⟩
  obtain ⟨x6, h6⟩ : ∃ x, wd ws 6 = x := ⟨_, rfl⟩
  have hwj : ∀ j (h : j < ws.length), ws[j] = wd ws j := fun j h => by unfold wd; rw [List.getD_eq_getElem?_getD, List.getElem?_eq_getElem h]; rfl
  have hcx : ∀ W, Below w.heap.size w W → W.cell? ⟨b, off + 1, none⟩ = some (vw x1) ∧ W.cell? ⟨b, off + 2, none⟩ = some (vw x2) ∧ W.cell? ⟨b, off + 3, none⟩ = some (vw x3) ∧ W.cell? ⟨b, off + 4, none⟩ = some (vw x4) ∧ W.cell? ⟨b, off + 5, none⟩ = some (vw x5) ∧ W.cell? ⟨b, off + 6, none⟩ = some (vw x6) := fun W hW => by
    have hc : ∀ j (h : j < ws.length), W.cell? ⟨b, off + j, none⟩ = some (vw (wd ws j)) := fun j h => by rw [hW.cell (p := ⟨b, off + j, none⟩) hb, hcw j h, hwj j h]
    exact ⟨h1 ▸ hc 1 (by omega), h2 ▸ hc 2 (by omega), h3 ▸ hc 3 (by omega), h4 ▸ hc 4 (by omega), h5 ▸ hc 5 (by omega), h6 ▸ hc 6 (by omega)⟩
  obtain ⟨l, hl⟩ : ∃ l, ofL x1.toNat x2.toNat x3.toNat x4.toNat x5 x6 = l := ⟨_, rfl⟩
  obtain ⟨no, hno⟩ : ∃ no, ofNo x1.toNat x2.toNat x3.toNat x4.toNat = no := ⟨_, rfl⟩
  have hry : OfOk x1.toNat x2.toNat x3.toNat x4.toNat ∧ (ws.length : Int) = (x1.toNat : Int) * 64 ∧ superL l = ws.take 64 → readL ws = (l, 0) := by
    intro h
    subst h1 h2 h3 h4 h5 h6 hl
    unfold readL
    exact if_pos ⟨hn, h⟩
  have hrn : ¬ (OfOk x1.toNat x2.toNat x3.toNat x4.toNat ∧ (ws.length : Int) = (x1.toNat : Int) * 64 ∧ superL l = ws.take 64) → readL ws = (lay0, 230) := by
    intro h
    subst h1 h2 h3 h4 h5 h6 hl
    unfold readL
    exact if_neg fun h' => h h'.2
  have HRY := Lib.hid hry
  have HRN := Lib.hid hrn
  have HEL := Lib.hid hl
  have HEN := Lib.hid hno
  obtain ⟨wa, hwa⟩ : ∃ wa, w.alloc (.cells #[.int .i64 0, .int .i64 0, .int .i64 0, .int .i64 0, .int .u64 0, .int .u64 0, .int .i64 0, .int .i64 0, .int .i64 0, .int .i64 0] 27) = wa := ⟨_, rfl⟩
  have hba : Below w.heap.size w wa := by rw [← hwa]; exact (Below.refl _ _).alloc (Nat.le_refl _) _
  have hz : wa.heap[w.heap.size]? = some (.cells #[.int .i64 0, .int .i64 0, .int .i64 0, .int .i64 0, .int .u64 0, .int .u64 0, .int .i64 0, .int .i64 0, .int .i64 0, .int .i64 0] 27 (0, 0)) := by rw [← hwa]; exact World.alloc_heap_new w _
  have hza : wa.heap.size = w.heap.size + 1 := by rw [← hwa]; simp
  have hwdr : ∀ W, Below wa.heap.size wa W → W.cell? ⟨b, off + 1, none⟩ = some (vw x1) ∧ W.cell? ⟨b, off + 2, none⟩ = some (vw x2) ∧ W.cell? ⟨b, off + 3, none⟩ = some (vw x3) ∧ W.cell? ⟨b, off + 4, none⟩ = some (vw x4) ∧ W.cell? ⟨b, off + 5, none⟩ = some (vw x5) ∧ W.cell? ⟨b, off + 6, none⟩ = some (vw x6) := fun W hW => hcx W (hba.trans (hW.mono (by omega)))
  obtain ⟨e0, e1, e2, e3, e4, e5, e6, e7, e8, e9, ef⟩ := lay_cells hz
  have hr0 : wa.setCell ⟨w.heap.size, 0, none⟩ (.int .i64 0) = wa := setCell_id hz rfl
  have hr1 : wa.setCell ⟨w.heap.size, 1, none⟩ (.int .i64 0) = wa := setCell_id hz rfl
  have hr2 : wa.setCell ⟨w.heap.size, 2, none⟩ (.int .i64 0) = wa := setCell_id hz rfl
  have hr3 : wa.setCell ⟨w.heap.size, 3, none⟩ (.int .i64 0) = wa := setCell_id hz rfl
  have hr4 : wa.setCell ⟨w.heap.size, 4, none⟩ (.int .u64 0) = wa := setCell_id hz rfl
  have hr5 : wa.setCell ⟨w.heap.size, 5, none⟩ (.int .u64 0) = wa := setCell_id hz rfl
  have hr6 : wa.setCell ⟨w.heap.size, 6, none⟩ (.int .i64 0) = wa := setCell_id hz rfl
  have hr7 : wa.setCell ⟨w.heap.size, 7, none⟩ (.int .i64 0) = wa := setCell_id hz rfl
  have hr8 : wa.setCell ⟨w.heap.size, 8, none⟩ (.int .i64 0) = wa := setCell_id hz rfl
  have hr9 : wa.setCell ⟨w.heap.size, 9, none⟩ (.int .i64 0) = wa := setCell_id hz rfl
  obtain ⟨d1, d2, d3, d4, d5, d6⟩ := hcx wa hba
  have k1 : (1 : Int) < (ws.length : Int) := by omega
  have k2 : (2 : Int) < (ws.length : Int) := by omega
  have k3 : (3 : Int) < (ws.length : Int) := by omega
  have k4 : (4 : Int) < (ws.length : Int) := by omega
  have k5 : (5 : Int) < (ws.length : Int) := by omega
  have k6 : (6 : Int) < (ws.length : Int) := by omega
  have HRD := Lib.hid hrd
  have HBA := Lib.hid hba
  have HZ := Lib.hid hz
  have HZA := Lib.hid hza
  have HWD := Lib.hid hwdr
  have hn' : ¬ (ws.length : Int) < 64 := by omega
  have hcapi : (cap : Int) ≤ 9223372036854775807 := by unfold maxLen at hcapm; omega
  clear hba hz hza hwdr hrd hcx hcw hwj h1 h2 h3 h4 h5 h6 hl hno hry hrn hcap hcapm
  go_enter Try.func23, Try.ntmps23
  by_cases c1 : 2048 < (x1.toNat : Int)
  case pos =>
    have HRO := Lib.hid (HRN.out fun h => absurd h.1.1.2 (by omega))
    go_wp2_with fail
    refine bodyPost_ret (v := .tuple #[lv lay0, .int .i64 230]) (by simp [results, Try.results23, go_sem, lv, lay0, e0, e1, e2, e3, e4, e5, e6, e7, e8, e9]) rfl ?_
    rw [HRO.out]
    exact ⟨rfl, HBA.out⟩
  by_cases c2 : 256 < (x2.toNat : Int)
  case pos =>
    have HRO := Lib.hid (HRN.out fun h => absurd h.1.2.2.1.2.1 (by omega))
    go_wp2_with fail
    refine bodyPost_ret (v := .tuple #[lv lay0, .int .i64 230]) (by simp [results, Try.results23, go_sem, lv, lay0, e0, e1, e2, e3, e4, e5, e6, e7, e8, e9]) rfl ?_
    rw [HRO.out]
    exact ⟨rfl, HBA.out⟩
  by_cases c3 : 1024 < (x3.toNat : Int)
  case pos =>
    have HRO := Lib.hid (HRN.out fun h => absurd h.1.2.2.2.1.2.1 (by omega))
    go_wp2_with fail
    refine bodyPost_ret (v := .tuple #[lv lay0, .int .i64 230]) (by simp [results, Try.results23, go_sem, lv, lay0, e0, e1, e2, e3, e4, e5, e6, e7, e8, e9]) rfl ?_
    rw [HRO.out]
    exact ⟨rfl, HBA.out⟩
  by_cases c4 : 40 < (x4.toNat : Int)
  case pos =>
    have HRO := Lib.hid (HRN.out fun h => absurd h.1.2.1.2 (by omega))
    go_wp2_with fail
    refine bodyPost_ret (v := .tuple #[lv lay0, .int .i64 230]) (by simp [results, Try.results23, go_sem, lv, lay0, e0, e1, e2, e3, e4, e5, e6, e7, e8, e9]) rfl ?_
    rw [HRO.out]
    exact ⟨rfl, HBA.out⟩
  have v1 : IntKind.i64.wrap (x1.toNat : Int) = x1.toNat := by rw [IntKind.wrap_i64]; omega
  have v2 : IntKind.i64.wrap (x2.toNat : Int) = x2.toNat := by rw [IntKind.wrap_i64]; omega
  have v3 : IntKind.i64.wrap (x3.toNat : Int) = x3.toNat := by rw [IntKind.wrap_i64]; omega
  have v4 : IntKind.i64.wrap (x4.toNat : Int) = x4.toNat := by rw [IntKind.wrap_i64]; omega
  go_wp2_with fail
  clear hwa d1 d2 d3 d4 d5 d6 e0 e1 e2 e3 e4 e5 e6 e7 e8 e9 ef hr0 hr1 hr2 hr3 hr4 hr5 hr6 hr7 hr8 hr9
  obtain ⟨d1, d2, d3, d4, d5, d6⟩ := HWD.out wa.drew (Below.refl _ _).drew
  obtain ⟨m1, m2, m3, m4, m5, m6⟩ := HWD.out (wa.alloc (.cells #[.int .i64 0, .int .i64 0, .int .i64 0, .int .i64 0, .int .u64 0, .int .u64 0, .int .i64 0, .int .i64 0, .int .i64 0, .int .i64 0] 27)).drew ((Below.refl _ _).alloc (Nat.le_refl _) _).drew
  have hbne : b ≠ wa.heap.size := by rw [HZA.out]; omega
  have hbne' : wa.heap.size ≠ b := by rw [HZA.out]; omega
  go_region_held3 (fun w' => w'.cell? ⟨b, off + 1, none⟩ = some (vw x1) ∧ w'.cell? ⟨b, off + 2, none⟩ = some (vw x2) ∧ w'.cell? ⟨b, off + 3, none⟩ = some (vw x3) ∧ w'.cell? ⟨b, off + 4, none⟩ = some (vw x4) ∧ w'.cell? ⟨b, off + 5, none⟩ = some (vw x5) ∧ w'.cell? ⟨b, off + 6, none⟩ = some (vw x6))
    (first | with_reducible exact ⟨d1, d2, d3, d4, d5, d6⟩ | with_reducible exact ⟨m1, m2, m3, m4, m5, m6⟩ | with_reducible exact hs1 | with_reducible exact hs1a | with_reducible exact hs1b | (obtain ⟨y1, y2, y3, y4, y5, y6⟩ := hs1; refine ⟨?_, ?_, ?_, ?_, ?_, ?_⟩ <;> go_simp))
    (first
    | (go_at_call 10
       refine (refOf_any x1.toNat x2.toNat x3.toNat x4.toNat x5 x6 _).mono ?_
       rintro e w1 ⟨rfl, hb1⟩
       first
       | have HB1 := Lib.hid ((Below.refl wa.heap.size wa).drew.trans hb1)
       | (have HB1 := Lib.hid (((Below.refl wa.heap.size wa).alloc (Nat.le_refl _) (.cells #[.int .i64 0, .int .i64 0, .int .i64 0, .int .i64 0, .int .u64 0, .int .u64 0, .int .i64 0, .int .i64 0, .int .i64 0, .int .i64 0] 27)).drew.trans (hb1.mono (by show _ ≤ (wa.alloc _).heap.size; simp)))
          have hzz := (hb1.block wa.heap.size (by show _ < (wa.alloc _).heap.size; simp)).trans (World.alloc_heap_new wa _)
          obtain ⟨z0, z1, z2, z3, z4, z5, z6, z7, z8, z9, zf⟩ := lay_cells hzz
          have HZZ := Lib.hid hzz
          clear hzz)
       have hs1 := HWD.out w1 HB1.out
       have hs1a := HWD.out (w1.alloc (.cells #[.int .i64 0, .int .i64 0, .int .i64 0, .int .i64 0, .int .u64 0, .int .u64 0, .int .i64 0, .int .i64 0, .int .i64 0, .int .i64 0] 27)) (HB1.out.alloc HB1.out.size _)
       have hs1b := HWD.out (w1.alloc (.cells #[.int .i64 l.B, .int .i64 l.I, .int .i64 l.R, .int .i64 l.T, .int .u64 (l.k0.toNat : Int), .int .u64 (l.k1.toNat : Int), .int .i64 l.i, .int .i64 l.r, .int .i64 l.m, .int .i64 l.d] 27)) (HB1.out.alloc HB1.out.size _)
       have HX1 := Lib.hid hb1
       clear hb1
       simp only [lv]
       rw [HEL.out, HEN.out]))
  · obtain ⟨V, hV, hLV, hbV⟩ := lay_made w1 l
    rw [hV]
    have hbV' : Below wa.heap.size wa V := HB1.out.trans (hbV.mono HB1.out.size)
    have hX0 : w.heap.size < w1.heap.size := by have := HB1.out.size; have := HZA.out; omega
    obtain ⟨X, hX⟩ : ∃ X, w1.heap.size = X := ⟨_, rfl⟩
    rw [hX] at hLV hX0 ⊢
    have H := Lib.hid (And.intro hLV (And.intro (HBA.out.trans (hbV'.mono (by rw [HZA.out]; omega))) (And.intro ((hbV'.block w.heap.size (by rw [HZA.out]; omega)).trans HZ.out) hX0)))
    clear hV hLV hbV hbV' hX hX0 hs1 hs1a hs1b d1 d2 d3 d4 d5 d6 m1 m2 m3 m4 m5 m6 v1 v2 v3 v4
    obtain ⟨e0, e1, e2, e3, e4, e5, e6, e7, e8, e9, ef⟩ := lay_cells H.out.2.2.1
    have hr0 : V.setCell ⟨w.heap.size, 0, none⟩ (.int .i64 0) = V := setCell_id H.out.2.2.1 rfl
    have hr1 : V.setCell ⟨w.heap.size, 1, none⟩ (.int .i64 0) = V := setCell_id H.out.2.2.1 rfl
    have hr2 : V.setCell ⟨w.heap.size, 2, none⟩ (.int .i64 0) = V := setCell_id H.out.2.2.1 rfl
    have hr3 : V.setCell ⟨w.heap.size, 3, none⟩ (.int .i64 0) = V := setCell_id H.out.2.2.1 rfl
    have hr4 : V.setCell ⟨w.heap.size, 4, none⟩ (.int .u64 0) = V := setCell_id H.out.2.2.1 rfl
    have hr5 : V.setCell ⟨w.heap.size, 5, none⟩ (.int .u64 0) = V := setCell_id H.out.2.2.1 rfl
    have hr6 : V.setCell ⟨w.heap.size, 6, none⟩ (.int .i64 0) = V := setCell_id H.out.2.2.1 rfl
    have hr7 : V.setCell ⟨w.heap.size, 7, none⟩ (.int .i64 0) = V := setCell_id H.out.2.2.1 rfl
    have hr8 : V.setCell ⟨w.heap.size, 8, none⟩ (.int .i64 0) = V := setCell_id H.out.2.2.1 rfl
    have hr9 : V.setCell ⟨w.heap.size, 9, none⟩ (.int .i64 0) = V := setCell_id H.out.2.2.1 rfl
    obtain ⟨m0, m1, m2, m3, m4, m5, m6, m7, m8, m9, mf⟩ := lay_cells H.out.1
    by_cases hok : OfOk x1.toNat x2.toNat x3.toNat x4.toNat
    case neg =>
      have hno : no = 2 := by rw [← HEN.out]; unfold ofNo; rw [if_neg hok]
      subst hno
      have HRO := Lib.hid (HRN.out fun h => hok h.1)
      clear hok
      go_wp2_with fail
      refine bodyPost_ret (v := .tuple #[lv lay0, .int .i64 230]) (by simp [results, Try.results23, go_sem, lv, lay0, e0, e1, e2, e3, e4, e5, e6, e7, e8, e9]) rfl ?_
      rw [HRO.out]
      exact ⟨rfl, H.out.2.1⟩
    case pos =>
      have hno : no = 0 := by rw [← HEN.out]; unfold ofNo; rw [if_pos hok]
      subst hno
      have hr : RightL l := by rw [← HEL.out]; exact right_of hok
      have hlB : l.B = x1.toNat := by rw [← HEL.out]; unfold ofL; rw [if_pos hok]
      have hlB1 : 32 ≤ l.B := hr.1.1.1
      have hlB2 : l.B ≤ 2048 := hr.1.1.2
      have HOK := Lib.hid hok
      have HR := Lib.hid hr
      have HLB := Lib.hid hlB
      clear hok hr hlB
      by_cases hll : (ws.length : Int) = 64 * l.B
      case neg =>
        have HRO := Lib.hid (HRN.out fun h => hll (by have := h.2.1; have := HLB.out; omega))
        have hll0 : ((ws.length : Int) != 64 * l.B) = true := by simp [hll]
        go_wp2_with fail
        refine bodyPost_ret (v := .tuple #[lv lay0, .int .i64 230]) (by simp [results, Try.results23, go_sem, lv, lay0, e0, e1, e2, e3, e4, e5, e6, e7, e8, e9]) rfl ?_
        rw [HRO.out]
        exact ⟨rfl, H.out.2.1⟩
      case pos =>
        have HLL := Lib.hid hll
        have hll0 : ((ws.length : Int) != 64 * l.B) = false := by rw [hll]; simp
        clear hll
        have hrs := refSuper_any l V HR.out
        unfold lv at hrs
        have HRS := Lib.hid hrs
        clear hrs
        go_wp2_with fail
        refine HRS.out.mono ?_
        rintro e w3 ⟨v, rfl, hown, hb3⟩
        obtain ⟨q, cq, rfl, hq⟩ := super_rd hown
        have hb3' : Below w.heap.size w w3 := H.out.2.1.trans (hb3.mono H.out.2.1.size)
        have hzq : ∀ nn, (w3.drewN nn).heap[w.heap.size]? = some (.cells #[.int .i64 0, .int .i64 0, .int .i64 0, .int .i64 0, .int .u64 0, .int .u64 0, .int .i64 0, .int .i64 0, .int .i64 0, .int .i64 0] 27 (0, 0)) := fun nn => (hb3.block _ (Array.getElem?_eq_some_iff.1 H.out.2.2.1).1).trans H.out.2.2.1
        have hlq : ∀ nn, LayAt (w3.drewN nn) X l := fun nn => (hb3.block X H.out.1.lt).trans H.out.1
        have HBW : Hid (∀ nn, Below w.heap.size w (w3.drewN nn)) := Lib.hid fun nn => ⟨hb3'.os, hb3'.tape, hb3'.output, hb3'.size, hb3'.block⟩
        have HQ := Lib.hid hq
        have HRW := Lib.hid ((HRD.out.below hb3').wide hb3'.size)
        have HZQ := Lib.hid hzq
        have HLQ := Lib.hid hlq
        clear e0 e1 e2 e3 e4 e5 e6 e7 e8 e9 ef hr0 hr1 hr2 hr3 hr4 hr5 hr6 hr7 hr8 hr9 m0 m1 m2 m3 m4 m5 m6 m7 m8 m9 mf hll0 hown hb3 hb3' hq
        have hr0 : ∀ nn, (w3.drewN nn).setCell ⟨w.heap.size, 0, none⟩ (.int .i64 0) = w3.drewN nn := fun nn => setCell_id (hzq nn) rfl
        have hr1 : ∀ nn, (w3.drewN nn).setCell ⟨w.heap.size, 1, none⟩ (.int .i64 0) = w3.drewN nn := fun nn => setCell_id (hzq nn) rfl
        have hr2 : ∀ nn, (w3.drewN nn).setCell ⟨w.heap.size, 2, none⟩ (.int .i64 0) = w3.drewN nn := fun nn => setCell_id (hzq nn) rfl
        have hr3 : ∀ nn, (w3.drewN nn).setCell ⟨w.heap.size, 3, none⟩ (.int .i64 0) = w3.drewN nn := fun nn => setCell_id (hzq nn) rfl
        have hr4 : ∀ nn, (w3.drewN nn).setCell ⟨w.heap.size, 4, none⟩ (.int .u64 0) = w3.drewN nn := fun nn => setCell_id (hzq nn) rfl
        have hr5 : ∀ nn, (w3.drewN nn).setCell ⟨w.heap.size, 5, none⟩ (.int .u64 0) = w3.drewN nn := fun nn => setCell_id (hzq nn) rfl
        have hr6 : ∀ nn, (w3.drewN nn).setCell ⟨w.heap.size, 6, none⟩ (.int .i64 0) = w3.drewN nn := fun nn => setCell_id (hzq nn) rfl
        have hr7 : ∀ nn, (w3.drewN nn).setCell ⟨w.heap.size, 7, none⟩ (.int .i64 0) = w3.drewN nn := fun nn => setCell_id (hzq nn) rfl
        have hr8 : ∀ nn, (w3.drewN nn).setCell ⟨w.heap.size, 8, none⟩ (.int .i64 0) = w3.drewN nn := fun nn => setCell_id (hzq nn) rfl
        have hr9 : ∀ nn, (w3.drewN nn).setCell ⟨w.heap.size, 9, none⟩ (.int .i64 0) = w3.drewN nn := fun nn => setCell_id (hzq nn) rfl
        have e0 : ∀ nn, (w3.drewN nn).cell? ⟨w.heap.size, 0, none⟩ = some (.int .i64 0) := fun nn => (lay_cells (hzq nn)).1
        have e1 : ∀ nn, (w3.drewN nn).cell? ⟨w.heap.size, 1, none⟩ = some (.int .i64 0) := fun nn => (lay_cells (hzq nn)).2.1
        have e2 : ∀ nn, (w3.drewN nn).cell? ⟨w.heap.size, 2, none⟩ = some (.int .i64 0) := fun nn => (lay_cells (hzq nn)).2.2.1
        have e3 : ∀ nn, (w3.drewN nn).cell? ⟨w.heap.size, 3, none⟩ = some (.int .i64 0) := fun nn => (lay_cells (hzq nn)).2.2.2.1
        have e4 : ∀ nn, (w3.drewN nn).cell? ⟨w.heap.size, 4, none⟩ = some (.int .u64 0) := fun nn => (lay_cells (hzq nn)).2.2.2.2.1
        have e5 : ∀ nn, (w3.drewN nn).cell? ⟨w.heap.size, 5, none⟩ = some (.int .u64 0) := fun nn => (lay_cells (hzq nn)).2.2.2.2.2.1
        have e6 : ∀ nn, (w3.drewN nn).cell? ⟨w.heap.size, 6, none⟩ = some (.int .i64 0) := fun nn => (lay_cells (hzq nn)).2.2.2.2.2.2.1
        have e7 : ∀ nn, (w3.drewN nn).cell? ⟨w.heap.size, 7, none⟩ = some (.int .i64 0) := fun nn => (lay_cells (hzq nn)).2.2.2.2.2.2.2.1
        have e8 : ∀ nn, (w3.drewN nn).cell? ⟨w.heap.size, 8, none⟩ = some (.int .i64 0) := fun nn => (lay_cells (hzq nn)).2.2.2.2.2.2.2.2.1
        have e9 : ∀ nn, (w3.drewN nn).cell? ⟨w.heap.size, 9, none⟩ = some (.int .i64 0) := fun nn => (lay_cells (hzq nn)).2.2.2.2.2.2.2.2.2.1
        have ef : ∀ nn k, (w3.drewN nn).frozen? ⟨w.heap.size, k, none⟩ = false := fun nn => (lay_cells (hzq nn)).2.2.2.2.2.2.2.2.2.2
        have m0 : ∀ nn, (w3.drewN nn).cell? ⟨X, 0, none⟩ = some (.int .i64 l.B) := fun nn => (lay_cells (hlq nn)).1
        have m1 : ∀ nn, (w3.drewN nn).cell? ⟨X, 1, none⟩ = some (.int .i64 l.I) := fun nn => (lay_cells (hlq nn)).2.1
        have m2 : ∀ nn, (w3.drewN nn).cell? ⟨X, 2, none⟩ = some (.int .i64 l.R) := fun nn => (lay_cells (hlq nn)).2.2.1
        have m3 : ∀ nn, (w3.drewN nn).cell? ⟨X, 3, none⟩ = some (.int .i64 l.T) := fun nn => (lay_cells (hlq nn)).2.2.2.1
        have m4 : ∀ nn, (w3.drewN nn).cell? ⟨X, 4, none⟩ = some (vw l.k0) := fun nn => (lay_cells (hlq nn)).2.2.2.2.1
        have m5 : ∀ nn, (w3.drewN nn).cell? ⟨X, 5, none⟩ = some (vw l.k1) := fun nn => (lay_cells (hlq nn)).2.2.2.2.2.1
        have m6 : ∀ nn, (w3.drewN nn).cell? ⟨X, 6, none⟩ = some (.int .i64 l.i) := fun nn => (lay_cells (hlq nn)).2.2.2.2.2.2.1
        have m7 : ∀ nn, (w3.drewN nn).cell? ⟨X, 7, none⟩ = some (.int .i64 l.r) := fun nn => (lay_cells (hlq nn)).2.2.2.2.2.2.2.1
        have m8 : ∀ nn, (w3.drewN nn).cell? ⟨X, 8, none⟩ = some (.int .i64 l.m) := fun nn => (lay_cells (hlq nn)).2.2.2.2.2.2.2.2.1
        have m9 : ∀ nn, (w3.drewN nn).cell? ⟨X, 9, none⟩ = some (.int .i64 l.d) := fun nn => (lay_cells (hlq nn)).2.2.2.2.2.2.2.2.2.1
        have eb0 : w3.cell? ⟨w.heap.size, 0, none⟩ = some (.int .i64 0) := e0 0
        have eb1 : w3.cell? ⟨w.heap.size, 1, none⟩ = some (.int .i64 0) := e1 0
        have eb2 : w3.cell? ⟨w.heap.size, 2, none⟩ = some (.int .i64 0) := e2 0
        have eb3 : w3.cell? ⟨w.heap.size, 3, none⟩ = some (.int .i64 0) := e3 0
        have eb4 : w3.cell? ⟨w.heap.size, 4, none⟩ = some (.int .u64 0) := e4 0
        have eb5 : w3.cell? ⟨w.heap.size, 5, none⟩ = some (.int .u64 0) := e5 0
        have eb6 : w3.cell? ⟨w.heap.size, 6, none⟩ = some (.int .i64 0) := e6 0
        have eb7 : w3.cell? ⟨w.heap.size, 7, none⟩ = some (.int .i64 0) := e7 0
        have eb8 : w3.cell? ⟨w.heap.size, 8, none⟩ = some (.int .i64 0) := e8 0
        have eb9 : w3.cell? ⟨w.heap.size, 9, none⟩ = some (.int .i64 0) := e9 0
        have efb : ∀ k, w3.frozen? ⟨w.heap.size, k, none⟩ = false := (lay_cells (hzq 0)).2.2.2.2.2.2.2.2.2.2
        have mb0 : w3.cell? ⟨X, 0, none⟩ = some (.int .i64 l.B) := m0 0
        have mb1 : w3.cell? ⟨X, 1, none⟩ = some (.int .i64 l.I) := m1 0
        have mb2 : w3.cell? ⟨X, 2, none⟩ = some (.int .i64 l.R) := m2 0
        have mb3 : w3.cell? ⟨X, 3, none⟩ = some (.int .i64 l.T) := m3 0
        have mb4 : w3.cell? ⟨X, 4, none⟩ = some (vw l.k0) := m4 0
        have mb5 : w3.cell? ⟨X, 5, none⟩ = some (vw l.k1) := m5 0
        have mb6 : w3.cell? ⟨X, 6, none⟩ = some (.int .i64 l.i) := m6 0
        have mb7 : w3.cell? ⟨X, 7, none⟩ = some (.int .i64 l.r) := m7 0
        have mb8 : w3.cell? ⟨X, 8, none⟩ = some (.int .i64 l.m) := m8 0
        have mb9 : w3.cell? ⟨X, 9, none⟩ = some (.int .i64 l.d) := m9 0
        clear hzq hlq
        go_wp2_with fail
        go_loopw [7] (fun i wr => ∃ k nn : Nat, k ≤ 64 ∧ i = .int .i64 k ∧ sameTo (superL l) (ws.take 64) k ∧ w3.drewN nn = wr) (fun i _ => 64 - (intOf i).toNat)
        case atStart => exact ⟨0, 0, Nat.zero_le _, rfl, sameTo_zero _ _, rfl⟩
        case round =>
          obtain ⟨k, nn, hk, rfl, hs, rfl⟩ := hrel
          have hA : (superL l).length = 64 := superL_len l
          have hB : (ws.take 64).length = 64 := by rw [List.length_take]; omega
          by_cases hlt : k < 64
          · obtain ⟨b1, o1, hp1, _, hcy⟩ := HQ.out.at k (by omega)
            subst hp1
            obtain ⟨b2, o2, hp2, _, hcx⟩ := HRW.out.at k (by omega)
            cases hp2
            have hcx' : (w3.drewN nn).cell? ⟨b, off + k, none⟩ = some (vw ws[k]) := hcx
            have hcy' : (w3.drewN nn).cell? ⟨b1, o1 + k, none⟩ = some (vw (superL l)[k]) := hcy
            have hk1 : (k : Int) < (ws.length : Int) := by omega
            have hk2 : (k : Int) < 64 := by omega
            have hgt : (ws.take 64)[k] = ws[k] := List.getElem_take
            have HS := Lib.hid (And.intro hs hgt)
            generalize ws[k] = u1 at hcx hcx' hgt HS
            generalize hu2 : (superL l)[k] = u2 at hcy hcy'
            clear hs hgt
            go_wp2_with fail
            go_quiet (fail)
            try rw [World.drewN_drewN]
            by_cases he : u1 = u2
            · have hne : ((u1.toNat : Int) != (u2.toNat : Int)) = false := by rw [he]; simp
              have HE := Lib.hid he
              clear he
              go_wp2_with fail
              go_roundw
              case rel => exact ⟨k + 1, _, by omega, by go_num, sameTo_succ HS.out.1 (by omega) (by omega) (hu2.trans (HE.out.symm.trans HS.out.2.symm)), rfl⟩
              case measure => simp [intOf]; omega
            · have hne : ((u1.toNat : Int) != (u2.toNat : Int)) = true := by
                  simp only [bne_iff_ne, ne_eq, Int.natCast_inj]
                  exact fun h => he (BitVec.eq_of_toNat_eq h)
              have HRO := Lib.hid (HRN.out fun h => by
                  have h9 := h.2.2
                  have q1 : (superL l)[k]? = some u2 := by
                    rw [List.getElem?_eq_getElem (show k < (superL l).length by omega)]
                    exact congrArg some hu2
                  have q2 : (ws.take 64)[k]? = some u1 := by
                    rw [List.getElem?_eq_getElem (show k < (ws.take 64).length by omega)]
                    exact congrArg some HS.out.2
                  rw [h9, q2] at q1
                  injection q1 with q3
                  exact he q3)
              clear he
              go_wp2_with fail
              refine bodyPost_ret (v := .tuple #[lv lay0, .int .i64 230]) (by simp [results, Try.results23, go_sem, lv, lay0, e0, e1, e2, e3, e4, e5, e6, e7, e8, e9]) rfl ?_
              rw [HRO.out]
              exact ⟨rfl, HBW.out _⟩
          · obtain rfl : k = 64 := by omega
            have hsame : superL l = ws.take 64 := by
                unfold sameTo at hs
                rwa [List.take_of_length_le (by omega), List.take_of_length_le (by omega)] at hs
            have HRO := Lib.hid (HRY.out ⟨HOK.out, by have := HLB.out; have := HLL.out; omega, hsame⟩)
            clear hs hsame hr0 hr1 hr2 hr3 hr4 hr5 hr6 hr7 hr8 hr9
            have i0 := e0 nn
            have i1 := e1 nn
            have i2 := e2 nn
            have i3 := e3 nn
            have i4 := e4 nn
            have i5 := e5 nn
            have i6 := e6 nn
            have i7 := e7 nn
            have i8 := e8 nn
            have i9 := e9 nn
            go_wp2_with fail
            obtain ⟨Wf, hWf, h1, h2, h3⟩ := lay_sets (HZQ.out nn) (.int .i64 l.B) (.int .i64 l.I) (.int .i64 l.R) (.int .i64 l.T) (.int .u64 (l.k0.toNat : Int)) (.int .u64 (l.k1.toNat : Int)) (.int .i64 l.i) (.int .i64 l.r) (.int .i64 l.m) (.int .i64 l.d)
            rw [hWf]
            obtain ⟨c0, c1, c2, c3, c4, c5, c6, c7, c8, c9, cf⟩ := lay_cells h1
            refine bodyPost_ret (v := .tuple #[lv l, .int .i64 0]) (by simp [results, Try.results23, go_sem, lv, vw, c0, c1, c2, c3, c4, c5, c6, c7, c8, c9]) rfl ?_
            rw [HRO.out]
            exact ⟨rfl, h3 _ _ (by omega) (HBW.out nn)⟩
  · obtain ⟨V, hV, hLV, hoth, hbel⟩ := lay_sets HZZ.out (.int .i64 l.B) (.int .i64 l.I) (.int .i64 l.R) (.int .i64 l.T) (.int .u64 (l.k0.toNat : Int)) (.int .u64 (l.k1.toNat : Int)) (.int .i64 l.i) (.int .i64 l.r) (.int .i64 l.m) (.int .i64 l.d)
    rw [hV]
    have hbV' : Below wa.heap.size wa V := hbel _ _ (Nat.le_refl _) HB1.out
    have hX0 : w.heap.size < wa.heap.size := by have := HZA.out; omega
    have hLV' : LayAt V wa.heap.size l := hLV
    obtain ⟨X, hX⟩ : ∃ X, wa.heap.size = X := ⟨_, rfl⟩
    have H0 := Lib.hid (And.intro (HBA.out.trans (hbV'.mono (by rw [HZA.out]; omega))) ((hbV'.block w.heap.size (by rw [HZA.out]; omega)).trans HZ.out))
    clear hs1 hs1a hs1b d1 d2 d3 d4 d5 d6 m1 m2 m3 m4 m5 m6 v1 v2 v3 v4 z0 z1 z2 z3 z4 z5 z6 z7 z8 z9 zf hbV' hLV hbne hbne' hV hoth hbel
    rw [hX] at hLV' hX0 ⊢
    have H := Lib.hid (And.intro hLV' (And.intro H0.out.1 (And.intro H0.out.2 hX0)))
    clear hX hLV' hX0
    obtain ⟨e0, e1, e2, e3, e4, e5, e6, e7, e8, e9, ef⟩ := lay_cells H.out.2.2.1
    have hr0 : V.setCell ⟨w.heap.size, 0, none⟩ (.int .i64 0) = V := setCell_id H.out.2.2.1 rfl
    have hr1 : V.setCell ⟨w.heap.size, 1, none⟩ (.int .i64 0) = V := setCell_id H.out.2.2.1 rfl
    have hr2 : V.setCell ⟨w.heap.size, 2, none⟩ (.int .i64 0) = V := setCell_id H.out.2.2.1 rfl
    have hr3 : V.setCell ⟨w.heap.size, 3, none⟩ (.int .i64 0) = V := setCell_id H.out.2.2.1 rfl
    have hr4 : V.setCell ⟨w.heap.size, 4, none⟩ (.int .u64 0) = V := setCell_id H.out.2.2.1 rfl
    have hr5 : V.setCell ⟨w.heap.size, 5, none⟩ (.int .u64 0) = V := setCell_id H.out.2.2.1 rfl
    have hr6 : V.setCell ⟨w.heap.size, 6, none⟩ (.int .i64 0) = V := setCell_id H.out.2.2.1 rfl
    have hr7 : V.setCell ⟨w.heap.size, 7, none⟩ (.int .i64 0) = V := setCell_id H.out.2.2.1 rfl
    have hr8 : V.setCell ⟨w.heap.size, 8, none⟩ (.int .i64 0) = V := setCell_id H.out.2.2.1 rfl
    have hr9 : V.setCell ⟨w.heap.size, 9, none⟩ (.int .i64 0) = V := setCell_id H.out.2.2.1 rfl
    obtain ⟨m0, m1, m2, m3, m4, m5, m6, m7, m8, m9, mf⟩ := lay_cells H.out.1
    by_cases hok : OfOk x1.toNat x2.toNat x3.toNat x4.toNat
    case neg =>
      have hno : no = 2 := by rw [← HEN.out]; unfold ofNo; rw [if_neg hok]
      subst hno
      have HRO := Lib.hid (HRN.out fun h => hok h.1)
      clear hok
      go_wp2_with fail
      refine bodyPost_ret (v := .tuple #[lv lay0, .int .i64 230]) (by simp [results, Try.results23, go_sem, lv, lay0, e0, e1, e2, e3, e4, e5, e6, e7, e8, e9]) rfl ?_
      rw [HRO.out]
      exact ⟨rfl, H.out.2.1⟩
    case pos =>
      have hno : no = 0 := by rw [← HEN.out]; unfold ofNo; rw [if_pos hok]
      subst hno
      have hr : RightL l := by rw [← HEL.out]; exact right_of hok
      have hlB : l.B = x1.toNat := by rw [← HEL.out]; unfold ofL; rw [if_pos hok]
      have hlB1 : 32 ≤ l.B := hr.1.1.1
      have hlB2 : l.B ≤ 2048 := hr.1.1.2
      have HOK := Lib.hid hok
      have HR := Lib.hid hr
      have HLB := Lib.hid hlB
      clear hok hr hlB
      by_cases hll : (ws.length : Int) = 64 * l.B
      case neg =>
        have HRO := Lib.hid (HRN.out fun h => hll (by have := h.2.1; have := HLB.out; omega))
        have hll0 : ((ws.length : Int) != 64 * l.B) = true := by simp [hll]
        go_wp2_with fail
        refine bodyPost_ret (v := .tuple #[lv lay0, .int .i64 230]) (by simp [results, Try.results23, go_sem, lv, lay0, e0, e1, e2, e3, e4, e5, e6, e7, e8, e9]) rfl ?_
        rw [HRO.out]
        exact ⟨rfl, H.out.2.1⟩
      case pos =>
        have HLL := Lib.hid hll
        have hll0 : ((ws.length : Int) != 64 * l.B) = false := by rw [hll]; simp
        clear hll
        have hrs := refSuper_any l V HR.out
        unfold lv at hrs
        have HRS := Lib.hid hrs
        clear hrs
        go_wp2_with fail
        refine HRS.out.mono ?_
        rintro e w3 ⟨v, rfl, hown, hb3⟩
        obtain ⟨q, cq, rfl, hq⟩ := super_rd hown
        have hb3' : Below w.heap.size w w3 := H.out.2.1.trans (hb3.mono H.out.2.1.size)
        have hzq : ∀ nn, (w3.drewN nn).heap[w.heap.size]? = some (.cells #[.int .i64 0, .int .i64 0, .int .i64 0, .int .i64 0, .int .u64 0, .int .u64 0, .int .i64 0, .int .i64 0, .int .i64 0, .int .i64 0] 27 (0, 0)) := fun nn => (hb3.block _ (Array.getElem?_eq_some_iff.1 H.out.2.2.1).1).trans H.out.2.2.1
        have hlq : ∀ nn, LayAt (w3.drewN nn) X l := fun nn => (hb3.block X H.out.1.lt).trans H.out.1
        have HBW : Hid (∀ nn, Below w.heap.size w (w3.drewN nn)) := Lib.hid fun nn => ⟨hb3'.os, hb3'.tape, hb3'.output, hb3'.size, hb3'.block⟩
        have HQ := Lib.hid hq
        have HRW := Lib.hid ((HRD.out.below hb3').wide hb3'.size)
        have HZQ := Lib.hid hzq
        have HLQ := Lib.hid hlq
        clear e0 e1 e2 e3 e4 e5 e6 e7 e8 e9 ef hr0 hr1 hr2 hr3 hr4 hr5 hr6 hr7 hr8 hr9 m0 m1 m2 m3 m4 m5 m6 m7 m8 m9 mf hll0 hown hb3 hb3' hq
        have hr0 : ∀ nn, (w3.drewN nn).setCell ⟨w.heap.size, 0, none⟩ (.int .i64 0) = w3.drewN nn := fun nn => setCell_id (hzq nn) rfl
        have hr1 : ∀ nn, (w3.drewN nn).setCell ⟨w.heap.size, 1, none⟩ (.int .i64 0) = w3.drewN nn := fun nn => setCell_id (hzq nn) rfl
        have hr2 : ∀ nn, (w3.drewN nn).setCell ⟨w.heap.size, 2, none⟩ (.int .i64 0) = w3.drewN nn := fun nn => setCell_id (hzq nn) rfl
        have hr3 : ∀ nn, (w3.drewN nn).setCell ⟨w.heap.size, 3, none⟩ (.int .i64 0) = w3.drewN nn := fun nn => setCell_id (hzq nn) rfl
        have hr4 : ∀ nn, (w3.drewN nn).setCell ⟨w.heap.size, 4, none⟩ (.int .u64 0) = w3.drewN nn := fun nn => setCell_id (hzq nn) rfl
        have hr5 : ∀ nn, (w3.drewN nn).setCell ⟨w.heap.size, 5, none⟩ (.int .u64 0) = w3.drewN nn := fun nn => setCell_id (hzq nn) rfl
        have hr6 : ∀ nn, (w3.drewN nn).setCell ⟨w.heap.size, 6, none⟩ (.int .i64 0) = w3.drewN nn := fun nn => setCell_id (hzq nn) rfl
        have hr7 : ∀ nn, (w3.drewN nn).setCell ⟨w.heap.size, 7, none⟩ (.int .i64 0) = w3.drewN nn := fun nn => setCell_id (hzq nn) rfl
        have hr8 : ∀ nn, (w3.drewN nn).setCell ⟨w.heap.size, 8, none⟩ (.int .i64 0) = w3.drewN nn := fun nn => setCell_id (hzq nn) rfl
        have hr9 : ∀ nn, (w3.drewN nn).setCell ⟨w.heap.size, 9, none⟩ (.int .i64 0) = w3.drewN nn := fun nn => setCell_id (hzq nn) rfl
        have e0 : ∀ nn, (w3.drewN nn).cell? ⟨w.heap.size, 0, none⟩ = some (.int .i64 0) := fun nn => (lay_cells (hzq nn)).1
        have e1 : ∀ nn, (w3.drewN nn).cell? ⟨w.heap.size, 1, none⟩ = some (.int .i64 0) := fun nn => (lay_cells (hzq nn)).2.1
        have e2 : ∀ nn, (w3.drewN nn).cell? ⟨w.heap.size, 2, none⟩ = some (.int .i64 0) := fun nn => (lay_cells (hzq nn)).2.2.1
        have e3 : ∀ nn, (w3.drewN nn).cell? ⟨w.heap.size, 3, none⟩ = some (.int .i64 0) := fun nn => (lay_cells (hzq nn)).2.2.2.1
        have e4 : ∀ nn, (w3.drewN nn).cell? ⟨w.heap.size, 4, none⟩ = some (.int .u64 0) := fun nn => (lay_cells (hzq nn)).2.2.2.2.1
        have e5 : ∀ nn, (w3.drewN nn).cell? ⟨w.heap.size, 5, none⟩ = some (.int .u64 0) := fun nn => (lay_cells (hzq nn)).2.2.2.2.2.1
        have e6 : ∀ nn, (w3.drewN nn).cell? ⟨w.heap.size, 6, none⟩ = some (.int .i64 0) := fun nn => (lay_cells (hzq nn)).2.2.2.2.2.2.1
        have e7 : ∀ nn, (w3.drewN nn).cell? ⟨w.heap.size, 7, none⟩ = some (.int .i64 0) := fun nn => (lay_cells (hzq nn)).2.2.2.2.2.2.2.1
        have e8 : ∀ nn, (w3.drewN nn).cell? ⟨w.heap.size, 8, none⟩ = some (.int .i64 0) := fun nn => (lay_cells (hzq nn)).2.2.2.2.2.2.2.2.1
        have e9 : ∀ nn, (w3.drewN nn).cell? ⟨w.heap.size, 9, none⟩ = some (.int .i64 0) := fun nn => (lay_cells (hzq nn)).2.2.2.2.2.2.2.2.2.1
        have ef : ∀ nn k, (w3.drewN nn).frozen? ⟨w.heap.size, k, none⟩ = false := fun nn => (lay_cells (hzq nn)).2.2.2.2.2.2.2.2.2.2
        have m0 : ∀ nn, (w3.drewN nn).cell? ⟨X, 0, none⟩ = some (.int .i64 l.B) := fun nn => (lay_cells (hlq nn)).1
        have m1 : ∀ nn, (w3.drewN nn).cell? ⟨X, 1, none⟩ = some (.int .i64 l.I) := fun nn => (lay_cells (hlq nn)).2.1
        have m2 : ∀ nn, (w3.drewN nn).cell? ⟨X, 2, none⟩ = some (.int .i64 l.R) := fun nn => (lay_cells (hlq nn)).2.2.1
        have m3 : ∀ nn, (w3.drewN nn).cell? ⟨X, 3, none⟩ = some (.int .i64 l.T) := fun nn => (lay_cells (hlq nn)).2.2.2.1
        have m4 : ∀ nn, (w3.drewN nn).cell? ⟨X, 4, none⟩ = some (vw l.k0) := fun nn => (lay_cells (hlq nn)).2.2.2.2.1
        have m5 : ∀ nn, (w3.drewN nn).cell? ⟨X, 5, none⟩ = some (vw l.k1) := fun nn => (lay_cells (hlq nn)).2.2.2.2.2.1
        have m6 : ∀ nn, (w3.drewN nn).cell? ⟨X, 6, none⟩ = some (.int .i64 l.i) := fun nn => (lay_cells (hlq nn)).2.2.2.2.2.2.1
        have m7 : ∀ nn, (w3.drewN nn).cell? ⟨X, 7, none⟩ = some (.int .i64 l.r) := fun nn => (lay_cells (hlq nn)).2.2.2.2.2.2.2.1
        have m8 : ∀ nn, (w3.drewN nn).cell? ⟨X, 8, none⟩ = some (.int .i64 l.m) := fun nn => (lay_cells (hlq nn)).2.2.2.2.2.2.2.2.1
        have m9 : ∀ nn, (w3.drewN nn).cell? ⟨X, 9, none⟩ = some (.int .i64 l.d) := fun nn => (lay_cells (hlq nn)).2.2.2.2.2.2.2.2.2.1
        have eb0 : w3.cell? ⟨w.heap.size, 0, none⟩ = some (.int .i64 0) := e0 0
        have eb1 : w3.cell? ⟨w.heap.size, 1, none⟩ = some (.int .i64 0) := e1 0
        have eb2 : w3.cell? ⟨w.heap.size, 2, none⟩ = some (.int .i64 0) := e2 0
        have eb3 : w3.cell? ⟨w.heap.size, 3, none⟩ = some (.int .i64 0) := e3 0
        have eb4 : w3.cell? ⟨w.heap.size, 4, none⟩ = some (.int .u64 0) := e4 0
        have eb5 : w3.cell? ⟨w.heap.size, 5, none⟩ = some (.int .u64 0) := e5 0
        have eb6 : w3.cell? ⟨w.heap.size, 6, none⟩ = some (.int .i64 0) := e6 0
        have eb7 : w3.cell? ⟨w.heap.size, 7, none⟩ = some (.int .i64 0) := e7 0
        have eb8 : w3.cell? ⟨w.heap.size, 8, none⟩ = some (.int .i64 0) := e8 0
        have eb9 : w3.cell? ⟨w.heap.size, 9, none⟩ = some (.int .i64 0) := e9 0
        have efb : ∀ k, w3.frozen? ⟨w.heap.size, k, none⟩ = false := (lay_cells (hzq 0)).2.2.2.2.2.2.2.2.2.2
        have mb0 : w3.cell? ⟨X, 0, none⟩ = some (.int .i64 l.B) := m0 0
        have mb1 : w3.cell? ⟨X, 1, none⟩ = some (.int .i64 l.I) := m1 0
        have mb2 : w3.cell? ⟨X, 2, none⟩ = some (.int .i64 l.R) := m2 0
        have mb3 : w3.cell? ⟨X, 3, none⟩ = some (.int .i64 l.T) := m3 0
        have mb4 : w3.cell? ⟨X, 4, none⟩ = some (vw l.k0) := m4 0
        have mb5 : w3.cell? ⟨X, 5, none⟩ = some (vw l.k1) := m5 0
        have mb6 : w3.cell? ⟨X, 6, none⟩ = some (.int .i64 l.i) := m6 0
        have mb7 : w3.cell? ⟨X, 7, none⟩ = some (.int .i64 l.r) := m7 0
        have mb8 : w3.cell? ⟨X, 8, none⟩ = some (.int .i64 l.m) := m8 0
        have mb9 : w3.cell? ⟨X, 9, none⟩ = some (.int .i64 l.d) := m9 0
        clear hzq hlq
        go_wp2_with fail
        go_loopw [7] (fun i wr => ∃ k nn : Nat, k ≤ 64 ∧ i = .int .i64 k ∧ sameTo (superL l) (ws.take 64) k ∧ w3.drewN nn = wr) (fun i _ => 64 - (intOf i).toNat)
        case atStart => exact ⟨0, 0, Nat.zero_le _, rfl, sameTo_zero _ _, rfl⟩
        case round =>
          obtain ⟨k, nn, hk, rfl, hs, rfl⟩ := hrel
          have hA : (superL l).length = 64 := superL_len l
          have hB : (ws.take 64).length = 64 := by rw [List.length_take]; omega
          by_cases hlt : k < 64
          · obtain ⟨b1, o1, hp1, _, hcy⟩ := HQ.out.at k (by omega)
            subst hp1
            obtain ⟨b2, o2, hp2, _, hcx⟩ := HRW.out.at k (by omega)
            cases hp2
            have hcx' : (w3.drewN nn).cell? ⟨b, off + k, none⟩ = some (vw ws[k]) := hcx
            have hcy' : (w3.drewN nn).cell? ⟨b1, o1 + k, none⟩ = some (vw (superL l)[k]) := hcy
            have hk1 : (k : Int) < (ws.length : Int) := by omega
            have hk2 : (k : Int) < 64 := by omega
            have hgt : (ws.take 64)[k] = ws[k] := List.getElem_take
            have HS := Lib.hid (And.intro hs hgt)
            generalize ws[k] = u1 at hcx hcx' hgt HS
            generalize hu2 : (superL l)[k] = u2 at hcy hcy'
            clear hs hgt
            go_wp2_with fail
            go_quiet (fail)
            try rw [World.drewN_drewN]
            by_cases he : u1 = u2
            · have hne : ((u1.toNat : Int) != (u2.toNat : Int)) = false := by rw [he]; simp
              have HE := Lib.hid he
              clear he
              go_wp2_with fail
              go_roundw
              case rel => exact ⟨k + 1, _, by omega, by go_num, sameTo_succ HS.out.1 (by omega) (by omega) (hu2.trans (HE.out.symm.trans HS.out.2.symm)), rfl⟩
              case measure => simp [intOf]; omega
            · have hne : ((u1.toNat : Int) != (u2.toNat : Int)) = true := by
                  simp only [bne_iff_ne, ne_eq, Int.natCast_inj]
                  exact fun h => he (BitVec.eq_of_toNat_eq h)
              have HRO := Lib.hid (HRN.out fun h => by
                  have h9 := h.2.2
                  have q1 : (superL l)[k]? = some u2 := by
                    rw [List.getElem?_eq_getElem (show k < (superL l).length by omega)]
                    exact congrArg some hu2
                  have q2 : (ws.take 64)[k]? = some u1 := by
                    rw [List.getElem?_eq_getElem (show k < (ws.take 64).length by omega)]
                    exact congrArg some HS.out.2
                  rw [h9, q2] at q1
                  injection q1 with q3
                  exact he q3)
              clear he
              go_wp2_with fail
              refine bodyPost_ret (v := .tuple #[lv lay0, .int .i64 230]) (by simp [results, Try.results23, go_sem, lv, lay0, e0, e1, e2, e3, e4, e5, e6, e7, e8, e9]) rfl ?_
              rw [HRO.out]
              exact ⟨rfl, HBW.out _⟩
          · obtain rfl : k = 64 := by omega
            have hsame : superL l = ws.take 64 := by
                unfold sameTo at hs
                rwa [List.take_of_length_le (by omega), List.take_of_length_le (by omega)] at hs
            have HRO := Lib.hid (HRY.out ⟨HOK.out, by have := HLB.out; have := HLL.out; omega, hsame⟩)
            clear hs hsame hr0 hr1 hr2 hr3 hr4 hr5 hr6 hr7 hr8 hr9
            have i0 := e0 nn
            have i1 := e1 nn
            have i2 := e2 nn
            have i3 := e3 nn
            have i4 := e4 nn
            have i5 := e5 nn
            have i6 := e6 nn
            have i7 := e7 nn
            have i8 := e8 nn
            have i9 := e9 nn
            go_wp2_with fail
            obtain ⟨Wf, hWf, h1, h2, h3⟩ := lay_sets (HZQ.out nn) (.int .i64 l.B) (.int .i64 l.I) (.int .i64 l.R) (.int .i64 l.T) (.int .u64 (l.k0.toNat : Int)) (.int .u64 (l.k1.toNat : Int)) (.int .i64 l.i) (.int .i64 l.r) (.int .i64 l.m) (.int .i64 l.d)
            rw [hWf]
            obtain ⟨c0, c1, c2, c3, c4, c5, c6, c7, c8, c9, cf⟩ := lay_cells h1
            refine bodyPost_ret (v := .tuple #[lv l, .int .i64 0]) (by simp [results, Try.results23, go_sem, lv, vw, c0, c1, c2, c3, c4, c5, c6, c7, c8, c9]) rfl ?_
            rw [HRO.out]
            exact ⟨rfl, h3 _ _ (by omega) (HBW.out nn)⟩

theorem refRead_any (p : Option Addr) (cap : Nat) (ws : List (BitVec 64)) (w : World) (hrd : RdL w.heap.size w p cap vw ws) :
    Calls Try.prog 23 #[.slice p ws.length cap] w fun e w' => e = .returned (.tuple #[lv (readL ws).1, .int .i64 (readL ws).2]) ∧ Below w.heap.size w w' := by
  by_cases h : 64 ≤ ws.length
  · exact refRead_long p cap ws h w hrd
  · have hro : readL ws = (lay0, 230) := by unfold readL; exact if_neg fun h' => h h'.1
    rw [hro]
    exact refRead_short p ws.length cap (by omega) w
end Go.Proofs.Ytljegehfdmgcbaa
