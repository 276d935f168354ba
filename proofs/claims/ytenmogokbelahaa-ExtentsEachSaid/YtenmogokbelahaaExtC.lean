/- The walks of extents: joined, list, put. -/
import Derived.Test.YtenmogokbelahaaExtB
namespace Go.Proofs.Ytenmogokbelahaa
open Go Go.RowKit

set_option maxRecDepth 100000 in
set_option maxHeartbeats 8000000 in
theorem joinedX_nil (p : Option Addr) (cap : Nat) (xs : List Ext3) {Ba Bi : Nat} {i a : Int} (w : World) (hown : OwnX w p cap xs) (hi : w.cell? ⟨Bi, 0, none⟩ = some (.int .i64 i)) (ha : w.cell? ⟨Ba, 0, none⟩ = some (.int .i64 a)) (li : Bi < w.heap.size) (la : Ba < w.heap.size) (hn : xs.length < 1000000) (hxs0 : xs.length = 0) :
    Calls Try.prog 101 #[.slice p xs.length cap, .agg #[.int .i64 i, .int .i64 a, .int .i64 1], .func (.func 102) #[] #[.pointer (some ⟨Bi, 0, none⟩), .pointer (some ⟨Ba, 0, none⟩)]] w fun e w' => ∃ p' cap', e = .returned (.slice p' (joinX xs i a).length cap') ∧ AppG 81 3 xc p cap w (joinX xs i a) p' cap' w' := by
  have hb0 := below_allocX w (.cells #[.int .i64 i, .int .i64 a, .int .i64 1] 81)
  obtain ⟨w1, hw1⟩ : ∃ w1, w.alloc (.cells #[.int .i64 i, .int .i64 a, .int .i64 1] 81) = w1 := ⟨_, rfl⟩
  obtain ⟨Y, hY⟩ : ∃ Y, w.heap.size = Y := ⟨_, rfl⟩
  have hyl : Y < w1.heap.size := by rw [← hw1, ← hY]; simp
  have hyc := XCells.new w i a 1 81
  rw [hw1, hY] at hyc
  rw [hw1] at hb0
  have y0 := hyc.c0
  have y1 := hyc.c1
  have y2 := hyc.c2
  rw [Nat.zero_add] at y1 y2
  have HW := Lib.hid (And.intro hw1 (And.intro hY hb0))
  have HOW : Hid (OwnX (w1.alloc (.cells #[.int .i64 i, .int .i64 a, .int .i64 1] 81)) p cap xs) := Lib.hid (OwnG.below hown (hb0.trans ((below_allocX w1 _).mono hb0.size)))
  have HL := Lib.hid hxs0
  have HLEN := Lib.hid (show (0 : Nat) < 1000000 by decide)
  rw [hxs0]
  have HE : Hid (joinX xs i a = xs ++ [(i, a, 1)]) := Lib.hid (by rw [List.length_eq_zero_iff.1 hxs0]; exact joinX_nil _ _)
  clear hown hi ha li la hn hw1 hY hb0 hxs0
  go_enter Try.func101, Try.ntmps101
  go_upto_region 1 with fail
  rw [HW.out.1, HW.out.2.1]
  go_wp2_with (at_builtin; refine wpList_appG rfl (.tmp 21) (.tmp 23) _ rfl elem_exts (by decide) xc_len xc_one p cap xs [(i, a, 1)] (by rw [HL.out]; rfl) HOW.out _ 1 1 rfl rfl 81 (0, 0) (World.alloc_heap_new _ _) (Nat.succ_pos _) ⟨by rw [HL.out]; exact HLEN.out, by simp⟩ ?_
               rw [HL.out]
               intro p' cap' w' happ)
  go_ret
  exact ⟨p', cap', by rw [HE.out, List.length_append, HL.out]; rfl, by rw [HE.out]; exact AppG.of ((Frn.of_below HW.out.2.2).trans (Frn.alloc _ _ _)) happ⟩
set_option maxRecDepth 100000 in
set_option maxHeartbeats 8000000 in
theorem joinedX_go (p : Option Addr) (cap : Nat) (xs : List Ext3) {Ba Bi : Nat} {i a : Int} (w : World) (hown : OwnX w p cap xs) (hi : w.cell? ⟨Bi, 0, none⟩ = some (.int .i64 i)) (ha : w.cell? ⟨Ba, 0, none⟩ = some (.int .i64 a)) (li : Bi < w.heap.size) (la : Ba < w.heap.size) (hn : xs.length < 1000000) (n : Nat) (hl : n + 1 = xs.length) (sm : 0 ≤ (xs[n]'(by omega)).1 ∧ (xs[n]'(by omega)).1 + (xs[n]'(by omega)).2.2 ≤ 1000 ∧ 0 ≤ (xs[n]'(by omega)).2.2 ∧ 0 ≤ (xs[n]'(by omega)).2.1 ∧ (xs[n]'(by omega)).2.1 + (xs[n]'(by omega)).2.2 ≤ 10000) (hgo : (xs[n]'(by omega)).1 + (xs[n]'(by omega)).2.2 = i ∧ (xs[n]'(by omega)).2.1 + (xs[n]'(by omega)).2.2 = a) :
    Calls Try.prog 101 #[.slice p xs.length cap, .agg #[.int .i64 i, .int .i64 a, .int .i64 1], .func (.func 102) #[] #[.pointer (some ⟨Bi, 0, none⟩), .pointer (some ⟨Ba, 0, none⟩)]] w fun e w' => ∃ p' cap', e = .returned (.slice p' (joinX xs i a).length cap') ∧ AppG 81 3 xc p cap w (joinX xs i a) p' cap' w' := by
  have hb0 := below_allocX w (.cells #[.int .i64 i, .int .i64 a, .int .i64 1] 81)
  obtain ⟨w1, hw1⟩ : ∃ w1, w.alloc (.cells #[.int .i64 i, .int .i64 a, .int .i64 1] 81) = w1 := ⟨_, rfl⟩
  obtain ⟨Y, hY⟩ : ∃ Y, w.heap.size = Y := ⟨_, rfl⟩
  have hyl : Y < w1.heap.size := by rw [← hw1, ← hY]; simp
  have hyc := XCells.new w i a 1 81
  rw [hw1, hY] at hyc
  rw [hw1] at hb0
  have y0 := hyc.c0
  have y1 := hyc.c1
  have y2 := hyc.c2
  rw [Nat.zero_add] at y1 y2
  obtain ⟨g, o, rfl, hin, hx, hfz⟩ := OwnX.row hown n (by omega)
  obtain ⟨x, hxe⟩ : ∃ x, xs[n]'(by omega) = x := ⟨_, rfl⟩
  rw [hxe] at hx sm hgo
  obtain ⟨f, d, m⟩ := x
  simp only at hx sm hgo
  obtain ⟨N, hN⟩ : ∃ N, xs.length = N := ⟨_, rfl⟩
  have hNn : (N : Int) - 1 = (n : Int) := by omega
  have hw9 : IntKind.i64.wrap (n : Int) = (n : Int) := by rw [IntKind.wrap_i64]; omega
  have hnN : (n : Int) < (N : Int) := by omega
  have hN0 : ¬ N = 0 := by omega
  have hn0 : (0 : Int) ≤ (n : Int) := by omega
  have d0 : decide ((0 : Int) < (N : Int)) = true := decide_eq_true (by omega)
  have hx1 := hx.below hb0
  have hi1 := (hb0.cell (p := ⟨Bi, 0, none⟩) li).trans hi
  have ha1 := (hb0.cell (p := ⟨Ba, 0, none⟩) la).trans ha
  have hgl := hx.lt
  have hfz1 : w1.frozen? ⟨g, o + n * 3 + 2, none⟩ = false := by unfold World.frozen? at hfz ⊢; rw [hb0.block g hgl]; exact hfz
  have HCL : Hid (Calls Try.prog 102 #[.pointer (some ⟨g, o + n * 3, none⟩), .pointer (some ⟨Bi, 0, none⟩), .pointer (some ⟨Ba, 0, none⟩)] w1 fun e w' => e = .returned (.bool true) ∧ ∃ nq, w' = (w1.drewN nq).setCell ⟨g, o + n * 3 + 2, none⟩ (.int .i64 (m + 1))) := Lib.hid (listC_go w1 hx1 hi1 ha1 hfz1 (by omega) hgo.1 hgo.2)
  have HE : Hid (joinX xs i a = xs.set n (f, d, m + 1)) := Lib.hid (joinX_go hl hxe hgo.1 hgo.2)
  have HF : Hid (∀ nq, AppG 81 3 xc (some ⟨g, o, none⟩) cap w (xs.set n (f, d, m + 1)) (some ⟨g, o, none⟩) cap ((w1.drewN nq).setCell ⟨g, o + n * 3 + 2, none⟩ (.int .i64 (m + 1)))) := Lib.hid (fun nq => ⟨by have h9 := OwnX.many (OwnG.below hown (hb0.trans (below_drewN (Below.refl _ w1) nq |>.mono hb0.size))) n (by omega) (m + 1); rw [hxe] at h9; exact h9, ((Frn.of_below hb0).drewN nq).setCell _ (.inl hin) _, fun b hb => .inl hb⟩)
  have HW := Lib.hid (And.intro hw1 (And.intro hY hb0))
  have HL := Lib.hid hN
  rw [hN]
  have HEN := enters_of (P := Try.prog) Try.func102 (by kernel_rfl) rfl
  clear hown hn hw1 hY hb0 hl hxe sm hgo hN la ha hi li hx hx1 hi1 ha1 hgl hfz hfz1
  go_enter Try.func101, Try.ntmps101
  go_upto_region 1 with fail
  rw [HW.out.1, HW.out.2.1]
  go_wp2_with fail
  refine HCL.out.mono ?_
  rintro e w2 ⟨rfl, nq, rfl⟩
  go_wp2_with fail
  go_ret
  exact ⟨some ⟨g, o, none⟩, cap, by rw [HE.out, List.length_set, HL.out]; rfl, by rw [HE.out]; exact HF.out nq⟩
set_option maxRecDepth 100000 in
set_option maxHeartbeats 8000000 in
theorem joinedX_new (p : Option Addr) (cap : Nat) (xs : List Ext3) {Ba Bi : Nat} {i a : Int} (w : World) (hown : OwnX w p cap xs) (hi : w.cell? ⟨Bi, 0, none⟩ = some (.int .i64 i)) (ha : w.cell? ⟨Ba, 0, none⟩ = some (.int .i64 a)) (li : Bi < w.heap.size) (la : Ba < w.heap.size) (hn : xs.length < 1000000) (n : Nat) (hl : n + 1 = xs.length) (sm : 0 ≤ (xs[n]'(by omega)).1 ∧ (xs[n]'(by omega)).1 + (xs[n]'(by omega)).2.2 ≤ 1000 ∧ 0 ≤ (xs[n]'(by omega)).2.2 ∧ 0 ≤ (xs[n]'(by omega)).2.1 ∧ (xs[n]'(by omega)).2.1 + (xs[n]'(by omega)).2.2 ≤ 10000) (hgo : ¬ ((xs[n]'(by omega)).1 + (xs[n]'(by omega)).2.2 = i ∧ (xs[n]'(by omega)).2.1 + (xs[n]'(by omega)).2.2 = a)) :
    Calls Try.prog 101 #[.slice p xs.length cap, .agg #[.int .i64 i, .int .i64 a, .int .i64 1], .func (.func 102) #[] #[.pointer (some ⟨Bi, 0, none⟩), .pointer (some ⟨Ba, 0, none⟩)]] w fun e w' => ∃ p' cap', e = .returned (.slice p' (joinX xs i a).length cap') ∧ AppG 81 3 xc p cap w (joinX xs i a) p' cap' w' := by
  have hb0 := below_allocX w (.cells #[.int .i64 i, .int .i64 a, .int .i64 1] 81)
  obtain ⟨w1, hw1⟩ : ∃ w1, w.alloc (.cells #[.int .i64 i, .int .i64 a, .int .i64 1] 81) = w1 := ⟨_, rfl⟩
  obtain ⟨Y, hY⟩ : ∃ Y, w.heap.size = Y := ⟨_, rfl⟩
  have hyl : Y < w1.heap.size := by rw [← hw1, ← hY]; simp
  have hyc := XCells.new w i a 1 81
  rw [hw1, hY] at hyc
  rw [hw1] at hb0
  have y0 := hyc.c0
  have y1 := hyc.c1
  have y2 := hyc.c2
  rw [Nat.zero_add] at y1 y2
  obtain ⟨g, o, rfl, hin, hx, hfz⟩ := OwnX.row hown n (by omega)
  obtain ⟨x, hxe⟩ : ∃ x, xs[n]'(by omega) = x := ⟨_, rfl⟩
  rw [hxe] at hx sm hgo
  obtain ⟨f, d, m⟩ := x
  simp only at hx sm hgo
  obtain ⟨N, hN⟩ : ∃ N, xs.length = N := ⟨_, rfl⟩
  have hNn : (N : Int) - 1 = (n : Int) := by omega
  have hw9 : IntKind.i64.wrap (n : Int) = (n : Int) := by rw [IntKind.wrap_i64]; omega
  have hnN : (n : Int) < (N : Int) := by omega
  have hN0 : ¬ N = 0 := by omega
  have hn0 : (0 : Int) ≤ (n : Int) := by omega
  have d0 : decide ((0 : Int) < (N : Int)) = true := decide_eq_true (by omega)
  have hx1 := hx.below hb0
  have hi1 := (hb0.cell (p := ⟨Bi, 0, none⟩) li).trans hi
  have ha1 := (hb0.cell (p := ⟨Ba, 0, none⟩) la).trans ha
  have hgl := hx.lt
  have hfz1 : w1.frozen? ⟨g, o + n * 3 + 2, none⟩ = false := by unfold World.frozen? at hfz ⊢; rw [hb0.block g hgl]; exact hfz
  have HCL : Hid (Calls Try.prog 102 #[.pointer (some ⟨g, o + n * 3, none⟩), .pointer (some ⟨Bi, 0, none⟩), .pointer (some ⟨Ba, 0, none⟩)] w1 fun e w' => e = .returned (.bool false) ∧ ∃ nq, w' = w1.drewN nq) := Lib.hid (by
    by_cases e1 : f + m = i
    · exact listC_n2 w1 hx1 hi1 ha1 (by omega) e1 (fun e2 => hgo ⟨e1, e2⟩)
    · exact listC_n1 w1 hx1 hi1 ha1 (by omega) e1)
  have HE : Hid (joinX xs i a = xs ++ [(i, a, 1)]) := Lib.hid (joinX_new hl hxe hgo)
  have HOWN := Lib.hid hown
  have HLEN : Hid (N < 1000000) := Lib.hid (by omega)
  have HW := Lib.hid (And.intro hw1 (And.intro hY hb0))
  have HL := Lib.hid hN
  rw [hN]
  have HEN := enters_of (P := Try.prog) Try.func102 (by kernel_rfl) rfl
  clear hown hn hw1 hY hb0 hl hxe sm hgo hN la ha hi li hx hx1 hi1 ha1 hgl hfz hfz1
  go_enter Try.func101, Try.ntmps101
  go_upto_region 1 with fail
  rw [HW.out.1, HW.out.2.1]
  go_wp2_with fail
  refine HCL.out.mono ?_
  rintro e w2 ⟨rfl, nq, rfl⟩
  have hbd : Below w1.heap.size w1 (w1.drewN nq) := below_drewN (Below.refl _ w1) nq
  replace y0 := (hbd.cell (p := ⟨Y, 0, none⟩) hyl).trans y0
  replace y1 := (hbd.cell (p := ⟨Y, 1, none⟩) hyl).trans y1
  replace y2 := (hbd.cell (p := ⟨Y, 2, none⟩) hyl).trans y2
  have HOW : Hid (OwnX ((w1.drewN nq).alloc (.cells #[.int .i64 i, .int .i64 a, .int .i64 1] 81)) (some ⟨g, o, none⟩) cap xs) := Lib.hid (OwnG.below HOWN.out (HW.out.2.2.trans ((hbd.mono HW.out.2.2.size).trans ((below_allocX _ _).mono HW.out.2.2.size))))
  have HBD := Lib.hid hbd
  clear hbd HCL
  go_wp2_with (at_builtin; refine wpList_appG rfl (.tmp 21) (.tmp 23) _ rfl elem_exts (by decide) xc_len xc_one (some ⟨g, o, none⟩) cap xs [(i, a, 1)] (by rw [HL.out]; rfl) HOW.out _ 1 1 rfl rfl 81 (0, 0) (World.alloc_heap_new _ _) (Nat.succ_pos _) ⟨by rw [HL.out]; exact HLEN.out, by simp⟩ ?_
               rw [HL.out]
               intro p' cap' w' happ)
  go_ret
  exact ⟨p', cap', by rw [HE.out, List.length_append, HL.out]; rfl, by rw [HE.out]; exact AppG.of ((Frn.of_below (HW.out.2.2.trans (HBD.out.mono HW.out.2.2.size))).trans (Frn.alloc _ _ _)) happ⟩
theorem joinedX_any (p : Option Addr) (cap : Nat) (xs : List Ext3) {Ba Bi : Nat} {i a : Int} (w : World) (hown : OwnX w p cap xs) (hi : w.cell? ⟨Bi, 0, none⟩ = some (.int .i64 i)) (ha : w.cell? ⟨Ba, 0, none⟩ = some (.int .i64 a)) (li : Bi < w.heap.size) (la : Ba < w.heap.size) (hn : xs.length < 1000000) (sm : ∀ x ∈ xs, 0 ≤ x.1 ∧ x.1 + x.2.2 ≤ 1000 ∧ 0 ≤ x.2.2 ∧ 0 ≤ x.2.1 ∧ x.2.1 + x.2.2 ≤ 10000) :
    Calls Try.prog 101 #[.slice p xs.length cap, .agg #[.int .i64 i, .int .i64 a, .int .i64 1], .func (.func 102) #[] #[.pointer (some ⟨Bi, 0, none⟩), .pointer (some ⟨Ba, 0, none⟩)]] w fun e w' => ∃ p' cap', e = .returned (.slice p' (joinX xs i a).length cap') ∧ AppG 81 3 xc p cap w (joinX xs i a) p' cap' w' := by
  by_cases h0 : xs.length = 0
  · exact joinedX_nil p cap xs w hown hi ha li la hn h0
  · obtain ⟨n, hl⟩ : ∃ n, n + 1 = xs.length := ⟨xs.length - 1, by omega⟩
    by_cases hgo : (xs[n]'(by omega)).1 + (xs[n]'(by omega)).2.2 = i ∧ (xs[n]'(by omega)).2.1 + (xs[n]'(by omega)).2.2 = a
    · exact joinedX_go p cap xs w hown hi ha li la hn n hl (sm _ (List.getElem_mem _)) hgo
    · exact joinedX_new p cap xs w hown hi ha li la hn n hl (sm _ (List.getElem_mem _)) hgo
set_option maxRecDepth 100000 in
set_option maxHeartbeats 8000000 in
theorem joinedR_nil (p : Option Addr) (cap : Nat) (xs : List RunE) {Ba : Nat} {a : Int} (w : World) (hown : OwnRn w p cap xs) (ha : w.cell? ⟨Ba, 0, none⟩ = some (.int .i64 a)) (la : Ba < w.heap.size) (hn : xs.length < 1000000) (hxs0 : xs.length = 0) :
    Calls Try.prog 99 #[.slice p xs.length cap, .agg #[.int .i64 a, .int .i64 1], .func (.func 100) #[] #[.pointer (some ⟨Ba, 0, none⟩)]] w fun e w' => ∃ p' cap', e = .returned (.slice p' (joinR xs a).length cap') ∧ AppG 131 2 rc p cap w (joinR xs a) p' cap' w' := by
  have hb0 := below_allocX w (.cells #[.int .i64 a, .int .i64 1] 131)
  obtain ⟨w1, hw1⟩ : ∃ w1, w.alloc (.cells #[.int .i64 a, .int .i64 1] 131) = w1 := ⟨_, rfl⟩
  obtain ⟨Y, hY⟩ : ∃ Y, w.heap.size = Y := ⟨_, rfl⟩
  have hyl : Y < w1.heap.size := by rw [← hw1, ← hY]; simp
  have y0 : w1.cell? ⟨Y, 0, none⟩ = some (.int .i64 a) := by rw [← hw1, ← hY, World.cell?, World.alloc_heap_new]; rfl
  have y1 : w1.cell? ⟨Y, 1, none⟩ = some (.int .i64 1) := by rw [← hw1, ← hY, World.cell?, World.alloc_heap_new]; rfl
  rw [hw1] at hb0
  have HW := Lib.hid (And.intro hw1 (And.intro hY hb0))
  have HOW : Hid (OwnRn (w1.alloc (.cells #[.int .i64 a, .int .i64 1] 131)) p cap xs) := Lib.hid (OwnG.below hown (hb0.trans ((below_allocX w1 _).mono hb0.size)))
  have HL := Lib.hid hxs0
  have HLEN := Lib.hid (show (0 : Nat) < 1000000 by decide)
  rw [hxs0]
  have HE : Hid (joinR xs a = xs ++ [(a, 1)]) := Lib.hid (by rw [List.length_eq_zero_iff.1 hxs0]; exact joinR_nil _)
  clear hown ha la hn hw1 hY hb0 hxs0
  go_enter Try.func99, Try.ntmps99
  go_upto_region 1 with fail
  rw [HW.out.1, HW.out.2.1]
  go_wp2_with (at_builtin; refine wpList_appG rfl (.tmp 21) (.tmp 23) _ rfl elem_runs (by decide) rc_len rc_one p cap xs [(a, 1)] (by rw [HL.out]; rfl) HOW.out _ 1 1 rfl rfl 131 (0, 0) (World.alloc_heap_new _ _) (Nat.succ_pos _) ⟨by rw [HL.out]; exact HLEN.out, by simp⟩ ?_
               rw [HL.out]
               intro p' cap' w' happ)
  go_ret
  exact ⟨p', cap', by rw [HE.out, List.length_append, HL.out]; rfl, by rw [HE.out]; exact AppG.of ((Frn.of_below HW.out.2.2).trans (Frn.alloc _ _ _)) happ⟩
set_option maxRecDepth 100000 in
set_option maxHeartbeats 8000000 in
theorem joinedR_go (p : Option Addr) (cap : Nat) (xs : List RunE) {Ba : Nat} {a : Int} (w : World) (hown : OwnRn w p cap xs) (ha : w.cell? ⟨Ba, 0, none⟩ = some (.int .i64 a)) (la : Ba < w.heap.size) (hn : xs.length < 1000000) (n : Nat) (hl : n + 1 = xs.length) (sm : 0 ≤ (xs[n]'(by omega)).1 ∧ (xs[n]'(by omega)).1 + (xs[n]'(by omega)).2 ≤ 10000 ∧ 0 ≤ (xs[n]'(by omega)).2) (hgo : (xs[n]'(by omega)).1 + (xs[n]'(by omega)).2 = a) :
    Calls Try.prog 99 #[.slice p xs.length cap, .agg #[.int .i64 a, .int .i64 1], .func (.func 100) #[] #[.pointer (some ⟨Ba, 0, none⟩)]] w fun e w' => ∃ p' cap', e = .returned (.slice p' (joinR xs a).length cap') ∧ AppG 131 2 rc p cap w (joinR xs a) p' cap' w' := by
  have hb0 := below_allocX w (.cells #[.int .i64 a, .int .i64 1] 131)
  obtain ⟨w1, hw1⟩ : ∃ w1, w.alloc (.cells #[.int .i64 a, .int .i64 1] 131) = w1 := ⟨_, rfl⟩
  obtain ⟨Y, hY⟩ : ∃ Y, w.heap.size = Y := ⟨_, rfl⟩
  have hyl : Y < w1.heap.size := by rw [← hw1, ← hY]; simp
  have y0 : w1.cell? ⟨Y, 0, none⟩ = some (.int .i64 a) := by rw [← hw1, ← hY, World.cell?, World.alloc_heap_new]; rfl
  have y1 : w1.cell? ⟨Y, 1, none⟩ = some (.int .i64 1) := by rw [← hw1, ← hY, World.cell?, World.alloc_heap_new]; rfl
  rw [hw1] at hb0
  obtain ⟨g, o, rfl, hin, hgl, cc0, cc1, hfz⟩ := OwnRn.row hown n (by omega)
  obtain ⟨x, hxe⟩ : ∃ x, xs[n]'(by omega) = x := ⟨_, rfl⟩
  rw [hxe] at cc0 cc1 sm hgo
  obtain ⟨d, m⟩ := x
  simp only at cc0 cc1 sm hgo
  obtain ⟨N, hN⟩ : ∃ N, xs.length = N := ⟨_, rfl⟩
  have hNn : (N : Int) - 1 = (n : Int) := by omega
  have hw9 : IntKind.i64.wrap (n : Int) = (n : Int) := by rw [IntKind.wrap_i64]; omega
  have hnN : (n : Int) < (N : Int) := by omega
  have hN0 : ¬ N = 0 := by omega
  have hn0 : (0 : Int) ≤ (n : Int) := by omega
  have d0 : decide ((0 : Int) < (N : Int)) = true := decide_eq_true (by omega)
  have cc01 := (hb0.cell (p := ⟨g, o + n * 2, none⟩) hgl).trans cc0
  have cc11 := (hb0.cell (p := ⟨g, o + n * 2 + 1, none⟩) hgl).trans cc1
  have ha1 := (hb0.cell (p := ⟨Ba, 0, none⟩) la).trans ha
  have hfz1 : w1.frozen? ⟨g, o + n * 2 + 1, none⟩ = false := by unfold World.frozen? at hfz ⊢; rw [hb0.block g hgl]; exact hfz
  have HCL : Hid (Calls Try.prog 100 #[.pointer (some ⟨g, o + n * 2, none⟩), .pointer (some ⟨Ba, 0, none⟩)] w1 fun e w' => e = .returned (.bool true) ∧ ∃ nq, w' = (w1.drewN nq).setCell ⟨g, o + n * 2 + 1, none⟩ (.int .i64 (m + 1))) := Lib.hid (putC_go w1 cc01 cc11 ha1 hfz1 (by omega) hgo)
  have HE : Hid (joinR xs a = xs.set n (d, m + 1)) := Lib.hid (joinR_go hl hxe hgo)
  have HF : Hid (∀ nq, AppG 131 2 rc (some ⟨g, o, none⟩) cap w (xs.set n (d, m + 1)) (some ⟨g, o, none⟩) cap ((w1.drewN nq).setCell ⟨g, o + n * 2 + 1, none⟩ (.int .i64 (m + 1)))) := Lib.hid (fun nq => ⟨by have h9 := OwnRn.many (OwnG.below hown (hb0.trans (below_drewN (Below.refl _ w1) nq |>.mono hb0.size))) n (by omega) (m + 1); rw [hxe] at h9; exact h9, ((Frn.of_below hb0).drewN nq).setCell _ (.inl hin) _, fun b hb => .inl hb⟩)
  have HW := Lib.hid (And.intro hw1 (And.intro hY hb0))
  have HL := Lib.hid hN
  rw [hN]
  have HEN := enters_of (P := Try.prog) Try.func100 (by kernel_rfl) rfl
  clear hown hn hw1 hY hb0 hl hxe sm hgo hN la ha cc0 cc1 cc01 cc11 ha1 hgl hfz hfz1
  go_enter Try.func99, Try.ntmps99
  go_upto_region 1 with fail
  rw [HW.out.1, HW.out.2.1]
  go_wp2_with fail
  refine HCL.out.mono ?_
  rintro e w2 ⟨rfl, nq, rfl⟩
  go_wp2_with fail
  go_ret
  exact ⟨some ⟨g, o, none⟩, cap, by rw [HE.out, List.length_set, HL.out]; rfl, by rw [HE.out]; exact HF.out nq⟩
set_option maxRecDepth 100000 in
set_option maxHeartbeats 8000000 in
theorem joinedR_new (p : Option Addr) (cap : Nat) (xs : List RunE) {Ba : Nat} {a : Int} (w : World) (hown : OwnRn w p cap xs) (ha : w.cell? ⟨Ba, 0, none⟩ = some (.int .i64 a)) (la : Ba < w.heap.size) (hn : xs.length < 1000000) (n : Nat) (hl : n + 1 = xs.length) (sm : 0 ≤ (xs[n]'(by omega)).1 ∧ (xs[n]'(by omega)).1 + (xs[n]'(by omega)).2 ≤ 10000 ∧ 0 ≤ (xs[n]'(by omega)).2) (hgo : ¬ ((xs[n]'(by omega)).1 + (xs[n]'(by omega)).2 = a)) :
    Calls Try.prog 99 #[.slice p xs.length cap, .agg #[.int .i64 a, .int .i64 1], .func (.func 100) #[] #[.pointer (some ⟨Ba, 0, none⟩)]] w fun e w' => ∃ p' cap', e = .returned (.slice p' (joinR xs a).length cap') ∧ AppG 131 2 rc p cap w (joinR xs a) p' cap' w' := by
  have hb0 := below_allocX w (.cells #[.int .i64 a, .int .i64 1] 131)
  obtain ⟨w1, hw1⟩ : ∃ w1, w.alloc (.cells #[.int .i64 a, .int .i64 1] 131) = w1 := ⟨_, rfl⟩
  obtain ⟨Y, hY⟩ : ∃ Y, w.heap.size = Y := ⟨_, rfl⟩
  have hyl : Y < w1.heap.size := by rw [← hw1, ← hY]; simp
  have y0 : w1.cell? ⟨Y, 0, none⟩ = some (.int .i64 a) := by rw [← hw1, ← hY, World.cell?, World.alloc_heap_new]; rfl
  have y1 : w1.cell? ⟨Y, 1, none⟩ = some (.int .i64 1) := by rw [← hw1, ← hY, World.cell?, World.alloc_heap_new]; rfl
  rw [hw1] at hb0
  obtain ⟨g, o, rfl, hin, hgl, cc0, cc1, hfz⟩ := OwnRn.row hown n (by omega)
  obtain ⟨x, hxe⟩ : ∃ x, xs[n]'(by omega) = x := ⟨_, rfl⟩
  rw [hxe] at cc0 cc1 sm hgo
  obtain ⟨d, m⟩ := x
  simp only at cc0 cc1 sm hgo
  obtain ⟨N, hN⟩ : ∃ N, xs.length = N := ⟨_, rfl⟩
  have hNn : (N : Int) - 1 = (n : Int) := by omega
  have hw9 : IntKind.i64.wrap (n : Int) = (n : Int) := by rw [IntKind.wrap_i64]; omega
  have hnN : (n : Int) < (N : Int) := by omega
  have hN0 : ¬ N = 0 := by omega
  have hn0 : (0 : Int) ≤ (n : Int) := by omega
  have d0 : decide ((0 : Int) < (N : Int)) = true := decide_eq_true (by omega)
  have cc01 := (hb0.cell (p := ⟨g, o + n * 2, none⟩) hgl).trans cc0
  have cc11 := (hb0.cell (p := ⟨g, o + n * 2 + 1, none⟩) hgl).trans cc1
  have ha1 := (hb0.cell (p := ⟨Ba, 0, none⟩) la).trans ha
  have hfz1 : w1.frozen? ⟨g, o + n * 2 + 1, none⟩ = false := by unfold World.frozen? at hfz ⊢; rw [hb0.block g hgl]; exact hfz
  have HCL : Hid (Calls Try.prog 100 #[.pointer (some ⟨g, o + n * 2, none⟩), .pointer (some ⟨Ba, 0, none⟩)] w1 fun e w' => e = .returned (.bool false) ∧ ∃ nq, w' = w1.drewN nq) := Lib.hid (putC_no w1 cc01 cc11 ha1 (by omega) hgo)
  have HE : Hid (joinR xs a = xs ++ [(a, 1)]) := Lib.hid (joinR_new hl hxe hgo)
  have HOWN := Lib.hid hown
  have HLEN : Hid (N < 1000000) := Lib.hid (by omega)
  have HW := Lib.hid (And.intro hw1 (And.intro hY hb0))
  have HL := Lib.hid hN
  rw [hN]
  have HEN := enters_of (P := Try.prog) Try.func100 (by kernel_rfl) rfl
  clear hown hn hw1 hY hb0 hl hxe sm hgo hN la ha cc0 cc1 cc01 cc11 ha1 hgl hfz hfz1
  go_enter Try.func99, Try.ntmps99
  go_upto_region 1 with fail
  rw [HW.out.1, HW.out.2.1]
  go_wp2_with fail
  refine HCL.out.mono ?_
  rintro e w2 ⟨rfl, nq, rfl⟩
  have hbd : Below w1.heap.size w1 (w1.drewN nq) := below_drewN (Below.refl _ w1) nq
  replace y0 := (hbd.cell (p := ⟨Y, 0, none⟩) hyl).trans y0
  replace y1 := (hbd.cell (p := ⟨Y, 1, none⟩) hyl).trans y1
  have HOW : Hid (OwnRn ((w1.drewN nq).alloc (.cells #[.int .i64 a, .int .i64 1] 131)) (some ⟨g, o, none⟩) cap xs) := Lib.hid (OwnG.below HOWN.out (HW.out.2.2.trans ((hbd.mono HW.out.2.2.size).trans ((below_allocX _ _).mono HW.out.2.2.size))))
  have HBD := Lib.hid hbd
  clear hbd HCL
  go_wp2_with (at_builtin; refine wpList_appG rfl (.tmp 21) (.tmp 23) _ rfl elem_runs (by decide) rc_len rc_one (some ⟨g, o, none⟩) cap xs [(a, 1)] (by rw [HL.out]; rfl) HOW.out _ 1 1 rfl rfl 131 (0, 0) (World.alloc_heap_new _ _) (Nat.succ_pos _) ⟨by rw [HL.out]; exact HLEN.out, by simp⟩ ?_
               rw [HL.out]
               intro p' cap' w' happ)
  go_ret
  exact ⟨p', cap', by rw [HE.out, List.length_append, HL.out]; rfl, by rw [HE.out]; exact AppG.of ((Frn.of_below (HW.out.2.2.trans (HBD.out.mono HW.out.2.2.size))).trans (Frn.alloc _ _ _)) happ⟩
theorem joinedR_any (p : Option Addr) (cap : Nat) (xs : List RunE) {Ba : Nat} {a : Int} (w : World) (hown : OwnRn w p cap xs) (ha : w.cell? ⟨Ba, 0, none⟩ = some (.int .i64 a)) (la : Ba < w.heap.size) (hn : xs.length < 1000000) (sm : ∀ x ∈ xs, 0 ≤ x.1 ∧ x.1 + x.2 ≤ 10000 ∧ 0 ≤ x.2) :
    Calls Try.prog 99 #[.slice p xs.length cap, .agg #[.int .i64 a, .int .i64 1], .func (.func 100) #[] #[.pointer (some ⟨Ba, 0, none⟩)]] w fun e w' => ∃ p' cap', e = .returned (.slice p' (joinR xs a).length cap') ∧ AppG 131 2 rc p cap w (joinR xs a) p' cap' w' := by
  by_cases h0 : xs.length = 0
  · exact joinedR_nil p cap xs w hown ha la hn h0
  · obtain ⟨n, hl⟩ : ∃ n, n + 1 = xs.length := ⟨xs.length - 1, by omega⟩
    by_cases hgo : (xs[n]'(by omega)).1 + (xs[n]'(by omega)).2 = a
    · exact joinedR_go p cap xs w hown ha la hn n hl (sm _ (List.getElem_mem _)) hgo
    · exact joinedR_new p cap xs w hown ha la hn n hl (sm _ (List.getElem_mem _)) hgo
end Go.Proofs.Ytenmogokbelahaa
