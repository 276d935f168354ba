/- The walks of (layout.part).at, number. -/
import Derived.Test.YtljegehfdmgcbaaLayoutE
import Derived.Deep.RegionHeld3
namespace Go.Proofs.Ytljegehfdmgcbaa
open Go Go.RowKit

set_option maxRecDepth 100000 in
set_option maxHeartbeats 2000000 in
theorem at_0 (l : Lay) (n : Int) (hn : 0 ≤ n ∧ n ≤ 2048) (w : World) :
    Calls Try.prog 35 #[.agg #[.int .i64 1, .func (.func 44) #[] #[], .func (.func 45) #[] #[], .int .i64 64, .int .i64 0], lv l, .int .i64 n] w fun e w' => e = .returned (.int .i64 (n * 64)) ∧ Below w.heap.size w w' := by
  obtain ⟨wp, hwp⟩ : ∃ wp, w.alloc (.cells #[.int .i64 1, .func (.func 44) #[] #[], .func (.func 45) #[] #[], .int .i64 64, .int .i64 0] 78) = wp := ⟨_, rfl⟩
  have hb1 : Below w.heap.size w wp := by rw [← hwp]; exact (Below.refl _ _).alloc (Nat.le_refl _) _
  have hp1 : wp.heap[w.heap.size]? = some (.cells #[.int .i64 1, .func (.func 44) #[] #[], .func (.func 45) #[] #[], .int .i64 64, .int .i64 0] 78 (0, 0)) := by rw [← hwp]; exact World.alloc_heap_new w _
  have hz1 : wp.heap.size = w.heap.size + 1 := by rw [← hwp]; simp
  obtain ⟨wa, hwa, HBA, HZA, HF⟩ := und_box wp l
  have hp2 := (HBA.out.block w.heap.size (by omega)).trans hp1
  have hba := hb1.trans (HBA.out.mono (by omega))
  have hn1 : 0 ≤ n := hn.1
  have hn2 : n ≤ 2048 := hn.2
  have hcell : ∀ W, Below wa.heap.size wa W → (∀ j, W.cell? ⟨w.heap.size, j, none⟩ = #[Value.int .i64 1, .func (.func 44) #[] #[], .func (.func 45) #[] #[], .int .i64 64, .int .i64 0][j]?) ∧ (∀ j, W.cell? ⟨wp.heap.size, j, none⟩ = #[Value.int .i64 l.B, .int .i64 l.I, .int .i64 l.R, .int .i64 l.T, vw l.k0, vw l.k1, .int .i64 l.i, .int .i64 l.r, .int .i64 l.m, .int .i64 l.d][j]?) := fun W hW => by
    have h1 := (hW.block w.heap.size (by have := HZA.out; omega)).trans hp2
    have h2 := (hW.block wp.heap.size (by have := HZA.out; omega)).trans HF.out
    exact ⟨fun j => by simp [World.cell?, h1], fun j => by simp [World.cell?, h2]⟩
  have HC := Lib.hid hcell
  have HBB := Lib.hid hba
  have hF := p_parts_1 l
  have HFF := Lib.hid hF
  have hw1 : IntKind.i64.wrap (n * 64) = n * 64 := by rw [IntKind.wrap_i64]; omega
  have hw2 : IntKind.i64.wrap (IntKind.i64.wrap (0) + n * 64) = n * 64 := by rw [IntKind.wrap_i64, IntKind.wrap_i64]; omega
  have HW2 := Lib.hid hw2
  clear hw2
  have hd := hcell wa.drew ((Below.refl _ wa).drew)
  have d1 : wa.drew.cell? ⟨w.heap.size, 1, none⟩ = some (.func (.func 44) #[] #[]) := hd.1 1
  have d3 : wa.drew.cell? ⟨w.heap.size, 3, none⟩ = some (.int .i64 64) := hd.1 3
  have e0 : wa.drew.cell? ⟨wp.heap.size, 0, none⟩ = some (.int .i64 l.B) := hd.2 0
  have e1 : wa.drew.cell? ⟨wp.heap.size, 1, none⟩ = some (.int .i64 l.I) := hd.2 1
  have e2 : wa.drew.cell? ⟨wp.heap.size, 2, none⟩ = some (.int .i64 l.R) := hd.2 2
  have e3 : wa.drew.cell? ⟨wp.heap.size, 3, none⟩ = some (.int .i64 l.T) := hd.2 3
  have e4 : wa.drew.cell? ⟨wp.heap.size, 4, none⟩ = some (vw l.k0) := hd.2 4
  have e5 : wa.drew.cell? ⟨wp.heap.size, 5, none⟩ = some (vw l.k1) := hd.2 5
  have e6 : wa.drew.cell? ⟨wp.heap.size, 6, none⟩ = some (.int .i64 l.i) := hd.2 6
  have e7 : wa.drew.cell? ⟨wp.heap.size, 7, none⟩ = some (.int .i64 l.r) := hd.2 7
  have e8 : wa.drew.cell? ⟨wp.heap.size, 8, none⟩ = some (.int .i64 l.m) := hd.2 8
  have e9 : wa.drew.cell? ⟨wp.heap.size, 9, none⟩ = some (.int .i64 l.d) := hd.2 9
  clear hb1 hp1 hz1 hp2 hba hcell hd hF hn
  unfold lv at HFF ⊢
  go_enter Try.func35, Try.ntmps35
  go_wp2_with fail
  go_region_held3 (fun w' => w'.cell? ⟨w.heap.size, 1, none⟩ = some (.func (.func 44) #[] #[]) ∧ w'.cell? ⟨w.heap.size, 3, none⟩ = some (.int .i64 64) ∧ w'.cell? ⟨wp.heap.size, 0, none⟩ = some (.int .i64 l.B) ∧ w'.cell? ⟨wp.heap.size, 1, none⟩ = some (.int .i64 l.I) ∧ w'.cell? ⟨wp.heap.size, 2, none⟩ = some (.int .i64 l.R) ∧ w'.cell? ⟨wp.heap.size, 3, none⟩ = some (.int .i64 l.T) ∧ w'.cell? ⟨wp.heap.size, 4, none⟩ = some (vw l.k0) ∧ w'.cell? ⟨wp.heap.size, 5, none⟩ = some (vw l.k1) ∧ w'.cell? ⟨wp.heap.size, 6, none⟩ = some (.int .i64 l.i) ∧ w'.cell? ⟨wp.heap.size, 7, none⟩ = some (.int .i64 l.r) ∧ w'.cell? ⟨wp.heap.size, 8, none⟩ = some (.int .i64 l.m) ∧ w'.cell? ⟨wp.heap.size, 9, none⟩ = some (.int .i64 l.d))
    (first | exact ⟨d1, d3, e0, e1, e2, e3, e4, e5, e6, e7, e8, e9⟩ | exact ⟨z1, z3, y0, y1, y2, y3, y4, y5, y6, y7, y8, y9⟩)
    (first
    | (refine (HFF.out _).mono ?_
       rintro e w1 ⟨rfl, hb⟩
       have hd := HC.out w1 ((Below.refl _ wa).drew.trans hb)
       have z1 := hd.1 1
       have z3 := hd.1 3
       have y0 := hd.2 0
       have y1 := hd.2 1
       have y2 := hd.2 2
       have y3 := hd.2 3
       have y4 := hd.2 4
       have y5 := hd.2 5
       have y6 := hd.2 6
       have y7 := hd.2 7
       have y8 := hd.2 8
       have y9 := hd.2 9
       have HB1 := Lib.hid hb
       clear hd hb))
  go_wp2_with fail
  go_ret
  refine ⟨?_, HBB.out.trans ((Below.refl _ wa).drew.trans HB1.out |>.mono HBB.out.size)⟩
  show Ending.returned (.int .i64 (IntKind.i64.wrap (IntKind.i64.wrap (0) + n * 64))) = _
  rw [HW2.out]

set_option maxRecDepth 100000 in
set_option maxHeartbeats 2000000 in
theorem at_1 (l : Lay) (n : Int) (hn : 0 ≤ n ∧ n ≤ 2048) (w : World) :
    Calls Try.prog 35 #[.agg #[.int .i64 2, .func (.func 46) #[] #[], .func (.func 47) #[] #[], .int .i64 64, .int .i64 0], lv l, .int .i64 n] w fun e w' => e = .returned (.int .i64 (64 + n * 64)) ∧ Below w.heap.size w w' := by
  obtain ⟨wp, hwp⟩ : ∃ wp, w.alloc (.cells #[.int .i64 2, .func (.func 46) #[] #[], .func (.func 47) #[] #[], .int .i64 64, .int .i64 0] 78) = wp := ⟨_, rfl⟩
  have hb1 : Below w.heap.size w wp := by rw [← hwp]; exact (Below.refl _ _).alloc (Nat.le_refl _) _
  have hp1 : wp.heap[w.heap.size]? = some (.cells #[.int .i64 2, .func (.func 46) #[] #[], .func (.func 47) #[] #[], .int .i64 64, .int .i64 0] 78 (0, 0)) := by rw [← hwp]; exact World.alloc_heap_new w _
  have hz1 : wp.heap.size = w.heap.size + 1 := by rw [← hwp]; simp
  obtain ⟨wa, hwa, HBA, HZA, HF⟩ := und_box wp l
  have hp2 := (HBA.out.block w.heap.size (by omega)).trans hp1
  have hba := hb1.trans (HBA.out.mono (by omega))
  have hn1 : 0 ≤ n := hn.1
  have hn2 : n ≤ 2048 := hn.2
  have hcell : ∀ W, Below wa.heap.size wa W → (∀ j, W.cell? ⟨w.heap.size, j, none⟩ = #[Value.int .i64 2, .func (.func 46) #[] #[], .func (.func 47) #[] #[], .int .i64 64, .int .i64 0][j]?) ∧ (∀ j, W.cell? ⟨wp.heap.size, j, none⟩ = #[Value.int .i64 l.B, .int .i64 l.I, .int .i64 l.R, .int .i64 l.T, vw l.k0, vw l.k1, .int .i64 l.i, .int .i64 l.r, .int .i64 l.m, .int .i64 l.d][j]?) := fun W hW => by
    have h1 := (hW.block w.heap.size (by have := HZA.out; omega)).trans hp2
    have h2 := (hW.block wp.heap.size (by have := HZA.out; omega)).trans HF.out
    exact ⟨fun j => by simp [World.cell?, h1], fun j => by simp [World.cell?, h2]⟩
  have HC := Lib.hid hcell
  have HBB := Lib.hid hba
  have hF := p_parts_2 l
  have HFF := Lib.hid hF
  have hw1 : IntKind.i64.wrap (n * 64) = n * 64 := by rw [IntKind.wrap_i64]; omega
  have hw2 : IntKind.i64.wrap (IntKind.i64.wrap (64) + n * 64) = 64 + n * 64 := by rw [IntKind.wrap_i64, IntKind.wrap_i64]; omega
  have HW2 := Lib.hid hw2
  clear hw2
  have hd := hcell wa.drew ((Below.refl _ wa).drew)
  have d1 : wa.drew.cell? ⟨w.heap.size, 1, none⟩ = some (.func (.func 46) #[] #[]) := hd.1 1
  have d3 : wa.drew.cell? ⟨w.heap.size, 3, none⟩ = some (.int .i64 64) := hd.1 3
  have e0 : wa.drew.cell? ⟨wp.heap.size, 0, none⟩ = some (.int .i64 l.B) := hd.2 0
  have e1 : wa.drew.cell? ⟨wp.heap.size, 1, none⟩ = some (.int .i64 l.I) := hd.2 1
  have e2 : wa.drew.cell? ⟨wp.heap.size, 2, none⟩ = some (.int .i64 l.R) := hd.2 2
  have e3 : wa.drew.cell? ⟨wp.heap.size, 3, none⟩ = some (.int .i64 l.T) := hd.2 3
  have e4 : wa.drew.cell? ⟨wp.heap.size, 4, none⟩ = some (vw l.k0) := hd.2 4
  have e5 : wa.drew.cell? ⟨wp.heap.size, 5, none⟩ = some (vw l.k1) := hd.2 5
  have e6 : wa.drew.cell? ⟨wp.heap.size, 6, none⟩ = some (.int .i64 l.i) := hd.2 6
  have e7 : wa.drew.cell? ⟨wp.heap.size, 7, none⟩ = some (.int .i64 l.r) := hd.2 7
  have e8 : wa.drew.cell? ⟨wp.heap.size, 8, none⟩ = some (.int .i64 l.m) := hd.2 8
  have e9 : wa.drew.cell? ⟨wp.heap.size, 9, none⟩ = some (.int .i64 l.d) := hd.2 9
  clear hb1 hp1 hz1 hp2 hba hcell hd hF hn
  unfold lv at HFF ⊢
  go_enter Try.func35, Try.ntmps35
  go_wp2_with fail
  go_region_held3 (fun w' => w'.cell? ⟨w.heap.size, 1, none⟩ = some (.func (.func 46) #[] #[]) ∧ w'.cell? ⟨w.heap.size, 3, none⟩ = some (.int .i64 64) ∧ w'.cell? ⟨wp.heap.size, 0, none⟩ = some (.int .i64 l.B) ∧ w'.cell? ⟨wp.heap.size, 1, none⟩ = some (.int .i64 l.I) ∧ w'.cell? ⟨wp.heap.size, 2, none⟩ = some (.int .i64 l.R) ∧ w'.cell? ⟨wp.heap.size, 3, none⟩ = some (.int .i64 l.T) ∧ w'.cell? ⟨wp.heap.size, 4, none⟩ = some (vw l.k0) ∧ w'.cell? ⟨wp.heap.size, 5, none⟩ = some (vw l.k1) ∧ w'.cell? ⟨wp.heap.size, 6, none⟩ = some (.int .i64 l.i) ∧ w'.cell? ⟨wp.heap.size, 7, none⟩ = some (.int .i64 l.r) ∧ w'.cell? ⟨wp.heap.size, 8, none⟩ = some (.int .i64 l.m) ∧ w'.cell? ⟨wp.heap.size, 9, none⟩ = some (.int .i64 l.d))
    (first | exact ⟨d1, d3, e0, e1, e2, e3, e4, e5, e6, e7, e8, e9⟩ | exact ⟨z1, z3, y0, y1, y2, y3, y4, y5, y6, y7, y8, y9⟩)
    (first
    | (refine (HFF.out _).mono ?_
       rintro e w1 ⟨rfl, hb⟩
       have hd := HC.out w1 ((Below.refl _ wa).drew.trans hb)
       have z1 := hd.1 1
       have z3 := hd.1 3
       have y0 := hd.2 0
       have y1 := hd.2 1
       have y2 := hd.2 2
       have y3 := hd.2 3
       have y4 := hd.2 4
       have y5 := hd.2 5
       have y6 := hd.2 6
       have y7 := hd.2 7
       have y8 := hd.2 8
       have y9 := hd.2 9
       have HB1 := Lib.hid hb
       clear hd hb))
  go_wp2_with fail
  go_ret
  refine ⟨?_, HBB.out.trans ((Below.refl _ wa).drew.trans HB1.out |>.mono HBB.out.size)⟩
  show Ending.returned (.int .i64 (IntKind.i64.wrap (IntKind.i64.wrap (64) + n * 64))) = _
  rw [HW2.out]

set_option maxRecDepth 100000 in
set_option maxHeartbeats 2000000 in
theorem at_2 (l : Lay) (n : Int) (ha : 0 ≤ l.i ∧ l.i ≤ 2048) (hn : 0 ≤ n ∧ n ≤ 2048) (w : World) :
    Calls Try.prog 35 #[.agg #[.int .i64 3, .func (.func 48) #[] #[], .func (.func 49) #[] #[], .int .i64 16, .int .i64 1], lv l, .int .i64 n] w fun e w' => e = .returned (.int .i64 (l.i * 64 + n * 16)) ∧ Below w.heap.size w w' := by
  obtain ⟨wp, hwp⟩ : ∃ wp, w.alloc (.cells #[.int .i64 3, .func (.func 48) #[] #[], .func (.func 49) #[] #[], .int .i64 16, .int .i64 1] 78) = wp := ⟨_, rfl⟩
  have hb1 : Below w.heap.size w wp := by rw [← hwp]; exact (Below.refl _ _).alloc (Nat.le_refl _) _
  have hp1 : wp.heap[w.heap.size]? = some (.cells #[.int .i64 3, .func (.func 48) #[] #[], .func (.func 49) #[] #[], .int .i64 16, .int .i64 1] 78 (0, 0)) := by rw [← hwp]; exact World.alloc_heap_new w _
  have hz1 : wp.heap.size = w.heap.size + 1 := by rw [← hwp]; simp
  obtain ⟨wa, hwa, HBA, HZA, HF⟩ := und_box wp l
  have hp2 := (HBA.out.block w.heap.size (by omega)).trans hp1
  have hba := hb1.trans (HBA.out.mono (by omega))
  have hn1 : 0 ≤ n := hn.1
  have hn2 : n ≤ 2048 := hn.2
  have ha1 : 0 ≤ l.i := ha.1
  have ha2 : l.i ≤ 2048 := ha.2
  have hcell : ∀ W, Below wa.heap.size wa W → (∀ j, W.cell? ⟨w.heap.size, j, none⟩ = #[Value.int .i64 3, .func (.func 48) #[] #[], .func (.func 49) #[] #[], .int .i64 16, .int .i64 1][j]?) ∧ (∀ j, W.cell? ⟨wp.heap.size, j, none⟩ = #[Value.int .i64 l.B, .int .i64 l.I, .int .i64 l.R, .int .i64 l.T, vw l.k0, vw l.k1, .int .i64 l.i, .int .i64 l.r, .int .i64 l.m, .int .i64 l.d][j]?) := fun W hW => by
    have h1 := (hW.block w.heap.size (by have := HZA.out; omega)).trans hp2
    have h2 := (hW.block wp.heap.size (by have := HZA.out; omega)).trans HF.out
    exact ⟨fun j => by simp [World.cell?, h1], fun j => by simp [World.cell?, h2]⟩
  have HC := Lib.hid hcell
  have HBB := Lib.hid hba
  have hF := p_parts_4 l
  have HFF := Lib.hid hF
  have hw1 : IntKind.i64.wrap (n * 16) = n * 16 := by rw [IntKind.wrap_i64]; omega
  have hw2 : IntKind.i64.wrap (IntKind.i64.wrap (l.i * 64) + n * 16) = l.i * 64 + n * 16 := by rw [IntKind.wrap_i64, IntKind.wrap_i64]; omega
  have HW2 := Lib.hid hw2
  clear hw2
  have hd := hcell wa.drew ((Below.refl _ wa).drew)
  have d1 : wa.drew.cell? ⟨w.heap.size, 1, none⟩ = some (.func (.func 48) #[] #[]) := hd.1 1
  have d3 : wa.drew.cell? ⟨w.heap.size, 3, none⟩ = some (.int .i64 16) := hd.1 3
  have e0 : wa.drew.cell? ⟨wp.heap.size, 0, none⟩ = some (.int .i64 l.B) := hd.2 0
  have e1 : wa.drew.cell? ⟨wp.heap.size, 1, none⟩ = some (.int .i64 l.I) := hd.2 1
  have e2 : wa.drew.cell? ⟨wp.heap.size, 2, none⟩ = some (.int .i64 l.R) := hd.2 2
  have e3 : wa.drew.cell? ⟨wp.heap.size, 3, none⟩ = some (.int .i64 l.T) := hd.2 3
  have e4 : wa.drew.cell? ⟨wp.heap.size, 4, none⟩ = some (vw l.k0) := hd.2 4
  have e5 : wa.drew.cell? ⟨wp.heap.size, 5, none⟩ = some (vw l.k1) := hd.2 5
  have e6 : wa.drew.cell? ⟨wp.heap.size, 6, none⟩ = some (.int .i64 l.i) := hd.2 6
  have e7 : wa.drew.cell? ⟨wp.heap.size, 7, none⟩ = some (.int .i64 l.r) := hd.2 7
  have e8 : wa.drew.cell? ⟨wp.heap.size, 8, none⟩ = some (.int .i64 l.m) := hd.2 8
  have e9 : wa.drew.cell? ⟨wp.heap.size, 9, none⟩ = some (.int .i64 l.d) := hd.2 9
  clear hb1 hp1 hz1 hp2 hba hcell hd hF ha hn
  unfold lv at HFF ⊢
  go_enter Try.func35, Try.ntmps35
  go_wp2_with fail
  go_region_held3 (fun w' => w'.cell? ⟨w.heap.size, 1, none⟩ = some (.func (.func 48) #[] #[]) ∧ w'.cell? ⟨w.heap.size, 3, none⟩ = some (.int .i64 16) ∧ w'.cell? ⟨wp.heap.size, 0, none⟩ = some (.int .i64 l.B) ∧ w'.cell? ⟨wp.heap.size, 1, none⟩ = some (.int .i64 l.I) ∧ w'.cell? ⟨wp.heap.size, 2, none⟩ = some (.int .i64 l.R) ∧ w'.cell? ⟨wp.heap.size, 3, none⟩ = some (.int .i64 l.T) ∧ w'.cell? ⟨wp.heap.size, 4, none⟩ = some (vw l.k0) ∧ w'.cell? ⟨wp.heap.size, 5, none⟩ = some (vw l.k1) ∧ w'.cell? ⟨wp.heap.size, 6, none⟩ = some (.int .i64 l.i) ∧ w'.cell? ⟨wp.heap.size, 7, none⟩ = some (.int .i64 l.r) ∧ w'.cell? ⟨wp.heap.size, 8, none⟩ = some (.int .i64 l.m) ∧ w'.cell? ⟨wp.heap.size, 9, none⟩ = some (.int .i64 l.d))
    (first | exact ⟨d1, d3, e0, e1, e2, e3, e4, e5, e6, e7, e8, e9⟩ | exact ⟨z1, z3, y0, y1, y2, y3, y4, y5, y6, y7, y8, y9⟩)
    (first
    | (refine (HFF.out _).mono ?_
       rintro e w1 ⟨rfl, hb⟩
       have hd := HC.out w1 ((Below.refl _ wa).drew.trans hb)
       have z1 := hd.1 1
       have z3 := hd.1 3
       have y0 := hd.2 0
       have y1 := hd.2 1
       have y2 := hd.2 2
       have y3 := hd.2 3
       have y4 := hd.2 4
       have y5 := hd.2 5
       have y6 := hd.2 6
       have y7 := hd.2 7
       have y8 := hd.2 8
       have y9 := hd.2 9
       have HB1 := Lib.hid hb
       clear hd hb))
  go_wp2_with fail
  go_ret
  refine ⟨?_, HBB.out.trans ((Below.refl _ wa).drew.trans HB1.out |>.mono HBB.out.size)⟩
  show Ending.returned (.int .i64 (IntKind.i64.wrap (IntKind.i64.wrap (l.i * 64) + n * 16))) = _
  rw [HW2.out]

set_option maxRecDepth 100000 in
set_option maxHeartbeats 2000000 in
theorem at_3 (l : Lay) (n : Int) (ha : 0 ≤ l.r ∧ l.r ≤ 2048) (hn : 0 ≤ n ∧ n ≤ 2048) (w : World) :
    Calls Try.prog 35 #[.agg #[.int .i64 4, .func (.func 50) #[] #[], .func (.func 51) #[] #[], .int .i64 16, .int .i64 1], lv l, .int .i64 n] w fun e w' => e = .returned (.int .i64 (l.r * 64 + n * 16)) ∧ Below w.heap.size w w' := by
  obtain ⟨wp, hwp⟩ : ∃ wp, w.alloc (.cells #[.int .i64 4, .func (.func 50) #[] #[], .func (.func 51) #[] #[], .int .i64 16, .int .i64 1] 78) = wp := ⟨_, rfl⟩
  have hb1 : Below w.heap.size w wp := by rw [← hwp]; exact (Below.refl _ _).alloc (Nat.le_refl _) _
  have hp1 : wp.heap[w.heap.size]? = some (.cells #[.int .i64 4, .func (.func 50) #[] #[], .func (.func 51) #[] #[], .int .i64 16, .int .i64 1] 78 (0, 0)) := by rw [← hwp]; exact World.alloc_heap_new w _
  have hz1 : wp.heap.size = w.heap.size + 1 := by rw [← hwp]; simp
  obtain ⟨wa, hwa, HBA, HZA, HF⟩ := und_box wp l
  have hp2 := (HBA.out.block w.heap.size (by omega)).trans hp1
  have hba := hb1.trans (HBA.out.mono (by omega))
  have hn1 : 0 ≤ n := hn.1
  have hn2 : n ≤ 2048 := hn.2
  have ha1 : 0 ≤ l.r := ha.1
  have ha2 : l.r ≤ 2048 := ha.2
  have hcell : ∀ W, Below wa.heap.size wa W → (∀ j, W.cell? ⟨w.heap.size, j, none⟩ = #[Value.int .i64 4, .func (.func 50) #[] #[], .func (.func 51) #[] #[], .int .i64 16, .int .i64 1][j]?) ∧ (∀ j, W.cell? ⟨wp.heap.size, j, none⟩ = #[Value.int .i64 l.B, .int .i64 l.I, .int .i64 l.R, .int .i64 l.T, vw l.k0, vw l.k1, .int .i64 l.i, .int .i64 l.r, .int .i64 l.m, .int .i64 l.d][j]?) := fun W hW => by
    have h1 := (hW.block w.heap.size (by have := HZA.out; omega)).trans hp2
    have h2 := (hW.block wp.heap.size (by have := HZA.out; omega)).trans HF.out
    exact ⟨fun j => by simp [World.cell?, h1], fun j => by simp [World.cell?, h2]⟩
  have HC := Lib.hid hcell
  have HBB := Lib.hid hba
  have hF := p_parts_6 l
  have HFF := Lib.hid hF
  have hw1 : IntKind.i64.wrap (n * 16) = n * 16 := by rw [IntKind.wrap_i64]; omega
  have hw2 : IntKind.i64.wrap (IntKind.i64.wrap (l.r * 64) + n * 16) = l.r * 64 + n * 16 := by rw [IntKind.wrap_i64, IntKind.wrap_i64]; omega
  have HW2 := Lib.hid hw2
  clear hw2
  have hd := hcell wa.drew ((Below.refl _ wa).drew)
  have d1 : wa.drew.cell? ⟨w.heap.size, 1, none⟩ = some (.func (.func 50) #[] #[]) := hd.1 1
  have d3 : wa.drew.cell? ⟨w.heap.size, 3, none⟩ = some (.int .i64 16) := hd.1 3
  have e0 : wa.drew.cell? ⟨wp.heap.size, 0, none⟩ = some (.int .i64 l.B) := hd.2 0
  have e1 : wa.drew.cell? ⟨wp.heap.size, 1, none⟩ = some (.int .i64 l.I) := hd.2 1
  have e2 : wa.drew.cell? ⟨wp.heap.size, 2, none⟩ = some (.int .i64 l.R) := hd.2 2
  have e3 : wa.drew.cell? ⟨wp.heap.size, 3, none⟩ = some (.int .i64 l.T) := hd.2 3
  have e4 : wa.drew.cell? ⟨wp.heap.size, 4, none⟩ = some (vw l.k0) := hd.2 4
  have e5 : wa.drew.cell? ⟨wp.heap.size, 5, none⟩ = some (vw l.k1) := hd.2 5
  have e6 : wa.drew.cell? ⟨wp.heap.size, 6, none⟩ = some (.int .i64 l.i) := hd.2 6
  have e7 : wa.drew.cell? ⟨wp.heap.size, 7, none⟩ = some (.int .i64 l.r) := hd.2 7
  have e8 : wa.drew.cell? ⟨wp.heap.size, 8, none⟩ = some (.int .i64 l.m) := hd.2 8
  have e9 : wa.drew.cell? ⟨wp.heap.size, 9, none⟩ = some (.int .i64 l.d) := hd.2 9
  clear hb1 hp1 hz1 hp2 hba hcell hd hF ha hn
  unfold lv at HFF ⊢
  go_enter Try.func35, Try.ntmps35
  go_wp2_with fail
  go_region_held3 (fun w' => w'.cell? ⟨w.heap.size, 1, none⟩ = some (.func (.func 50) #[] #[]) ∧ w'.cell? ⟨w.heap.size, 3, none⟩ = some (.int .i64 16) ∧ w'.cell? ⟨wp.heap.size, 0, none⟩ = some (.int .i64 l.B) ∧ w'.cell? ⟨wp.heap.size, 1, none⟩ = some (.int .i64 l.I) ∧ w'.cell? ⟨wp.heap.size, 2, none⟩ = some (.int .i64 l.R) ∧ w'.cell? ⟨wp.heap.size, 3, none⟩ = some (.int .i64 l.T) ∧ w'.cell? ⟨wp.heap.size, 4, none⟩ = some (vw l.k0) ∧ w'.cell? ⟨wp.heap.size, 5, none⟩ = some (vw l.k1) ∧ w'.cell? ⟨wp.heap.size, 6, none⟩ = some (.int .i64 l.i) ∧ w'.cell? ⟨wp.heap.size, 7, none⟩ = some (.int .i64 l.r) ∧ w'.cell? ⟨wp.heap.size, 8, none⟩ = some (.int .i64 l.m) ∧ w'.cell? ⟨wp.heap.size, 9, none⟩ = some (.int .i64 l.d))
    (first | exact ⟨d1, d3, e0, e1, e2, e3, e4, e5, e6, e7, e8, e9⟩ | exact ⟨z1, z3, y0, y1, y2, y3, y4, y5, y6, y7, y8, y9⟩)
    (first
    | (refine (HFF.out _).mono ?_
       rintro e w1 ⟨rfl, hb⟩
       have hd := HC.out w1 ((Below.refl _ wa).drew.trans hb)
       have z1 := hd.1 1
       have z3 := hd.1 3
       have y0 := hd.2 0
       have y1 := hd.2 1
       have y2 := hd.2 2
       have y3 := hd.2 3
       have y4 := hd.2 4
       have y5 := hd.2 5
       have y6 := hd.2 6
       have y7 := hd.2 7
       have y8 := hd.2 8
       have y9 := hd.2 9
       have HB1 := Lib.hid hb
       clear hd hb))
  go_wp2_with fail
  go_ret
  refine ⟨?_, HBB.out.trans ((Below.refl _ wa).drew.trans HB1.out |>.mono HBB.out.size)⟩
  show Ending.returned (.int .i64 (IntKind.i64.wrap (IntKind.i64.wrap (l.r * 64) + n * 16))) = _
  rw [HW2.out]

set_option maxRecDepth 100000 in
set_option maxHeartbeats 2000000 in
theorem at_4 (l : Lay) (n : Int) (ha : 0 ≤ l.m ∧ l.m ≤ 2048) (hn : 0 ≤ n ∧ n ≤ 2048) (w : World) :
    Calls Try.prog 35 #[.agg #[.int .i64 5, .func (.func 52) #[] #[], .func (.func 45) #[] #[], .int .i64 64, .int .i64 0], lv l, .int .i64 n] w fun e w' => e = .returned (.int .i64 (l.m * 64 + n * 64)) ∧ Below w.heap.size w w' := by
  obtain ⟨wp, hwp⟩ : ∃ wp, w.alloc (.cells #[.int .i64 5, .func (.func 52) #[] #[], .func (.func 45) #[] #[], .int .i64 64, .int .i64 0] 78) = wp := ⟨_, rfl⟩
  have hb1 : Below w.heap.size w wp := by rw [← hwp]; exact (Below.refl _ _).alloc (Nat.le_refl _) _
  have hp1 : wp.heap[w.heap.size]? = some (.cells #[.int .i64 5, .func (.func 52) #[] #[], .func (.func 45) #[] #[], .int .i64 64, .int .i64 0] 78 (0, 0)) := by rw [← hwp]; exact World.alloc_heap_new w _
  have hz1 : wp.heap.size = w.heap.size + 1 := by rw [← hwp]; simp
  obtain ⟨wa, hwa, HBA, HZA, HF⟩ := und_box wp l
  have hp2 := (HBA.out.block w.heap.size (by omega)).trans hp1
  have hba := hb1.trans (HBA.out.mono (by omega))
  have hn1 : 0 ≤ n := hn.1
  have hn2 : n ≤ 2048 := hn.2
  have ha1 : 0 ≤ l.m := ha.1
  have ha2 : l.m ≤ 2048 := ha.2
  have hcell : ∀ W, Below wa.heap.size wa W → (∀ j, W.cell? ⟨w.heap.size, j, none⟩ = #[Value.int .i64 5, .func (.func 52) #[] #[], .func (.func 45) #[] #[], .int .i64 64, .int .i64 0][j]?) ∧ (∀ j, W.cell? ⟨wp.heap.size, j, none⟩ = #[Value.int .i64 l.B, .int .i64 l.I, .int .i64 l.R, .int .i64 l.T, vw l.k0, vw l.k1, .int .i64 l.i, .int .i64 l.r, .int .i64 l.m, .int .i64 l.d][j]?) := fun W hW => by
    have h1 := (hW.block w.heap.size (by have := HZA.out; omega)).trans hp2
    have h2 := (hW.block wp.heap.size (by have := HZA.out; omega)).trans HF.out
    exact ⟨fun j => by simp [World.cell?, h1], fun j => by simp [World.cell?, h2]⟩
  have HC := Lib.hid hcell
  have HBB := Lib.hid hba
  have hF := p_parts_8 l
  have HFF := Lib.hid hF
  have hw1 : IntKind.i64.wrap (n * 64) = n * 64 := by rw [IntKind.wrap_i64]; omega
  have hw2 : IntKind.i64.wrap (IntKind.i64.wrap (l.m * 64) + n * 64) = l.m * 64 + n * 64 := by rw [IntKind.wrap_i64, IntKind.wrap_i64]; omega
  have HW2 := Lib.hid hw2
  clear hw2
  have hd := hcell wa.drew ((Below.refl _ wa).drew)
  have d1 : wa.drew.cell? ⟨w.heap.size, 1, none⟩ = some (.func (.func 52) #[] #[]) := hd.1 1
  have d3 : wa.drew.cell? ⟨w.heap.size, 3, none⟩ = some (.int .i64 64) := hd.1 3
  have e0 : wa.drew.cell? ⟨wp.heap.size, 0, none⟩ = some (.int .i64 l.B) := hd.2 0
  have e1 : wa.drew.cell? ⟨wp.heap.size, 1, none⟩ = some (.int .i64 l.I) := hd.2 1
  have e2 : wa.drew.cell? ⟨wp.heap.size, 2, none⟩ = some (.int .i64 l.R) := hd.2 2
  have e3 : wa.drew.cell? ⟨wp.heap.size, 3, none⟩ = some (.int .i64 l.T) := hd.2 3
  have e4 : wa.drew.cell? ⟨wp.heap.size, 4, none⟩ = some (vw l.k0) := hd.2 4
  have e5 : wa.drew.cell? ⟨wp.heap.size, 5, none⟩ = some (vw l.k1) := hd.2 5
  have e6 : wa.drew.cell? ⟨wp.heap.size, 6, none⟩ = some (.int .i64 l.i) := hd.2 6
  have e7 : wa.drew.cell? ⟨wp.heap.size, 7, none⟩ = some (.int .i64 l.r) := hd.2 7
  have e8 : wa.drew.cell? ⟨wp.heap.size, 8, none⟩ = some (.int .i64 l.m) := hd.2 8
  have e9 : wa.drew.cell? ⟨wp.heap.size, 9, none⟩ = some (.int .i64 l.d) := hd.2 9
  clear hb1 hp1 hz1 hp2 hba hcell hd hF ha hn
  unfold lv at HFF ⊢
  go_enter Try.func35, Try.ntmps35
  go_wp2_with fail
  go_region_held3 (fun w' => w'.cell? ⟨w.heap.size, 1, none⟩ = some (.func (.func 52) #[] #[]) ∧ w'.cell? ⟨w.heap.size, 3, none⟩ = some (.int .i64 64) ∧ w'.cell? ⟨wp.heap.size, 0, none⟩ = some (.int .i64 l.B) ∧ w'.cell? ⟨wp.heap.size, 1, none⟩ = some (.int .i64 l.I) ∧ w'.cell? ⟨wp.heap.size, 2, none⟩ = some (.int .i64 l.R) ∧ w'.cell? ⟨wp.heap.size, 3, none⟩ = some (.int .i64 l.T) ∧ w'.cell? ⟨wp.heap.size, 4, none⟩ = some (vw l.k0) ∧ w'.cell? ⟨wp.heap.size, 5, none⟩ = some (vw l.k1) ∧ w'.cell? ⟨wp.heap.size, 6, none⟩ = some (.int .i64 l.i) ∧ w'.cell? ⟨wp.heap.size, 7, none⟩ = some (.int .i64 l.r) ∧ w'.cell? ⟨wp.heap.size, 8, none⟩ = some (.int .i64 l.m) ∧ w'.cell? ⟨wp.heap.size, 9, none⟩ = some (.int .i64 l.d))
    (first | exact ⟨d1, d3, e0, e1, e2, e3, e4, e5, e6, e7, e8, e9⟩ | exact ⟨z1, z3, y0, y1, y2, y3, y4, y5, y6, y7, y8, y9⟩)
    (first
    | (refine (HFF.out _).mono ?_
       rintro e w1 ⟨rfl, hb⟩
       have hd := HC.out w1 ((Below.refl _ wa).drew.trans hb)
       have z1 := hd.1 1
       have z3 := hd.1 3
       have y0 := hd.2 0
       have y1 := hd.2 1
       have y2 := hd.2 2
       have y3 := hd.2 3
       have y4 := hd.2 4
       have y5 := hd.2 5
       have y6 := hd.2 6
       have y7 := hd.2 7
       have y8 := hd.2 8
       have y9 := hd.2 9
       have HB1 := Lib.hid hb
       clear hd hb))
  go_wp2_with fail
  go_ret
  refine ⟨?_, HBB.out.trans ((Below.refl _ wa).drew.trans HB1.out |>.mono HBB.out.size)⟩
  show Ending.returned (.int .i64 (IntKind.i64.wrap (IntKind.i64.wrap (l.m * 64) + n * 64))) = _
  rw [HW2.out]

set_option maxRecDepth 100000 in
set_option maxHeartbeats 2000000 in
theorem at_5 (l : Lay) (n : Int) (ha : 0 ≤ l.d ∧ l.d ≤ 2048) (hn : 0 ≤ n ∧ n ≤ 2048) (w : World) :
    Calls Try.prog 35 #[.agg #[.int .i64 6, .func (.func 53) #[] #[], .func (.func 54) #[] #[], .int .i64 64, .int .i64 (-1)], lv l, .int .i64 n] w fun e w' => e = .returned (.int .i64 (l.d * 64 + n * 64)) ∧ Below w.heap.size w w' := by
  obtain ⟨wp, hwp⟩ : ∃ wp, w.alloc (.cells #[.int .i64 6, .func (.func 53) #[] #[], .func (.func 54) #[] #[], .int .i64 64, .int .i64 (-1)] 78) = wp := ⟨_, rfl⟩
  have hb1 : Below w.heap.size w wp := by rw [← hwp]; exact (Below.refl _ _).alloc (Nat.le_refl _) _
  have hp1 : wp.heap[w.heap.size]? = some (.cells #[.int .i64 6, .func (.func 53) #[] #[], .func (.func 54) #[] #[], .int .i64 64, .int .i64 (-1)] 78 (0, 0)) := by rw [← hwp]; exact World.alloc_heap_new w _
  have hz1 : wp.heap.size = w.heap.size + 1 := by rw [← hwp]; simp
  obtain ⟨wa, hwa, HBA, HZA, HF⟩ := und_box wp l
  have hp2 := (HBA.out.block w.heap.size (by omega)).trans hp1
  have hba := hb1.trans (HBA.out.mono (by omega))
  have hn1 : 0 ≤ n := hn.1
  have hn2 : n ≤ 2048 := hn.2
  have ha1 : 0 ≤ l.d := ha.1
  have ha2 : l.d ≤ 2048 := ha.2
  have hcell : ∀ W, Below wa.heap.size wa W → (∀ j, W.cell? ⟨w.heap.size, j, none⟩ = #[Value.int .i64 6, .func (.func 53) #[] #[], .func (.func 54) #[] #[], .int .i64 64, .int .i64 (-1)][j]?) ∧ (∀ j, W.cell? ⟨wp.heap.size, j, none⟩ = #[Value.int .i64 l.B, .int .i64 l.I, .int .i64 l.R, .int .i64 l.T, vw l.k0, vw l.k1, .int .i64 l.i, .int .i64 l.r, .int .i64 l.m, .int .i64 l.d][j]?) := fun W hW => by
    have h1 := (hW.block w.heap.size (by have := HZA.out; omega)).trans hp2
    have h2 := (hW.block wp.heap.size (by have := HZA.out; omega)).trans HF.out
    exact ⟨fun j => by simp [World.cell?, h1], fun j => by simp [World.cell?, h2]⟩
  have HC := Lib.hid hcell
  have HBB := Lib.hid hba
  have hF := p_parts_9 l
  have HFF := Lib.hid hF
  have hw1 : IntKind.i64.wrap (n * 64) = n * 64 := by rw [IntKind.wrap_i64]; omega
  have hw2 : IntKind.i64.wrap (IntKind.i64.wrap (l.d * 64) + n * 64) = l.d * 64 + n * 64 := by rw [IntKind.wrap_i64, IntKind.wrap_i64]; omega
  have HW2 := Lib.hid hw2
  clear hw2
  have hd := hcell wa.drew ((Below.refl _ wa).drew)
  have d1 : wa.drew.cell? ⟨w.heap.size, 1, none⟩ = some (.func (.func 53) #[] #[]) := hd.1 1
  have d3 : wa.drew.cell? ⟨w.heap.size, 3, none⟩ = some (.int .i64 64) := hd.1 3
  have e0 : wa.drew.cell? ⟨wp.heap.size, 0, none⟩ = some (.int .i64 l.B) := hd.2 0
  have e1 : wa.drew.cell? ⟨wp.heap.size, 1, none⟩ = some (.int .i64 l.I) := hd.2 1
  have e2 : wa.drew.cell? ⟨wp.heap.size, 2, none⟩ = some (.int .i64 l.R) := hd.2 2
  have e3 : wa.drew.cell? ⟨wp.heap.size, 3, none⟩ = some (.int .i64 l.T) := hd.2 3
  have e4 : wa.drew.cell? ⟨wp.heap.size, 4, none⟩ = some (vw l.k0) := hd.2 4
  have e5 : wa.drew.cell? ⟨wp.heap.size, 5, none⟩ = some (vw l.k1) := hd.2 5
  have e6 : wa.drew.cell? ⟨wp.heap.size, 6, none⟩ = some (.int .i64 l.i) := hd.2 6
  have e7 : wa.drew.cell? ⟨wp.heap.size, 7, none⟩ = some (.int .i64 l.r) := hd.2 7
  have e8 : wa.drew.cell? ⟨wp.heap.size, 8, none⟩ = some (.int .i64 l.m) := hd.2 8
  have e9 : wa.drew.cell? ⟨wp.heap.size, 9, none⟩ = some (.int .i64 l.d) := hd.2 9
  clear hb1 hp1 hz1 hp2 hba hcell hd hF ha hn
  unfold lv at HFF ⊢
  go_enter Try.func35, Try.ntmps35
  go_wp2_with fail
  go_region_held3 (fun w' => w'.cell? ⟨w.heap.size, 1, none⟩ = some (.func (.func 53) #[] #[]) ∧ w'.cell? ⟨w.heap.size, 3, none⟩ = some (.int .i64 64) ∧ w'.cell? ⟨wp.heap.size, 0, none⟩ = some (.int .i64 l.B) ∧ w'.cell? ⟨wp.heap.size, 1, none⟩ = some (.int .i64 l.I) ∧ w'.cell? ⟨wp.heap.size, 2, none⟩ = some (.int .i64 l.R) ∧ w'.cell? ⟨wp.heap.size, 3, none⟩ = some (.int .i64 l.T) ∧ w'.cell? ⟨wp.heap.size, 4, none⟩ = some (vw l.k0) ∧ w'.cell? ⟨wp.heap.size, 5, none⟩ = some (vw l.k1) ∧ w'.cell? ⟨wp.heap.size, 6, none⟩ = some (.int .i64 l.i) ∧ w'.cell? ⟨wp.heap.size, 7, none⟩ = some (.int .i64 l.r) ∧ w'.cell? ⟨wp.heap.size, 8, none⟩ = some (.int .i64 l.m) ∧ w'.cell? ⟨wp.heap.size, 9, none⟩ = some (.int .i64 l.d))
    (first | exact ⟨d1, d3, e0, e1, e2, e3, e4, e5, e6, e7, e8, e9⟩ | exact ⟨z1, z3, y0, y1, y2, y3, y4, y5, y6, y7, y8, y9⟩)
    (first
    | (refine (HFF.out _).mono ?_
       rintro e w1 ⟨rfl, hb⟩
       have hd := HC.out w1 ((Below.refl _ wa).drew.trans hb)
       have z1 := hd.1 1
       have z3 := hd.1 3
       have y0 := hd.2 0
       have y1 := hd.2 1
       have y2 := hd.2 2
       have y3 := hd.2 3
       have y4 := hd.2 4
       have y5 := hd.2 5
       have y6 := hd.2 6
       have y7 := hd.2 7
       have y8 := hd.2 8
       have y9 := hd.2 9
       have HB1 := Lib.hid hb
       clear hd hb))
  go_wp2_with fail
  go_ret
  refine ⟨?_, HBB.out.trans ((Below.refl _ wa).drew.trans HB1.out |>.mono HBB.out.size)⟩
  show Ending.returned (.int .i64 (IntKind.i64.wrap (IntKind.i64.wrap (l.d * 64) + n * 64))) = _
  rw [HW2.out]

set_option maxRecDepth 100000 in
set_option maxHeartbeats 2000000 in
theorem number_0 (l : Lay) (n : Int) (hn : 0 ≤ n ∧ n ≤ 2048) (w : World) :
    Calls Try.prog 36 #[.agg #[.int .i64 1, .func (.func 44) #[] #[], .func (.func 45) #[] #[], .int .i64 64, .int .i64 0], lv l, .int .i64 n] w fun e w' => e = .returned (.int .i64 (n)) ∧ Below w.heap.size w w' := by
  obtain ⟨wp, hwp⟩ : ∃ wp, w.alloc (.cells #[.int .i64 1, .func (.func 44) #[] #[], .func (.func 45) #[] #[], .int .i64 64, .int .i64 0] 78) = wp := ⟨_, rfl⟩
  have hb1 : Below w.heap.size w wp := by rw [← hwp]; exact (Below.refl _ _).alloc (Nat.le_refl _) _
  have hp1 : wp.heap[w.heap.size]? = some (.cells #[.int .i64 1, .func (.func 44) #[] #[], .func (.func 45) #[] #[], .int .i64 64, .int .i64 0] 78 (0, 0)) := by rw [← hwp]; exact World.alloc_heap_new w _
  have hz1 : wp.heap.size = w.heap.size + 1 := by rw [← hwp]; simp
  obtain ⟨wa, hwa, HBA, HZA, HF⟩ := und_box wp l
  have hp2 := (HBA.out.block w.heap.size (by omega)).trans hp1
  have HBB := Lib.hid (hb1.trans (HBA.out.mono (by omega)))
  have d1 : wa.cell? ⟨w.heap.size, 1, none⟩ = some (.func (.func 44) #[] #[]) := by simp [World.cell?, hp2]
  have d4 : wa.cell? ⟨w.heap.size, 4, none⟩ = some (.int .i64 (0)) := by simp [World.cell?, hp2]
  obtain ⟨q0, q1, q2, q3, q4, q5, q6, q7, q8, q9, qf⟩ := lay_cells HF.out
  have hn1 : 0 ≤ n := hn.1
  have hn2 : n ≤ 2048 := hn.2
  clear hb1 hp1 hz1 hp2
  have hF := p_parts_1 l
  unfold lv at hF ⊢
  have HFF := Lib.hid hF
  clear hF
  go_enter Try.func36, Try.ntmps36
  go_wp2_with fail
  go_ret
  exact ⟨rfl, HBB.out⟩

set_option maxRecDepth 100000 in
set_option maxHeartbeats 2000000 in
theorem number_1 (l : Lay) (n : Int) (hn : 0 ≤ n ∧ n ≤ 2048) (w : World) :
    Calls Try.prog 36 #[.agg #[.int .i64 2, .func (.func 46) #[] #[], .func (.func 47) #[] #[], .int .i64 64, .int .i64 0], lv l, .int .i64 n] w fun e w' => e = .returned (.int .i64 (n)) ∧ Below w.heap.size w w' := by
  obtain ⟨wp, hwp⟩ : ∃ wp, w.alloc (.cells #[.int .i64 2, .func (.func 46) #[] #[], .func (.func 47) #[] #[], .int .i64 64, .int .i64 0] 78) = wp := ⟨_, rfl⟩
  have hb1 : Below w.heap.size w wp := by rw [← hwp]; exact (Below.refl _ _).alloc (Nat.le_refl _) _
  have hp1 : wp.heap[w.heap.size]? = some (.cells #[.int .i64 2, .func (.func 46) #[] #[], .func (.func 47) #[] #[], .int .i64 64, .int .i64 0] 78 (0, 0)) := by rw [← hwp]; exact World.alloc_heap_new w _
  have hz1 : wp.heap.size = w.heap.size + 1 := by rw [← hwp]; simp
  obtain ⟨wa, hwa, HBA, HZA, HF⟩ := und_box wp l
  have hp2 := (HBA.out.block w.heap.size (by omega)).trans hp1
  have HBB := Lib.hid (hb1.trans (HBA.out.mono (by omega)))
  have d1 : wa.cell? ⟨w.heap.size, 1, none⟩ = some (.func (.func 46) #[] #[]) := by simp [World.cell?, hp2]
  have d4 : wa.cell? ⟨w.heap.size, 4, none⟩ = some (.int .i64 (0)) := by simp [World.cell?, hp2]
  obtain ⟨q0, q1, q2, q3, q4, q5, q6, q7, q8, q9, qf⟩ := lay_cells HF.out
  have hn1 : 0 ≤ n := hn.1
  have hn2 : n ≤ 2048 := hn.2
  clear hb1 hp1 hz1 hp2
  have hF := p_parts_2 l
  unfold lv at hF ⊢
  have HFF := Lib.hid hF
  clear hF
  go_enter Try.func36, Try.ntmps36
  go_wp2_with fail
  go_ret
  exact ⟨rfl, HBB.out⟩

set_option maxRecDepth 100000 in
set_option maxHeartbeats 2000000 in
theorem number_2 (l : Lay) (n : Int) (hn : 0 ≤ n ∧ n ≤ 2048) (w : World) :
    Calls Try.prog 36 #[.agg #[.int .i64 3, .func (.func 48) #[] #[], .func (.func 49) #[] #[], .int .i64 16, .int .i64 1], lv l, .int .i64 n] w fun e w' => e = .returned (.int .i64 (1 + n)) ∧ Below w.heap.size w w' := by
  obtain ⟨wp, hwp⟩ : ∃ wp, w.alloc (.cells #[.int .i64 3, .func (.func 48) #[] #[], .func (.func 49) #[] #[], .int .i64 16, .int .i64 1] 78) = wp := ⟨_, rfl⟩
  have hb1 : Below w.heap.size w wp := by rw [← hwp]; exact (Below.refl _ _).alloc (Nat.le_refl _) _
  have hp1 : wp.heap[w.heap.size]? = some (.cells #[.int .i64 3, .func (.func 48) #[] #[], .func (.func 49) #[] #[], .int .i64 16, .int .i64 1] 78 (0, 0)) := by rw [← hwp]; exact World.alloc_heap_new w _
  have hz1 : wp.heap.size = w.heap.size + 1 := by rw [← hwp]; simp
  obtain ⟨wa, hwa, HBA, HZA, HF⟩ := und_box wp l
  have hp2 := (HBA.out.block w.heap.size (by omega)).trans hp1
  have HBB := Lib.hid (hb1.trans (HBA.out.mono (by omega)))
  have d1 : wa.cell? ⟨w.heap.size, 1, none⟩ = some (.func (.func 48) #[] #[]) := by simp [World.cell?, hp2]
  have d4 : wa.cell? ⟨w.heap.size, 4, none⟩ = some (.int .i64 (1)) := by simp [World.cell?, hp2]
  obtain ⟨q0, q1, q2, q3, q4, q5, q6, q7, q8, q9, qf⟩ := lay_cells HF.out
  have hn1 : 0 ≤ n := hn.1
  have hn2 : n ≤ 2048 := hn.2
  clear hb1 hp1 hz1 hp2
  have hF := p_parts_4 l
  unfold lv at hF ⊢
  have HFF := Lib.hid hF
  clear hF
  go_enter Try.func36, Try.ntmps36
  go_wp2_with fail
  go_ret
  exact ⟨rfl, HBB.out⟩

set_option maxRecDepth 100000 in
set_option maxHeartbeats 2000000 in
theorem number_3 (l : Lay) (n : Int) (hn : 0 ≤ n ∧ n ≤ 2048) (w : World) :
    Calls Try.prog 36 #[.agg #[.int .i64 4, .func (.func 50) #[] #[], .func (.func 51) #[] #[], .int .i64 16, .int .i64 1], lv l, .int .i64 n] w fun e w' => e = .returned (.int .i64 (1 + n)) ∧ Below w.heap.size w w' := by
  obtain ⟨wp, hwp⟩ : ∃ wp, w.alloc (.cells #[.int .i64 4, .func (.func 50) #[] #[], .func (.func 51) #[] #[], .int .i64 16, .int .i64 1] 78) = wp := ⟨_, rfl⟩
  have hb1 : Below w.heap.size w wp := by rw [← hwp]; exact (Below.refl _ _).alloc (Nat.le_refl _) _
  have hp1 : wp.heap[w.heap.size]? = some (.cells #[.int .i64 4, .func (.func 50) #[] #[], .func (.func 51) #[] #[], .int .i64 16, .int .i64 1] 78 (0, 0)) := by rw [← hwp]; exact World.alloc_heap_new w _
  have hz1 : wp.heap.size = w.heap.size + 1 := by rw [← hwp]; simp
  obtain ⟨wa, hwa, HBA, HZA, HF⟩ := und_box wp l
  have hp2 := (HBA.out.block w.heap.size (by omega)).trans hp1
  have HBB := Lib.hid (hb1.trans (HBA.out.mono (by omega)))
  have d1 : wa.cell? ⟨w.heap.size, 1, none⟩ = some (.func (.func 50) #[] #[]) := by simp [World.cell?, hp2]
  have d4 : wa.cell? ⟨w.heap.size, 4, none⟩ = some (.int .i64 (1)) := by simp [World.cell?, hp2]
  obtain ⟨q0, q1, q2, q3, q4, q5, q6, q7, q8, q9, qf⟩ := lay_cells HF.out
  have hn1 : 0 ≤ n := hn.1
  have hn2 : n ≤ 2048 := hn.2
  clear hb1 hp1 hz1 hp2
  have hF := p_parts_6 l
  unfold lv at hF ⊢
  have HFF := Lib.hid hF
  clear hF
  go_enter Try.func36, Try.ntmps36
  go_wp2_with fail
  go_ret
  exact ⟨rfl, HBB.out⟩

set_option maxRecDepth 100000 in
set_option maxHeartbeats 2000000 in
theorem number_4 (l : Lay) (n : Int) (hn : 0 ≤ n ∧ n ≤ 2048) (w : World) :
    Calls Try.prog 36 #[.agg #[.int .i64 5, .func (.func 52) #[] #[], .func (.func 45) #[] #[], .int .i64 64, .int .i64 0], lv l, .int .i64 n] w fun e w' => e = .returned (.int .i64 (n)) ∧ Below w.heap.size w w' := by
  obtain ⟨wp, hwp⟩ : ∃ wp, w.alloc (.cells #[.int .i64 5, .func (.func 52) #[] #[], .func (.func 45) #[] #[], .int .i64 64, .int .i64 0] 78) = wp := ⟨_, rfl⟩
  have hb1 : Below w.heap.size w wp := by rw [← hwp]; exact (Below.refl _ _).alloc (Nat.le_refl _) _
  have hp1 : wp.heap[w.heap.size]? = some (.cells #[.int .i64 5, .func (.func 52) #[] #[], .func (.func 45) #[] #[], .int .i64 64, .int .i64 0] 78 (0, 0)) := by rw [← hwp]; exact World.alloc_heap_new w _
  have hz1 : wp.heap.size = w.heap.size + 1 := by rw [← hwp]; simp
  obtain ⟨wa, hwa, HBA, HZA, HF⟩ := und_box wp l
  have hp2 := (HBA.out.block w.heap.size (by omega)).trans hp1
  have HBB := Lib.hid (hb1.trans (HBA.out.mono (by omega)))
  have d1 : wa.cell? ⟨w.heap.size, 1, none⟩ = some (.func (.func 52) #[] #[]) := by simp [World.cell?, hp2]
  have d4 : wa.cell? ⟨w.heap.size, 4, none⟩ = some (.int .i64 (0)) := by simp [World.cell?, hp2]
  obtain ⟨q0, q1, q2, q3, q4, q5, q6, q7, q8, q9, qf⟩ := lay_cells HF.out
  have hn1 : 0 ≤ n := hn.1
  have hn2 : n ≤ 2048 := hn.2
  clear hb1 hp1 hz1 hp2
  have hF := p_parts_8 l
  unfold lv at hF ⊢
  have HFF := Lib.hid hF
  clear hF
  go_enter Try.func36, Try.ntmps36
  go_wp2_with fail
  go_ret
  exact ⟨rfl, HBB.out⟩

set_option maxRecDepth 100000 in
set_option maxHeartbeats 2000000 in
theorem number_5 (l : Lay) (n : Int) (ha : 0 ≤ l.d ∧ l.d ≤ 2048) (hn : 0 ≤ n ∧ n ≤ 2048) (w : World) :
    Calls Try.prog 36 #[.agg #[.int .i64 6, .func (.func 53) #[] #[], .func (.func 54) #[] #[], .int .i64 64, .int .i64 (-1)], lv l, .int .i64 n] w fun e w' => e = .returned (.int .i64 (l.d + n)) ∧ Below w.heap.size w w' := by
  obtain ⟨wp, hwp⟩ : ∃ wp, w.alloc (.cells #[.int .i64 6, .func (.func 53) #[] #[], .func (.func 54) #[] #[], .int .i64 64, .int .i64 (-1)] 78) = wp := ⟨_, rfl⟩
  have hb1 : Below w.heap.size w wp := by rw [← hwp]; exact (Below.refl _ _).alloc (Nat.le_refl _) _
  have hp1 : wp.heap[w.heap.size]? = some (.cells #[.int .i64 6, .func (.func 53) #[] #[], .func (.func 54) #[] #[], .int .i64 64, .int .i64 (-1)] 78 (0, 0)) := by rw [← hwp]; exact World.alloc_heap_new w _
  have hz1 : wp.heap.size = w.heap.size + 1 := by rw [← hwp]; simp
  obtain ⟨wa, hwa, HBA, HZA, HF⟩ := und_box wp l
  have hp2 := (HBA.out.block w.heap.size (by omega)).trans hp1
  have HBB := Lib.hid (hb1.trans (HBA.out.mono (by omega)))
  have d1 : wa.cell? ⟨w.heap.size, 1, none⟩ = some (.func (.func 53) #[] #[]) := by simp [World.cell?, hp2]
  have d4 : wa.cell? ⟨w.heap.size, 4, none⟩ = some (.int .i64 (-1)) := by simp [World.cell?, hp2]
  obtain ⟨q0, q1, q2, q3, q4, q5, q6, q7, q8, q9, qf⟩ := lay_cells HF.out
  have hn1 : 0 ≤ n := hn.1
  have hn2 : n ≤ 2048 := hn.2
  have ha1 : 0 ≤ l.d := ha.1
  have ha2 : l.d ≤ 2048 := ha.2
  clear hb1 hp1 hz1 hp2
  have hF := p_parts_9 l
  unfold lv at hF ⊢
  have HFF := Lib.hid hF
  clear hF
  go_enter Try.func36, Try.ntmps36
  go_wp2_with fail
  refine (HFF.out _).mono ?_
  rintro e w1 ⟨rfl, hb⟩
  have HB1 := Lib.hid hb
  clear hb
  go_wp2_with fail
  go_ret
  exact ⟨rfl, HBB.out.trans (HB1.out.mono HBB.out.size)⟩

end Go.Proofs.Ytljegehfdmgcbaa
