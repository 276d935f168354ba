/- The walk of the chapter's rows. -/
import Derived.Test.YthhdipfadnihjaaLatchQ
namespace Go.Proofs.Ythhdipfadnihjaa
open Go Go.RowKit

theorem rds_lit {W : World} {g : Nat} (ys : List Turn) {t : TypeId} {fr : Nat × Nat} (h : W.heap[g]? = some (.cells (ys.flatMap tc).toArray t fr)) (hm : ys.length ≤ maxLen) : RdS W.heap.size W (some ⟨g, 0, none⟩) ys.length 2 tc ys := by
  refine ⟨Nat.le_refl _, hm, .inr ⟨g, 0, rfl, (Array.getElem?_eq_some_iff.1 h).1, fun i hi j v hv => ?_⟩⟩
  have hj : j < 2 := by have := (List.getElem?_eq_some_iff.1 hv).1; rwa [tc_len] at this
  rw [Nat.zero_add]
  have := flat_get tc_len ys i hi j hj
  rw [hv] at this
  simp [World.cell?, h, this]
theorem row1 : askS ([], []) 1 false = (([(1, false)], []), 0) := by decide
theorem row2 : askS ([(1, false)], []) 2 true = (([(1, false)], [(2, true)]), 0) := by decide
theorem row3 : askS ([(1, false)], [(2, true)]) 3 false = (([(1, false)], [(2, true), (3, false)]), 0) := by decide
theorem row4 : freeS ([(1, false)], [(2, true), (3, false)]) 1 = (([(2, true)], [(3, false)]), 0) := by decide
theorem row5 : freeS ([(2, true)], [(3, false)]) 2 = (([(3, false)], []), 0) := by decide
theorem row6 : askS ([(3, false)], []) 3 false = (([(3, false)], []), 191) := by decide
theorem row7 : freeS ([(3, false)], []) 5 = (([(3, false)], []), 5) := by decide
theorem row8 : askS ([(3, false)], []) 8 false = (([(3, false)], []), 2) := by decide

set_option maxRecDepth 100000 in
set_option maxHeartbeats 4000000 in
theorem works25_any (w : World) : Calls Try.prog 19 #[] w fun e w' => e = .returned (.bool true) ∧ Below w.heap.size w w' := by
  have o0 : OkS ([], []) := OkS.nil
  have o1 : OkS ([(1, false)], []) := by have := o0.ask 1 false; rw [row1] at this; exact this
  have o2 : OkS ([(1, false)], [(2, true)]) := by have := o1.ask 2 true; rw [row2] at this; exact this
  have o3 : OkS ([(1, false)], [(2, true), (3, false)]) := by have := o2.ask 3 false; rw [row3] at this; exact this
  have o4 : OkS ([(2, true)], [(3, false)]) := by have := o3.free 1; rw [row4] at this; exact this
  have o5 : OkS ([(3, false)], []) := by have := o4.free 2; rw [row5] at this; exact this
  have HK := Lib.hid (And.intro o0 (And.intro o1 (And.intro o2 (And.intro o3 (And.intro o4 o5)))))
  clear o0 o1 o2 o3 o4 o5
  go_enter Try.func19, Try.ntmps19
  go_wp2_with fail
  refine (lt_new w w w.heap.size (At.start w)).mono ?_
  rintro e w1 ⟨L, T1, rfl, h1, _⟩
  have H1 := Lib.hid h1
  clear h1
  go_wp2_with fail
  have k1 := lt_ask H1.out HK.out.1 1 false
  rw [row1] at k1
  refine k1.mono ?_
  clear k1
  rintro e w2 ⟨rfl, h2, _⟩
  have H2 := Lib.hid h2
  clear h2
  go_wp2_with fail
  refine (num25_any _ _).mono ?_
  rintro e w2' ⟨rfl, rfl⟩
  go_wp2_with fail
  have k2 := lt_ask H2.out HK.out.2.1 2 true
  rw [row2] at k2
  refine k2.mono ?_
  clear k2
  rintro e w3 ⟨rfl, h3, _⟩
  have H3 := Lib.hid h3
  clear h3
  go_wp2_with fail
  refine (num25_any _ _).mono ?_
  rintro e w3' ⟨rfl, rfl⟩
  go_wp2_with fail
  have k3 := lt_ask H3.out HK.out.2.2.1 3 false
  rw [row3] at k3
  refine k3.mono ?_
  clear k3
  rintro e w4 ⟨rfl, h4, _⟩
  have H4 := Lib.hid h4
  clear h4
  go_wp2_with fail
  refine (num25_any _ _).mono ?_
  rintro e w4' ⟨rfl, rfl⟩
  obtain ⟨wi, hwi⟩ : ∃ wi, (w4.alloc (.cells #[.int .i64 1, .bool false] 53)).alloc (.cells #[.int .i64 2, .bool true, .int .i64 3, .bool false] 53) = wi := ⟨_, rfl⟩
  have hbi : Below w4.heap.size w4 wi := by rw [← hwi]; exact ((Below.refl _ _).alloc (Nat.le_refl _) _).alloc (by simp) _
  have hi0 : wi.heap[w4.heap.size]? = some (.cells #[.int .i64 1, .bool false] 53 (0, 0)) := by rw [← hwi]; exact (Below.heap_alloc _ _ _ (by simp)).trans (World.alloc_heap_new w4 _)
  have hi1 : wi.heap[w4.heap.size + 1]? = some (.cells #[.int .i64 2, .bool true, .int .i64 3, .bool false] 53 (0, 0)) := by
    have := World.alloc_heap_new (w4.alloc (.cells #[.int .i64 1, .bool false] 53)) (.cells #[.int .i64 2, .bool true, .int .i64 3, .bool false] 53)
    rw [World.size_alloc] at this
    rw [← hwi]; exact this
  have k4 := is_any _ L [(1, false)] [(2, true), (3, false)] (some ⟨w4.heap.size, 0, none⟩) 1 (some ⟨w4.heap.size + 1, 0, none⟩) 2 wi (H4.out.own.below hbi) HK.out.2.2.2.1.held (by simp) (rds_lit [(1, false)] hi0 (by simp [maxLen])) (rds_lit [(2, true), (3, false)] hi1 (by simp [maxLen]))
  have HI := Lib.hid k4
  have HWI := Lib.hid hwi
  have HBI := Lib.hid hbi
  clear k4 hwi hbi hi0 hi1
  go_wp2_with fail
  rw [HWI.out]
  refine HI.out.mono ?_
  rintro e w5 ⟨rfl, h5⟩
  have H5 := Lib.hid (H4.out.below (HBI.out.trans (h5.mono HBI.out.size)))
  clear h5 HI HWI HBI
  go_wp2_with fail
  have k5 := lt_free H5.out HK.out.2.2.2.1 1
  rw [row4] at k5
  refine k5.mono ?_
  clear k5
  rintro e w6 ⟨rfl, h6, _⟩
  have H6 := Lib.hid h6
  clear h6
  go_wp2_with fail
  refine (num25_any _ _).mono ?_
  rintro e w6' ⟨rfl, rfl⟩
  go_wp2_with fail
  refine (held_any _ L [(2, true)] [(3, false)] w6 H6.out.own (by simp)).mono ?_
  rintro e w7 ⟨p7, c7, rfl, h7, _, b7⟩
  have H7 := Lib.hid (H6.out.below b7)
  have O7 := Lib.hid h7
  clear h7 b7
  have hba : Below w7.heap.size w7 (w7.alloc (.cells #[.int .i64 2, .bool true] 53)) := (Below.refl _ _).alloc (Nat.le_refl _) _
  have k7 := refSame_any p7 (some ⟨w7.heap.size, 0, none⟩) c7 1 [(2, true)] [(2, true)] (w7.alloc (.cells #[.int .i64 2, .bool true] 53)) (O7.out.below hba).rds (rds_lit [(2, true)] (World.alloc_heap_new w7 _) (by simp [maxLen]))
  rw [sameT_refl] at k7
  have K7 := Lib.hid k7
  have HB7 := Lib.hid hba
  clear k7 hba
  go_wp2_with fail
  refine K7.out.mono ?_
  rintro e w8 ⟨rfl, n8, h8⟩
  have H8 := Lib.hid (H7.out.below (show Below w7.heap.size w7 w8 from by rw [h8]; exact below_drewN HB7.out n8))
  clear h8 K7 HB7
  go_wp2_with fail
  have k8 := lt_free H8.out HK.out.2.2.2.2.1 2
  rw [row5] at k8
  refine k8.mono ?_
  clear k8
  rintro e w9 ⟨rfl, h9, _⟩
  have H9 := Lib.hid h9
  clear h9
  go_wp2_with fail
  refine (num25_any _ _).mono ?_
  rintro e w9' ⟨rfl, rfl⟩
  go_wp2_with fail
  refine (held_any _ L [(3, false)] [] w9 H9.out.own (by simp)).mono ?_
  rintro e w10 ⟨p10, c10, rfl, h10, _, b10⟩
  have H10 := Lib.hid (H9.out.below b10)
  have O10 := Lib.hid h10
  clear h10 b10
  have hba : Below w10.heap.size w10 (w10.alloc (.cells #[.int .i64 3, .bool false] 53)) := (Below.refl _ _).alloc (Nat.le_refl _) _
  have k10 := refSame_any p10 (some ⟨w10.heap.size, 0, none⟩) c10 1 [(3, false)] [(3, false)] (w10.alloc (.cells #[.int .i64 3, .bool false] 53)) (O10.out.below hba).rds (rds_lit [(3, false)] (World.alloc_heap_new w10 _) (by simp [maxLen]))
  rw [sameT_refl] at k10
  have K10 := Lib.hid k10
  have HB10 := Lib.hid hba
  clear k10 hba
  go_wp2_with fail
  refine K10.out.mono ?_
  rintro e w11 ⟨rfl, n11, h11⟩
  have H11 := Lib.hid (H10.out.below (show Below w10.heap.size w10 w11 from by rw [h11]; exact below_drewN HB10.out n11))
  clear h11 K10 HB10
  go_wp2_with fail
  have k11 := lt_ask H11.out HK.out.2.2.2.2.2 3 false
  rw [row6] at k11
  refine k11.mono ?_
  clear k11
  rintro e w12 ⟨rfl, h12, _⟩
  have H12 := Lib.hid h12
  clear h12
  go_wp2_with fail
  refine (num25_any _ _).mono ?_
  rintro e w12' ⟨rfl, rfl⟩
  go_wp2_with fail
  have k12 := lt_free H12.out HK.out.2.2.2.2.2 5
  rw [row7] at k12
  refine k12.mono ?_
  clear k12
  rintro e w13 ⟨rfl, h13, _⟩
  have H13 := Lib.hid h13
  clear h13
  go_wp2_with fail
  refine (num25_any _ _).mono ?_
  rintro e w13' ⟨rfl, rfl⟩
  go_wp2_with fail
  have k13 := lt_ask H13.out HK.out.2.2.2.2.2 8 false
  rw [row8] at k13
  refine k13.mono ?_
  clear k13
  rintro e w14 ⟨rfl, h14, _⟩
  have H14 := Lib.hid h14
  clear h14
  go_wp2_with fail
  refine (num25_any _ _).mono ?_
  rintro e w14' ⟨rfl, rfl⟩
  go_wp2_with fail
  go_ret
  exact ⟨rfl, H14.out.at_.1⟩
end Go.Proofs.Ythhdipfadnihjaa
