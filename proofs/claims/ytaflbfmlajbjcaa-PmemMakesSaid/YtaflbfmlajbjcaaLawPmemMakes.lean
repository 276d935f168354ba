/- The law PmemMakes. -/
import Derived.Test.YtaflbfmlajbjcaaPmeN
import Derived.Test.YtaflbfmlajbjcaaPmeD
namespace Go.Proofs.Ytaflbfmlajbjcaa
open Go Go.RowKit

theorem lenM_at {O : Nat} {m : Mem} {N : Nat → Prop} (n : Nat) (W : World) (h : MAt W O m N) (hn : 8 * m.length = n) : Calls Try.prog 32 #[.pointer (some ⟨O, 0, none⟩)] W fun e w' => e = .returned (.int .i64 (n : Int)) ∧ W = w' := by
  obtain ⟨p1, c1, p2, c2, b, n', hr⟩ := h
  have := lenM_any W hr.cells.1 hr.pos hr.le
  rw [← hr.len, hn] at this
  exact this
theorem noneM_at {O : Nat} {m : Mem} {N : Nat → Prop} (W : World) (h : MAt W O m N) : Calls Try.prog 53 #[.pointer (some ⟨O, 0, none⟩)] W fun e w' => e = .returned (.bool false) ∧ W = w' := by
  obtain ⟨p1, c1, p2, c2, b, n', hr⟩ := h
  exact noneM_any W hr.cells.1 hr.pos
set_option maxRecDepth 100000 in
set_option maxHeartbeats 8000000 in
theorem lawPmemMakes (k : Int) (W : World) : Calls Try.prog 7 #[.int .i64 k] W fun e w' => e = .returned (.bool true) ∧ Below W.heap.size W w' := by
  by_cases hk : RightN k
  · obtain ⟨h8, hmx, hmd⟩ := hk
    obtain ⟨n, rfl⟩ : ∃ n : Nat, k = n := ⟨k.toNat, by omega⟩
    have HNEW := Lib.hid (newM_any n W (by omega) (by omega) (by omega))
    have HR := Lib.hid (fun w => right7_yes n w (by omega))
    have HLN := Lib.hid (show 8 * (Mem.of (linesOf (List.replicate n 0#64))).length = n by rw [of_len, linesOf_len, List.length_replicate]; omega)
    have hee : ((n : Int) == (n : Int)) = true := beq_self_eq_true _
    clear h8 hmx hmd
    go_enter Try.func7, Try.ntmps7
    go_wp2_with fail
    refine HNEW.out.mono ?_
    rintro e w1 ⟨O, N, rfl, hm, -, hb⟩
    have H1 := Lib.hid (And.intro hm hb)
    clear hm hb HNEW
    go_wp2_with fail
    refine (num7_any _ _).mono ?_
    rintro e w' ⟨rfl, rfl⟩
    go_wp2_with fail
    refine (HR.out _).mono ?_
    rintro e w' ⟨rfl, rfl⟩
    go_wp2_with fail
    refine (num7_any _ _).mono ?_
    rintro e w' ⟨rfl, rfl⟩
    go_wp2_with fail
    refine (num7_any _ _).mono ?_
    rintro e w' ⟨rfl, rfl⟩
    go_wp2_with fail
    obtain ⟨wz, hwz⟩ : ∃ wz, w'.alloc (.cells #[.slice none 0 0, .slice none 0 0, .map none] 64) = wz := ⟨_, rfl⟩
    have hbz : Below w'.heap.size w' wz := by rw [← hwz]; exact below_alloc _ _
    obtain ⟨Z, hZ⟩ : ∃ Z, w'.heap.size = Z := ⟨_, rfl⟩
    have hz : NoM wz (some ⟨Z, 0, none⟩) := .inr ⟨Z, none, 0, rfl, by rw [← hwz, ← hZ, World.cell?, World.alloc_heap_new]; rfl⟩
    rw [hwz]
    rw [hZ]
    have HX := Lib.hid (And.intro (H1.out.1.below hbz) (And.intro hz (H1.out.2.trans (hbz.mono H1.out.2.size))))
    clear hwz hbz hz H1 hZ
    go_wp2_with fail
    refine (loadM_no 0 _ (.inl rfl)).mono ?_
    rintro e w' ⟨rfl, rfl⟩
    go_wp2_with fail
    refine (loadM_no 0 _ HX.out.2.1).mono ?_
    rintro e w' ⟨rfl, rfl⟩
    go_wp2_with fail
    refine (crashM_no _ _ (.inl rfl) rfl).mono ?_
    rintro e w2 ⟨rfl, hb⟩
    have HY := Lib.hid (And.intro (HX.out.1.below hb) (And.intro (HX.out.2.1.below hb) (HX.out.2.2.trans (hb.mono HX.out.2.2.size))))
    have hmk : (Instr.makeSlice 22 (.int .i64 12) (.int .i64 12)).run Try.prog w2 = .ok (.slice (some ⟨w2.heap.size, 0, none⟩) 12 12) (w2.alloc (.cells (Array.replicate 12 (vw 0#64)) 36)) := made_w64 12 (by decide) w2
    obtain ⟨w3, hw3⟩ : ∃ w3, w2.alloc (.cells (Array.replicate 12 (vw 0#64)) 36) = w3 := ⟨_, rfl⟩
    have hb3 : Below w2.heap.size w2 w3 := by rw [← hw3]; exact below_alloc _ _
    rw [hw3] at hmk
    have HX := Lib.hid (And.intro (HY.out.1.below hb3) (And.intro (HY.out.2.1.below hb3) (HY.out.2.2.trans (hb3.mono HY.out.2.2.size))))
    clear hb hw3 hb3 HY
    go_wp2_with fail
    refine (of_bad _ 12 12 _ (by unfold RightN; omega)).mono ?_
    rintro e w' ⟨rfl, rfl⟩
    clear hmk
    go_wp2_with fail
    refine (num7_any _ _).mono ?_
    rintro e w' ⟨rfl, rfl⟩
    go_wp2_with fail
    refine (num7_any _ _).mono ?_
    rintro e w' ⟨rfl, rfl⟩
    go_wp2_with fail
    refine (num7_any _ _).mono ?_
    rintro e w' ⟨rfl, rfl⟩
    go_wp2_with fail
    refine (storeM_no 0 0#64 _ (.inl rfl)).mono ?_
    rintro e w' ⟨rfl, rfl⟩
    go_wp2_with fail
    refine (num7_any _ _).mono ?_
    rintro e w' ⟨rfl, rfl⟩
    go_wp2_with fail
    refine (flushM_no 0 _ HX.out.2.1).mono ?_
    rintro e w3 ⟨rfl, hb⟩
    have HY := Lib.hid (And.intro (HX.out.1.below hb) (And.intro (HX.out.2.1.below hb) (HX.out.2.2.trans (hb.mono HX.out.2.2.size))))
    clear hb HX
    have HX := HY
    clear HY
    go_wp2_with fail
    refine (num7_any _ _).mono ?_
    rintro e w' ⟨rfl, rfl⟩
    go_wp2_with fail
    refine (fenceM_no _ (.inl rfl)).mono ?_
    rintro e w4 ⟨rfl, hb⟩
    have HY := Lib.hid (And.intro (HX.out.1.below hb) (And.intro (HX.out.2.1.below hb) (HX.out.2.2.trans (hb.mono HX.out.2.2.size))))
    clear hb HX
    have HX := HY
    clear HY
    go_wp2_with fail
    refine (num7_any _ _).mono ?_
    rintro e w' ⟨rfl, rfl⟩
    go_wp2_with fail
    refine (evictM_no 0 _ HX.out.2.1).mono ?_
    rintro e w5 ⟨rfl, hb⟩
    have HY := Lib.hid (And.intro (HX.out.1.below hb) (And.intro (HX.out.2.1.below hb) (HX.out.2.2.trans (hb.mono HX.out.2.2.size))))
    clear hb HX
    have HX := HY
    clear HY
    go_wp2_with fail
    refine (num7_any _ _).mono ?_
    rintro e w' ⟨rfl, rfl⟩
    go_wp2_with fail
    refine (num7_any _ _).mono ?_
    rintro e w' ⟨rfl, rfl⟩
    go_wp2_with fail
    refine (opens7_none _).mono ?_
    rintro e w6 ⟨rfl, hb⟩
    have HY := Lib.hid (And.intro (HX.out.1.below hb) (And.intro (HX.out.2.1.below hb) (HX.out.2.2.trans (hb.mono HX.out.2.2.size))))
    clear hb HX
    have HX := HY
    clear HY
    go_wp2_with fail
    refine (lenM_no _ (.inl rfl)).mono ?_
    rintro e w' ⟨rfl, rfl⟩
    go_wp2_with fail
    refine (lenM_no _ HX.out.2.1).mono ?_
    rintro e w' ⟨rfl, rfl⟩
    go_wp2_with fail
    refine (imageM_no _ (.inl rfl)).mono ?_
    rintro e w' ⟨rfl, rfl⟩
    go_wp2_with fail
    refine (lastingM_no _ HX.out.2.1).mono ?_
    rintro e w' ⟨rfl, rfl⟩
    go_wp2_with fail
    refine (copyM_no _ (.inl rfl)).mono ?_
    rintro e w' ⟨rfl, rfl⟩
    go_wp2_with fail
    refine (sameM_nono _ (.inl rfl) HX.out.2.1).mono ?_
    rintro e w' ⟨rfl, rfl⟩
    go_wp2_with fail
    refine (lenM_at n _ HX.out.1 HLN.out).mono ?_
    rintro e w' ⟨rfl, rfl⟩
    go_wp2_with fail
    refine (sameM_Ono _ (.inl rfl) (noneM_at _ HX.out.1)).mono ?_
    rintro e w' ⟨rfl, rfl⟩
    go_wp2_with fail
    refine (sameM_noO _ (.inl rfl) (noneM_at _ HX.out.1)).mono ?_
    rintro e w' ⟨rfl, rfl⟩
    go_wp2_with fail
    refine (works7_any _).mono ?_
    rintro e w9 ⟨rfl, hb⟩
    have HB := Lib.hid (HX.out.2.2.trans (hb.mono HX.out.2.2.size))
    clear hb HX
    go_wp2_with fail
    go_ret
    exact ⟨rfl, HB.out⟩
  · have HNEW := Lib.hid (newM_bad k W hk)
    have HR := Lib.hid (show ∀ w, Calls Try.prog 11 #[.int .i64 k] w fun e w' => e = .returned (.bool false) ∧ w = w' from fun w => by have := right7_any k w; rwa [decide_eq_false (by unfold RightN at hk; omega)] at this)
    clear hk
    go_enter Try.func7, Try.ntmps7
    go_wp2_with fail
    refine HNEW.out.mono ?_
    rintro e w1 ⟨rfl, hb⟩
    have H1 := Lib.hid (And.intro True.intro hb)
    clear hb HNEW
    go_wp2_with fail
    refine (num7_any _ _).mono ?_
    rintro e w' ⟨rfl, rfl⟩
    go_wp2_with fail
    refine (HR.out _).mono ?_
    rintro e w' ⟨rfl, rfl⟩
    go_wp2_with fail
    refine (num7_any _ _).mono ?_
    rintro e w' ⟨rfl, rfl⟩
    go_wp2_with fail
    refine (num7_any _ _).mono ?_
    rintro e w' ⟨rfl, rfl⟩
    go_wp2_with fail
    refine (num7_any _ _).mono ?_
    rintro e w' ⟨rfl, rfl⟩
    go_wp2_with fail
    obtain ⟨wz, hwz⟩ : ∃ wz, w'.alloc (.cells #[.slice none 0 0, .slice none 0 0, .map none] 64) = wz := ⟨_, rfl⟩
    have hbz : Below w'.heap.size w' wz := by rw [← hwz]; exact below_alloc _ _
    obtain ⟨Z, hZ⟩ : ∃ Z, w'.heap.size = Z := ⟨_, rfl⟩
    have hz : NoM wz (some ⟨Z, 0, none⟩) := .inr ⟨Z, none, 0, rfl, by rw [← hwz, ← hZ, World.cell?, World.alloc_heap_new]; rfl⟩
    rw [hwz]
    rw [hZ]
    have HX := Lib.hid (And.intro H1.out.1 (And.intro hz (H1.out.2.trans (hbz.mono H1.out.2.size))))
    clear hwz hbz hz H1 hZ
    go_wp2_with fail
    refine (loadM_no 0 _ (.inl rfl)).mono ?_
    rintro e w' ⟨rfl, rfl⟩
    go_wp2_with fail
    refine (loadM_no 0 _ HX.out.2.1).mono ?_
    rintro e w' ⟨rfl, rfl⟩
    go_wp2_with fail
    refine (crashM_no _ _ (.inl rfl) rfl).mono ?_
    rintro e w2 ⟨rfl, hb⟩
    have HY := Lib.hid (And.intro HX.out.1 (And.intro (HX.out.2.1.below hb) (HX.out.2.2.trans (hb.mono HX.out.2.2.size))))
    have hmk : (Instr.makeSlice 22 (.int .i64 12) (.int .i64 12)).run Try.prog w2 = .ok (.slice (some ⟨w2.heap.size, 0, none⟩) 12 12) (w2.alloc (.cells (Array.replicate 12 (vw 0#64)) 36)) := made_w64 12 (by decide) w2
    obtain ⟨w3, hw3⟩ : ∃ w3, w2.alloc (.cells (Array.replicate 12 (vw 0#64)) 36) = w3 := ⟨_, rfl⟩
    have hb3 : Below w2.heap.size w2 w3 := by rw [← hw3]; exact below_alloc _ _
    rw [hw3] at hmk
    have HX := Lib.hid (And.intro HY.out.1 (And.intro (HY.out.2.1.below hb3) (HY.out.2.2.trans (hb3.mono HY.out.2.2.size))))
    clear hb hw3 hb3 HY
    go_wp2_with fail
    refine (of_bad _ 12 12 _ (by unfold RightN; omega)).mono ?_
    rintro e w' ⟨rfl, rfl⟩
    clear hmk
    go_wp2_with fail
    refine (num7_any _ _).mono ?_
    rintro e w' ⟨rfl, rfl⟩
    go_wp2_with fail
    refine (num7_any _ _).mono ?_
    rintro e w' ⟨rfl, rfl⟩
    go_wp2_with fail
    refine (num7_any _ _).mono ?_
    rintro e w' ⟨rfl, rfl⟩
    go_wp2_with fail
    refine (storeM_no 0 0#64 _ (.inl rfl)).mono ?_
    rintro e w' ⟨rfl, rfl⟩
    go_wp2_with fail
    refine (num7_any _ _).mono ?_
    rintro e w' ⟨rfl, rfl⟩
    go_wp2_with fail
    refine (flushM_no 0 _ HX.out.2.1).mono ?_
    rintro e w3 ⟨rfl, hb⟩
    have HY := Lib.hid (And.intro HX.out.1 (And.intro (HX.out.2.1.below hb) (HX.out.2.2.trans (hb.mono HX.out.2.2.size))))
    clear hb HX
    have HX := HY
    clear HY
    go_wp2_with fail
    refine (num7_any _ _).mono ?_
    rintro e w' ⟨rfl, rfl⟩
    go_wp2_with fail
    refine (fenceM_no _ (.inl rfl)).mono ?_
    rintro e w4 ⟨rfl, hb⟩
    have HY := Lib.hid (And.intro HX.out.1 (And.intro (HX.out.2.1.below hb) (HX.out.2.2.trans (hb.mono HX.out.2.2.size))))
    clear hb HX
    have HX := HY
    clear HY
    go_wp2_with fail
    refine (num7_any _ _).mono ?_
    rintro e w' ⟨rfl, rfl⟩
    go_wp2_with fail
    refine (evictM_no 0 _ HX.out.2.1).mono ?_
    rintro e w5 ⟨rfl, hb⟩
    have HY := Lib.hid (And.intro HX.out.1 (And.intro (HX.out.2.1.below hb) (HX.out.2.2.trans (hb.mono HX.out.2.2.size))))
    clear hb HX
    have HX := HY
    clear HY
    go_wp2_with fail
    refine (num7_any _ _).mono ?_
    rintro e w' ⟨rfl, rfl⟩
    go_wp2_with fail
    refine (num7_any _ _).mono ?_
    rintro e w' ⟨rfl, rfl⟩
    go_wp2_with fail
    refine (opens7_none _).mono ?_
    rintro e w6 ⟨rfl, hb⟩
    have HY := Lib.hid (And.intro HX.out.1 (And.intro (HX.out.2.1.below hb) (HX.out.2.2.trans (hb.mono HX.out.2.2.size))))
    clear hb HX
    have HX := HY
    clear HY
    go_wp2_with fail
    refine (lenM_no _ (.inl rfl)).mono ?_
    rintro e w' ⟨rfl, rfl⟩
    go_wp2_with fail
    refine (lenM_no _ HX.out.2.1).mono ?_
    rintro e w' ⟨rfl, rfl⟩
    go_wp2_with fail
    refine (imageM_no _ (.inl rfl)).mono ?_
    rintro e w' ⟨rfl, rfl⟩
    go_wp2_with fail
    refine (lastingM_no _ HX.out.2.1).mono ?_
    rintro e w' ⟨rfl, rfl⟩
    go_wp2_with fail
    refine (copyM_no _ (.inl rfl)).mono ?_
    rintro e w' ⟨rfl, rfl⟩
    go_wp2_with fail
    refine (sameM_nono _ (.inl rfl) HX.out.2.1).mono ?_
    rintro e w' ⟨rfl, rfl⟩
    go_wp2_with fail
    refine (works7_any _).mono ?_
    rintro e w9 ⟨rfl, hb⟩
    have HB := Lib.hid (HX.out.2.2.trans (hb.mono HX.out.2.2.size))
    clear hb HX
    go_wp2_with fail
    go_ret
    exact ⟨rfl, HB.out⟩
end Go.Proofs.Ytaflbfmlajbjcaa
