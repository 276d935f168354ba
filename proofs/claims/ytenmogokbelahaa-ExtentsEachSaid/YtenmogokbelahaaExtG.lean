/- The walks of the reference's map: has, List. -/
import Derived.Test.YtenmogokbelahaaExtF
import Derived.OwnWalk
namespace Go.Proofs.Ytenmogokbelahaa
open Go Go.RowKit

set_option maxRecDepth 100000 in
set_option maxHeartbeats 4000000 in
theorem hasT_any (t : List Int) (d : Int) (w : World) (ht : TabOk t) :
    Calls Try.prog 81 #[.agg (tb t).toArray, .int .i64 d] w fun e w' => e = .returned (.bool (decide (d ∈ t))) ∧ Below w.heap.size w w' := by
  have hn := TabAt.new w 95 t
  have hb1 := below_allocX w (.cells (tb t).toArray 95)
  obtain ⟨w1, hw1⟩ : ∃ w1, w.alloc (.cells (tb t).toArray 95) = w1 := ⟨_, rfl⟩
  obtain ⟨T, hT⟩ : ∃ T, w.heap.size = T := ⟨_, rfl⟩
  rw [hw1, hT] at hn
  rw [hw1] at hb1
  have HW := Lib.hid (And.intro hw1 (And.intro hT (And.intro hn hb1)))
  have HT := Lib.hid ht
  clear hw1 hT hn hb1 ht
  go_enter Try.func81, Try.ntmps81
  go_upto_region 1 with fail
  rw [HW.out.1, HW.out.2.1]
  go_wp2_with fail
  go_loopw [5] (fun i wr => ∃ k : Nat, k ≤ 128 ∧ i = .int .i64 k ∧ wr = w1 ∧ ∀ j (hj : j < t.length), j < k → t[j] ≠ d) (fun i _ => 128 - (intOf i).toNat)
  case atStart => exact ⟨0, Nat.zero_le _, rfl, rfl, fun j hj h => absurd h (Nat.not_lt_zero j)⟩
  case round =>
    obtain ⟨k, hk, rfl, hwr, hprev⟩ := hrel
    replace hwr := hwr.symm
    subst hwr
    by_cases hlt : k < 128
    · have hlt' : (k : Int) < 128 := by omega
      have hk0 : (0 : Int) ≤ (k : Int) := by omega
      have hkl : k < t.length := by rw [HT.out.len]; exact hlt
      have hc := (HW.out.2.2.1.cell k hkl).1
      obtain ⟨a, ha⟩ : ∃ a, t[k] = a := ⟨_, rfl⟩
      rw [ha] at hc
      have HA : Hid (∀ h : k < t.length, t[k] = a) := Lib.hid (fun _ => ha)
      have HP := Lib.hid hprev
      have HKL := Lib.hid hkl
      clear ha hprev hkl
      by_cases hd : a = d
      · have HD : Hid (d ∈ t) := Lib.hid (by rw [← hd, ← HA.out HKL.out]; exact List.getElem_mem _)
        subst hd
        go_wp2_with fail
        go_ret
        exact ⟨by rw [decide_eq_true HD.out]; rfl, HW.out.2.2.2⟩
      · have bd : (a == d) = false := beq_eq_false_iff_ne.2 hd
        have HD := Lib.hid hd
        clear hd
        go_wp2_with fail
        go_roundw
        case rel => exact ⟨k + 1, hlt, by go_num, trivial, fun j hj hjk => (Nat.lt_succ_iff_lt_or_eq.1 hjk).elim (fun h => HP.out j hj h) (fun h => by subst h; rw [HA.out hj]; exact HD.out)⟩
        case measure => simp [intOf]; omega
    · obtain rfl : k = 128 := by omega
      have HD : Hid (¬ d ∈ t) := Lib.hid (fun h => by obtain ⟨j, hj, he⟩ := List.mem_iff_getElem.1 h; exact hprev j hj (by rw [← HT.out.len]; exact hj) he)
      clear hprev hlt
      go_wp2_with fail
      go_ret
      exact ⟨by rw [decide_eq_false HD.out]; rfl, HW.out.2.2.2⟩
set_option maxRecDepth 100000 in
set_option maxHeartbeats 8000000 in
theorem refListT_any (t : List Int) (w : World) (ht : TabOk t) :
    Calls Try.prog 83 #[.agg (tb t).toArray] w fun e w' => ∃ p' cap', e = .returned (.slice p' (listX t 128).length cap') ∧ OwnX w' p' cap' (listX t 128) ∧ (∀ b, inP p' cap' b → w.heap.size ≤ b) ∧ Below w.heap.size w w' := by
  have hn := TabAt.new w 95 t
  have hb1 := below_allocX w (.cells (tb t).toArray 95)
  obtain ⟨w1, hw1⟩ : ∃ w1, w.alloc (.cells (tb t).toArray 95) = w1 := ⟨_, rfl⟩
  obtain ⟨T, hT⟩ : ∃ T, w.heap.size = T := ⟨_, rfl⟩
  rw [hw1, hT] at hn
  rw [hw1] at hb1
  have HW := Lib.hid (And.intro hw1 (And.intro hT (And.intro hn hb1)))
  have HT := Lib.hid ht
  clear hw1 hT hn hb1 ht
  go_enter Try.func83, Try.ntmps83
  go_upto_region 1 with fail
  rw [HW.out.1, HW.out.2.1]
  go_wp2_with fail
  go_loopw [3, 4] (fun x3 i wr => ∃ (k : Nat) (p : Option Addr) (cap : Nat), k ≤ 128 ∧ x3 = .slice p (listX t k).length cap ∧ i = .int .i64 k ∧ OwnX wr p cap (listX t k) ∧ (∀ b, inP p cap b → w1.heap.size ≤ b) ∧ Below w1.heap.size w1 wr) (fun _ i _ => 128 - (intOf i).toNat)
  case atStart => exact ⟨0, none, 0, Nat.zero_le _, rfl, rfl, OwnG.nil _ _ _ _ _, fun b hb => (by obtain ⟨x, hx, -⟩ := hb; cases hx), Below.refl _ _⟩
  case round =>
    obtain ⟨k, p, cap, hk, rfl, rfl, hown, hfr, hb⟩ := hrel
    have hsm := listX_small HT.out k hk
    by_cases hlt : k < 128
    · have hlt' : (k : Int) < 128 := by omega
      have hk0 : (0 : Int) ≤ (k : Int) := by omega
      have hkl : k < t.length := by rw [HT.out.len]; exact hlt
      have htk := HW.out.2.2.1.below hb
      have hc := (htk.cell k hkl).1
      obtain ⟨a, ha⟩ : ∃ a, t[k] = a := ⟨_, rfl⟩
      rw [ha] at hc
      have hgd : t.getD k 0 = a := by rw [List.getD_eq_getElem?_getD, List.getElem?_eq_getElem hkl]; exact ha
      obtain ⟨n, hn⟩ : ∃ n, (listX t k).length = n := ⟨_, rfl⟩
      rw [hn]
      have HN := Lib.hid hn
      have HO : Hid (OwnX wr p cap (listX t k) ∧ (∀ b, inP p cap b → w.heap.size ≤ b) ∧ Below w.heap.size w wr ∧ SmallX (listX t k) k ∧ n ≤ k) := Lib.hid ⟨hown, fun b hb2 => Nat.le_trans HW.out.2.2.2.size (hfr b hb2), HW.out.2.2.2.trans (hb.mono HW.out.2.2.2.size), hsm.1, by rw [← hn]; exact hsm.2⟩
      have HFR := Lib.hid (And.intro hfr hb)
      clear hfr hb hsm htk ha hkl
      by_cases ha0 : a = 0
      · have HR : Hid (listX t (k + 1) = listX t k) := Lib.hid (by show (if t.getD k 0 = 0 then _ else _) = _; rw [if_pos (hgd.trans ha0)])
        subst ha0
        clear hn hown
        go_wp2_with fail
        go_roundw
        case rel => exact ⟨k + 1, p, cap, hlt, by rw [HR.out, HN.out], by go_num, by rw [HR.out]; exact HO.out.1, HFR.out.1, HFR.out.2⟩
        case measure => simp [intOf]; omega
      · have ba : (a == 0) = false := beq_eq_false_iff_ne.2 ha0
        have HJ : Hid (listX t (k + 1) = joinX (listX t k) k a) := Lib.hid (by show (if t.getD k 0 = 0 then _ else _) = _; rw [if_neg (by rw [hgd]; exact ha0), hgd])
        clear ha0 hgd
        by_cases hn0 : n = 0
        · subst hn0
          have HR : Hid (listX t (k + 1) = listX t k ++ [((k : Int), a, (1 : Int))]) := Lib.hid (by rw [HJ.out, List.length_eq_zero_iff.1 HN.out]; exact joinX_nil _ _)
          clear hn hown
          go_wp2_with fail
          go_quiet (fail)
          have HOW : Hid (OwnX ((wr.drewN nq).alloc (.cells #[.int .i64 (k : Int), .int .i64 a, .int .i64 1] 81)) p cap (listX t k)) := Lib.hid (OwnG.below HO.out.1 ((below_drewN (Below.refl _ wr) nq).trans ((below_allocX (wr.drewN nq) _).mono (below_drewN (Below.refl wr.heap.size wr) nq).size)))
          go_wp2_with (at_builtin; go_loud (refine wpList_appG rfl (.tmp 59) (.tmp 65) _ rfl elem_exts (by decide) xc_len xc_one p cap (listX t k) [((k : Int), a, (1 : Int))] (by rw [HN.out]; rfl) HOW.out _ 1 1 rfl rfl 81 (0, 0) (World.alloc_heap_new _ _) (Nat.succ_pos _) ⟨by rw [HN.out]; have := HO.out.2.2.2.2; omega, by simp⟩ ?_)
                       rw [HN.out]
                       intro p' cap' w' happ)
          have HE : Hid (OwnX w' p' cap' (listX t (k + 1)) ∧ (∀ b, inP p' cap' b → w.heap.size ≤ b) ∧ Below w.heap.size w w' ∧ (listX t (k + 1)).length = 0 + 1 ∧ (∀ b, inP p' cap' b → w1.heap.size ≤ b) ∧ Below w1.heap.size w1 w') := Lib.hid (by
              rw [HR.out]
              have hfr := AppG.of ((Frn.of_below (below_drewN (Below.refl _ wr) nq)).trans (Frn.alloc _ _ _)) happ
              exact ⟨hfr.1, fun b hb => (hfr.2.2 b hb).elim (HO.out.2.1 b) (fun h => Nat.le_trans HO.out.2.2.1.size h.1), HO.out.2.2.1.trans (hfr.2.1.below HO.out.2.2.1.size HO.out.2.1), by rw [List.length_append, HN.out]; rfl, fun b hb => (hfr.2.2 b hb).elim (HFR.out.1 b) (fun h => Nat.le_trans HFR.out.2.size h.1), HFR.out.2.trans (hfr.2.1.below HFR.out.2.size HFR.out.1)⟩)
          clear happ
          skip
          go_roundw
          case rel => exact ⟨k + 1, p', cap', hlt, by rw [HE.out.2.2.2.1], by go_num, HE.out.1, HE.out.2.2.2.2⟩
          case measure => simp [intOf]; omega
        · obtain ⟨n', hn'⟩ : ∃ n', n' + 1 = n := ⟨n - 1, by omega⟩
          have hl : n' + 1 = (listX t k).length := by rw [hn]; exact hn'
          obtain ⟨g, o, rfl, hin, hx, hfz⟩ := OwnX.row hown n' (by omega)
          obtain ⟨x, hxe⟩ : ∃ x, (listX t k)[n']'(by omega) = x := ⟨_, rfl⟩
          have hsx := HO.out.2.2.2.1 x (hxe ▸ List.getElem_mem _)
          rw [hxe] at hx
          obtain ⟨f, d, m⟩ := x
          simp only at hx hsx
          obtain ⟨c0, c1, c2, hgl⟩ := hx
          have hnk := HO.out.2.2.2.2
          have hw0 : IntKind.i64.wrap ((n : Int) - 1) = (n' : Int) := by rw [IntKind.wrap_i64]; omega
          have hw1 : IntKind.i64.wrap (f + m) = f + m := by rw [IntKind.wrap_i64]; omega
          have hw2 : IntKind.i64.wrap (d + m) = d + m := by rw [IntKind.wrap_i64]; omega
          have hw3 : IntKind.i64.wrap (m + 1) = m + 1 := by rw [IntKind.wrap_i64]; omega
          have hnn : (n' : Int) < (n : Int) := by omega
          have hn9 : (0 : Int) ≤ (n' : Int) := by omega
          have HX := Lib.hid (And.intro (show ∀ h : n' < (listX t k).length, (listX t k)[n'] = (f, d, m) from fun _ => hxe) (And.intro hl hin))
          clear hn hown hxe hl hin hsx hn0 hn'
          by_cases e1 : f + m = (k : Int)
          · have b1 : (f + m == (k : Int)) = true := beq_iff_eq.2 e1
            by_cases e2 : d + m = a
            · have b2 : (d + m == a) = true := beq_iff_eq.2 e2
              have HR : Hid (listX t (k + 1) = (listX t k).set n' (f, d, m + 1)) := Lib.hid (by rw [HJ.out]; exact joinX_go HX.out.2.1 (HX.out.1 _) e1 e2)
              clear e1 e2
              go_wp2_with fail
              go_quiet (fail)
              go_wp2_with fail
              have HE : Hid (OwnX ((wr.drewN nq).setCell ⟨g, o + n' * 3 + 2, none⟩ (.int .i64 (m + 1))) (some ⟨g, o, none⟩) cap (listX t (k + 1)) ∧ Below w.heap.size w ((wr.drewN nq).setCell ⟨g, o + n' * 3 + 2, none⟩ (.int .i64 (m + 1))) ∧ (listX t (k + 1)).length = n ∧ Below w1.heap.size w1 ((wr.drewN nq).setCell ⟨g, o + n' * 3 + 2, none⟩ (.int .i64 (m + 1)))) := Lib.hid (by
                have hlt9 : n' < (listX t k).length := by have := HX.out.2.1; omega
                have h9 := OwnX.many (OwnG.below HO.out.1 (below_drewN (Below.refl _ wr) nq)) n' hlt9 (m + 1)
                rw [HX.out.1 hlt9] at h9
                rw [HR.out]
                exact ⟨h9, (below_drewN HO.out.2.2.1 nq).setCell (HO.out.2.1 g HX.out.2.2) _, by rw [List.length_set]; exact HN.out, (below_drewN HFR.out.2 nq).setCell (HFR.out.1 g HX.out.2.2) _⟩)
              go_roundw
              case rel => exact ⟨k + 1, _, cap, hlt, by rw [HE.out.2.2.1], by go_num, HE.out.1, HFR.out.1, HE.out.2.2.2⟩
              case measure => simp [intOf]; omega
            · have b2 : (d + m == a) = false := beq_eq_false_iff_ne.2 e2
              have HR : Hid (listX t (k + 1) = listX t k ++ [((k : Int), a, (1 : Int))]) := Lib.hid (by rw [HJ.out]; exact joinX_new HX.out.2.1 (HX.out.1 _) (fun h => e2 h.2))
              clear e1 e2
              go_wp2_with fail
              go_quiet (fail)
              have HOW : Hid (OwnX ((wr.drewN nq).alloc (.cells #[.int .i64 (k : Int), .int .i64 a, .int .i64 1] 81)) (some ⟨g, o, none⟩) cap (listX t k)) := Lib.hid (OwnG.below HO.out.1 ((below_drewN (Below.refl _ wr) nq).trans ((below_allocX (wr.drewN nq) _).mono (below_drewN (Below.refl wr.heap.size wr) nq).size)))
              go_wp2_with (at_builtin; go_loud (refine wpList_appG rfl (.tmp 59) (.tmp 65) _ rfl elem_exts (by decide) xc_len xc_one (some ⟨g, o, none⟩) cap (listX t k) [((k : Int), a, (1 : Int))] (by rw [HN.out]; rfl) HOW.out _ 1 1 rfl rfl 81 (0, 0) (World.alloc_heap_new _ _) (Nat.succ_pos _) ⟨by rw [HN.out]; have := HO.out.2.2.2.2; omega, by simp⟩ ?_)
                           rw [HN.out]
                           intro p' cap' w' happ)
              have HE : Hid (OwnX w' p' cap' (listX t (k + 1)) ∧ (∀ b, inP p' cap' b → w.heap.size ≤ b) ∧ Below w.heap.size w w' ∧ (listX t (k + 1)).length = n + 1 ∧ (∀ b, inP p' cap' b → w1.heap.size ≤ b) ∧ Below w1.heap.size w1 w') := Lib.hid (by
                  rw [HR.out]
                  have hfr := AppG.of ((Frn.of_below (below_drewN (Below.refl _ wr) nq)).trans (Frn.alloc _ _ _)) happ
                  exact ⟨hfr.1, fun b hb => (hfr.2.2 b hb).elim (HO.out.2.1 b) (fun h => Nat.le_trans HO.out.2.2.1.size h.1), HO.out.2.2.1.trans (hfr.2.1.below HO.out.2.2.1.size HO.out.2.1), by rw [List.length_append, HN.out]; rfl, fun b hb => (hfr.2.2 b hb).elim (HFR.out.1 b) (fun h => Nat.le_trans HFR.out.2.size h.1), HFR.out.2.trans (hfr.2.1.below HFR.out.2.size HFR.out.1)⟩)
              clear happ
              skip
              go_roundw
              case rel => exact ⟨k + 1, p', cap', hlt, by rw [HE.out.2.2.2.1], by go_num, HE.out.1, HE.out.2.2.2.2⟩
              case measure => simp [intOf]; omega
          · have b1 : (f + m == (k : Int)) = false := beq_eq_false_iff_ne.2 e1
            have HR : Hid (listX t (k + 1) = listX t k ++ [((k : Int), a, (1 : Int))]) := Lib.hid (by rw [HJ.out]; exact joinX_new HX.out.2.1 (HX.out.1 _) (fun h => e1 h.1))
            clear e1
            go_wp2_with fail
            go_quiet (fail)
            have HOW : Hid (OwnX ((wr.drewN nq).alloc (.cells #[.int .i64 (k : Int), .int .i64 a, .int .i64 1] 81)) (some ⟨g, o, none⟩) cap (listX t k)) := Lib.hid (OwnG.below HO.out.1 ((below_drewN (Below.refl _ wr) nq).trans ((below_allocX (wr.drewN nq) _).mono (below_drewN (Below.refl wr.heap.size wr) nq).size)))
            go_wp2_with (at_builtin; go_loud (refine wpList_appG rfl (.tmp 59) (.tmp 65) _ rfl elem_exts (by decide) xc_len xc_one (some ⟨g, o, none⟩) cap (listX t k) [((k : Int), a, (1 : Int))] (by rw [HN.out]; rfl) HOW.out _ 1 1 rfl rfl 81 (0, 0) (World.alloc_heap_new _ _) (Nat.succ_pos _) ⟨by rw [HN.out]; have := HO.out.2.2.2.2; omega, by simp⟩ ?_)
                         rw [HN.out]
                         intro p' cap' w' happ)
            have HE : Hid (OwnX w' p' cap' (listX t (k + 1)) ∧ (∀ b, inP p' cap' b → w.heap.size ≤ b) ∧ Below w.heap.size w w' ∧ (listX t (k + 1)).length = n + 1 ∧ (∀ b, inP p' cap' b → w1.heap.size ≤ b) ∧ Below w1.heap.size w1 w') := Lib.hid (by
                rw [HR.out]
                have hfr := AppG.of ((Frn.of_below (below_drewN (Below.refl _ wr) nq)).trans (Frn.alloc _ _ _)) happ
                exact ⟨hfr.1, fun b hb => (hfr.2.2 b hb).elim (HO.out.2.1 b) (fun h => Nat.le_trans HO.out.2.2.1.size h.1), HO.out.2.2.1.trans (hfr.2.1.below HO.out.2.2.1.size HO.out.2.1), by rw [List.length_append, HN.out]; rfl, fun b hb => (hfr.2.2 b hb).elim (HFR.out.1 b) (fun h => Nat.le_trans HFR.out.2.size h.1), HFR.out.2.trans (hfr.2.1.below HFR.out.2.size HFR.out.1)⟩)
            clear happ
            skip
            go_roundw
            case rel => exact ⟨k + 1, p', cap', hlt, by rw [HE.out.2.2.2.1], by go_num, HE.out.1, HE.out.2.2.2.2⟩
            case measure => simp [intOf]; omega
    · obtain rfl : k = 128 := by omega
      have HE : Hid (OwnX wr p cap (listX t 128) ∧ (∀ b, inP p cap b → w.heap.size ≤ b) ∧ Below w.heap.size w wr) := Lib.hid ⟨hown, fun b hb2 => Nat.le_trans HW.out.2.2.2.size (hfr b hb2), HW.out.2.2.2.trans (hb.mono HW.out.2.2.2.size)⟩
      clear hown hfr hb hsm hlt
      go_wp2_with fail
      go_ret
      exact ⟨p, cap, rfl, HE.out⟩
end Go.Proofs.Ytenmogokbelahaa
