/- The walk of extents.Of: the map of words. -/
import Derived.Test.YtenmogokbelahaaExtP
import Derived.OwnWalk
namespace Go.Proofs.Ytenmogokbelahaa
open Go Go.RowKit

theorem wrd_index (ws : List (BitVec 64)) (hl : ws.length = 10) (k : Nat) (hk : k < 10) (W : World) : (Instr.index 101 (.agg (tw ws).toArray) (.int .i64 k)).run Try.prog W = .ok (vw (ws[k]'(by omega))) W := by
  have h : (tw ws)[k]? = some (vw (ws[k]'(by omega))) := by simp [tw, hl, hk]
  unfold Instr.index
  go_simp
theorem tab_index (t : List Int) (hl : t.length = 128) (k : Nat) (hk : k < 128) (W : World) : (Instr.index 132 (.agg (tb t).toArray) (.int .i64 k)).run Try.prog W = .ok (.int .i64 (t[k]'(by omega))) W := by
  have h : (tb t)[k]? = some (.int .i64 (t[k]'(by omega))) := by simp [tb, hl, hk]
  unfold Instr.index
  go_simp
def unTo (ws : List (BitVec 64)) (k : Nat) : List Ext3 := unL (ws.take k)
theorem unTo_zero (ws : List (BitVec 64)) : unTo ws 0 = [] := by simp [unTo, unL]
theorem unTo_succ (ws : List (BitVec 64)) (k : Nat) (hk : k < ws.length) : unTo ws (k + 1) = if ws[k] = 0#64 then unTo ws k else unTo ws k ++ [unX ws[k]] := by
  unfold unTo unL
  rw [List.take_succ_eq_append_getElem hk, List.filter_append, List.map_append]
  by_cases h : ws[k] = 0#64
  · rw [if_pos h]; simp [h]
  · rw [if_neg h]; simp [h]
theorem unTo_all (ws : List (BitVec 64)) : unTo ws ws.length = unL ws := by unfold unTo; rw [List.take_length]
theorem unTo_len (ws : List (BitVec 64)) (k : Nat) : (unTo ws k).length ≤ k := by
  unfold unTo unL
  rw [List.length_map]
  refine Nat.le_trans (List.length_filter_le _ _) ?_
  rw [List.length_take]
  exact Nat.min_le_left _ _
set_option maxRecDepth 100000 in
set_option maxHeartbeats 8000000 in
theorem eOf_any (ws : List (BitVec 64)) (hl : ws.length = 10) (w : World) :
    Calls Try.prog 52 #[.agg (tw ws).toArray] w fun e w' => ∃ p c, e = .returned (.tuple #[.slice p (readL ws).1.length c, .int .i64 (readL ws).2]) ∧ OwnX w' p c (readL ws).1 ∧ (∀ b, inP p c b → w.heap.size ≤ b) ∧ Below w.heap.size w w' := by
  have hx := WrdAt.new w ws
  have hb0 := below_allocX w (.cells (tw ws).toArray 101)
  obtain ⟨wb, hwb⟩ : ∃ wb, w.alloc (.cells (tw ws).toArray 101) = wb := ⟨_, rfl⟩
  obtain ⟨X, hX⟩ : ∃ X, w.heap.size = X := ⟨_, rfl⟩
  rw [hwb, hX] at hx
  rw [hwb] at hb0
  have HXB := Lib.hid (And.intro hwb hX)
  have HX := Lib.hid (And.intro hx hb0)
  have HL := Lib.hid hl
  clear hx hb0 hwb hX hl
  go_enter Try.func52, Try.ntmps52
  go_upto_region 2 with fail
  rw [HXB.out.1, HXB.out.2]
  go_wp2_with (refine wpList_load_mid rfl 101 (.tmp 1) rfl X 0 rfl (tw ws) (.array 10 23) HX.out.1.range (by kernel_rfl) rfl (by rw [tw_len, HL.out]; kernel_rfl) ?_)
  go_loopw [4, 16] (fun x4 i wr => ∃ (k : Nat) (p : Option Addr) (cap : Nat), k ≤ 10 ∧ x4 = .slice p (unTo ws k).length cap ∧ i = .int .i64 k ∧ OwnX wr p cap (unTo ws k) ∧ (∀ b, inP p cap b → wb.heap.size ≤ b) ∧ Below wb.heap.size wb wr) (fun _ i _ => 10 - (intOf i).toNat)
  case atStart => exact ⟨0, none, 0, Nat.zero_le _, by rw [unTo_zero]; rfl, rfl, by rw [unTo_zero]; exact OwnG.nil _ _ _ _ _, fun b hb => (by obtain ⟨x, hx, -⟩ := hb; cases hx), Below.refl _ _⟩
  case round =>
    obtain ⟨k, p, cap, hk, rfl, rfl, hown, hfr, hb⟩ := hrel
    by_cases hlt : k < 10
    · have hlt' : (k : Int) < 10 := by omega
      have hk0 : (0 : Int) ≤ (k : Int) := by omega
      have hkl : k < ws.length := by rw [HL.out]; exact hlt
      have hix := wrd_index ws HL.out k hlt
      have hsu := unTo_succ ws k hkl
      have hln := unTo_len ws k
      obtain ⟨x, hx⟩ : ∃ x, ws[k] = x := ⟨_, rfl⟩
      rw [hx] at hix hsu
      obtain ⟨V, hV⟩ : ∃ V : Int, (x.toNat : Int) = V := ⟨_, rfl⟩
      have hvw : vw x = .int .u64 V := by unfold vw; rw [hV]
      rw [hvw] at hix
      have hf1 := fun W => fieldIn_any x 0 16 W (by decide) (by decide)
      have hf2 := fun W => fieldIn_any x 16 24 W (by decide) (by decide)
      have hf3 := fun W => fieldIn_any x 40 16 W (by decide) (by decide)
      have l1 := field_lt x 0 16 (by decide)
      have l2 := field_lt x 16 24 (by decide)
      have l3 := field_lt x 40 16 (by decide)
      rw [hvw] at hf1 hf2 hf3
      unfold vw at hf1 hf2 hf3
      obtain ⟨A1, hA1⟩ : ∃ A, (fieldW x 0 16).toNat = A := ⟨_, rfl⟩
      obtain ⟨A2, hA2⟩ : ∃ A, (fieldW x 16 24).toNat = A := ⟨_, rfl⟩
      obtain ⟨A3, hA3⟩ : ∃ A, (fieldW x 40 16).toNat = A := ⟨_, rfl⟩
      rw [hA1] at hf1 l1
      rw [hA2] at hf2 l2
      rw [hA3] at hf3 l3
      have hw1 : IntKind.i64.wrap (A1 : Int) = (A1 : Int) := by rw [IntKind.wrap_i64]; omega
      have hw2 : IntKind.i64.wrap (A2 : Int) = (A2 : Int) := by rw [IntKind.wrap_i64]; omega
      have hw3 : IntKind.i64.wrap (A3 : Int) = (A3 : Int) := by rw [IntKind.wrap_i64]; omega
      have hun : unX x = ((A1 : Int), (A2 : Int), (A3 : Int)) := by unfold unX; rw [hA1, hA2, hA3]
      rw [hun] at hsu
      have HF1 := Lib.hid hf1
      have HF2 := Lib.hid hf2
      have HF3 := Lib.hid hf3
      obtain ⟨n, hn⟩ : ∃ n, (unTo ws k).length = n := ⟨_, rfl⟩
      rw [hn]
      have HN := Lib.hid hn
      have HO := Lib.hid (And.intro hown (And.intro hfr (And.intro hb (show n ≤ 10 by omega))))
      clear hown hfr hb hx hvw hf1 hf2 hf3 l1 l2 l3 hA1 hA2 hA3 hun hn hln hkl
      by_cases h0 : x = 0#64
      · have b0 : (V == 0) = true := by rw [← hV, h0]; rfl
        have HR : Hid (unTo ws (k + 1) = unTo ws k) := Lib.hid (by rw [hsu, if_pos h0])
        clear h0 hV hsu
        go_wp2_with fail
        go_roundw
        case rel => exact ⟨k + 1, p, cap, hlt, by rw [HR.out, HN.out], by go_num, by rw [HR.out]; exact HO.out.1, HO.out.2.1, HO.out.2.2.1⟩
        case measure => simp [intOf]; omega
      · have b0 : (V == 0) = false := by rw [beq_eq_false_iff_ne, ← hV]; exact fun e => h0 (BitVec.eq_of_toNat_eq (by rw [Int.natCast_eq_zero.1 e]; rfl))
        have HR : Hid (unTo ws (k + 1) = unTo ws k ++ [((A1 : Int), (A2 : Int), (A3 : Int))]) := Lib.hid (by rw [hsu, if_neg h0])
        clear h0 hV hsu
        go_wp2_with fail
        refine (HF1.out _).mono ?_
        rintro e w1 ⟨rfl, hw9⟩
        subst hw9
        go_wp2_with fail
        refine (HF2.out _).mono ?_
        rintro e w1 ⟨rfl, hw9⟩
        subst hw9
        go_wp2_with fail
        refine (HF3.out _).mono ?_
        rintro e w1 ⟨rfl, hw9⟩
        subst hw9
        have HOW : Hid (OwnX (wr.alloc (.cells #[.int .i64 (A1 : Int), .int .i64 (A2 : Int), .int .i64 (A3 : Int)] 81)) p cap (unTo ws k)) := Lib.hid (OwnG.below HO.out.1 (below_allocX wr _))
        go_wp2_with (at_builtin; refine wpList_appG rfl (.tmp 36) (.tmp 44) _ rfl elem_exts (by decide) xc_len xc_one p cap (unTo ws k) [((A1 : Int), (A2 : Int), (A3 : Int))] (by rw [HN.out]; rfl) HOW.out _ 1 1 rfl rfl 81 (0, 0) (World.alloc_heap_new _ _) (Nat.succ_pos _) ⟨by rw [HN.out]; have := HO.out.2.2.2; omega, by simp⟩ ?_
                     rw [HN.out]
                     intro p' cap' w' happ)
        have HE : Hid (OwnX w' p' cap' (unTo ws (k + 1)) ∧ (∀ b, inP p' cap' b → wb.heap.size ≤ b) ∧ Below wb.heap.size wb w' ∧ (unTo ws (k + 1)).length = n + 1) := Lib.hid (by
          rw [HR.out]
          have hfr := AppG.of (Frn.alloc _ wr _) happ
          exact ⟨hfr.1, fun b hb => (hfr.2.2 b hb).elim (HO.out.2.1 b) (fun h => Nat.le_trans HO.out.2.2.1.size h.1), HO.out.2.2.1.trans (hfr.2.1.below HO.out.2.2.1.size HO.out.2.1), by rw [List.length_append, HN.out]; rfl⟩)
        clear happ
        go_roundw
        case rel => exact ⟨k + 1, p', cap', hlt, by rw [HE.out.2.2.2], by go_num, HE.out.1, HE.out.2.1, HE.out.2.2.1⟩
        case measure => simp [intOf]; omega
    · obtain rfl : k = 10 := by omega
      have hua : unTo ws 10 = unL ws := by rw [← HL.out]; exact unTo_all ws
      rw [hua] at hown ⊢
      have hwd := wordsE_any p cap (unL ws) wr (OwnG.rds xc_len hown)
      obtain ⟨n, hn⟩ : ∃ n, (unL ws).length = n := ⟨_, rfl⟩
      rw [hn] at hwd ⊢
      have HN := Lib.hid hn
      have HWD := Lib.hid hwd
      have HO := Lib.hid (And.intro hown (And.intro hfr hb))
      clear hown hfr hb hua hwd hn hlt
      go_wp2_with fail
      refine HWD.out.mono ?_
      rintro e w5 ⟨rfl, hb5⟩
      have hwl : (wordsR (unL ws)).1.length = 10 := by
        unfold wordsR
        split
        · exact wordsX_len _
        · rfl
      have HRD : Hid (readL ws = if (wordsR (unL ws)).2 = 0 ∧ (wordsR (unL ws)).1 = ws then (unL ws, 0) else ([], 2)) := Lib.hid (by
        unfold readL wordsR
        by_cases ho : (ofX (unL ws)).isSome = true
        · rw [if_pos ho]; simp [ho]
        · rw [if_neg ho]; simp [ho])
      have HTM := Lib.hid (wrd_made w5 (wordsR (unL ws)).1 hwl)
      obtain ⟨w6, hw6⟩ : ∃ w6, (w5.alloc (.cells #[.int .u64 0, .int .u64 0, .int .u64 0, .int .u64 0, .int .u64 0, .int .u64 0, .int .u64 0, .int .u64 0, .int .u64 0, .int .u64 0] 101)).setCells w5.heap.size 0 (tw (wordsR (unL ws)).1) = w6 := ⟨_, rfl⟩
      obtain ⟨T, hT⟩ : ∃ T, w5.heap.size = T := ⟨_, rfl⟩
      have HE6 := Lib.hid (And.intro hw6 hT)
      have H6 : Hid (OwnX w6 p cap (unL ws) ∧ Below wb.heap.size wb w6 ∧ WrdAt w6 T (wordsR (unL ws)).1 ∧ WrdAt w6 X ws) := Lib.hid (by
        have h := HTM.out
        rw [hw6, hT] at h
        rw [← hT] at h
        have h2 := HO.out.2.2.trans ((hb5.trans (h.2.1.mono hb5.size)).mono HO.out.2.2.size)
        exact ⟨OwnG.below HO.out.1 (hb5.trans (h.2.1.mono hb5.size)), h2, by rw [← hT]; exact h.1, HX.out.1.below h2⟩)
      have HWL := Lib.hid hwl
      clear hb5 hw6 hT HWD hwl
      have hec : (wordsR (unL ws)).2 = 0 ∨ (wordsR (unL ws)).2 = 2 := by
        unfold wordsR
        split
        · exact .inl rfl
        · exact .inr rfl
      obtain ⟨E, hE⟩ : ∃ E, (wordsR (unL ws)).2 = E := ⟨_, rfl⟩
      rw [hE] at hec HRD ⊢
      obtain ⟨TS, hTS⟩ : ∃ TS, (wordsR (unL ws)).1 = TS := ⟨_, rfl⟩
      rw [hTS] at HTM HE6 H6 HWL HRD ⊢
      clear hE hTS
      rcases hec with rfl | rfl
      · by_cases he : TS = ws
        · have hr : decide (TS ≠ ws) = false := by simp [he]
          have HRD' : Hid (readL ws = (unL ws, 0)) := Lib.hid (by rw [HRD.out, if_pos ⟨rfl, he⟩])
          have HHR := Lib.hid hr
          clear he hr HRD
          go_wp2_with (first | (refine wpList_store_mid rfl 101 (.tmp 13) (.tmp 50) rfl w5.heap.size 0 (tw TS).toArray rfl rfl (by simpa [tw_len, HWL.out] using HTM.out.2.2) (by simp only [List.size_toArray, tw_len, HWL.out]; kernel_rfl) (all_oneCell_toArray (tw_one _)) ?_; rw [List.toList_toArray, HE6.out.1, HE6.out.2]) | (refine wpList_load_midW (by rfl) 101 (.tmp 13) rfl T 0 rfl (tw TS) (.array 10 23) H6.out.2.2.1.range (by kernel_rfl) rfl (by rw [tw_len, HWL.out]; kernel_rfl) ?_) | (refine wpList_load_midW (by rfl) 101 (.tmp 1) rfl X 0 rfl (tw ws) (.array 10 23) H6.out.2.2.2.range (by kernel_rfl) rfl (by rw [tw_len, HL.out]; kernel_rfl) ?_) | (refine wpList_neq_tw (by rfl) (.tmp 55) (.tmp 56) rfl rfl rfl HWL.out HL.out HHR.out ?_))
          go_ret2
          exact ⟨p, cap, by rw [HRD'.out, HN.out]; rfl, by rw [HRD'.out]; exact H6.out.1, fun b hb => Nat.le_trans HX.out.2.size (HO.out.2.1 b hb), HX.out.2.trans (H6.out.2.1.mono HX.out.2.size)⟩
        · have hr : decide (TS ≠ ws) = true := by simp [he]
          have HRD' : Hid (readL ws = ([], 2)) := Lib.hid (by rw [HRD.out, if_neg (fun h => he h.2)])
          have HHR := Lib.hid hr
          clear he hr HRD
          go_wp2_with (first | (refine wpList_store_mid rfl 101 (.tmp 13) (.tmp 50) rfl w5.heap.size 0 (tw TS).toArray rfl rfl (by simpa [tw_len, HWL.out] using HTM.out.2.2) (by simp only [List.size_toArray, tw_len, HWL.out]; kernel_rfl) (all_oneCell_toArray (tw_one _)) ?_; rw [List.toList_toArray, HE6.out.1, HE6.out.2]) | (refine wpList_load_midW (by rfl) 101 (.tmp 13) rfl T 0 rfl (tw TS) (.array 10 23) H6.out.2.2.1.range (by kernel_rfl) rfl (by rw [tw_len, HWL.out]; kernel_rfl) ?_) | (refine wpList_load_midW (by rfl) 101 (.tmp 1) rfl X 0 rfl (tw ws) (.array 10 23) H6.out.2.2.2.range (by kernel_rfl) rfl (by rw [tw_len, HL.out]; kernel_rfl) ?_) | (refine wpList_neq_tw (by rfl) (.tmp 55) (.tmp 56) rfl rfl rfl HWL.out HL.out HHR.out ?_))
          go_ret2
          exact ⟨none, 0, by rw [HRD'.out]; rfl, by rw [HRD'.out]; exact OwnG.nil _ _ _ _ _, fun b hb => (by obtain ⟨x, hx, -⟩ := hb; cases hx), HX.out.2.trans (H6.out.2.1.mono HX.out.2.size)⟩
      · have HRD' : Hid (readL ws = ([], 2)) := Lib.hid (by rw [HRD.out, if_neg (fun h => absurd h.1 (by decide))])
        clear HRD
        go_wp2_with (refine wpList_store_mid rfl 101 (.tmp 13) (.tmp 50) rfl w5.heap.size 0 (tw TS).toArray rfl rfl (by simpa [tw_len, HWL.out] using HTM.out.2.2) (by simp only [List.size_toArray, tw_len, HWL.out]; kernel_rfl) (all_oneCell_toArray (tw_one _)) ?_; rw [List.toList_toArray, HE6.out.1, HE6.out.2])
        go_ret2
        exact ⟨none, 0, by rw [HRD'.out]; rfl, by rw [HRD'.out]; exact OwnG.nil _ _ _ _ _, fun b hb => (by obtain ⟨x, hx, -⟩ := hb; cases hx), HX.out.2.trans (H6.out.2.1.mono HX.out.2.size)⟩
end Go.Proofs.Ytenmogokbelahaa
