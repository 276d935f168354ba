/- The law's num, works, lent. -/
import Derived.Test.YtenmogokbelahaaExtJ
import Derived.Test.YtenmogokbelahaaExtN
namespace Go.Proofs.Ytenmogokbelahaa
open Go Go.RowKit

set_option maxHeartbeats 1000000 in
theorem num06_any (n : Int) (w : World) : Calls Try.prog 45 #[.int .i64 n] w fun e w' => e = .returned (.int .i64 n) ∧ w = w' := by
  go_enter Try.func45, Try.ntmps45
  go_wp2
  go_ret
  exact ⟨rfl, rfl⟩
theorem ev_put1 : putL [] (0, 5, 4) = ([(0, 5, 4)], [], 0) := by decide +kernel
theorem ev_put2 : putL [(0, 5, 4)] (1, 9, 2) = ([(0, 5, 1), (1, 9, 2), (3, 8, 1)], [(6, 2)], 0) := by decide +kernel
theorem ev_find : findL [(0, 5, 4)] 3 = (8, true) := by decide +kernel
theorem ev_cut : cutL [(0, 5, 4)] 1 = ([(0, 5, 1)], [(6, 3)], 0) := by decide +kernel
theorem ev_words : (wordsR [(1, 2, 3)]).2 = 0 ∧ (wordsR [(1, 2, 3)]).1.length = 10 ∧ (wordsR [(1, 2, 3)]).1[0]? = some 3298535014401#64 := by decide +kernel
theorem ev_check : (ofX [(0, 5, 1), (1, 6, 1)]).isSome = false := by decide +kernel
/-- What the rows have made. -/
structure WK (W w : World) (p1 p4 p5 p9 p10 : Option Addr) (c1 c4 c5 c9 c10 : Nat) : Prop where
  l : OwnX w p1 c1 [(0, 5, 4)]
  m : OwnX w p4 c4 [(0, 5, 1), (1, 9, 2), (3, 8, 1)]
  b : OwnRn w p5 c5 [(6, 2)]
  c : OwnX w p9 c9 [(0, 5, 1)]
  d : OwnRn w p10 c10 [(6, 3)]
  bel : Below W.heap.size W w
theorem WK.below {W w w' : World} {p1 p4 p5 p9 p10 : Option Addr} {c1 c4 c5 c9 c10 : Nat} (h : WK W w p1 p4 p5 p9 p10 c1 c4 c5 c9 c10) (hb : Below w.heap.size w w') : WK W w' p1 p4 p5 p9 p10 c1 c4 c5 c9 c10 :=
  ⟨OwnG.below h.l hb, OwnG.below h.m hb, OwnG.below h.b hb, OwnG.below h.c hb, OwnG.below h.d hb, h.bel.trans (hb.mono h.bel.size)⟩
theorem blkX (w : World) (cs : Array Value) (xs : List Ext3) (hc : cs = (xs.flatMap xc).toArray) (hm : xs.length ≤ 1000) : OwnX (w.alloc (.cells cs 81)) (some ⟨w.heap.size, 0, none⟩) xs.length xs := by
  subst hc
  exact OwnG.block xc_len (World.alloc_heap_new _ _) (by unfold maxLen; omega)
theorem blkR (w : World) (cs : Array Value) (xs : List RunE) (hc : cs = (xs.flatMap rc).toArray) (hm : xs.length ≤ 1000) : OwnRn (w.alloc (.cells cs 131)) (some ⟨w.heap.size, 0, none⟩) xs.length xs := by
  subst hc
  exact OwnG.block rc_len (World.alloc_heap_new _ _) (by unfold maxLen; omega)
theorem wrd_made (w : World) (ws : List (BitVec 64)) (hl : ws.length = 10) : WrdAt ((w.alloc (.cells #[.int .u64 0, .int .u64 0, .int .u64 0, .int .u64 0, .int .u64 0, .int .u64 0, .int .u64 0, .int .u64 0, .int .u64 0, .int .u64 0] 101)).setCells w.heap.size 0 (tw ws)) w.heap.size ws ∧ Below w.heap.size w ((w.alloc (.cells #[.int .u64 0, .int .u64 0, .int .u64 0, .int .u64 0, .int .u64 0, .int .u64 0, .int .u64 0, .int .u64 0, .int .u64 0, .int .u64 0] 101)).setCells w.heap.size 0 (tw ws)) ∧ (w.alloc (.cells #[.int .u64 0, .int .u64 0, .int .u64 0, .int .u64 0, .int .u64 0, .int .u64 0, .int .u64 0, .int .u64 0, .int .u64 0, .int .u64 0] 101)).there w.heap.size 0 10 := by
  have h1 := WrdAt.new w zero10
  rw [← zero_cellsW] at h1
  have hf := setCellsX_frn (g := w.heap.size) (tw ws) 0 (w.alloc (.cells #[.int .u64 0, .int .u64 0, .int .u64 0, .int .u64 0, .int .u64 0, .int .u64 0, .int .u64 0, .int .u64 0, .int .u64 0, .int .u64 0] 101))
  refine ⟨h1.sets ws (by rw [hl]; rfl), (below_allocX w _).trans (hf.below (by simp) (fun b e => by omega)), ?_⟩
  exact h1.there
set_option maxRecDepth 100000 in
set_option maxHeartbeats 8000000 in
theorem works06_any (W : World) :
    Calls Try.prog 39 #[] W fun e w' => e = .returned (.bool true) ∧ Below W.heap.size W w' := by
  have HP1 := Lib.hid (putE_any none 0 [] 0 5 4 W (OwnG.rds xc_len (OwnG.nil 81 3 xc W none)))
  rw [ev_put1] at HP1
  go_enter Try.func39, Try.ntmps39
  go_wp2_with fail
  refine HP1.out.mono ?_
  rintro e w1 ⟨p1, c1, p2, c2, rfl, ho1, ho2, hf1, hf2, hb1⟩
  have hp2 := putE_any p1 c1 [(0, 5, 4)] 1 9 2 w1 (OwnG.rds xc_len ho1)
  rw [ev_put2] at hp2
  have HP2 := Lib.hid hp2
  have H1 := Lib.hid (And.intro ho1 hb1)
  clear hp2 ho1 ho2 hf1 hf2 hb1 HP1
  go_wp2_with fail
  refine HP2.out.mono ?_
  rintro e w2 ⟨p4, c4, p5, c5, rfl, ho4, ho5, hf4, hf5, hb2⟩
  have H2 := Lib.hid (And.intro (OwnG.below H1.out.1 hb2) (And.intro ho4 (And.intro ho5 (H1.out.2.trans (hb2.mono H1.out.2.size)))))
  have hfi := findX_any p1 c1 [(0, 5, 4)] 3 w2 (OwnG.rds xc_len H2.out.1)
  rw [ev_find] at hfi
  have HFI := Lib.hid hfi
  clear hfi ho4 ho5 hf4 hf5 hb2 HP2
  go_wp2_with fail
  refine HFI.out.mono ?_
  rintro e w3 ⟨rfl, hb3⟩
  have H3 := Lib.hid (And.intro (OwnG.below H2.out.1 hb3) (And.intro (OwnG.below H2.out.2.1 hb3) (And.intro (OwnG.below H2.out.2.2.1 hb3) (H2.out.2.2.2.trans (hb3.mono H2.out.2.2.2.size)))))
  have hcu := cutX_any p1 c1 [(0, 5, 4)] 1 w3 (OwnG.rds xc_len H3.out.1)
  rw [ev_cut] at hcu
  have HCU := Lib.hid hcu
  clear hcu hb3 HFI
  go_wp2_with fail
  refine HCU.out.mono ?_
  rintro e w4 ⟨p9, c9, p10, c10, rfl, ho9, ho10, hf9, hf10, hb4⟩
  have H4 : Hid (WK W w4 p1 p4 p5 p9 p10 c1 c4 c5 c9 c10) := Lib.hid ⟨OwnG.below H3.out.1 hb4, OwnG.below H3.out.2.1 hb4, OwnG.below H3.out.2.2.1 hb4, ho9, ho10, H3.out.2.2.2.trans (hb4.mono H3.out.2.2.2.size)⟩
  clear ho9 ho10 hf9 hf10 hb4 HCU
  have hx5 := blkX w4 #[.int .i64 1, .int .i64 2, .int .i64 3] [(1, 2, 3)] rfl (by decide)
  have hw5 := wordsE_any (some ⟨w4.heap.size, 0, none⟩) 1 [(1, 2, 3)] (w4.alloc (.cells #[.int .i64 1, .int .i64 2, .int .i64 3] 81)) (OwnG.rds xc_len hx5)
  rw [ev_words.1] at hw5
  have HW5 := Lib.hid hw5
  clear hx5 hw5
  go_wp2_with fail
  refine HW5.out.mono ?_
  rintro e w5 ⟨rfl, hb5⟩
  have hb45 := (below_allocX w4 (.cells #[.int .i64 1, .int .i64 2, .int .i64 3] 81)).trans (hb5.mono (below_allocX w4 _).size)
  have HTM := Lib.hid (wrd_made w5 (wordsR [(1, 2, 3)]).1 ev_words.2.1)
  obtain ⟨w6, hw6⟩ : ∃ w6, (w5.alloc (.cells #[.int .u64 0, .int .u64 0, .int .u64 0, .int .u64 0, .int .u64 0, .int .u64 0, .int .u64 0, .int .u64 0, .int .u64 0, .int .u64 0] 101)).setCells w5.heap.size 0 (tw (wordsR [(1, 2, 3)]).1) = w6 := ⟨_, rfl⟩
  obtain ⟨T, hT⟩ : ∃ T, w5.heap.size = T := ⟨_, rfl⟩
  have HE6 := Lib.hid (And.intro hw6 hT)
  have H6 : Hid (WK W w6 p1 p4 p5 p9 p10 c1 c4 c5 c9 c10 ∧ WrdAt w6 T (wordsR [(1, 2, 3)]).1) := Lib.hid (by
    have h := HTM.out
    rw [hw6, hT] at h
    rw [← hT] at h
    exact ⟨(H4.out.below hb45).below h.2.1, by rw [← hT]; exact h.1⟩)
  clear hb5 hb45 hw6 hT HW5
  go_wp2_with (refine wpList_store_mid rfl 101 (.tmp 12) (.tmp 42) rfl w5.heap.size 0 (tw (wordsR [(1, 2, 3)]).1).toArray rfl rfl (by simpa [tw_len, ev_words.2.1] using HTM.out.2.2) (by simp only [List.size_toArray, tw_len, ev_words.2.1]; kernel_rfl) (all_oneCell_toArray (tw_one _)) ?_; rw [List.toList_toArray, HE6.out.1, HE6.out.2])
  refine (num06_any _ _).mono ?_
  rintro e wn ⟨rfl, hwn⟩
  subst hwn
  go_wp2_with fail
  refine (num06_any _ _).mono ?_
  rintro e wn ⟨rfl, hwn⟩
  subst hwn
  go_wp2_with fail
  refine (num06_any _ _).mono ?_
  rintro e wn ⟨rfl, hwn⟩
  subst hwn
  go_wp2_with fail
  refine (num06_any _ _).mono ?_
  rintro e wn ⟨rfl, hwn⟩
  subst hwn
  go_wp2_with fail
  have hck : Calls Try.prog 73 #[.slice (some ⟨w6.heap.size, 0, none⟩) 2 2] (w6.alloc (.cells #[.int .i64 0, .int .i64 5, .int .i64 1, .int .i64 1, .int .i64 6, .int .i64 1] 81)) fun e w' => e = .returned (.int .i64 2) ∧ Below w6.heap.size w6 w' := (checkX_any (some ⟨w6.heap.size, 0, none⟩) 2 [(0, 5, 1), (1, 6, 1)] _ (OwnG.rds xc_len (blkX w6 #[.int .i64 0, .int .i64 5, .int .i64 1, .int .i64 1, .int .i64 6, .int .i64 1] [(0, 5, 1), (1, 6, 1)] rfl (by decide)))).mono (fun e w' h => ⟨by rw [h.1, ev_check]; rfl, (below_allocX w6 _).trans (h.2.mono (below_allocX w6 _).size)⟩)
  refine hck.mono ?_
  rintro e w7 ⟨rfl, hb7⟩
  have H7 := Lib.hid (And.intro (H6.out.1.below hb7) (H6.out.2.below hb7))
  clear hck hb7
  go_wp2_with fail
  refine (num06_any _ _).mono ?_
  rintro e wn ⟨rfl, hwn⟩
  subst hwn
  go_wp2_with fail
  have hs : Calls Try.prog 43 #[.slice p1 1 c1, .slice (some ⟨w7.heap.size, 0, none⟩) 1 1] (w7.alloc (.cells #[.int .i64 0, .int .i64 5, .int .i64 4] 81)) fun e w' => e = .returned (.bool true) ∧ Below w7.heap.size w7 w' := (sameList_any p1 (some ⟨w7.heap.size, 0, none⟩) c1 1 [(0, 5, 4)] [(0, 5, 4)] _ (OwnG.rds xc_len (OwnG.below H7.out.1.l (below_allocX w7 _))) (OwnG.rds xc_len (blkX w7 #[.int .i64 0, .int .i64 5, .int .i64 4] [(0, 5, 4)] rfl (by decide)))).mono (fun e w' h => ⟨by rw [h.1, decide_eq_true rfl], (by obtain ⟨q, rfl⟩ := h.2; exact below_drewN (below_allocX w7 _) q)⟩)
  refine hs.mono ?_
  rintro e w8 ⟨rfl, hb8⟩
  have H8 := Lib.hid (And.intro (H7.out.1.below hb8) (H7.out.2.below hb8))
  clear hs hb8
  go_wp2_with fail
  have hs : Calls Try.prog 43 #[.slice p4 3 c4, .slice (some ⟨w8.heap.size, 0, none⟩) 3 3] (w8.alloc (.cells #[.int .i64 0, .int .i64 5, .int .i64 1, .int .i64 1, .int .i64 9, .int .i64 2, .int .i64 3, .int .i64 8, .int .i64 1] 81)) fun e w' => e = .returned (.bool true) ∧ Below w8.heap.size w8 w' := (sameList_any p4 (some ⟨w8.heap.size, 0, none⟩) c4 3 [(0, 5, 1), (1, 9, 2), (3, 8, 1)] [(0, 5, 1), (1, 9, 2), (3, 8, 1)] _ (OwnG.rds xc_len (OwnG.below H8.out.1.m (below_allocX w8 _))) (OwnG.rds xc_len (blkX w8 #[.int .i64 0, .int .i64 5, .int .i64 1, .int .i64 1, .int .i64 9, .int .i64 2, .int .i64 3, .int .i64 8, .int .i64 1] [(0, 5, 1), (1, 9, 2), (3, 8, 1)] rfl (by decide)))).mono (fun e w' h => ⟨by rw [h.1, decide_eq_true rfl], (by obtain ⟨q, rfl⟩ := h.2; exact below_drewN (below_allocX w8 _) q)⟩)
  refine hs.mono ?_
  rintro e w9 ⟨rfl, hb9⟩
  have H9 := Lib.hid (And.intro (H8.out.1.below hb9) (H8.out.2.below hb9))
  clear hs hb9
  go_wp2_with fail
  have hs : Calls Try.prog 44 #[.slice p5 1 c5, .slice (some ⟨w9.heap.size, 0, none⟩) 1 1] (w9.alloc (.cells #[.int .i64 6, .int .i64 2] 131)) fun e w' => e = .returned (.bool true) ∧ Below w9.heap.size w9 w' := (sameRuns_any p5 (some ⟨w9.heap.size, 0, none⟩) c5 1 [(6, 2)] [(6, 2)] _ (OwnG.rds rc_len (OwnG.below H9.out.1.b (below_allocX w9 _))) (OwnG.rds rc_len (blkR w9 #[.int .i64 6, .int .i64 2] [(6, 2)] rfl (by decide)))).mono (fun e w' h => ⟨by rw [h.1, decide_eq_true rfl], (by obtain ⟨q, rfl⟩ := h.2; exact below_drewN (below_allocX w9 _) q)⟩)
  refine hs.mono ?_
  rintro e w10 ⟨rfl, hb10⟩
  have H10 := Lib.hid (And.intro (H9.out.1.below hb10) (H9.out.2.below hb10))
  clear hs hb10
  go_wp2_with fail
  have hs : Calls Try.prog 43 #[.slice p9 1 c9, .slice (some ⟨w10.heap.size, 0, none⟩) 1 1] (w10.alloc (.cells #[.int .i64 0, .int .i64 5, .int .i64 1] 81)) fun e w' => e = .returned (.bool true) ∧ Below w10.heap.size w10 w' := (sameList_any p9 (some ⟨w10.heap.size, 0, none⟩) c9 1 [(0, 5, 1)] [(0, 5, 1)] _ (OwnG.rds xc_len (OwnG.below H10.out.1.c (below_allocX w10 _))) (OwnG.rds xc_len (blkX w10 #[.int .i64 0, .int .i64 5, .int .i64 1] [(0, 5, 1)] rfl (by decide)))).mono (fun e w' h => ⟨by rw [h.1, decide_eq_true rfl], (by obtain ⟨q, rfl⟩ := h.2; exact below_drewN (below_allocX w10 _) q)⟩)
  refine hs.mono ?_
  rintro e w11 ⟨rfl, hb11⟩
  have H11 := Lib.hid (And.intro (H10.out.1.below hb11) (H10.out.2.below hb11))
  clear hs hb11
  go_wp2_with fail
  have hs : Calls Try.prog 44 #[.slice p10 1 c10, .slice (some ⟨w11.heap.size, 0, none⟩) 1 1] (w11.alloc (.cells #[.int .i64 6, .int .i64 3] 131)) fun e w' => e = .returned (.bool true) ∧ Below w11.heap.size w11 w' := (sameRuns_any p10 (some ⟨w11.heap.size, 0, none⟩) c10 1 [(6, 3)] [(6, 3)] _ (OwnG.rds rc_len (OwnG.below H11.out.1.d (below_allocX w11 _))) (OwnG.rds rc_len (blkR w11 #[.int .i64 6, .int .i64 3] [(6, 3)] rfl (by decide)))).mono (fun e w' h => ⟨by rw [h.1, decide_eq_true rfl], (by obtain ⟨q, rfl⟩ := h.2; exact below_drewN (below_allocX w11 _) q)⟩)
  refine hs.mono ?_
  rintro e w12 ⟨rfl, hb12⟩
  have H12 := Lib.hid (And.intro (H11.out.1.below hb12) (H11.out.2.below hb12))
  clear hs hb12
  have tc := (H12.out.2.cell 0 (by rw [ev_words.2.1]; decide)).1
  have hw0 : (wordsR [(1, 2, 3)]).1[0]'(by rw [ev_words.2.1]; decide) = 3298535014401#64 := (List.getElem?_eq_some_iff.1 ev_words.2.2).2
  rw [hw0] at tc
  replace tc : w12.cell? ⟨T, 0, none⟩ = some (.int .u64 3298535014401) := tc
  clear hw0
  go_wp2_with fail
  go_ret
  exact ⟨rfl, H12.out.1.bel⟩
end Go.Proofs.Ytenmogokbelahaa
