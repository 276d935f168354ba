/- The walks of layout.Each, layout.Part. -/
import Derived.Test.YtljegehfdmgcbaaLayoutH
namespace Go.Proofs.Ytljegehfdmgcbaa
open Go Go.RowKit
attribute [local go_sem] Oper.semAt_some

theorem func13_nil (W : World) (k : Nat) : (binOp .eql 50 (.func (.func 33) #[] #[.pointer (some ⟨k, 0, none⟩)]) .nilFunc).run Try.prog W = .ok (.bool false) W := by kernel_rfl

set_option maxHeartbeats 1000000 in
theorem each13_any (l : Lay) (w : World) : Calls Try.prog 21 #[lv l] w fun e w' => e = .returned (.func (.func 33) #[] #[.pointer (some ⟨w.heap.size, 0, none⟩)]) ∧ LayAt w' w.heap.size l ∧ Below w.heap.size w w' := by
  obtain ⟨wa, hwa, HBA, HZA, HF⟩ := lay_box w l
  unfold lv
  go_enter Try.func21, Try.ntmps21
  go_wp2_with fail
  go_ret
  exact ⟨rfl, HF.out, HBA.out⟩

def partL (l : Lay) (word : Int) : (Int × Int) × Int := if ¬ RightL l then ((0, 0), 2) else if ¬ (0 ≤ word ∧ word ≤ l.B * 64 - 1) then ((0, 0), 4) else (lastI word (itemsL l) (0, 0), 0)
def pv (x : Int × Int) : Value := .agg #[.int .i64 x.1, .int .i64 x.2]

set_option maxRecDepth 100000 in
set_option maxHeartbeats 2000000 in
theorem part_any (l : Lay) (word : Int) (w : World) : Calls Try.prog 20 #[lv l, .int .i64 word] w fun e w' => e = .returned (.tuple #[pv (partL l word).1, .int .i64 (partL l word).2]) ∧ Below w.heap.size w w' := by
  obtain ⟨wa, hwa, HBA, HZA, HF⟩ := lay_box w l
  obtain ⟨wb, hwb⟩ : ∃ wb, (wa.alloc (.cells #[.int .i64 word] 3)).alloc (.cells #[.int .i64 0, .int .i64 0] 46) = wb := ⟨_, rfl⟩
  have hza := HZA.out
  have hbb : Below w.heap.size w wb := by rw [← hwb]; exact (HBA.out.alloc (by omega) _).alloc (by simp only [World.size_alloc]; omega) _
  have hzb : wb.heap.size = w.heap.size + 3 := by rw [← hwb]; simp [hza]
  have hF : LayAt wb w.heap.size l := by rw [← hwb]; exact (Below.heap_alloc _ _ _ (by simp only [World.size_alloc]; omega)).trans ((Below.heap_alloc _ _ _ (by omega)).trans HF.out)
  have hW : wb.heap[w.heap.size + 1]? = some (.cells #[.int .i64 word] 3 (0, 0)) := by
    have := World.alloc_heap_new wa (.cells #[.int .i64 word] 3)
    rw [hza] at this
    rw [← hwb]; exact (Below.heap_alloc _ _ _ (by simp only [World.size_alloc]; omega)).trans this
  have hX : wb.heap[w.heap.size + 2]? = some (.cells #[.int .i64 0, .int .i64 0] 46 (0, 0)) := by
    have := World.alloc_heap_new (wa.alloc (.cells #[.int .i64 word] 3)) (.cells #[.int .i64 0, .int .i64 0] 46)
    rw [World.size_alloc, hza] at this
    rw [← hwb]; exact this
  have hcells : ∀ W, Below wb.heap.size wb W → LayAt W w.heap.size l ∧ W.cell? ⟨w.heap.size + 1, 0, none⟩ = some (.int .i64 word) ∧ W.heap[w.heap.size + 2]? = some (.cells #[.int .i64 0, .int .i64 0] 46 (0, 0)) := fun W hb =>
    ⟨(hb.block _ (by omega)).trans hF, by simp [World.cell?, (hb.block (w.heap.size + 1) (by omega)).trans hW], (hb.block _ (by omega)).trans hX⟩
  have HC := Lib.hid hcells
  have HBB := Lib.hid hbb
  have HZB := Lib.hid hzb
  obtain ⟨q0, q1, q2, q3, q4, q5, q6, q7, q8, q9, qf⟩ := lay_cells hF
  clear hbb hzb hF hW hX hcells
  unfold lv
  refine (callsIn_wide (n := 0)).1 ?_
  refine callsIn_of_wp_marks Try.func20 rfl trivial ?_ rfl
  simp only [Try.ntmps20, List.size_toArray, List.length_cons, List.length_nil, Nat.reduceAdd, Nat.reduceSub, Array.replicate_succ, Array.replicate_zero, List.push_toArray, List.append_toArray, List.nil_append, List.cons_append]
  gi_wp2
  rw [show w.heap.size + 1 + 1 = w.heap.size + 2 from rfl]
  refine wcall (right_any l wb) ?_
  rintro e w1 ⟨rfl, hb1⟩
  obtain ⟨hL1, hw1, hx1⟩ := HC.out w1 hb1
  clear hwb hwa q0 q1 q2 q3 q4 q5 q6 q7 q8 q9 qf
  obtain ⟨q0, q1, q2, q3, q4, q5, q6, q7, q8, q9, qf⟩ := lay_cells hL1
  have hx0 : w1.cell? ⟨w.heap.size + 2, 0, none⟩ = some (.int .i64 0) := by simp [World.cell?, hx1]
  have hx1' : w1.cell? ⟨w.heap.size + 2, 1, none⟩ = some (.int .i64 0) := by simp [World.cell?, hx1]
  have hxf : ∀ k, w1.frozen? ⟨w.heap.size + 2, k, none⟩ = false := fun k => by simp [World.frozen?, hx1]
  have hid0 : w1.setCell ⟨w.heap.size + 2, 0, none⟩ (.int .i64 0) = w1 := setCell_id hx1 rfl
  have hid1 : w1.setCell ⟨w.heap.size + 2, 1, none⟩ (.int .i64 0) = w1 := setCell_id hx1 rfl
  have HL1 := Lib.hid hL1
  have HX1 := Lib.hid hx1
  have HB1 := Lib.hid (HBB.out.trans (hb1.mono (by have := HZB.out; omega)))
  have HS1 := Lib.hid hb1.size
  clear hL1 hx1 hb1 hza
  by_cases hr : RightL l
  case neg =>
    rw [decide_eq_false hr]
    have hp : partL l word = ((0, 0), 2) := by unfold partL; rw [if_pos hr]
    have HP := Lib.hid hp
    clear hp
    gi_wp2
    rw [HP.out]
    exact ⟨.tuple #[pv (0, 0), .int .i64 2], by simp [results, Try.results20, go_sem, pv, hx0, hx1'], rfl, HB1.out⟩
  case pos =>
    rw [decide_eq_true hr]
    have HR := Lib.hid hr
    have hbn := right_bounds hr
    have hB1 : 32 ≤ l.B := hbn.1.1
    have hB2 : l.B ≤ 2048 := hbn.1.2
    clear hbn hr
    gi_wp2
    refine wcall (in_any word 0 (l.B * 64 - 1) w1) ?_
    rintro e w1' ⟨rfl, hw1'⟩
    subst hw1'
    cases hin : inb word 0 (l.B * 64 - 1)
    · have hp : partL l word = ((0, 0), 4) := by unfold partL; rw [if_neg (fun h => h HR.out), if_pos (inb_false hin)]
      have HP := Lib.hid hp
      clear hp hin
      gi_wp2
      rw [HP.out]
      exact ⟨.tuple #[pv (0, 0), .int .i64 4], by simp [results, Try.results20, go_sem, pv, hx0, hx1'], rfl, HB1.out⟩
    · have hp : partL l word = (lastI word (itemsL l) (0, 0), 0) := by unfold partL; rw [if_neg (fun h => h HR.out), if_neg (fun h => h (inb_true hin))]
      have HP := Lib.hid hp
      clear hp hin hid0 hid1
      gi_wp2
      refine wcall (each13_any l w1') ?_
      rintro e W0 ⟨rfl, hL0, hb0⟩
      have hz1 : w.heap.size + 3 ≤ w1'.heap.size := by have := HS1.out; have := HZB.out; omega
      have hx0 : W0.heap[w.heap.size + 2]? = some (.cells #[.int .i64 (lastI word ((itemsL l).take 0) (0, 0)).1, .int .i64 (lastI word ((itemsL l).take 0) (0, 0)).2] 46 (0, 0)) := (hb0.block _ (by omega)).trans HX1.out
      have hw0 : W0.heap[w.heap.size + 1]? = w1'.heap[w.heap.size + 1]? := hb0.block _ (by omega)
      have hwc : W0.cell? ⟨w.heap.size + 1, 0, none⟩ = some (.int .i64 word) := (World.cell?_of_block (w := w1') (a := ⟨w.heap.size + 1, 0, none⟩) hw0).trans hw1
      have hs0 : w1'.heap.size < W0.heap.size := hL0.lt
      have HB0 := Lib.hid (HB1.out.trans (hb0.mono (by omega)))
      have HWC := Lib.hid hwc
      gi_wp2
      clear q0 q1 q2 q3 q4 q5 q6 q7 q8 q9 qf hx1' hxf hw1 hb0 hw0 hwc
      refine rf_law (gf := 33) (lb := #[.pointer (some ⟨w1'.heap.size, 0, none⟩)]) rfl (enters_of Try.func33 (by kernel_rfl) rfl)
        (each13_iter w1'.heap.size l W0 hL0) (by intro x hx; obtain ⟨y, _, rfl⟩ := List.mem_map.1 hx; rfl) ?hFP
        (fun k T W => Keep (fun b => b = w.heap.size + 2) W0 T W ∧ W.heap[w.heap.size + 2]? = some (.cells #[.int .i64 (lastI word ((itemsL l).take k) (0, 0)).1, .int .i64 (lastI word ((itemsL l).take k) (0, 0)).2] 46 (0, 0)))
        (fun _ _ _ _ => False) ?hJ (fun _ _ _ _ _ h _ => h) ?h0 ?hround ?hdone ?hstop
      case hFP =>
        rintro b rfl
        omega
      case hJ =>
        rintro k T W W' ⟨h1, h2⟩ hf
        exact ⟨h1.go hf, (h1.own hf (by omega)).trans h2⟩
      case h0 => exact ⟨Keep.start _ _, hx0⟩
      case hround =>
        rintro L k hk T W ⟨hs, hbox⟩ hTl hTW hkW
        have hk' : k < (itemsL l).length := by simpa [encI] using hk
        have hts : (itemsL l).take (k + 1) = (itemsL l).take k ++ [(itemsL l)[k]] := List.take_succ_eq_append_getElem hk'
        rw [encI_get]
        obtain ⟨y, hy⟩ : ∃ y, (itemsL l)[k] = y := ⟨_, rfl⟩
        rw [hy] at hts ⊢
        obtain ⟨y1, y2, y3⟩ := y
        unfold itA
        simp only
        have HTS := Lib.hid (hts ▸ lastI_snoc word ((itemsL l).take k) (y1, y2, y3) (0, 0))
        obtain ⟨x, hx⟩ : ∃ x, lastI word ((itemsL l).take k) (0, 0) = x := ⟨_, rfl⟩
        rw [hx] at hbox HTS
        clear hts hy hx hx0
        gi_wp2
        have hWa : Kps (fun b => (b = w1'.heap.size) ∨ T b) W (W.alloc (.cells #[.int .i64 y2, .int .i64 y3] 46)) := (Kps.refl _ _).alloc _
        refine ⟨hWa, fun W2 hf hsz hk2 _ _ => ?_⟩
        have hs2 := (hs.alloc (.cells #[.int .i64 y2, .int .i64 y3] 46)).goSame hf (by rw [hsz]; simp)
        have hW2 : ∀ b, b ≤ W.heap.size → ¬ T b → W2.heap[b]? = (W.alloc (.cells #[.int .i64 y2, .int .i64 y3] 46)).heap[b]? := fun b hb hn => hf.block b (by simp; omega) hn
        have hszW : W0.heap.size ≤ W.heap.size := hkW.size
        have hnT : ¬ T (w.heap.size + 2) := hs.notT (by omega)
        have hnT1 : ¬ T (w.heap.size + 1) := hs.notT (by omega)
        have hbox2 : W2.heap[w.heap.size + 2]? = some (.cells #[.int .i64 x.1, .int .i64 x.2] 46 (0, 0)) := (hW2 _ (by omega) hnT).trans ((Below.heap_alloc _ _ _ (by omega)).trans hbox)
        have hx2 : W2.heap[W.heap.size]? = some (.cells #[.int .i64 y2, .int .i64 y3] 46 (0, 0)) := (hW2 _ (Nat.le_refl _) (fun ht => Nat.lt_irrefl _ (hTW _ ht))).trans (World.alloc_heap_new W _)
        have hwd : W2.cell? ⟨w.heap.size + 1, 0, none⟩ = some (.int .i64 word) := (World.cell?_of_block (w := W0) (a := ⟨w.heap.size + 1, 0, none⟩) (hs2.frn.block (w.heap.size + 1) (by omega) (by simp))).trans HWC.out
        have c0 : W2.cell? ⟨W.heap.size, 0, none⟩ = some (.int .i64 y2) := by simp [World.cell?, hx2]
        have c1 : W2.cell? ⟨W.heap.size, 1, none⟩ = some (.int .i64 y3) := by simp [World.cell?, hx2]
        have e0 : W2.cell? ⟨w.heap.size + 2, 0, none⟩ = some (.int .i64 x.1) := by simp [World.cell?, hbox2]
        have e1 : W2.cell? ⟨w.heap.size + 2, 1, none⟩ = some (.int .i64 x.2) := by simp [World.cell?, hbox2]
        have ef : ∀ k, W2.frozen? ⟨w.heap.size + 2, k, none⟩ = false := fun k => by simp [World.frozen?, hbox2]
        have HS2 := Lib.hid hs2
        have HB2 := Lib.hid hbox2
        have HNT := Lib.hid hnT
        clear hf hkW hk2 hs hbox hs2 hbox2 hW2 hx2 hWa hnT hnT1 hL0
        by_cases hle : y1 ≤ word
        · gi_wp2
          have hl := HTS.out
          rw [if_pos hle] at hl
          refine ⟨⟨(HS2.out.set ⟨w.heap.size + 2, 0, none⟩ (.inl rfl) _).set ⟨w.heap.size + 2, 1, none⟩ (.inl rfl) _, ?_⟩, ?_⟩
          · rw [hl]
            have h1 := heap_setCell_same W2 (w.heap.size + 2) 0 _ _ (.int .i64 y2) HB2.out
            have h2 := heap_setCell_same _ (w.heap.size + 2) 1 _ _ (.int .i64 y3) h1
            exact h2
          · exact (kps_set ⟨w.heap.size + 2, 0, none⟩ (by simp only []; omega) HNT.out _).trans (kps_set ⟨w.heap.size + 2, 1, none⟩ (by simp only []; omega) HNT.out _)
        · gi_wp2
          have hl := HTS.out
          rw [if_neg (by omega)] at hl
          refine ⟨⟨HS2.out, ?_⟩, Kps.refl _ _⟩
          rw [hl]
          exact HB2.out
      case hdone =>
        rintro D T W ⟨hs, hbox⟩ hTD hTW hkW hD hK
        rw [encI_len, List.take_length] at hbox
        obtain ⟨x, hx⟩ : ∃ x, lastI word (itemsL l) (0, 0) = x := ⟨_, rfl⟩
        rw [hx] at hbox HP
        have e0 : W.cell? ⟨w.heap.size + 2, 0, none⟩ = some (.int .i64 x.1) := by simp [World.cell?, hbox]
        have e1 : W.cell? ⟨w.heap.size + 2, 1, none⟩ = some (.int .i64 x.2) := by simp [World.cell?, hbox]
        have ef : ∀ k, W.frozen? ⟨w.heap.size + 2, k, none⟩ = false := fun k => by simp [World.frozen?, hbox]
        have i0 : W.setCell ⟨w.heap.size + 2, 0, none⟩ (.int .i64 x.1) = W := setCell_id hbox rfl
        have i1 : W.setCell ⟨w.heap.size + 2, 1, none⟩ (.int .i64 x.2) = W := setCell_id hbox rfl
        have HS := Lib.hid hs
        have HBX := Lib.hid hbox
        have hszW : W0.heap.size ≤ W.heap.size := hkW.size
        clear hs hbox hx hkW hx0 hL0
        gi_wp2
        have hD' : w.heap.size + 3 ≤ D := by omega
        refine ⟨by simp, .inl ⟨_, _, rfl, run_takeDeferred hK, ?_⟩⟩
        have d : ∀ i, (W.putObj D (.deferred none)).cell? ⟨w.heap.size + 2, i, none⟩ = W.cell? ⟨w.heap.size + 2, i, none⟩ := fun i => cell_putObj (by omega) i
        have d0 := (d 0).trans e0
        have d1 := (d 1).trans e1
        refine ⟨.tuple #[pv x, .int .i64 0], by simp [results, Try.results20, go_sem, pv, d0, d1], by rw [HP.out], ?_⟩
        exact below_putObj (HS.out.at ⟨HB0.out, HB0.out.size⟩ (by rintro b rfl; omega)).1 (by omega) _
      case hstop =>
        intro D c k T W _ _ h
        exact h.elim
end Go.Proofs.Ytljegehfdmgcbaa
