/- The walk of the law LayoutSupers. -/
import Derived.Test.YtljegehfdmgcbaaLayoutN
namespace Go.Proofs.Ytljegehfdmgcbaa
open Go Go.RowKit
attribute [local go_sem] Oper.semAt_some

/-- The layout's box, and the result's. -/
def LB (w : World) (l : Lay) (W : World) : Prop := LayAt W w.heap.size l ∧ Box W (w.heap.size + 1) 4 (.bool false) ∧ Below w.heap.size w W ∧ w.heap.size + 2 ≤ W.heap.size
theorem LB.go {w W W' : World} {l : Lay} (h : LB w l W) (hb : Below W.heap.size W W') : LB w l W' :=
  ⟨h.1.below h.1.lt hb, h.2.1.below hb h.2.1.lt, h.2.2.1.trans (hb.mono h.2.2.1.size), Nat.le_trans h.2.2.2 hb.size⟩

set_option maxRecDepth 100000 in
set_option maxHeartbeats 4000000 in
theorem lawLayoutSupers (l : Lay) (n : Int) (w : World) : Calls Try.prog 4 #[lv l, .int .i64 n] w fun e w' => e = .returned (.bool true) ∧ Below w.heap.size w w' := by
  obtain ⟨wa, hwa, HBA, HZA, HF⟩ := lay_box w l
  obtain ⟨wb, hwb⟩ : ∃ wb, wa.alloc (.cells #[.bool false] 4) = wb := ⟨_, rfl⟩
  have hza := HZA.out
  have hlb : LB w l wb := by
    rw [← hwb]
    refine ⟨(Below.heap_alloc _ _ _ (by omega)).trans HF.out, ?_, HBA.out.alloc HBA.out.size _, by simp; omega⟩
    have := Box.new wa 4 (.bool false)
    rw [hza] at this
    exact this
  have HLB := Lib.hid hlb
  obtain ⟨q0, q1, q2, q3, q4, q5, q6, q7, q8, q9, qf⟩ := lay_cells hlb.1
  clear hlb
  unfold lv
  refine (callsIn_wide (n := 0)).1 ?_
  refine callsIn_of_wp_marks Try.func4 rfl trivial ?_ rfl
  simp only [Try.ntmps4, List.size_toArray, List.length_cons, List.length_nil, Nat.reduceAdd, Nat.reduceSub, Array.replicate_succ, Array.replicate_zero, List.push_toArray, List.append_toArray, List.nil_append, List.cons_append]
  gi_wp2
  by_cases hr : RightL l
  · have HR := Lib.hid hr
    refine wcall (super_right l wb hr) ?_
    rintro e w1 ⟨v, rfl, hown, hb1⟩
    obtain ⟨p, cap, rfl, hrd⟩ := super_rd hown
    have HLB1 := Lib.hid (HLB.out.go hb1)
    have HRD := Lib.hid hrd
    clear hwb hwa hza q0 q1 q2 q3 q4 q5 q6 q7 q8 q9 qf hown hrd hb1
    obtain ⟨q0, q1, q2, q3, q4, q5, q6, q7, q8, q9, qf⟩ := lay_cells HLB1.out.1
    gi_wp2
    refine wcall (refRight_any l w1) ?_
    rintro e w2 ⟨rfl, hb2⟩
    rw [decide_eq_true hr]
    clear hr
    have HLB2 := Lib.hid (HLB1.out.go hb2)
    have HRD2 := Lib.hid ((HRD.out.below hb2).wide hb2.size)
    clear hb2 q0 q1 q2 q3 q4 q5 q6 q7 q8 q9 qf
    obtain ⟨q0, q1, q2, q3, q4, q5, q6, q7, q8, q9, qf⟩ := lay_cells HLB2.out.1
    gi_wp2
    refine wcall (num_any13 _ _) ?_
    rintro e w2' ⟨rfl, hw2'⟩
    subst hw2'
    gi_wp2
    refine wcall (refSuper_any l w2 HR.out) ?_
    rintro e w3 ⟨v, rfl, hown, hb3⟩
    obtain ⟨q, cq, rfl, hrq⟩ := super_rd hown
    have HLB3 := Lib.hid (HLB2.out.go hb3)
    have HRD3 := Lib.hid (And.intro ((HRD2.out.below hb3).wide hb3.size) hrq)
    clear hb3 hown hrq q0 q1 q2 q3 q4 q5 q6 q7 q8 q9 qf
    gi_wp2
    refine wcall (sameSuper p q cap cq l w3 HRD3.out.1 HRD3.out.2) ?_
    rintro e w4 ⟨rfl, hb4⟩
    have HLB4 := Lib.hid (HLB3.out.go hb4)
    clear hb4
    gi_wp2
    refine wcall (works13_any _) ?_
    rintro e w5 ⟨rfl, hb5⟩
    have HLB5 := Lib.hid (HLB4.out.go hb5)
    have hc := HLB5.out.2.1.cell
    have hf := HLB5.out.2.1.free
    clear hb5
    gi_wp2
    have hc2 := (HLB5.out.2.1.set (.bool true)).cell
    refine ⟨.bool true, results_cell1 rfl _ _ rfl (v := .bool true) (by simp [go_sem, hc2]), rfl, ?_⟩
    exact HLB5.out.2.2.1.setCell (p := ⟨w.heap.size + 1, 0, none⟩) (Nat.le_succ _) _
  · have HR := Lib.hid hr
    have hi0 : itemsL l = [] := by unfold itemsL; rw [if_neg hr]
    have HP : Hid (placeL l 1 n = (0, 2) ∧ placeL l 2 n = (0, 2) ∧ placeL l 3 n = (0, 2) ∧ partL l n = ((0, 0), 2)) := Lib.hid ⟨by unfold placeL; rw [if_pos hr], by unfold placeL; rw [if_pos hr], by unfold placeL; rw [if_pos hr], by unfold partL; rw [if_pos hr]⟩
    have HI := Lib.hid hi0
    refine wcall (super_wrong l wb hr) ?_
    rintro e w1 ⟨rfl, hb1⟩
    have HLB1 := Lib.hid (HLB.out.go hb1)
    clear hi0 hwb hwa hza q0 q1 q2 q3 q4 q5 q6 q7 q8 q9 qf hb1
    obtain ⟨q0, q1, q2, q3, q4, q5, q6, q7, q8, q9, qf⟩ := lay_cells HLB1.out.1
    gi_wp2
    refine wcall (refRight_any l w1) ?_
    rintro e w2 ⟨rfl, hb2⟩
    rw [decide_eq_false hr]
    clear hr
    have HLB2 := Lib.hid (HLB1.out.go hb2)
    clear hb2 q0 q1 q2 q3 q4 q5 q6 q7 q8 q9 qf
    obtain ⟨q0, q1, q2, q3, q4, q5, q6, q7, q8, q9, qf⟩ := lay_cells HLB2.out.1
    gi_wp2
    refine wcall (journal_any l n w2) ?_
    rintro e w3 ⟨rfl, hb3⟩
    rw [HP.out.1]
    have HLB3 := Lib.hid (HLB2.out.go hb3)
    clear hb3 q0 q1 q2 q3 q4 q5 q6 q7 q8 q9 qf
    obtain ⟨q0, q1, q2, q3, q4, q5, q6, q7, q8, q9, qf⟩ := lay_cells HLB3.out.1
    gi_wp2
    refine wcall (inode_any l n w3) ?_
    rintro e w4 ⟨rfl, hb4⟩
    rw [HP.out.2.1]
    have HLB4 := Lib.hid (HLB3.out.go hb4)
    clear hb4 q0 q1 q2 q3 q4 q5 q6 q7 q8 q9 qf
    obtain ⟨q0, q1, q2, q3, q4, q5, q6, q7, q8, q9, qf⟩ := lay_cells HLB4.out.1
    gi_wp2
    refine wcall (record_any l n w4) ?_
    rintro e w5 ⟨rfl, hb5⟩
    rw [HP.out.2.2.1]
    have HLB5 := Lib.hid (HLB4.out.go hb5)
    clear hb5 q0 q1 q2 q3 q4 q5 q6 q7 q8 q9 qf
    obtain ⟨q0, q1, q2, q3, q4, q5, q6, q7, q8, q9, qf⟩ := lay_cells HLB5.out.1
    gi_wp2
    refine wcall (part_any l n w5) ?_
    rintro e w6 ⟨rfl, hb6⟩
    rw [HP.out.2.2.2]
    have hlb6 := HLB5.out.go hb6
    obtain ⟨w7, hw7⟩ : ∃ w7, w6.alloc (.cells #[.int .i64 0, .int .i64 0] 46) = w7 := ⟨_, rfl⟩
    have hp7 : w7.heap[w6.heap.size]? = some (.cells #[.int .i64 0, .int .i64 0] 46 (0, 0)) := by rw [← hw7]; exact World.alloc_heap_new _ _
    have hr0 : w7.setCell ⟨w6.heap.size, 0, none⟩ (.int .i64 0) = w7 := setCell_id hp7 rfl
    have hr1 : w7.setCell ⟨w6.heap.size, 1, none⟩ (.int .i64 0) = w7 := setCell_id hp7 rfl
    have hc0 : w7.cell? ⟨w6.heap.size, 0, none⟩ = some (.int .i64 0) := by simp [World.cell?, hp7]
    have hc1 : w7.cell? ⟨w6.heap.size, 1, none⟩ = some (.int .i64 0) := by simp [World.cell?, hp7]
    have hcf : ∀ k, w7.frozen? ⟨w6.heap.size, k, none⟩ = false := fun k => by simp [World.frozen?, hp7]
    have HLB7 := Lib.hid (hlb6.go (W' := w7) (by rw [← hw7]; exact (Below.refl _ _).alloc (Nat.le_refl _) _))
    clear hb6 hlb6 hp7 q0 q1 q2 q3 q4 q5 q6 q7 q8 q9 qf
    obtain ⟨q0, q1, q2, q3, q4, q5, q6, q7, q8, q9, qf⟩ := lay_cells HLB7.out.1
    simp only [pv]
    gi_wp2
    refine wcall (each13_any l w7) ?_
    rintro e w8 ⟨rfl, hL8, hb8⟩
    have HLB8 := Lib.hid (HLB7.out.go hb8)
    have hsz8 : w7.heap.size < w8.heap.size := hL8.lt
    have hsz7 : w.heap.size + 2 ≤ w7.heap.size := HLB7.out.2.2.2
    clear hw7 hr0 hr1 hc0 hc1 hcf hb8 q0 q1 q2 q3 q4 q5 q6 q7 q8 q9 qf
    have hnil := func13_nil
    gi_wp2
    clear hnil
    refine rf_law (gf := 33) (lb := #[.pointer (some ⟨w7.heap.size, 0, none⟩)]) rfl (enters_of Try.func33 (by kernel_rfl) rfl)
      (each13_iter w7.heap.size l w8 hL8) (by intro x hx; obtain ⟨y, _, rfl⟩ := List.mem_map.1 hx; rfl) ?hFP
      (fun k T W => Keep (fun _ => False) w8 T W)
      (fun _ _ _ _ => False) ?hJ (fun _ _ _ _ _ h _ => h) ?h0 ?hround ?hdone ?hstop
    case hFP =>
      rintro b rfl
      omega
    case hJ =>
      rintro k T W W' h1 hf
      exact h1.go hf
    case h0 => exact Keep.start _ _
    case hround =>
      rintro L k hk T W hs hTl hTW hkW
      rw [HI.out] at hk
      simp [encI] at hk
    case hdone =>
      rintro D T W hs hTD hTW hkW hD hK
      have hszW : w8.heap.size ≤ W.heap.size := hkW.size
      have hbk : ∀ b, b < w8.heap.size → W.heap[b]? = w8.heap[b]? := fun b hb => hs.frn.block b hb (by simp)
      have HBW : Hid (Below w.heap.size w W) := Lib.hid (hs.at ⟨HLB8.out.2.2.1, HLB8.out.2.2.1.size⟩ (by rintro b h; exact h.elim)).1
      have HBX : Hid (Box W (w.heap.size + 1) 4 (.bool false)) := Lib.hid (HLB8.out.2.1.kept (hbk _ (by omega)))
      have HKD := Lib.hid hK
      clear hs hTD hTW hkW hbk hK
      gi_wp2
      refine wcall (num_any13 _ _) ?_
      rintro e W' ⟨rfl, hW'⟩
      subst hW'
      gi_wp2
      refine wcall (num_any13 _ _) ?_
      rintro e W' ⟨rfl, hW'⟩
      subst hW'
      gi_wp2
      refine wcall (num_any13 _ _) ?_
      rintro e W' ⟨rfl, hW'⟩
      subst hW'
      gi_wp2
      refine wcall (num_any13 _ _) ?_
      rintro e W' ⟨rfl, hW'⟩
      subst hW'
      gi_wp2
      refine wcall (num_any13 _ _) ?_
      rintro e W' ⟨rfl, hW'⟩
      subst hW'
      gi_wp2
      refine wcall (works13_any _) ?_
      rintro e V ⟨rfl, hbV⟩
      have HBV : Hid (Below w.heap.size w V) := Lib.hid (HBW.out.trans (hbV.mono HBW.out.size))
      have hbx := HBX.out.below hbV HBX.out.lt
      have hc := hbx.cell
      have hf := hbx.free
      have HX2 := Lib.hid hbx
      have HKV : Hid (V.heap[D]? = some (.deferred (some []))) := Lib.hid ((hbV.block D (Array.getElem?_eq_some_iff.1 HKD.out).1).trans HKD.out)
      clear hbV hbx
      gi_wp2
      have hne : D ≠ w.heap.size + 1 := by omega
      have hc2 := (HX2.out.set (.bool true)).cell
      have hc3 : ((V.setCell ⟨w.heap.size + 1, 0, none⟩ (.bool true)).putObj D (.deferred none)).cell? ⟨w.heap.size + 1, 0, none⟩ = some (.bool true) := (cell_putObj hne 0).trans hc2
      refine ⟨by simp, .inl ⟨_, _, rfl, run_takeDeferred ((heap_setCell_other _ ⟨w.heap.size + 1, 0, none⟩ D _ hne).trans HKV.out), ?_⟩⟩
      refine ⟨.bool true, results_cell1 rfl _ _ rfl (v := .bool true) (by simp [go_sem, hc3]), rfl, ?_⟩
      exact below_putObj (HBV.out.setCell (p := ⟨w.heap.size + 1, 0, none⟩) (Nat.le_succ _) _) (by omega) _
    case hstop =>
      intro D c k T W _ _ h
      exact h.elim
end Go.Proofs.Ytljegehfdmgcbaa
