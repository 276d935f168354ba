/- The walk of the plan law's works. -/
import Derived.Test.YtaflbfmlajbjcaaPlanF
namespace Go.Proofs.Ytaflbfmlajbjcaa
open Go Go.RowKit

theorem pl_rd2 {w : World} {g : Nat} {ys : List Put2} {t : TypeId} {fr : Nat × Nat} {B : Nat} (h : w.heap[g]? = some (.cells (ys.flatMap pc2).toArray t fr)) (hB : g < B) (hm : ys.length ≤ maxLen) : RdS B w (some ⟨g, 0, none⟩) ys.length 2 pc2 ys := by
  refine ⟨Nat.le_refl _, hm, .inr ⟨g, 0, rfl, hB, fun i hi j v hv => ?_⟩⟩
  have hj : j < 2 := (List.getElem?_eq_some_iff.1 hv).1
  have := flat_get pc2_len ys i hi j hj
  rw [Nat.zero_add]
  simp [World.cell?, h, this, hv]
theorem pl_rd3 {w : World} {g : Nat} {ys : List Act3} {t : TypeId} {fr : Nat × Nat} {B : Nat} (h : w.heap[g]? = some (.cells (ys.flatMap ac3).toArray t fr)) (hB : g < B) (hm : ys.length ≤ maxLen) : RdS B w (some ⟨g, 0, none⟩) ys.length 3 ac3 ys := by
  refine ⟨Nat.le_refl _, hm, .inr ⟨g, 0, rfl, hB, fun i hi j v hv => ?_⟩⟩
  have hj : j < 3 := (List.getElem?_eq_some_iff.1 hv).1
  have := flat_get ac3_len ys i hi j hj
  rw [Nat.zero_add]
  simp [World.cell?, h, this, hv]

def putsW : List Put2 := [(3, 7), (4, 8), (9, 1)]
def actsW : List Act3 := [(1, 3, 7), (1, 4, 8), (2, 0, 0), (3, 0, 0), (1, 9, 1), (2, 1, 0), (3, 0, 0)]
theorem ord_works : ordA putsW = actsW ∧ noA putsW = 0 := by decide
set_option maxRecDepth 100000 in
set_option maxHeartbeats 4000000 in
theorem works08_any (w : World) : Calls Try.prog 36 #[] w fun e w' => e = .returned (.bool true) ∧ Below w.heap.size w w' := by
  have hb1 : Below w.heap.size w (w.alloc (.cells (putsW.flatMap pc2).toArray 85)) := (Below.refl _ _).alloc (Nat.le_refl _) _
  have HO := Lib.hid (order_any (some ⟨w.heap.size, 0, none⟩) 3 putsW (w.alloc (.cells (putsW.flatMap pc2).toArray 85)) (pl_rd2 (World.alloc_heap_new w _) (by simp) (by decide)) (by decide) (by decide))
  have HB1 := Lib.hid hb1
  clear hb1
  have e1 : (putsW.flatMap pc2).toArray = #[Value.int .i64 3, .int .u64 7, .int .i64 4, .int .u64 8, .int .i64 9, .int .u64 1] := rfl
  rw [e1] at HO HB1
  go_enter Try.func36, Try.ntmps36
  go_wp2_with fail
  refine HO.out.mono ?_
  rintro e w1 ⟨q, d, rfl, ho, hq, hb⟩
  rw [ord_works.1, ord_works.2]
  rw [ord_works.1] at ho
  have HB := Lib.hid (HB1.out.trans (hb.mono (by simp)))
  have HOW := Lib.hid ho
  clear ho hq hb HB1 e1
  have e2 : (actsW.flatMap ac3).toArray = #[Value.int .i64 1, .int .i64 3, .int .u64 7, .int .i64 1, .int .i64 4, .int .u64 8, .int .i64 2, .int .i64 0, .int .u64 0, .int .i64 3, .int .i64 0, .int .u64 0, .int .i64 1, .int .i64 9, .int .u64 1, .int .i64 2, .int .i64 1, .int .u64 0, .int .i64 3, .int .i64 0, .int .u64 0] := rfl
  have HS := Lib.hid (sameActs_any q (some ⟨w1.heap.size, 0, none⟩) d 7 actsW (w1.alloc (.cells (actsW.flatMap ac3).toArray 79)) ((HOW.out.below ((Below.refl _ _).alloc (Nat.le_refl _) _)).rds ac3_len) (pl_rd3 (World.alloc_heap_new w1 _) (by simp) (by decide)))
  rw [e2] at HS
  go_wp2_with fail
  refine (num08_any 0 _).mono ?_
  rintro e w' ⟨rfl, rfl⟩
  go_wp2_with fail
  refine HS.out.mono ?_
  rintro e w2 ⟨rfl, n2, hw2⟩
  have HB2 := Lib.hid (show Below w.heap.size w w2 from by rw [hw2]; exact below_drewN (HB.out.alloc HB.out.size _) n2)
  clear hw2 HS e2 HO HOW HB
  have HO1 := Lib.hid (ordered_any (some ⟨w2.heap.size, 0, none⟩) 2 [(1, 3, 0), (3, 0, 0)] (w2.alloc (.cells ([((1 : Int), (3 : Int), (0 : BitVec 64)), (3, 0, 0)].flatMap ac3).toArray 79)) (pl_rd3 (World.alloc_heap_new w2 _) (by simp) (by decide)) (by decide))
  rw [show ([((1 : Int), (3 : Int), (0 : BitVec 64)), (3, 0, 0)].flatMap ac3).toArray = #[Value.int .i64 1, .int .i64 3, .int .u64 0, .int .i64 3, .int .i64 0, .int .u64 0] from rfl, show orderedA [(1, 3, 0), (3, 0, 0)] = false from by decide] at HO1
  go_wp2_with fail
  refine HO1.out.mono ?_
  rintro e w3 ⟨rfl, hb3⟩
  have HB3 := Lib.hid (show Below w.heap.size w w3 from (HB2.out.alloc HB2.out.size _).trans (hb3.mono (by have := HB2.out.size; simp; omega)))
  clear hb3 HB2 HO1
  have HO1 := Lib.hid (ordered_any (some ⟨w3.heap.size, 0, none⟩) 1 [(2, 0, 0)] (w3.alloc (.cells ([((2 : Int), (0 : Int), (0 : BitVec 64))].flatMap ac3).toArray 79)) (pl_rd3 (World.alloc_heap_new w3 _) (by simp) (by decide)) (by decide))
  rw [show ([((2 : Int), (0 : Int), (0 : BitVec 64))].flatMap ac3).toArray = #[Value.int .i64 2, .int .i64 0, .int .u64 0] from rfl, show orderedA [(2, 0, 0)] = true from by decide] at HO1
  go_wp2_with fail
  refine HO1.out.mono ?_
  rintro e w4 ⟨rfl, hb4⟩
  have HB4 := Lib.hid (show Below w.heap.size w w4 from (HB3.out.alloc HB3.out.size _).trans (hb4.mono (by have := HB3.out.size; simp; omega)))
  clear hb4 HB3 HO1
  have HO1 := Lib.hid (check1_any (some ⟨w4.heap.size, 0, none⟩) 1 (3, 1, 0) (w4.alloc (.cells ([((3 : Int), (1 : Int), (0 : BitVec 64))].flatMap ac3).toArray 79)) (pl_rd3 (World.alloc_heap_new w4 _) (by simp) (by decide)) (by decide))
  rw [show ([((3 : Int), (1 : Int), (0 : BitVec 64))].flatMap ac3).toArray = #[Value.int .i64 3, .int .i64 1, .int .u64 0] from rfl] at HO1
  go_wp2_with fail
  refine HO1.out.mono ?_
  rintro e w5 ⟨rfl, hb5⟩
  have HB5 := Lib.hid (show Below w.heap.size w w5 from (HB4.out.alloc HB4.out.size _).trans (hb5.mono (by have := HB4.out.size; simp; omega)))
  clear hb5 HB4 HO1
  go_wp2_with fail
  refine (num08_any 2 _).mono ?_
  rintro e w' ⟨rfl, rfl⟩
  go_wp2_with fail
  go_ret
  exact ⟨rfl, HB5.out⟩
end Go.Proofs.Ytaflbfmlajbjcaa
