/- The walks of a reader's functions: wants, begin, on, missed, again. -/
import Derived.Test.YtenmogokbelahaaScanA
import Derived.Laws.EntriesVeiled
import Derived.Deep.QuietTactic
import Derived.BigQuiet
import Derived.Deep.RegionHeld3
namespace Go.Proofs.Ytenmogokbelahaa
open Go Go.RowKit

/-- A reader's cells in block O. -/
def RawAt (W : World) (O : Nat) (r : Rd) (at_ : Int) (nx : Value) : Prop :=
  W.heap[O]? = some (.cells #[.int .i64 r.way, .int .i64 r.slots, vw r.key, .int .i64 r.slot, .int .i64 at_, nx, vw r.ptr, vw r.ahead, .bool r.is, .int .i64 r.loads, .bool true] 74 (0, 0))
theorem cells_set {W : World} {O : Nat} {cs : Array Value} {t : TypeId} (h : W.heap[O]? = some (.cells cs t (0, 0))) (i : Nat) (u : Value) : (W.setCell ⟨O, i, none⟩ u).heap[O]? = some (.cells (cs.setIfInBounds i u) t (0, 0)) := by
  show (W.heap.modify O _)[O]? = _
  rw [Array.getElem?_modify, if_pos rfl, h]
  simp
theorem RawAt.lt {W : World} {O : Nat} {r : Rd} {at_ : Int} {nx : Value} (h : RawAt W O r at_ nx) : O < W.heap.size := (Array.getElem?_eq_some_iff.1 h).1
theorem RawAt.kept {W W' : World} {O : Nat} {r : Rd} {at_ : Int} {nx : Value} (h : RawAt W O r at_ nx) (e : W'.heap[O]? = W.heap[O]?) : RawAt W' O r at_ nx := e.trans h
theorem RawAt.free {W : World} {O : Nat} {r : Rd} {at_ : Int} {nx : Value} (h : RawAt W O r at_ nx) (i : Nat) : W.frozen? ⟨O, i, none⟩ = false := by
  unfold RawAt at h
  simp [World.frozen?, h]
theorem RawAt.cells {W : World} {O : Nat} {r : Rd} {at_ : Int} {nx : Value} (h : RawAt W O r at_ nx) :
    W.cell? ⟨O, 0, none⟩ = some (.int .i64 r.way) ∧ W.cell? ⟨O, 1, none⟩ = some (.int .i64 r.slots) ∧ W.cell? ⟨O, 2, none⟩ = some (vw r.key) ∧ W.cell? ⟨O, 3, none⟩ = some (.int .i64 r.slot) ∧ W.cell? ⟨O, 4, none⟩ = some (.int .i64 at_) ∧ W.cell? ⟨O, 5, none⟩ = some nx ∧
    W.cell? ⟨O, 6, none⟩ = some (vw r.ptr) ∧ W.cell? ⟨O, 7, none⟩ = some (vw r.ahead) ∧ W.cell? ⟨O, 8, none⟩ = some (.bool r.is) ∧ W.cell? ⟨O, 9, none⟩ = some (.int .i64 r.loads) ∧ W.cell? ⟨O, 10, none⟩ = some (.bool true) := by
  unfold RawAt at h
  refine ⟨?_, ?_, ?_, ?_, ?_, ?_, ?_, ?_, ?_, ?_, ?_⟩ <;> simp [World.cell?, h]
theorem RawAt.setAt {W : World} {O : Nat} {r : Rd} {at_ : Int} {nx : Value} (h : RawAt W O r at_ nx) (a : Int) : RawAt (W.setCell ⟨O, 4, none⟩ (.int .i64 a)) O r a nx := cells_set h 4 _
theorem RawAt.setNx {W : World} {O : Nat} {r : Rd} {at_ : Int} {nx : Value} (h : RawAt W O r at_ nx) (v : Value) : RawAt (W.setCell ⟨O, 5, none⟩ v) O r at_ v := cells_set h 5 _
theorem RawAt.setSlot {W : World} {O : Nat} {r : Rd} {at_ : Int} {nx : Value} (h : RawAt W O r at_ nx) (s : Int) : RawAt (W.setCell ⟨O, 3, none⟩ (.int .i64 s)) O { r with slot := s } at_ nx := cells_set h 3 _
theorem RawAt.setPtr {W : World} {O : Nat} {r : Rd} {at_ : Int} {nx : Value} (h : RawAt W O r at_ nx) (v : BitVec 64) : RawAt (W.setCell ⟨O, 6, none⟩ (vw v)) O { r with ptr := v } at_ nx := cells_set h 6 _
theorem RawAt.setAhead {W : World} {O : Nat} {r : Rd} {at_ : Int} {nx : Value} (h : RawAt W O r at_ nx) (v : BitVec 64) : RawAt (W.setCell ⟨O, 7, none⟩ (vw v)) O { r with ahead := v } at_ nx := cells_set h 7 _
theorem RawAt.setIs {W : World} {O : Nat} {r : Rd} {at_ : Int} {nx : Value} (h : RawAt W O r at_ nx) (v : Bool) : RawAt (W.setCell ⟨O, 8, none⟩ (.bool v)) O { r with is := v } at_ nx := cells_set h 8 _
theorem RawAt.setLoads {W : World} {O : Nat} {r : Rd} {at_ : Int} {nx : Value} (h : RawAt W O r at_ nx) (k : Nat) : RawAt (W.setCell ⟨O, 9, none⟩ (.int .i64 k)) O { r with loads := k } at_ nx := cells_set h 9 _

/-- wants. -/
theorem wants_any {O : Nat} {r : Rd} {at_ : Int} {nx : Value} (a : Int) (k : Nat) (bs : Array Value) (w : World) (h : RawAt w O r at_ nx) :
    Calls Try.prog 92 #[.pointer (some ⟨O, 0, none⟩), .int .i64 a, .func (.func k) #[] bs] w fun e w' => e = .returned (.tuple #[]) ∧ RawAt w' O r a (.func (.func k) #[] bs) ∧ Frn (fun b => b = O) w w' := by
  obtain ⟨-, -, -, -, c4, c5, -⟩ := h.cells
  have f4 := h.free 4
  have f5 := h.free 5
  have H := Lib.hid h
  clear h
  go_enter Try.func92, Try.ntmps92
  go_wp2
  go_end0
  exact ⟨rfl, (H.out.setAt a).setNx _, ((Frn.refl (fun b => b = O) w).setCell ⟨O, 4, none⟩ (.inl rfl) _).setCell ⟨O, 5, none⟩ (.inl rfl) _⟩
set_option maxRecDepth 100000 in
set_option maxHeartbeats 2000000 in
/-- begin, where there is a slot. -/
theorem begin_in {O : Nat} {r : Rd} {at_ : Int} {nx : Value} (k : Nat) (w : World) (h : RawAt w O r at_ nx) (hb : begV r.way = .func (.func k) #[] #[]) (h1 : 0 ≤ r.slot) (h2 : r.slot < r.slots) (h28 : r.slots ≤ 28) :
    Calls Try.prog 70 #[.pointer (some ⟨O, 0, none⟩)] w fun e w' => e = .returned (.tuple #[]) ∧ RawAt w' O r (2 * r.slot) (.func (.func k) #[] #[]) ∧ Frn (fun b => b = O) w w' := by
  obtain ⟨c0, c1, -, c3, -⟩ := h.cells
  have hlt := h.lt
  obtain ⟨way, slots, key, slot, step, ptr, ahead, done, is, loads⟩ := r
  simp only at *
  have i1 : (slots : Int) ≤ 28 := by omega
  have H := Lib.hid h
  have HB := Lib.hid hb
  have e1 : decide (0 ≤ slot) = true := decide_eq_true h1
  have e2 : decide (slot ≤ (slots : Int) - 1) = true := decide_eq_true (by omega)
  have hwr : IntKind.i64.wrap ((slots : Int) - 1) = (slots : Int) - 1 := by rw [IntKind.wrap_i64]; omega
  have hm2 : IntKind.i64.wrap (2 * slot) = 2 * slot := by rw [IntKind.wrap_i64]; omega
  have hbl : Below w.heap.size w (w.alloc (.map begM 2)).drew.drew := below_drewN ((Below.refl _ _).alloc (Nat.le_refl _) _) 2
  have d0 : (w.alloc (.map begM 2)).drew.drew.cell? ⟨O, 0, none⟩ = some (.int .i64 way) := (hbl.cell (p := ⟨O, 0, none⟩) hlt).trans c0
  have d3 : (w.alloc (.map begM 2)).drew.drew.cell? ⟨O, 3, none⟩ = some (.int .i64 slot) := (hbl.cell (p := ⟨O, 3, none⟩) hlt).trans c3
  have hl := look_beg (w := (w.alloc (.map begM 2)).drew.drew) (b := w.heap.size) (World.alloc_heap_new w (.map begM 2)) (way : Int)
  rw [hb] at hl
  have HW := Lib.hid (wants_any (2 * slot) k #[] (w.alloc (.map begM 2)).drew.drew (h.kept (hbl.block O hlt)))
  have HBL := Lib.hid hbl
  clear hbl
  clear h hb
  go_enter Try.func70, Try.ntmps70
  go_wp2_with fail
  go_region_held3 (fun w' => w'.cell? ⟨O, 1, none⟩ = some (.int .i64 slots) ∧ w'.cell? ⟨O, 3, none⟩ = some (.int .i64 slot))
    (first | exact ⟨c1, c3⟩)
    (first
     | (go_at_call 69
        refine (inS_any _ _ _ _).mono ?_
        rintro e w1 ⟨rfl, rfl⟩))
  go_wp2_with fail
  go_region_held3 (fun w' => w'.cell? ⟨O, 0, none⟩ = some (.int .i64 way) ∧ w'.cell? ⟨O, 3, none⟩ = some (.int .i64 slot))
    (first | exact ⟨c0, c3⟩ | exact ⟨d0, d3⟩ | exact ⟨q0, q3⟩)
    (first
     | (go_at_call 68
        refine (begins_any _).mono ?_
        rintro e w1 ⟨rfl, rfl⟩)
     | (go_at_call 92
        refine HW.out.mono ?_
        rintro e w2 ⟨rfl, hr2, hf2⟩
        obtain ⟨q0, -, -, q3, -⟩ := hr2.cells))
  go_end0
  exact ⟨rfl, hr2, (Frn.of_below HBL.out).trans hf2⟩
set_option maxRecDepth 100000 in
set_option maxHeartbeats 2000000 in
/-- begin, where there is none. -/
theorem begin_out {O : Nat} {r : Rd} {at_ : Int} {nx : Value} (w : World) (h : RawAt w O r at_ nx) (h1 : ¬ (0 ≤ r.slot ∧ r.slot < r.slots)) (h28 : r.slots ≤ 28) :
    Calls Try.prog 70 #[.pointer (some ⟨O, 0, none⟩)] w fun e w' => e = .returned (.tuple #[]) ∧ RawAt w' O r at_ .nilFunc ∧ Frn (fun b => b = O) w w' := by
  obtain ⟨c0, c1, -, c3, -, c5, -⟩ := h.cells
  have f5 := h.free 5
  obtain ⟨way, slots, key, slot, step, ptr, ahead, done, is, loads⟩ := r
  simp only at *
  have i1 : (slots : Int) ≤ 28 := by omega
  have H := Lib.hid h
  have hwr : IntKind.i64.wrap ((slots : Int) - 1) = (slots : Int) - 1 := by rw [IntKind.wrap_i64]; omega
  have e2 : (decide (0 ≤ slot) && decide (slot ≤ (slots : Int) - 1)) = false := by
    by_cases h0 : 0 ≤ slot
    · rw [decide_eq_false (show ¬ slot ≤ (slots : Int) - 1 by omega), Bool.and_false]
    · rw [decide_eq_false h0, Bool.false_and]
  clear h h1
  go_enter Try.func70, Try.ntmps70
  go_wp2_with fail
  go_region_held3 (fun w' => w'.cell? ⟨O, 1, none⟩ = some (.int .i64 slots) ∧ w'.cell? ⟨O, 3, none⟩ = some (.int .i64 slot))
    (first | exact ⟨c1, c3⟩)
    (first
     | (go_at_call 69
        refine (inS_any _ _ _ _).mono ?_
        rintro e w1 ⟨rfl, rfl⟩
        try rw [hwr]
        rw [e2]))
  have d5 : w.drew.cell? ⟨O, 5, none⟩ = some nx := c5
  have g5 : w.drew.frozen? ⟨O, 5, none⟩ = false := f5
  go_wp2_with fail
  refine bodyPost_ret (results_none rfl _ _ _) rfl ⟨rfl, ?_, ?_⟩
  · exact RawAt.setNx (W := w.drew) H.out _
  · exact ((Frn.refl (fun b => b = O) w).drewN 1).setCell ⟨O, 5, none⟩ (.inl rfl) _
/-- What stands behind begin: at the slot's key, or done. -/
def BegAt (W : World) (O : Nat) (r : Rd) : Prop := ∃ a nx, RawAt W O r a nx ∧ (0 ≤ r.slot ∧ r.slot < r.slots → a = 2 * r.slot ∧ nx = begV r.way) ∧ (¬ (0 ≤ r.slot ∧ r.slot < r.slots) → nx = .nilFunc)
theorem begin_any {O : Nat} {r : Rd} {at_ : Int} {nx : Value} (w : World) (h : RawAt w O r at_ nx) (hw : r.way = 1 ∨ r.way = 2) (h28 : r.slots ≤ 28) :
    Calls Try.prog 70 #[.pointer (some ⟨O, 0, none⟩)] w fun e w' => e = .returned (.tuple #[]) ∧ BegAt w' O r ∧ Frn (fun b => b = O) w w' := by
  by_cases hs : 0 ≤ r.slot ∧ r.slot < r.slots
  · obtain ⟨k, hk⟩ : ∃ k, begV r.way = .func (.func k) #[] #[] := by
      rcases hw with hw | hw <;> rw [hw]
      · exact ⟨_, rfl⟩
      · exact ⟨_, rfl⟩
    refine (begin_in k w h hk hs.1 hs.2 h28).mono ?_
    rintro e w' ⟨rfl, hr, hf⟩
    exact ⟨rfl, ⟨_, _, hr, fun _ => ⟨rfl, hk.symm⟩, fun hn => absurd hs hn⟩, hf⟩
  · refine (begin_out w h hs h28).mono ?_
    rintro e w' ⟨rfl, hr, hf⟩
    exact ⟨rfl, ⟨_, _, hr, fun hn => absurd hn hs, fun _ => rfl⟩, hf⟩
set_option maxRecDepth 100000 in
set_option maxHeartbeats 2000000 in
/-- on. -/
theorem on_any {O : Nat} {r : Rd} {at_ : Int} {nx : Value} (w : World) (h : RawAt w O r at_ nx) (hw : r.way = 1 ∨ r.way = 2) (h28 : r.slots ≤ 28) (h1 : 0 ≤ r.slot) (h2 : r.slot < r.slots) :
    Calls Try.prog 112 #[.pointer (some ⟨O, 0, none⟩)] w fun e w' => e = .returned (.tuple #[]) ∧ BegAt w' O r.goes ∧ Frn (fun b => b = O) w w' := by
  obtain ⟨c0, -, -, c3, -⟩ := h.cells
  have f3 := h.free 3
  obtain ⟨way, slots, key, slot, step, ptr, ahead, done, is, loads⟩ := r
  simp only at *
  have i1 : slot ≤ 28 := by omega
  have H := Lib.hid h
  rcases hw with rfl | rfl
  · have d0 : (w.setCell ⟨O, 3, none⟩ (.int .i64 (slot + 1))).cell? ⟨O, 0, none⟩ = some (.int .i64 1) := (h.setSlot (slot + 1)).cells.1
    have HB := Lib.hid (begin_any _ (h.setSlot (slot + 1)) (.inl rfl) h28)
    clear h
    go_enter Try.func112, Try.ntmps112
    go_wp2_with fail
    refine HB.out.mono ?_
    rintro e w2 ⟨rfl, hb, hf⟩
    go_wp2_with fail
    go_end0
    refine ⟨rfl, hb, ?_⟩
    exact ((Frn.refl (fun b => b = O) w).setCell ⟨O, 3, none⟩ (.inl rfl) _).trans hf
  · have d0 : (w.setCell ⟨O, 3, none⟩ (.int .i64 (slot + 1))).cell? ⟨O, 0, none⟩ = some (.int .i64 2) := (h.setSlot (slot + 1)).cells.1
    have d3 : (w.setCell ⟨O, 3, none⟩ (.int .i64 (slot + 1))).cell? ⟨O, 3, none⟩ = some (.int .i64 (slot + 1)) := (h.setSlot (slot + 1)).cells.2.2.2.1
    have g3 := (h.setSlot (slot + 1)).free 3
    have HB := Lib.hid (begin_any _ ((h.setSlot (slot + 1)).setSlot (slot - 1)) (.inr rfl) h28)
    clear h
    go_enter Try.func112, Try.ntmps112
    go_wp2_with fail
    rw [show slot + 1 - 2 = slot - 1 by omega]
    refine HB.out.mono ?_
    rintro e w2 ⟨rfl, hb, hf⟩
    go_wp2_with fail
    go_end0
    refine ⟨rfl, hb, ?_⟩
    exact (((Frn.refl (fun b => b = O) w).setCell ⟨O, 3, none⟩ (.inl rfl) _).setCell ⟨O, 3, none⟩ (.inl rfl) _).trans hf
/-- What missed leaves: done, or the next slot. -/
def EndAt (W : World) (O : Nat) (r : Rd) : Prop := if r.way = 1 ∧ r.ptr = 0#64 then ∃ a, RawAt W O r a .nilFunc else BegAt W O r.goes
set_option maxRecDepth 100000 in
set_option maxHeartbeats 2000000 in
/-- missed. -/
theorem missed_any {O : Nat} {r : Rd} {at_ : Int} {nx : Value} (w : World) (h : RawAt w O r at_ nx) (hw : r.way = 1 ∨ r.way = 2) (h28 : r.slots ≤ 28) (h1 : 0 ≤ r.slot) (h2 : r.slot < r.slots) :
    Calls Try.prog 110 #[.pointer (some ⟨O, 0, none⟩)] w fun e w' => e = .returned (.tuple #[]) ∧ EndAt w' O r ∧ Frn (fun b => b = O) w w' := by
  obtain ⟨c0, -, -, -, -, c5, c6, -⟩ := h.cells
  have f5 := h.free 5
  have HO := Lib.hid (on_any w h hw h28 h1 h2)
  have H := Lib.hid h
  clear h
  by_cases hw1 : r.way = 1
  · rw [hw1] at c0
    by_cases hp : r.ptr = 0#64
    · rw [hp] at c6
      go_enter Try.func110, Try.ntmps110
      go_wp2_with fail
      refine bodyPost_ret (results_none rfl _ _ _) rfl ⟨rfl, ?_, ?_⟩
      · unfold EndAt
        rw [if_pos ⟨hw1, hp⟩]
        exact ⟨_, H.out.setNx _⟩
      · exact (Frn.refl (fun b => b = O) w).setCell ⟨O, 5, none⟩ (.inl rfl) _
    · have hp0 : ¬ ((r.ptr.toNat : Int) = 0) := by
        intro hh
        exact hp (BitVec.eq_of_toNat_eq (by simp; omega))
      have hv : vw r.ptr = .int .u64 r.ptr.toNat := rfl
      rw [hv] at c6
      have hend : ∀ w', BegAt w' O r.goes → EndAt w' O r := fun w' hb => by unfold EndAt; rw [if_neg (fun hh => hp hh.2)]; exact hb
      clear hp hv
      go_enter Try.func110, Try.ntmps110
      go_wp2_with fail
      refine HO.out.mono ?_
      rintro e w2 ⟨rfl, hb, hf⟩
      go_wp2_with fail
      go_end0
      exact ⟨rfl, hend _ hb, hf⟩
  · have hw2 : r.way = 2 := by omega
    rw [hw2] at c0
    have hend : ∀ w', BegAt w' O r.goes → EndAt w' O r := fun w' hb => by unfold EndAt; rw [if_neg (fun hh => hw1 hh.1)]; exact hb
    clear hw1
    go_enter Try.func110, Try.ntmps110
    go_wp2_with fail
    refine HO.out.mono ?_
    rintro e w2 ⟨rfl, hb, hf⟩
    go_wp2_with fail
    go_end0
    exact ⟨rfl, hend _ hb, hf⟩
end Go.Proofs.Ytenmogokbelahaa
