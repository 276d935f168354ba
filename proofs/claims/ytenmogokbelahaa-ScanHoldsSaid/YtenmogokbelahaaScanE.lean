/- The walks of a reader's functions: the ways' further steps. -/
import Derived.Test.YtenmogokbelahaaScanD
namespace Go.Proofs.Ytenmogokbelahaa
open Go Go.RowKit

set_option maxRecDepth 100000 in
set_option maxHeartbeats 2000000 in
theorem up1_any {O : Nat} {r : Rd} {at_ : Int} {nx : Value} (v : BitVec 64) (w : World) (N : Nat → Prop) (h : RawAt w O r at_ nx) (hw : r.way = 1) (hd : r.done = false) (h28 : r.slots ≤ 28) (h1 : 0 ≤ r.slot) (h2 : r.slot < r.slots) (hN : N O) :
    Calls Try.prog 107 #[.pointer (some ⟨O, 0, none⟩), vw v] w (NxtAt w O { r with ptr := v, step := 3 } N) := by
  obtain ⟨-, -, -, -, -, -, c6, c7, -⟩ := h.cells
  have f := h.free 6
  obtain ⟨e0, e1, e2⟩ := wrap_slot h1 h2 h28
  obtain ⟨W1, hW1⟩ : ∃ W1, w.setCell ⟨O, 6, none⟩ (vw v) = W1 := ⟨_, rfl⟩
  have hR1 : RawAt W1 O { r with ptr := v } at_ nx := by rw [← hW1]; exact h.setPtr v
  have hF1 : Frn (fun b => b = O) w W1 := by rw [← hW1]; exact (Frn.refl (fun b => b = O) w).setCell ⟨O, 6, none⟩ (.inl rfl) _
  obtain ⟨-, -, -, c3, -⟩ := hR1.cells
  have HA := Lib.hid (wants_any (2 * r.slot) 108 #[] W1 hR1)
  obtain ⟨r', hr'⟩ : ∃ r', ({ r with ptr := v, step := 3 } : Rd) = r' := ⟨_, rfl⟩
  rw [hr']
  have HX := Lib.hid (And.intro hw (And.intro hd (And.intro hN (And.intro hF1 hr'))))
  clear h hR1 hF1 hw hd h28 h1 h2 hN hr'
  simp only at c3 HA
  go_enter Try.func107, Try.ntmps107
  go_wp2_with fail
  refine HA.out.mono ?_
  rintro e w2 ⟨rfl, hr, hf⟩
  go_wp2_with fail
  go_end0
  obtain ⟨x1, x2, x3, x4, x5⟩ := HX.out
  subst x5
  refine ⟨rfl, ⟨_, _, O, hr, .inl x3, .inl x3, hr.lt, .inr ⟨x2, ?_, ?_, ?_⟩⟩, ?_⟩
  · exact (wants_eq1 (r := { r with ptr := v, step := 3 }) (.inr rfl)).symm
  · unfold nextV
    rw [if_pos x1]
    rfl
  · intro _ h
    cases h
  · exact x4.trans hf
set_option maxRecDepth 100000 in
set_option maxHeartbeats 2000000 in
theorem down11_any {O : Nat} {r : Rd} {at_ : Int} {nx : Value} (v : BitVec 64) (w : World) (N : Nat → Prop) (h : RawAt w O r at_ nx) (hw : r.way = 2) (hd : r.done = false) (h28 : r.slots ≤ 28) (h1 : 0 ≤ r.slot) (h2 : r.slot < r.slots) (hN : N O) :
    Calls Try.prog 114 #[.pointer (some ⟨O, 0, none⟩), vw v] w (NxtAt w O { r with ahead := v, step := 3 } N) := by
  obtain ⟨-, -, -, -, -, -, c6, c7, -⟩ := h.cells
  have f := h.free 7
  obtain ⟨e0, e1, e2⟩ := wrap_slot h1 h2 h28
  obtain ⟨W1, hW1⟩ : ∃ W1, w.setCell ⟨O, 7, none⟩ (vw v) = W1 := ⟨_, rfl⟩
  have hR1 : RawAt W1 O { r with ahead := v } at_ nx := by rw [← hW1]; exact h.setAhead v
  have hF1 : Frn (fun b => b = O) w W1 := by rw [← hW1]; exact (Frn.refl (fun b => b = O) w).setCell ⟨O, 7, none⟩ (.inl rfl) _
  obtain ⟨-, -, -, c3, -⟩ := hR1.cells
  have HA := Lib.hid (wants_any (2 * r.slot) 108 #[] W1 hR1)
  obtain ⟨r', hr'⟩ : ∃ r', ({ r with ahead := v, step := 3 } : Rd) = r' := ⟨_, rfl⟩
  rw [hr']
  have HX := Lib.hid (And.intro hw (And.intro hd (And.intro hN (And.intro hF1 hr'))))
  clear h hR1 hF1 hw hd h28 h1 h2 hN hr'
  simp only at c3 HA
  go_enter Try.func114, Try.ntmps114
  go_wp2_with fail
  refine HA.out.mono ?_
  rintro e w2 ⟨rfl, hr, hf⟩
  go_wp2_with fail
  go_end0
  obtain ⟨x1, x2, x3, x4, x5⟩ := HX.out
  subst x5
  refine ⟨rfl, ⟨_, _, O, hr, .inl x3, .inl x3, hr.lt, .inr ⟨x2, ?_, ?_, ?_⟩⟩, ?_⟩
  · exact (wants_eq1 (r := { r with ahead := v, step := 3 }) (.inr rfl)).symm
  · unfold nextV
    rw [if_neg (by simp only; rw [x1]; decide)]
    rfl
  · intro _ h
    cases h
  · exact x4.trans hf
set_option maxRecDepth 100000 in
set_option maxHeartbeats 2000000 in
theorem up3_any {O : Nat} {r : Rd} {at_ : Int} {nx : Value} (v : BitVec 64) (w : World) (N : Nat → Prop) (h : RawAt w O r at_ nx) (hw : r.way = 1) (hd : r.done = false) (h28 : r.slots ≤ 28) (h1 : 0 ≤ r.slot) (h2 : r.slot < r.slots) (hN : N O) {B : Nat} (hB : Box w B 72 (gv 107)) :
    Calls Try.prog 111 #[.pointer (some ⟨O, 0, none⟩), vw v, .pointer (some ⟨B, 0, none⟩)] w (NxtAt w O { r with ahead := v, step := 2 } N) := by
  obtain ⟨-, -, -, -, -, -, c6, c7, -⟩ := h.cells
  have f := h.free 7
  obtain ⟨e0, e1, e2⟩ := wrap_slot h1 h2 h28
  obtain ⟨W1, hW1⟩ : ∃ W1, w.setCell ⟨O, 7, none⟩ (vw v) = W1 := ⟨_, rfl⟩
  have hR1 : RawAt W1 O { r with ahead := v } at_ nx := by rw [← hW1]; exact h.setAhead v
  have hF1 : Frn (fun b => b = O) w W1 := by rw [← hW1]; exact (Frn.refl (fun b => b = O) w).setCell ⟨O, 7, none⟩ (.inl rfl) _
  have hBO : B ≠ O := by
    rintro rfl
    have h' : w.heap[B]? = _ := h
    rw [show w.heap[B]? = _ from hB] at h'
    simp at h'
  have hB1 : Box W1 B 72 (gv 107) := hB.kept (hF1.block _ hB.lt hBO)
  have b0 := hB1.cell
  obtain ⟨-, -, -, c3, -⟩ := hR1.cells
  have HA := Lib.hid (wants_any (2 * r.slot + 1) 107 #[] W1.drew (show RawAt W1.drew O _ _ _ from hR1))
  have HQ := Lib.hid (And.intro hBO (show Box W1.drew B 72 (gv 107) from hB1))
  obtain ⟨r', hr'⟩ : ∃ r', ({ r with ahead := v, step := 2 } : Rd) = r' := ⟨_, rfl⟩
  rw [hr']
  have HX := Lib.hid (And.intro hw (And.intro hd (And.intro hN (And.intro hF1 hr'))))
  unfold gv at b0
  clear h hR1 hF1 hw hd h28 h1 h2 hN hr' hB hB1 hBO
  simp only at c3 HA
  go_enter Try.func111, Try.ntmps111
  go_wp2_with fail
  go_region_held3 (fun w' => w'.cell? ⟨O, 3, none⟩ = some (.int .i64 r.slot) ∧ w'.cell? ⟨B, 0, none⟩ = some (.func (.func 107) #[] #[]))
    (first | exact ⟨c3, b0⟩ | exact ⟨q3, qb⟩)
    (first
     | (go_at_call 92
        refine HA.out.mono ?_
        rintro e w2 ⟨rfl, hr, hf⟩
        have q3 := hr.cells.2.2.2.1
        have qb := (HQ.out.2.kept (hf.block _ HQ.out.2.lt HQ.out.1)).cell))
  go_wp2_with fail
  go_end0
  obtain ⟨x1, x2, x3, x4, x5⟩ := HX.out
  subst x5
  refine ⟨rfl, ⟨_, _, O, hr, .inl x3, .inl x3, hr.lt, .inr ⟨x2, ?_, ?_, ?_⟩⟩, ?_⟩
  · exact (wants_eq3 (r := { r with ahead := v, step := 2 }) (by simp) (by simp [x1])).symm
  · unfold nextV
    rw [if_pos x1]
    rfl
  · intro _ h
    cases h
  · exact (x4.drewN 1).trans hf
set_option maxRecDepth 100000 in
set_option maxHeartbeats 2000000 in
theorem up2_any {O : Nat} {r : Rd} {at_ : Int} {nx : Value} (v : BitVec 64) (w : World) (N : Nat → Prop) (h : RawAt w O r at_ nx) (hw : r.way = 1) (hd : r.done = false) (h28 : r.slots ≤ 28) (h1 : 0 ≤ r.slot) (h2 : r.slot < r.slots) (hN : N O) :
    Calls Try.prog 109 #[.pointer (some ⟨O, 0, none⟩), vw v] w (NxtAt w O (({ r with ptr := v } : Rd).ended false) N) := by
  obtain ⟨-, -, -, -, -, -, c6, c7, -⟩ := h.cells
  have f := h.free 6
  obtain ⟨W1, hW1⟩ : ∃ W1, w.setCell ⟨O, 6, none⟩ (vw v) = W1 := ⟨_, rfl⟩
  have hR1 : RawAt W1 O { r with ptr := v } at_ nx := by rw [← hW1]; exact h.setPtr v
  have hF1 : Frn (fun b => b = O) w W1 := by rw [← hW1]; exact (Frn.refl (fun b => b = O) w).setCell ⟨O, 6, none⟩ (.inl rfl) _
  have HA := Lib.hid (missed_any W1 hR1 (.inl hw) h28 h1 h2)
  have HE := Lib.hid (fun w' (hh : EndAt w' O { r with ptr := v }) => rat_of_end (r := { r with ptr := v }) (N := fun b => N b ∨ w.heap.size ≤ b) (.inl hw) h1 h2 hh (.inl hN))
  obtain ⟨r', hr'⟩ : ∃ r', (({ r with ptr := v } : Rd).ended false) = r' := ⟨_, rfl⟩
  rw [hr'] at HE ⊢
  have HX := Lib.hid hF1
  clear h hR1 hF1 hw hd h28 h1 h2 hN hr'
  go_enter Try.func109, Try.ntmps109
  go_wp2_with fail
  refine HA.out.mono ?_
  rintro e w2 ⟨rfl, hr, hf⟩
  go_wp2_with fail
  go_end0
  exact ⟨rfl, HE.out _ hr, HX.out.trans hf⟩
set_option maxRecDepth 100000 in
set_option maxHeartbeats 2000000 in
theorem down_any {O : Nat} {r : Rd} {at_ : Int} {nx : Value} (v : BitVec 64) (w : World) (N : Nat → Prop) (h : RawAt w O r at_ nx) (hw : r.way = 2) (hd : r.done = false) (h28 : r.slots ≤ 28) (h1 : 0 ≤ r.slot) (h2 : r.slot < r.slots) (hN : N O) :
    Calls Try.prog 91 #[.pointer (some ⟨O, 0, none⟩), vw v] w (NxtAt w O (if v = r.key then { r with step := 1 } else r.goes) N) := by
  obtain ⟨-, -, c2, c3, -⟩ := h.cells
  obtain ⟨e0, e1, e2⟩ := wrap_slot h1 h2 h28
  obtain ⟨V, hV⟩ : ∃ V : Int, (v.toNat : Int) = V := ⟨_, rfl⟩
  obtain ⟨K, hK⟩ : ∃ V : Int, (r.key.toNat : Int) = V := ⟨_, rfl⟩
  have hiff : v = r.key ↔ V = K := by rw [← hV, ← hK, word_eq]
  have hv : ∀ x : BitVec 64, vw x = .int .u64 x.toNat := fun _ => rfl
  have HA := Lib.hid (wants_any (2 * r.slot + 1) 113 #[] w h)
  have HB := Lib.hid (on_any w h (.inr hw) h28 h1 h2)
  have HE := Lib.hid (fun w' (hh : BegAt w' O r.goes) => rat_of_beg (N := fun b => N b ∨ w.heap.size ≤ b) (.inr hw) h1 h2 hh (.inl hN))
  obtain ⟨r', hr'⟩ : ∃ r', (if v = r.key then { r with step := 1 } else r.goes) = r' := ⟨_, rfl⟩
  rw [hr']
  have HX := Lib.hid (And.intro hw (And.intro hd (And.intro hiff (And.intro hN hr'))))
  rw [hv, hK] at c2
  rw [hv, hV]
  clear h hw hd h28 h1 h2 hN hv hV hK hiff hr'
  by_cases hk : V = K
  · subst hk
    go_enter Try.func91, Try.ntmps91
    go_wp2_with fail
    refine HA.out.mono ?_
    rintro e w2 ⟨rfl, hr, hf⟩
    go_wp2_with fail
    go_end0
    obtain ⟨x1, x2, x3, x4, x5⟩ := HX.out
    rw [if_pos (x3.2 (by trivial))] at x5
    subst x5
    refine ⟨rfl, ⟨_, _, O, hr, .inl x4, .inl x4, hr.lt, .inr ⟨x2, ?_, ?_, ?_⟩⟩, hf⟩
    · exact (wants_eq3 (r := { r with step := 1 }) (by simp) (by simp [x1])).symm
    · unfold nextV
      rw [if_neg (by simp only; rw [x1]; decide)]
      rfl
    · intro h _
      exact absurd (x1.symm.trans h) (by decide)
  · go_enter Try.func91, Try.ntmps91
    go_wp2_with fail
    refine HB.out.mono ?_
    rintro e w2 ⟨rfl, hr, hf⟩
    go_wp2_with fail
    refine bodyPost_ret (results_none rfl _ _ _) rfl ?_
    obtain ⟨x1, x2, x3, x4, x5⟩ := HX.out
    rw [if_neg (fun h => hk (x3.1 h))] at x5
    subst x5
    exact ⟨rfl, HE.out _ hr, hf⟩
set_option maxRecDepth 100000 in
set_option maxHeartbeats 2000000 in
theorem down1_any {O : Nat} {r : Rd} {at_ : Int} {nx : Value} (v : BitVec 64) (w : World) (N : Nat → Prop) (h : RawAt w O r at_ nx) (hw : r.way = 2) (hd : r.done = false) (h28 : r.slots ≤ 28) (h1 : 0 ≤ r.slot) (h2 : r.slot < r.slots) (hN : N O) :
    Calls Try.prog 113 #[.pointer (some ⟨O, 0, none⟩), vw v] w (NxtAt w O (if v = 0#64 then ({ r with ptr := v, step := 2 } : Rd).goes else { r with ptr := v, step := 2 }) N) := by
  obtain ⟨-, -, -, -, -, -, c6, c7, -⟩ := h.cells
  have f := h.free 6
  obtain ⟨e0, e1, e2⟩ := wrap_slot h1 h2 h28
  obtain ⟨W1, hW1⟩ : ∃ W1, w.setCell ⟨O, 6, none⟩ (vw v) = W1 := ⟨_, rfl⟩
  have hR1 : RawAt W1 O { r with ptr := v } at_ nx := by rw [← hW1]; exact h.setPtr v
  have hF1 : Frn (fun b => b = O) w W1 := by rw [← hW1]; exact (Frn.refl (fun b => b = O) w).setCell ⟨O, 6, none⟩ (.inl rfl) _
  obtain ⟨-, -, -, c3, -⟩ := hR1.cells
  have HA := Lib.hid (wants_any (2 * r.slot - 1) 114 #[] W1 hR1)
  have HB := Lib.hid (on_any W1 hR1 (.inr hw) h28 h1 h2)
  have HE := Lib.hid (fun w' (hh : BegAt w' O ({ r with ptr := v, step := 2 } : Rd).goes) => rat_of_beg (r := { r with ptr := v, step := 2 }) (N := fun b => N b ∨ w.heap.size ≤ b) (.inr hw) h1 h2 hh (.inl hN))
  have hgo : ({ r with ptr := v, step := 2 } : Rd).goes = ({ r with ptr := v } : Rd).goes := rfl
  rw [hgo] at HE ⊢
  obtain ⟨V, hV⟩ : ∃ V : Int, (v.toNat : Int) = V := ⟨_, rfl⟩
  have hiff : v = 0#64 ↔ V = 0 := by rw [← hV, word_eq0]
  have hv : ∀ x : BitVec 64, vw x = .int .u64 x.toNat := fun _ => rfl
  obtain ⟨r', hr'⟩ : ∃ r', (if v = 0#64 then ({ r with ptr := v } : Rd).goes else { r with ptr := v, step := 2 }) = r' := ⟨_, rfl⟩
  rw [hr']
  have HX := Lib.hid (And.intro hw (And.intro hd (And.intro hiff (And.intro hN (And.intro hF1 hr')))))
  simp only at c3 HA HB
  rw [hv, hV] at hW1 ⊢
  clear h hR1 hF1 hw hd h28 h1 h2 hN hv hV hiff hr' hgo
  by_cases hk : V = 0
  · subst hk
    go_enter Try.func113, Try.ntmps113
    go_wp2_with fail
    refine HB.out.mono ?_
    rintro e w2 ⟨rfl, hr, hf⟩
    go_wp2_with fail
    refine bodyPost_ret (results_none rfl _ _ _) rfl ?_
    obtain ⟨x1, x2, x3, x4, x5, x6⟩ := HX.out
    rw [if_pos (x3.2 (by trivial))] at x6
    subst x6
    exact ⟨rfl, HE.out _ hr, x5.trans hf⟩
  · go_enter Try.func113, Try.ntmps113
    go_wp2_with fail
    refine HA.out.mono ?_
    rintro e w2 ⟨rfl, hr, hf⟩
    go_wp2_with fail
    go_end0
    obtain ⟨x1, x2, x3, x4, x5, x6⟩ := HX.out
    rw [if_neg (fun h => hk (x3.1 h))] at x6
    subst x6
    refine ⟨rfl, ⟨_, _, O, hr, .inl x4, .inl x4, hr.lt, .inr ⟨x2, ?_, ?_, ?_⟩⟩, x5.trans hf⟩
    · exact (wants_eq2 (r := { r with ptr := v, step := 2 }) (by simp) (.inr ⟨x1, rfl⟩)).symm
    · unfold nextV
      rw [if_neg (by simp only; rw [x1]; decide)]
      rfl
    · intro h _
      exact absurd (x1.symm.trans h) (by decide)
end Go.Proofs.Ytenmogokbelahaa
