/- The walks of a reader's functions: the ways' steps, Give. -/
import Derived.Test.YtenmogokbelahaaScanC
namespace Go.Proofs.Ytenmogokbelahaa
open Go Go.RowKit

def gv (k : Nat) : Value := .func (.func k) #[] #[]
/-- The step that comes next, as a function value; B: the box of up's inner step. -/
def nextV (r : Rd) (B : Nat) : Value :=
  if r.way = 1 then (if r.step = 0 then fnUp else if r.step = 1 then .func (.func 111) #[] #[.pointer (some ⟨B, 0, none⟩)] else if r.step = 2 then gv 107 else if r.step = 3 then gv 108 else gv 109)
  else (if r.step = 0 then fnDown else if r.step = 1 then gv 113 else if r.step = 2 then gv 114 else gv 108)
/-- A reader in memory; its blocks lie in N. -/
def RAt (W : World) (O : Nat) (r : Rd) (N : Nat → Prop) : Prop := ∃ a nx B, RawAt W O r a nx ∧ N O ∧ N B ∧ B < W.heap.size ∧
  ((r.done = true ∧ nx = .nilFunc) ∨ (r.done = false ∧ a = r.wants ∧ nx = nextV r B ∧ (r.way = 1 → r.step = 1 → Box W B 72 (gv 107))))
theorem RAt.lt {W : World} {O : Nat} {r : Rd} {N : Nat → Prop} (h : RAt W O r N) : O < W.heap.size := by
  obtain ⟨a, nx, B, h1, -⟩ := h
  exact h1.lt
theorem RAt.own {W : World} {O : Nat} {r : Rd} {N : Nat → Prop} (h : RAt W O r N) : N O := by
  obtain ⟨a, nx, B, h1, h2, -⟩ := h
  exact h2
theorem RAt.keep {W W' : World} {O : Nat} {r : Rd} {N : Nat → Prop} (h : RAt W O r N) (hs : W.heap.size ≤ W'.heap.size) (e : ∀ b, N b → b < W.heap.size → W'.heap[b]? = W.heap[b]?) : RAt W' O r N := by
  obtain ⟨a, nx, B, h1, h2, h3, h4, h5⟩ := h
  refine ⟨a, nx, B, h1.kept (e _ h2 h1.lt), h2, h3, by omega, ?_⟩
  rcases h5 with h5 | ⟨q1, q2, q3, q4⟩
  · exact .inl h5
  · exact .inr ⟨q1, q2, q3, fun x y => (q4 x y).kept (e _ h3 h4)⟩
theorem RAt.mono {W : World} {O : Nat} {r : Rd} {N N' : Nat → Prop} (h : RAt W O r N) (e : ∀ b, N b → b < W.heap.size → N' b) : RAt W O r N' := by
  obtain ⟨a, nx, B, h1, h2, h3, h4, h5⟩ := h
  exact ⟨a, nx, B, h1, e _ h2 h1.lt, e _ h3 h4, h4, h5⟩
theorem rat_of_beg {W : World} {O : Nat} {r : Rd} {N : Nat → Prop} (hw : r.way = 1 ∨ r.way = 2) (h1 : 0 ≤ r.slot) (h2 : r.slot < r.slots) (hb : BegAt W O r.goes) (hN : N O) : RAt W O r.goes N := by
  obtain ⟨a, nx, hr, hin, hout⟩ := hb
  obtain ⟨way, slots, key, slot, step, ptr, ahead, done, is, loads⟩ := r
  simp only at hw h1 h2
  rcases hw with rfl | rfl
  · have hg : (Rd.mk 1 slots key slot step ptr ahead done is loads).goes = Rd.mk 1 slots key (slot + 1) 0 ptr ahead (decide ((slots : Int) ≤ slot + 1)) is loads := rfl
    rw [hg] at hr hin hout ⊢
    by_cases h : (slots : Int) ≤ slot + 1
    · rw [decide_eq_true h] at hr hin hout ⊢
      exact ⟨a, nx, O, hr, hN, hN, hr.lt, .inl ⟨rfl, hout (fun hh => by simp only at hh; omega)⟩⟩
    · rw [decide_eq_false h] at hr hin hout ⊢
      obtain ⟨e1, e2⟩ := hin ⟨by simp only; omega, by simp only; omega⟩
      exact ⟨a, nx, O, hr, hN, hN, hr.lt, .inr ⟨rfl, e1, e2, fun _ h => (by cases h)⟩⟩
  · have hg : (Rd.mk 2 slots key slot step ptr ahead done is loads).goes = Rd.mk 2 slots key (slot - 1) 0 ptr ahead (decide (slot - 1 < 0)) is loads := rfl
    rw [hg] at hr hin hout ⊢
    by_cases h : slot - 1 < 0
    · rw [decide_eq_true h] at hr hin hout ⊢
      exact ⟨a, nx, O, hr, hN, hN, hr.lt, .inl ⟨rfl, hout (fun hh => by simp only at hh; omega)⟩⟩
    · rw [decide_eq_false h] at hr hin hout ⊢
      obtain ⟨e1, e2⟩ := hin ⟨by simp only; omega, by simp only; omega⟩
      exact ⟨a, nx, O, hr, hN, hN, hr.lt, .inr ⟨rfl, e1, e2, fun _ h => (by cases h)⟩⟩
theorem rat_of_end {W : World} {O : Nat} {r : Rd} {N : Nat → Prop} (hw : r.way = 1 ∨ r.way = 2) (h1 : 0 ≤ r.slot) (h2 : r.slot < r.slots) (hb : EndAt W O r) (hN : N O) : RAt W O (r.ended false) N := by
  unfold EndAt at hb
  have e : r.ended false = if r.way = 1 ∧ r.ptr = 0#64 then { r with done := true } else r.goes := by unfold Rd.ended; rw [if_neg (by simp)]
  rw [e]
  by_cases h : r.way = 1 ∧ r.ptr = 0#64
  · rw [if_pos h] at hb ⊢
    obtain ⟨a, ha⟩ := hb
    exact ⟨a, .nilFunc, O, ha, hN, hN, ha.lt, .inl ⟨rfl, rfl⟩⟩
  · rw [if_neg h] at hb ⊢
    exact rat_of_beg hw h1 h2 hb hN
theorem rat_of_again {W : World} {O : Nat} {r : Rd} {v : BitVec 64} {N : Nat → Prop} (hw : r.way = 1 ∨ r.way = 2) (h1 : 0 ≤ r.slot) (h2 : r.slot < r.slots) (hb : AgainAt W O r v) (hN : N O) : RAt W O (r.ended (decide (v = r.key))) N := by
  unfold AgainAt at hb
  by_cases h : v = r.key ∧ r.ptr ≠ 0#64 ∧ r.ptr ≠ r.ahead
  · rw [if_pos h] at hb
    have e : r.ended (decide (v = r.key)) = { r with done := true, is := true } := by unfold Rd.ended; rw [if_pos ⟨decide_eq_true h.1, h.2⟩]
    rw [e]
    obtain ⟨a, ha⟩ := hb
    exact ⟨a, .nilFunc, O, ha, hN, hN, ha.lt, .inl ⟨rfl, rfl⟩⟩
  · rw [if_neg h] at hb
    have e : r.ended (decide (v = r.key)) = r.ended false := by
      unfold Rd.ended
      rw [if_neg (fun hh => h ⟨of_decide_eq_true hh.1, hh.2⟩)]
      exact (if_neg (by simp)).symm
    rw [e]
    exact rat_of_end hw h1 h2 hb hN
theorem wrap_slot {slot : Int} {slots : Nat} (h1 : 0 ≤ slot) (h2 : slot < slots) (h28 : slots ≤ 28) : IntKind.i64.wrap (2 * slot) = 2 * slot ∧ IntKind.i64.wrap (2 * slot + 1) = 2 * slot + 1 ∧ IntKind.i64.wrap (2 * slot - 1) = 2 * slot - 1 := by
  refine ⟨?_, ?_, ?_⟩ <;> rw [IntKind.wrap_i64] <;> omega
theorem wants_eq1 {r : Rd} (h : r.step = 0 ∨ r.step = 3) : r.wants = 2 * r.slot := by unfold Rd.wants; rw [if_pos h]
theorem wants_eq2 {r : Rd} (h : ¬ (r.step = 0 ∨ r.step = 3)) (h' : (r.way = 1 ∧ r.step = 1) ∨ (r.way = 2 ∧ r.step = 2)) : r.wants = 2 * r.slot - 1 := by unfold Rd.wants; rw [if_neg h, if_pos h']
theorem wants_eq3 {r : Rd} (h : ¬ (r.step = 0 ∨ r.step = 3)) (h' : ¬ ((r.way = 1 ∧ r.step = 1) ∨ (r.way = 2 ∧ r.step = 2))) : r.wants = 2 * r.slot + 1 := by unfold Rd.wants; rw [if_neg h, if_neg h']

/-- What a step leaves. -/
def NxtAt (w : World) (O : Nat) (r : Rd) (N : Nat → Prop) (e : Ending) (w' : World) : Prop := e = .returned (.tuple #[]) ∧ RAt w' O r (fun b => N b ∨ w.heap.size ≤ b) ∧ Frn (fun b => b = O) w w'
set_option maxRecDepth 100000 in
set_option maxHeartbeats 2000000 in
theorem up_any {O : Nat} {r : Rd} {at_ : Int} {nx : Value} (v : BitVec 64) (w : World) (N : Nat → Prop) (h : RawAt w O r at_ nx) (hw : r.way = 1) (hd : r.done = false) (h28 : r.slots ≤ 28) (h1 : 0 ≤ r.slot) (h2 : r.slot < r.slots) (hN : N O) :
    Calls Try.prog 90 #[.pointer (some ⟨O, 0, none⟩), vw v] w (NxtAt w O { r with step := if v = r.key then 1 else 4 } N) := by
  obtain ⟨W1, hW1⟩ : ∃ W1, w.alloc (.cells #[gv 107] 72) = W1 := ⟨_, rfl⟩
  have hb1 : Below w.heap.size w W1 := by rw [← hW1]; exact (Below.refl _ _).alloc (Nat.le_refl _) _
  have hB1 : Box W1 w.heap.size 72 (gv 107) := by rw [← hW1]; exact Box.new _ _ _
  have hR1 : RawAt W1 O r at_ nx := h.kept (hb1.block _ h.lt)
  obtain ⟨-, -, c2, c3, -⟩ := hR1.cells
  obtain ⟨e0, e1, e2⟩ := wrap_slot h1 h2 h28
  have hne : w.heap.size ≠ O := by have := h.lt; omega
  obtain ⟨V, hV⟩ : ∃ V : Int, (v.toNat : Int) = V := ⟨_, rfl⟩
  obtain ⟨K, hK⟩ : ∃ V : Int, (r.key.toNat : Int) = V := ⟨_, rfl⟩
  have hiff : v = r.key ↔ V = K := by rw [← hV, ← hK, word_eq]
  have hv : ∀ x : BitVec 64, vw x = .int .u64 x.toNat := fun _ => rfl
  have HA := Lib.hid (wants_any (2 * r.slot + 1) 109 #[] W1 hR1)
  have HB := Lib.hid (wants_any (2 * r.slot - 1) 111 #[.pointer (some ⟨w.heap.size, 0, none⟩)] W1 hR1)
  have HS := Lib.hid (And.intro hb1 (And.intro hB1 (And.intro hne hN)))
  obtain ⟨r', hr'⟩ : ∃ r', ({ r with step := if v = r.key then 1 else 4 } : Rd) = r' := ⟨_, rfl⟩
  rw [hr']
  have HX := Lib.hid (And.intro hw (And.intro hd (And.intro hiff hr')))
  rw [hv, hK] at c2
  rw [hv, hV]
  unfold gv at hW1
  clear h hR1 hb1 hB1 hw hd h28 h1 h2 hN hv hV hK hiff hne hr'
  by_cases hk : V = K
  · subst hk
    go_enter Try.func90, Try.ntmps90
    go_wp2_with fail
    refine HB.out.mono ?_
    rintro e w2 ⟨rfl, hr, hf⟩
    go_wp2_with fail
    go_end0
    have hk := HX.out.2.2.1.2 (by trivial)
    have hr' := HX.out.2.2.2
    rw [if_pos hk] at hr'
    subst hr'
    refine ⟨rfl, ⟨_, _, w.heap.size, hr, .inl HS.out.2.2.2, .inr (Nat.le_refl _), ?_, .inr ⟨HX.out.2.1, ?_, ?_, ?_⟩⟩, ?_⟩
    · exact Nat.lt_of_lt_of_le HS.out.2.1.lt hf.size
    · exact (wants_eq2 (r := { r with step := 1 }) (by simp) (.inl ⟨HX.out.1, rfl⟩)).symm
    · unfold nextV
      rw [if_pos HX.out.1]
      rfl
    · intro _ _
      exact HS.out.2.1.kept (hf.block _ HS.out.2.1.lt HS.out.2.2.1)
    · exact (Frn.of_below HS.out.1).trans hf
  · go_enter Try.func90, Try.ntmps90
    go_wp2_with fail
    refine HA.out.mono ?_
    rintro e w2 ⟨rfl, hr, hf⟩
    go_wp2_with fail
    refine bodyPost_ret (results_none rfl _ _ _) rfl ?_
    have hk' : ¬ v = r.key := fun h => hk (HX.out.2.2.1.1 h)
    have hr' := HX.out.2.2.2
    rw [if_neg hk'] at hr'
    subst hr'
    refine ⟨rfl, ⟨_, _, O, hr, .inl HS.out.2.2.2, .inl HS.out.2.2.2, hr.lt, .inr ⟨HX.out.2.1, ?_, ?_, ?_⟩⟩, ?_⟩
    · exact (wants_eq3 (r := { r with step := 4 }) (by simp) (by simp)).symm
    · unfold nextV
      rw [if_pos HX.out.1]
      rfl
    · intro _ h
      cases h
    · exact (Frn.of_below HS.out.1).trans hf
end Go.Proofs.Ytenmogokbelahaa
