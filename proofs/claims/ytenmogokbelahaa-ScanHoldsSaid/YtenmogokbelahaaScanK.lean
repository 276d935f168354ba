/- The walks of the reference's reader: New, Wants, Found, At, Right. -/
import Derived.Test.YtenmogokbelahaaScanJ
namespace Go.Proofs.Ytenmogokbelahaa
open Go Go.RowKit

/-- The end of a function whose result stands in the first of two new blocks. -/
theorem rd_end0 {fn : Func} {p : Tmp} {tmps : Array Value} {w : World} {o : Obj} {r : Rd} (h : fn.results = #[.cell p 29]) (hp : tmps.getD p undef = .pointer (some ⟨w.heap.size, 0, none⟩)) :
    bodyPost Try.prog fn (fun e w' => e = .returned (rdV r) ∧ Below w.heap.size w w') .ret { tmps := tmps, defers := [] } ((w.alloc (.cells (rdC r) 29)).alloc o) := by
  have hh : ((w.alloc (.cells (rdC r) 29)).alloc o).heap[w.heap.size]? = some (.cells (rdC r) 29 (0, 0)) := (Below.heap_alloc _ _ _ (by simp)).trans (World.alloc_heap_new _ _)
  exact bodyPost_ret (results_cell1 h _ _ hp (rd_load hh)) rfl ⟨rfl, ((Below.refl _ _).alloc (Nat.le_refl _) _).alloc (by simp) _⟩
set_option maxRecDepth 100000 in
set_option maxHeartbeats 4000000 in
theorem refNew_1 (slots : Nat) (key : BitVec 64) (w : World) (h28 : slots ≤ 1000000) :
    Calls Try.prog 17 #[.int .i64 1, .int .i64 slots, vw key] w fun e w' => e = .returned (rdV (newR 1 slots key)) ∧ Below w.heap.size w w' := by
  have hwr : IntKind.i64.wrap ((slots : Int) - 1) = (slots : Int) - 1 := by rw [IntKind.wrap_i64]; omega
  obtain ⟨vr, hvr⟩ : ∃ vr, rdV (newR 1 slots key) = vr := ⟨_, rfl⟩
  rw [hvr]
  have HV := Lib.hid hvr
  clear hvr
  go_enter Try.func17, Try.ntmps17
  go_wp2_with fail
  rw [← HV.out]
  exact rd_end0 rfl rfl
set_option maxRecDepth 100000 in
set_option maxHeartbeats 4000000 in
theorem refNew_2 (slots : Nat) (key : BitVec 64) (w : World) (h28 : slots ≤ 1000000) :
    Calls Try.prog 17 #[.int .i64 2, .int .i64 slots, vw key] w fun e w' => e = .returned (rdV (newR 2 slots key)) ∧ Below w.heap.size w w' := by
  have hwr : IntKind.i64.wrap ((slots : Int) - 1) = (slots : Int) - 1 := by rw [IntKind.wrap_i64]; omega
  obtain ⟨vr, hvr⟩ : ∃ vr, rdV (newR 2 slots key) = vr := ⟨_, rfl⟩
  rw [hvr]
  have HV := Lib.hid hvr
  clear hvr
  go_enter Try.func17, Try.ntmps17
  go_wp2_with fail
  rw [← HV.out]
  exact rd_end0 rfl rfl
theorem refNew_any (way slots : Nat) (key : BitVec 64) (w : World) (hw : way = 1 ∨ way = 2) (h28 : slots ≤ 1000000) :
    Calls Try.prog 17 #[.int .i64 way, .int .i64 slots, vw key] w fun e w' => e = .returned (rdV (newR way slots key)) ∧ Below w.heap.size w w' := by
  rcases hw with rfl | rfl
  · exact refNew_1 slots key w h28
  · exact refNew_2 slots key w h28
set_option maxRecDepth 100000 in
set_option maxHeartbeats 4000000 in
theorem refWants_10 (slots : Nat) (key : BitVec 64) (slot : Int) (ptr ahead : BitVec 64) (done is : Bool) (loads : Nat) (w : World) (h1 : -10 ≤ slot) (h2 : slot ≤ 1000) :
    Calls Try.prog 18 #[rdV (Rd.mk 1 slots key slot 0 ptr ahead done is loads)] w fun e w' => e = .returned (.int .i64 (2 * slot)) ∧ Below w.heap.size w w' := by
  have e0 : IntKind.i64.wrap (2 * slot) = 2 * slot := by rw [IntKind.wrap_i64]; omega
  have e1 : IntKind.i64.wrap (2 * slot + 1) = 2 * slot + 1 := by rw [IntKind.wrap_i64]; omega
  have e2 : IntKind.i64.wrap (2 * slot - 1) = 2 * slot - 1 := by rw [IntKind.wrap_i64]; omega
  unfold rdV rdC
  simp only
  go_enter Try.func18, Try.ntmps18
  go_wp2_with fail
  go_ret
  exact ⟨rfl, (Below.refl _ _).alloc (Nat.le_refl _) _⟩
set_option maxRecDepth 100000 in
set_option maxHeartbeats 4000000 in
theorem refWants_11 (slots : Nat) (key : BitVec 64) (slot : Int) (ptr ahead : BitVec 64) (done is : Bool) (loads : Nat) (w : World) (h1 : -10 ≤ slot) (h2 : slot ≤ 1000) :
    Calls Try.prog 18 #[rdV (Rd.mk 1 slots key slot 1 ptr ahead done is loads)] w fun e w' => e = .returned (.int .i64 (2 * slot - 1)) ∧ Below w.heap.size w w' := by
  have e0 : IntKind.i64.wrap (2 * slot) = 2 * slot := by rw [IntKind.wrap_i64]; omega
  have e1 : IntKind.i64.wrap (2 * slot + 1) = 2 * slot + 1 := by rw [IntKind.wrap_i64]; omega
  have e2 : IntKind.i64.wrap (2 * slot - 1) = 2 * slot - 1 := by rw [IntKind.wrap_i64]; omega
  unfold rdV rdC
  simp only
  go_enter Try.func18, Try.ntmps18
  go_wp2_with fail
  go_ret
  exact ⟨rfl, (Below.refl _ _).alloc (Nat.le_refl _) _⟩
set_option maxRecDepth 100000 in
set_option maxHeartbeats 4000000 in
theorem refWants_12 (slots : Nat) (key : BitVec 64) (slot : Int) (ptr ahead : BitVec 64) (done is : Bool) (loads : Nat) (w : World) (h1 : -10 ≤ slot) (h2 : slot ≤ 1000) :
    Calls Try.prog 18 #[rdV (Rd.mk 1 slots key slot 2 ptr ahead done is loads)] w fun e w' => e = .returned (.int .i64 (2 * slot + 1)) ∧ Below w.heap.size w w' := by
  have e0 : IntKind.i64.wrap (2 * slot) = 2 * slot := by rw [IntKind.wrap_i64]; omega
  have e1 : IntKind.i64.wrap (2 * slot + 1) = 2 * slot + 1 := by rw [IntKind.wrap_i64]; omega
  have e2 : IntKind.i64.wrap (2 * slot - 1) = 2 * slot - 1 := by rw [IntKind.wrap_i64]; omega
  unfold rdV rdC
  simp only
  go_enter Try.func18, Try.ntmps18
  go_wp2_with fail
  go_ret
  exact ⟨rfl, (Below.refl _ _).alloc (Nat.le_refl _) _⟩
set_option maxRecDepth 100000 in
set_option maxHeartbeats 4000000 in
theorem refWants_13 (slots : Nat) (key : BitVec 64) (slot : Int) (ptr ahead : BitVec 64) (done is : Bool) (loads : Nat) (w : World) (h1 : -10 ≤ slot) (h2 : slot ≤ 1000) :
    Calls Try.prog 18 #[rdV (Rd.mk 1 slots key slot 3 ptr ahead done is loads)] w fun e w' => e = .returned (.int .i64 (2 * slot)) ∧ Below w.heap.size w w' := by
  have e0 : IntKind.i64.wrap (2 * slot) = 2 * slot := by rw [IntKind.wrap_i64]; omega
  have e1 : IntKind.i64.wrap (2 * slot + 1) = 2 * slot + 1 := by rw [IntKind.wrap_i64]; omega
  have e2 : IntKind.i64.wrap (2 * slot - 1) = 2 * slot - 1 := by rw [IntKind.wrap_i64]; omega
  unfold rdV rdC
  simp only
  go_enter Try.func18, Try.ntmps18
  go_wp2_with fail
  go_ret
  exact ⟨rfl, (Below.refl _ _).alloc (Nat.le_refl _) _⟩
set_option maxRecDepth 100000 in
set_option maxHeartbeats 4000000 in
theorem refWants_14 (slots : Nat) (key : BitVec 64) (slot : Int) (ptr ahead : BitVec 64) (done is : Bool) (loads : Nat) (w : World) (h1 : -10 ≤ slot) (h2 : slot ≤ 1000) :
    Calls Try.prog 18 #[rdV (Rd.mk 1 slots key slot 4 ptr ahead done is loads)] w fun e w' => e = .returned (.int .i64 (2 * slot + 1)) ∧ Below w.heap.size w w' := by
  have e0 : IntKind.i64.wrap (2 * slot) = 2 * slot := by rw [IntKind.wrap_i64]; omega
  have e1 : IntKind.i64.wrap (2 * slot + 1) = 2 * slot + 1 := by rw [IntKind.wrap_i64]; omega
  have e2 : IntKind.i64.wrap (2 * slot - 1) = 2 * slot - 1 := by rw [IntKind.wrap_i64]; omega
  unfold rdV rdC
  simp only
  go_enter Try.func18, Try.ntmps18
  go_wp2_with fail
  go_ret
  exact ⟨rfl, (Below.refl _ _).alloc (Nat.le_refl _) _⟩
set_option maxRecDepth 100000 in
set_option maxHeartbeats 4000000 in
theorem refWants_20 (slots : Nat) (key : BitVec 64) (slot : Int) (ptr ahead : BitVec 64) (done is : Bool) (loads : Nat) (w : World) (h1 : -10 ≤ slot) (h2 : slot ≤ 1000) :
    Calls Try.prog 18 #[rdV (Rd.mk 2 slots key slot 0 ptr ahead done is loads)] w fun e w' => e = .returned (.int .i64 (2 * slot)) ∧ Below w.heap.size w w' := by
  have e0 : IntKind.i64.wrap (2 * slot) = 2 * slot := by rw [IntKind.wrap_i64]; omega
  have e1 : IntKind.i64.wrap (2 * slot + 1) = 2 * slot + 1 := by rw [IntKind.wrap_i64]; omega
  have e2 : IntKind.i64.wrap (2 * slot - 1) = 2 * slot - 1 := by rw [IntKind.wrap_i64]; omega
  unfold rdV rdC
  simp only
  go_enter Try.func18, Try.ntmps18
  go_wp2_with fail
  go_ret
  exact ⟨rfl, (Below.refl _ _).alloc (Nat.le_refl _) _⟩
set_option maxRecDepth 100000 in
set_option maxHeartbeats 4000000 in
theorem refWants_21 (slots : Nat) (key : BitVec 64) (slot : Int) (ptr ahead : BitVec 64) (done is : Bool) (loads : Nat) (w : World) (h1 : -10 ≤ slot) (h2 : slot ≤ 1000) :
    Calls Try.prog 18 #[rdV (Rd.mk 2 slots key slot 1 ptr ahead done is loads)] w fun e w' => e = .returned (.int .i64 (2 * slot + 1)) ∧ Below w.heap.size w w' := by
  have e0 : IntKind.i64.wrap (2 * slot) = 2 * slot := by rw [IntKind.wrap_i64]; omega
  have e1 : IntKind.i64.wrap (2 * slot + 1) = 2 * slot + 1 := by rw [IntKind.wrap_i64]; omega
  have e2 : IntKind.i64.wrap (2 * slot - 1) = 2 * slot - 1 := by rw [IntKind.wrap_i64]; omega
  unfold rdV rdC
  simp only
  go_enter Try.func18, Try.ntmps18
  go_wp2_with fail
  go_ret
  exact ⟨rfl, (Below.refl _ _).alloc (Nat.le_refl _) _⟩
set_option maxRecDepth 100000 in
set_option maxHeartbeats 4000000 in
theorem refWants_22 (slots : Nat) (key : BitVec 64) (slot : Int) (ptr ahead : BitVec 64) (done is : Bool) (loads : Nat) (w : World) (h1 : -10 ≤ slot) (h2 : slot ≤ 1000) :
    Calls Try.prog 18 #[rdV (Rd.mk 2 slots key slot 2 ptr ahead done is loads)] w fun e w' => e = .returned (.int .i64 (2 * slot - 1)) ∧ Below w.heap.size w w' := by
  have e0 : IntKind.i64.wrap (2 * slot) = 2 * slot := by rw [IntKind.wrap_i64]; omega
  have e1 : IntKind.i64.wrap (2 * slot + 1) = 2 * slot + 1 := by rw [IntKind.wrap_i64]; omega
  have e2 : IntKind.i64.wrap (2 * slot - 1) = 2 * slot - 1 := by rw [IntKind.wrap_i64]; omega
  unfold rdV rdC
  simp only
  go_enter Try.func18, Try.ntmps18
  go_wp2_with fail
  go_ret
  exact ⟨rfl, (Below.refl _ _).alloc (Nat.le_refl _) _⟩
set_option maxRecDepth 100000 in
set_option maxHeartbeats 4000000 in
theorem refWants_23 (slots : Nat) (key : BitVec 64) (slot : Int) (ptr ahead : BitVec 64) (done is : Bool) (loads : Nat) (w : World) (h1 : -10 ≤ slot) (h2 : slot ≤ 1000) :
    Calls Try.prog 18 #[rdV (Rd.mk 2 slots key slot 3 ptr ahead done is loads)] w fun e w' => e = .returned (.int .i64 (2 * slot)) ∧ Below w.heap.size w w' := by
  have e0 : IntKind.i64.wrap (2 * slot) = 2 * slot := by rw [IntKind.wrap_i64]; omega
  have e1 : IntKind.i64.wrap (2 * slot + 1) = 2 * slot + 1 := by rw [IntKind.wrap_i64]; omega
  have e2 : IntKind.i64.wrap (2 * slot - 1) = 2 * slot - 1 := by rw [IntKind.wrap_i64]; omega
  unfold rdV rdC
  simp only
  go_enter Try.func18, Try.ntmps18
  go_wp2_with fail
  go_ret
  exact ⟨rfl, (Below.refl _ _).alloc (Nat.le_refl _) _⟩
theorem refWants_any (r : Rd) (w : World) (hok : OkR r) (hd : r.done = false) :
    Calls Try.prog 18 #[rdV r] w fun e w' => e = .returned (.int .i64 r.wants) ∧ Below w.heap.size w w' := by
  obtain ⟨hw, _, h28, ha, hr⟩ := hok
  obtain ⟨way, slots, key, slot, step, ptr, ahead, done, is, loads⟩ := r
  simp only at hd hw h28 ha hr
  subst hd
  obtain ⟨a1, a2, a3, a4⟩ := ha rfl
  have h1 : -10 ≤ slot := by omega
  have h2 : slot ≤ 1000 := by omega
  rcases hw with rfl | rfl
  · have h6 : step = 0 ∨ step = 1 ∨ step = 2 ∨ step = 3 ∨ step = 4 := by omega
    rcases h6 with rfl | rfl | rfl | rfl | rfl
    · exact refWants_10 slots key slot ptr ahead false is loads w h1 h2
    · exact refWants_11 slots key slot ptr ahead false is loads w h1 h2
    · exact refWants_12 slots key slot ptr ahead false is loads w h1 h2
    · exact refWants_13 slots key slot ptr ahead false is loads w h1 h2
    · exact refWants_14 slots key slot ptr ahead false is loads w h1 h2
  · have a4' := a4 rfl
    have h6 : step = 0 ∨ step = 1 ∨ step = 2 ∨ step = 3 := by omega
    rcases h6 with rfl | rfl | rfl | rfl
    · exact refWants_20 slots key slot ptr ahead false is loads w h1 h2
    · exact refWants_21 slots key slot ptr ahead false is loads w h1 h2
    · exact refWants_22 slots key slot ptr ahead false is loads w h1 h2
    · exact refWants_23 slots key slot ptr ahead false is loads w h1 h2
set_option maxRecDepth 100000 in
set_option maxHeartbeats 4000000 in
theorem refFound_any (r : Rd) (w : World) :
    Calls Try.prog 15 #[rdV r] w fun e w' => e = .returned (.tuple #[vw r.found.1, .bool r.found.2]) ∧ Below w.heap.size w w' := by
  obtain ⟨way, slots, key, slot, step, ptr, ahead, done, is, loads⟩ := r
  cases done with
  | false =>
    have e : (Rd.mk way slots key slot step ptr ahead false is loads).found = (0#64, false) := by unfold Rd.found; rfl
    rw [e]
    unfold rdV rdC
    simp only
    have e0 : vw 0#64 = .int .u64 0 := rfl
    rw [e0]
    clear e0 e
    go_enter Try.func15, Try.ntmps15
    go_wp2_with fail
    go_ret2
    exact ⟨rfl, (Below.refl _ _).alloc (Nat.le_refl _) _⟩
  | true =>
    cases is with
    | false =>
      have e : (Rd.mk way slots key slot step ptr ahead true false loads).found = (0#64, false) := by unfold Rd.found; rfl
      rw [e]
      unfold rdV rdC
      simp only
      have e0 : vw 0#64 = .int .u64 0 := rfl
      rw [e0]
      clear e0 e
      go_enter Try.func15, Try.ntmps15
      go_wp2_with fail
      go_ret2
      exact ⟨rfl, (Below.refl _ _).alloc (Nat.le_refl _) _⟩
    | true =>
      have e : (Rd.mk way slots key slot step ptr ahead true true loads).found = (ptr, true) := by unfold Rd.found; rfl
      rw [e]
      unfold rdV rdC
      simp only
      clear e
      go_enter Try.func15, Try.ntmps15
      go_wp2_with fail
      go_ret2
      exact ⟨rfl, (Below.refl _ _).alloc (Nat.le_refl _) _⟩
/-- What stands at a word, by the reference. -/
theorem refAt_any (left : BitVec 64) (p : Option Addr) (cap : Nat) (s : List (BitVec 64)) (i : Int) (w : World) (hrd : RdL w.heap.size w p cap vw s) (h1 : i < s.length) :
    Calls Try.prog 19 #[vw left, .slice p s.length cap, .int .i64 i] w fun e w' => e = .returned (vw (atW left s i)) ∧ w = w' := by
  by_cases h0 : i < 0
  · have e : atW left s i = left := by unfold atW; rw [if_pos h0]
    rw [e]
    clear e
    go_enter Try.func19, Try.ntmps19
    go_wp2_with fail
    go_ret
    exact ⟨rfl, rfl⟩
  · obtain ⟨k, rfl⟩ : ∃ k : Nat, i = k := ⟨i.toNat, by omega⟩
    have hk : k < s.length := by omega
    obtain ⟨b, off, rfl, hbl, hc⟩ := hrd.at k hk
    have e : atW left s (k : Int) = s[k] := by unfold atW; rw [if_neg h0]; simp [hk]
    rw [e]
    obtain ⟨y, hy⟩ : ∃ y, s[k] = y := ⟨_, rfl⟩
    rw [hy] at hc ⊢
    clear e hy hrd
    go_enter Try.func19, Try.ntmps19
    go_wp2_with fail
    go_ret
    exact ⟨rfl, rfl⟩
def rightRS (way slots : Int) : Bool := decide ((way = 1 ∨ way = 2) ∧ 2 ≤ slots ∧ slots ≤ 28)
set_option maxRecDepth 100000 in
set_option maxHeartbeats 4000000 in
theorem refRight_any (way slots : Int) (w : World) : Calls Try.prog 31 #[.int .i64 way, .int .i64 slots] w fun e w' => e = .returned (.bool (rightRS way slots)) ∧ w = w' := by
  by_cases h1 : way = 1
  · subst h1
    by_cases h2 : 2 ≤ slots
    · have e : rightRS 1 slots = decide (slots ≤ 28) := by unfold rightRS; exact decide_eq_decide.2 ⟨fun h => h.2.2, fun h => ⟨.inl rfl, h2, h⟩⟩
      rw [e]
      clear e
      go_enter Try.func31, Try.ntmps31
      go_wp2_with fail
      go_ret
      exact ⟨rfl, rfl⟩
    · have e : rightRS 1 slots = false := by unfold rightRS; exact decide_eq_false (fun h => h2 h.2.1)
      rw [e]
      clear e
      go_enter Try.func31, Try.ntmps31
      go_wp2_with fail
      go_ret
      exact ⟨rfl, rfl⟩
  · by_cases h1' : way = 2
    · subst h1'
      by_cases h2 : 2 ≤ slots
      · have e : rightRS 2 slots = decide (slots ≤ 28) := by unfold rightRS; exact decide_eq_decide.2 ⟨fun h => h.2.2, fun h => ⟨.inr rfl, h2, h⟩⟩
        rw [e]
        clear e
        go_enter Try.func31, Try.ntmps31
        go_wp2_with fail
        go_ret
        exact ⟨rfl, rfl⟩
      · have e : rightRS 2 slots = false := by unfold rightRS; exact decide_eq_false (fun h => h2 h.2.1)
        rw [e]
        clear e
        go_enter Try.func31, Try.ntmps31
        go_wp2_with fail
        go_ret
        exact ⟨rfl, rfl⟩
    · have e : rightRS way slots = false := by unfold rightRS; exact decide_eq_false (fun h => h.1.elim h1 h1')
      have h3 : (way == 1) = false := beq_eq_false_iff_ne.2 h1
      have h4 : (way == 2) = false := beq_eq_false_iff_ne.2 h1'
      rw [e]
      clear e
      go_enter Try.func31, Try.ntmps31
      go_wp2_with fail
      go_ret
      exact ⟨rfl, rfl⟩
/-- An error's number. -/
theorem num10_any (n : Int) (w : World) : Calls Try.prog 32 #[.int .i64 n] w fun e w' => e = .returned (.int .i64 n) ∧ w = w' := by
  go_enter Try.func32, Try.ntmps32
  go_wp2_with fail
  go_ret
  exact ⟨rfl, rfl⟩
def rowL : List (BitVec 64) := [1#64, 4#64, 3#64, 6#64, 0#64, 0#64, 0#64, 0#64]
theorem row_any (w : World) : Calls Try.prog 54 #[] w fun e w' => e = .returned (.slice (some ⟨w.heap.size, 0, none⟩) rowL.length 8) ∧ RdL w'.heap.size w' (some ⟨w.heap.size, 0, none⟩) 8 vw rowL ∧ Below w.heap.size w w' ∧ w'.heap.size = w.heap.size + 1 := by
  go_enter Try.func54, Try.ntmps54
  go_wp2_with fail
  go_ret
  refine ⟨rfl, ?_, (Below.refl _ _).alloc (Nat.le_refl _) _, by simp⟩
  have := rdl_new w 23 vw rowL (by decide)
  exact this
end Go.Proofs.Ytenmogokbelahaa
