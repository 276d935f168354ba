/- The walks of a reader's functions: Copy, New, of, word. -/
import Derived.Test.YtenmogokbelahaaScanF
import Derived.ScopeJumps
namespace Go.Proofs.Ytenmogokbelahaa
open Go Go.RowKit

set_option maxRecDepth 100000 in
set_option maxHeartbeats 4000000 in
/-- Copy. -/
theorem copy_raw {O : Nat} {r : Rd} {a : Int} {nx : Value} (w : World) (h : RawAt w O r a nx) (hnx : nx = .nilFunc ∨ ∃ k lb, nx = .func (.func k) #[] lb) :
    Calls Try.prog 34 #[.pointer (some ⟨O, 0, none⟩)] w fun e w' => e = .returned (.pointer (some ⟨w.heap.size, 0, none⟩)) ∧ RawAt w' w.heap.size r a nx ∧ Below w.heap.size w w' ∧ w'.heap.size = w.heap.size + 1 := by
  obtain ⟨c0, c1, c2, c3, c4, c5, c6, c7, c8, c9, c10⟩ := h.cells
  have HM := Lib.hid (none_at (O := O) w c10)
  obtain ⟨way, slots, key, slot, step, ptr, ahead, done, is, loads⟩ := r
  simp only at c0 c1 c2 c3 c6 c7 c8 c9
  have H := Lib.hid h
  clear h
  rcases hnx with rfl | ⟨k, lb, rfl⟩
  · go_enter Try.func34, Try.ntmps34
    go_wp2_with fail
    refine HM.out.mono ?_
    rintro e w' ⟨rfl, rfl⟩
    go_wp2_with fail
    go_ret
    exact ⟨rfl, World.alloc_heap_new _ _, (Below.refl _ _).alloc (Nat.le_refl _) _, by simp⟩
  · go_enter Try.func34, Try.ntmps34
    go_wp2_with fail
    refine HM.out.mono ?_
    rintro e w' ⟨rfl, rfl⟩
    go_wp2_with fail
    go_ret
    exact ⟨rfl, World.alloc_heap_new _ _, (Below.refl _ _).alloc (Nat.le_refl _) _, by simp⟩
theorem copyR_any {O : Nat} {r : Rd} {N : Nat → Prop} (w : World) (h : RAt w O r N) :
    Calls Try.prog 34 #[.pointer (some ⟨O, 0, none⟩)] w fun e w' => e = .returned (.pointer (some ⟨w.heap.size, 0, none⟩)) ∧ RAt w' w.heap.size r (fun b => N b ∨ w.heap.size ≤ b) ∧ Below w.heap.size w w' ∧ w'.heap.size = w.heap.size + 1 := by
  obtain ⟨a, nx, B, hr, hN, hNB, hB, hh⟩ := h
  have hnx : nx = .nilFunc ∨ ∃ k lb, nx = .func (.func k) #[] lb := by
    have h : RAt w O r N := ⟨a, nx, B, hr, hN, hNB, hB, hh⟩
    rcases hh with ⟨-, hh⟩ | ⟨-, -, rfl, -⟩
    · exact .inl hh
    · unfold nextV
      split
      · repeat' split
        all_goals exact .inr ⟨_, _, rfl⟩
      · repeat' split
        all_goals exact .inr ⟨_, _, rfl⟩
  refine (copy_raw w hr hnx).mono ?_
  rintro e w' ⟨rfl, hr', hb, hz⟩
  refine ⟨rfl, ⟨a, nx, B, hr', .inr (Nat.le_refl _), .inl hNB, by omega, ?_⟩, hb, hz⟩
  rcases hh with hh | ⟨q1, q2, q3, q4⟩
  · exact .inl hh
  · exact .inr ⟨q1, q2, q3, fun x y => (q4 x y).below hb hB⟩
/-- What stands at a word. -/
theorem word_any (left : BitVec 64) (p : Option Addr) (cap : Nat) (s : List (BitVec 64)) (i : Int) (w : World) (hrd : RdL w.heap.size w p cap vw s) (h1 : i < s.length) :
    Calls Try.prog 59 #[vw left, .slice p s.length cap, .int .i64 i] w fun e w' => e = .returned (vw (atW left s i)) ∧ w = w' := by
  by_cases h0 : i < 0
  · have e : atW left s i = left := by unfold atW; rw [if_pos h0]
    rw [e]
    clear e
    go_enter Try.func59, Try.ntmps59
    go_wp2_with fail
    go_ret
    exact ⟨rfl, rfl⟩
  · obtain ⟨k, rfl⟩ : ∃ k : Nat, i = k := ⟨i.toNat, by omega⟩
    have hk : k < s.length := by omega
    obtain ⟨b, off, rfl, hbl, hc⟩ := hrd.at k hk
    have e : atW left s (k : Int) = s[k] := by unfold atW; rw [if_neg h0]; simp [hk]
    rw [e]
    obtain ⟨y, hy⟩ : ∃ y, s[k] = y := ⟨_, rfl⟩
    rw [hy] at hc ⊢
    clear e hy hrd
    go_enter Try.func59, Try.ntmps59
    go_wp2_with fail
    go_ret
    exact ⟨rfl, rfl⟩
set_option maxRecDepth 100000 in
set_option maxHeartbeats 4000000 in
/-- New, of what may not be. -/
theorem new_bad (way slots : Int) (key : BitVec 64) (w : World) (h : ¬ ((way = 1 ∨ way = 2) ∧ 2 ≤ slots ∧ slots ≤ 28)) :
    Calls Try.prog 30 #[.int .i64 way, .int .i64 slots, vw key] w fun e w' => e = .returned (.tuple #[.pointer none, .int .i64 2]) ∧ Below w.heap.size w w' := by
  obtain ⟨W1, hW1⟩ : ∃ W1, w.alloc (.map begM 2) = W1 := ⟨_, rfl⟩
  have hb1 : Below w.heap.size w W1 := by rw [← hW1]; exact (Below.refl _ _).alloc (Nat.le_refl _) _
  have hm1 : W1.heap[w.heap.size]? = some (.map begM 2) := by rw [← hW1]; exact World.alloc_heap_new _ _
  have hl0 := look_beg_ok (w := W1) hm1 way
  have HB := Lib.hid hb1
  have HW := Lib.hid hW1
  obtain ⟨bv, hbv⟩ : ∃ bv, begV way = bv := ⟨_, rfl⟩
  rw [hbv] at hl0
  clear hb1 hm1 hW1 hbv
  go_enter Try.func30, Try.ntmps30
  go_wp2
  refine wp_scope_jumps 0 (fun a' w' => (∃ u0 u1 u2 u3 u4 u5 u6 u7 u8 u9 u10 u11 u12 u13 u14 u15 u16 u17 u18 u19 u20 u21 u22 u23 u24 u25 u26 u27 u28 u29 u30 u31 u32 u33 u34 u35 u36 u37 u38 : Value, a' = { tmps := #[u0, u1, u2, u3, u4, u5, u6, u7, u8, u9, u10, u11, u12, u13, u14, u15, u16, u17, u18, u19, u20, u21, u22, u23, u24, u25, u26, u27, u28, u29, u30, u31, u32, u33, u34, u35, u36, u37, u38], defers := [] }) ∧ Below w.heap.size w w') (fun _ _ => 0) rfl ?first ?pass
  case pass =>
    rintro a' w' ⟨⟨u0, u1, u2, u3, u4, u5, u6, u7, u8, u9, u10, u11, u12, u13, u14, u15, u16, u17, u18, u19, u20, u21, u22, u23, u24, u25, u26, u27, u28, u29, u30, u31, u32, u33, u34, u35, u36, u37, u38, rfl⟩, hb⟩
    go_wp2
    simp only [Exit.jump]
    go_ret2
    exact ⟨rfl, hb⟩
  case first =>
    by_cases hw : way = 1 ∨ way = 2
    · rw [decide_eq_true hw] at hl0
      have hs : (decide (2 ≤ slots) && decide (slots ≤ 28)) = false := by
        by_cases h2 : 2 ≤ slots
        · rw [decide_eq_false (show ¬ slots ≤ 28 from fun h3 => h ⟨hw, h2, h3⟩), Bool.and_false]
        · rw [decide_eq_false h2, Bool.false_and]
      clear h hw
      go_wp2_with fail
      refine (begins_any _).mono ?_
      rintro e w1 ⟨rfl, rfl⟩
      rw [HW.out]
      go_wp2_with fail
      refine (inS_any _ _ _ _).mono ?_
      rintro e w2 ⟨rfl, rfl⟩
      rw [hs]
      go_wp2_with fail
      apply wp_goto
      go_wp2
      simp only [Exit.jump]
      exact ⟨trivial, ⟨_, _, _, _, _, _, _, _, _, _, _, _, _, _, _, _, _, _, _, _, _, _, _, _, _, _, _, _, _, _, _, _, _, _, _, _, _, _, _, rfl⟩, HB.out⟩
    · rw [decide_eq_false hw] at hl0
      clear h hw
      go_wp2_with fail
      refine (begins_any _).mono ?_
      rintro e w1 ⟨rfl, rfl⟩
      rw [HW.out]
      go_wp2_with fail
      apply wp_goto
      go_wp2
      simp only [Exit.jump]
      exact ⟨trivial, ⟨_, _, _, _, _, _, _, _, _, _, _, _, _, _, _, _, _, _, _, _, _, _, _, _, _, _, _, _, _, _, _, _, _, _, _, _, _, _, _, rfl⟩, HB.out⟩
set_option maxRecDepth 100000 in
set_option maxHeartbeats 4000000 in
/-- New, of what may be. -/
theorem new_up (way slots : Nat) (key : BitVec 64) (w : World) (hw : way = 1) (h2 : 2 ≤ slots) (h28 : slots ≤ 28) :
    Calls Try.prog 30 #[.int .i64 1, .int .i64 slots, vw key] w fun e w' => ∃ O, e = .returned (.tuple #[.pointer (some ⟨O, 0, none⟩), .int .i64 0]) ∧ RAt w' O (newR way slots key) (fun b => w.heap.size ≤ b) ∧ Below w.heap.size w w' := by
  obtain ⟨W1, hW1⟩ : ∃ W1, w.alloc (.map begM 2) = W1 := ⟨_, rfl⟩
  have hb1 : Below w.heap.size w W1 := by rw [← hW1]; exact (Below.refl _ _).alloc (Nat.le_refl _) _
  have hz1 : W1.heap.size = w.heap.size + 1 := by rw [← hW1]; simp
  have hm1 : W1.heap[w.heap.size]? = some (.map begM 2) := by rw [← hW1]; exact World.alloc_heap_new _ _
  have hwx : (way : Int) = 1 := by omega
  obtain ⟨k, hk⟩ : ∃ k, begV 1 = .func (.func k) #[] #[] := ⟨_, rfl⟩
  have hl0 := look_beg_ok (w := W1) hm1 1
  rw [hk, decide_eq_true (show (1 : Int) = 1 ∨ (1 : Int) = 2 by omega)] at hl0
  obtain ⟨W2, hW2⟩ : ∃ W2, W1.alloc (.cells #[.int .i64 1, .int .i64 slots, vw key, .int .i64 0, .int .i64 0, .nilFunc, .int .u64 0, .int .u64 0, .bool false, .int .i64 0, .bool true] 74) = W2 := ⟨_, rfl⟩
  have hR2 : RawAt W2 W1.heap.size (Rd.mk way slots key 0 0 0#64 0#64 false false 0) 0 .nilFunc := by
    rw [← hW2]
    unfold RawAt
    simp only [hwx]
    exact World.alloc_heap_new _ _
  have hb2 : Below w.heap.size w W2 := by rw [← hW2]; exact hb1.alloc (by omega) _
  have hlt : w.heap.size ≤ W1.heap.size := by omega
  have hs : (decide (2 ≤ (slots : Int)) && decide ((slots : Int) ≤ 28)) = true := by rw [decide_eq_true (by omega), decide_eq_true (by omega)]; rfl
  obtain ⟨-, -, -, c3, -⟩ := hR2.cells
  have f3 := hR2.free 3
  have HW := Lib.hid (And.intro hW1 hW2)
  have HB := Lib.hid (And.intro hb2 hlt)
  have hwr : IntKind.i64.wrap ((slots : Int) - 1) = (slots : Int) - 1 := by rw [IntKind.wrap_i64]; omega
  have hfin : ∀ (W : World) (r : Rd), r.way = way → r.slots = slots → r.step = 0 → r.done = false → 0 ≤ r.slot → r.slot < r.slots → BegAt W W1.heap.size r → RAt W W1.heap.size r (fun b => w.heap.size ≤ b) := by
    rintro W r e1 e2 e3 e4 e5 e6 ⟨a, nx, hr, hin, -⟩
    obtain ⟨q1, q2⟩ := hin ⟨e5, e6⟩
    refine ⟨a, nx, W1.heap.size, hr, hlt, hlt, hr.lt, .inr ⟨e4, ?_, ?_, fun _ h => ?_⟩⟩
    · rw [q1, wants_eq1 (.inl e3)]
    · rw [q2]
      unfold nextV begV
      rw [e1, hw]
      simp [e3]
    · rw [e3] at h
      cases h
  have HF := Lib.hid hfin
  obtain ⟨O, hO⟩ : ∃ O, W1.heap.size = O := ⟨_, rfl⟩
  rw [hO] at hR2 c3 f3 HB HF
  have HO := Lib.hid hO
  have HG := Lib.hid (begin_any _ hR2 (.inl hw) h28)
  have HN := Lib.hid (And.intro hw (And.intro h2 h28))
  have HLT := Lib.hid hR2.lt
  clear hb1 hm1 hW1 hW2 hb2 hlt hfin hk hz1 hR2 hw h2 h28 hwx hO
  simp only at c3
  go_enter Try.func30, Try.ntmps30
  go_wp2
  refine wp_scope_straight ?_
  go_wp2_with fail
  refine (begins_any _).mono ?_
  rintro e w1 ⟨rfl, rfl⟩
  rw [HW.out.1]
  go_wp2_with fail
  refine (inS_any _ _ _ _).mono ?_
  rintro e w2 ⟨rfl, rfl⟩
  rw [hs]
  go_wp2_with fail
  rw [HW.out.2, HO.out]
  go_wp2_with fail
  refine HG.out.mono ?_
  rintro e w3 ⟨rfl, hb, hf⟩
  go_wp2_with fail
  simp only [Exit.noGoto]
  go_ret2
  obtain ⟨n1, n2, n3⟩ := HN.out
  have hnew : newR way slots key = Rd.mk way slots key 0 0 0#64 0#64 false false 0 := by unfold newR; rw [n1]; rfl
  rw [hnew]
  refine ⟨O, rfl, HF.out _ _ rfl rfl rfl rfl ?_ ?_ hb, HB.out.1.trans (hf.below (Nat.le_trans HB.out.2 (Nat.le_of_lt HLT.out)) ?_)⟩
  · show 0 ≤ 0
    omega
  · show 0 < (slots : Int)
    omega
  · rintro b rfl
    exact HB.out.2
set_option maxRecDepth 100000 in
set_option maxHeartbeats 4000000 in
/-- New, of what may be. -/
theorem new_down (way slots : Nat) (key : BitVec 64) (w : World) (hw : way = 2) (h2 : 2 ≤ slots) (h28 : slots ≤ 28) :
    Calls Try.prog 30 #[.int .i64 2, .int .i64 slots, vw key] w fun e w' => ∃ O, e = .returned (.tuple #[.pointer (some ⟨O, 0, none⟩), .int .i64 0]) ∧ RAt w' O (newR way slots key) (fun b => w.heap.size ≤ b) ∧ Below w.heap.size w w' := by
  obtain ⟨W1, hW1⟩ : ∃ W1, w.alloc (.map begM 2) = W1 := ⟨_, rfl⟩
  have hb1 : Below w.heap.size w W1 := by rw [← hW1]; exact (Below.refl _ _).alloc (Nat.le_refl _) _
  have hz1 : W1.heap.size = w.heap.size + 1 := by rw [← hW1]; simp
  have hm1 : W1.heap[w.heap.size]? = some (.map begM 2) := by rw [← hW1]; exact World.alloc_heap_new _ _
  have hwx : (way : Int) = 2 := by omega
  obtain ⟨k, hk⟩ : ∃ k, begV 2 = .func (.func k) #[] #[] := ⟨_, rfl⟩
  have hl0 := look_beg_ok (w := W1) hm1 2
  rw [hk, decide_eq_true (show (2 : Int) = 1 ∨ (2 : Int) = 2 by omega)] at hl0
  obtain ⟨W2, hW2⟩ : ∃ W2, W1.alloc (.cells #[.int .i64 2, .int .i64 slots, vw key, .int .i64 ((slots : Int) - 1), .int .i64 0, .nilFunc, .int .u64 0, .int .u64 0, .bool false, .int .i64 0, .bool true] 74) = W2 := ⟨_, rfl⟩
  have hR2 : RawAt W2 W1.heap.size (Rd.mk way slots key ((slots : Int) - 1) 0 0#64 0#64 false false 0) 0 .nilFunc := by
    rw [← hW2]
    unfold RawAt
    simp only [hwx]
    exact World.alloc_heap_new _ _
  have hb2 : Below w.heap.size w W2 := by rw [← hW2]; exact hb1.alloc (by omega) _
  have hlt : w.heap.size ≤ W1.heap.size := by omega
  have hs : (decide (2 ≤ (slots : Int)) && decide ((slots : Int) ≤ 28)) = true := by rw [decide_eq_true (by omega), decide_eq_true (by omega)]; rfl
  obtain ⟨-, -, -, c3, -⟩ := hR2.cells
  have f3 := hR2.free 3
  have HW := Lib.hid (And.intro hW1 hW2)
  have HB := Lib.hid (And.intro hb2 hlt)
  have hwr : IntKind.i64.wrap ((slots : Int) - 1) = (slots : Int) - 1 := by rw [IntKind.wrap_i64]; omega
  have hfin : ∀ (W : World) (r : Rd), r.way = way → r.slots = slots → r.step = 0 → r.done = false → 0 ≤ r.slot → r.slot < r.slots → BegAt W W1.heap.size r → RAt W W1.heap.size r (fun b => w.heap.size ≤ b) := by
    rintro W r e1 e2 e3 e4 e5 e6 ⟨a, nx, hr, hin, -⟩
    obtain ⟨q1, q2⟩ := hin ⟨e5, e6⟩
    refine ⟨a, nx, W1.heap.size, hr, hlt, hlt, hr.lt, .inr ⟨e4, ?_, ?_, fun _ h => ?_⟩⟩
    · rw [q1, wants_eq1 (.inl e3)]
    · rw [q2]
      unfold nextV begV
      rw [e1, hw]
      simp [e3]
    · rw [e3] at h
      cases h
  have HF := Lib.hid hfin
  obtain ⟨O, hO⟩ : ∃ O, W1.heap.size = O := ⟨_, rfl⟩
  rw [hO] at hR2 c3 f3 HB HF
  have HO := Lib.hid hO
  have HG := Lib.hid (begin_any _ hR2 (.inr hw) h28)
  have HN := Lib.hid (And.intro hw (And.intro h2 h28))
  have HLT := Lib.hid hR2.lt
  clear hb1 hm1 hW1 hW2 hb2 hlt hfin hk hz1 hR2 hw h2 h28 hwx hO
  simp only at c3
  go_enter Try.func30, Try.ntmps30
  go_wp2
  refine wp_scope_straight ?_
  go_wp2_with fail
  refine (begins_any _).mono ?_
  rintro e w1 ⟨rfl, rfl⟩
  rw [HW.out.1]
  go_wp2_with fail
  refine (inS_any _ _ _ _).mono ?_
  rintro e w2 ⟨rfl, rfl⟩
  rw [hs]
  go_wp2_with fail
  rw [HW.out.2, HO.out]
  go_wp2_with fail
  refine HG.out.mono ?_
  rintro e w3 ⟨rfl, hb, hf⟩
  go_wp2_with fail
  simp only [Exit.noGoto]
  go_ret2
  obtain ⟨n1, n2, n3⟩ := HN.out
  have hnew : newR way slots key = Rd.mk way slots key ((slots : Int) - 1) 0 0#64 0#64 false false 0 := by unfold newR; rw [n1]; rfl
  rw [hnew]
  refine ⟨O, rfl, HF.out _ _ rfl rfl rfl rfl ?_ ?_ hb, HB.out.1.trans (hf.below (Nat.le_trans HB.out.2 (Nat.le_of_lt HLT.out)) ?_)⟩
  · show 0 ≤ ((slots : Int) - 1)
    omega
  · show ((slots : Int) - 1) < (slots : Int)
    omega
  · rintro b rfl
    exact HB.out.2
theorem new_ok (way slots : Nat) (key : BitVec 64) (w : World) (hw : way = 1 ∨ way = 2) (h2 : 2 ≤ slots) (h28 : slots ≤ 28) :
    Calls Try.prog 30 #[.int .i64 way, .int .i64 slots, vw key] w fun e w' => ∃ O, e = .returned (.tuple #[.pointer (some ⟨O, 0, none⟩), .int .i64 0]) ∧ RAt w' O (newR way slots key) (fun b => w.heap.size ≤ b) ∧ Below w.heap.size w w' := by
  rcases hw with hw | hw
  · have e : (way : Int) = 1 := by omega
    rw [e]
    exact new_up way slots key w hw h2 h28
  · have e : (way : Int) = 2 := by omega
    rw [e]
    exact new_down way slots key w hw h2 h28
end Go.Proofs.Ytenmogokbelahaa
