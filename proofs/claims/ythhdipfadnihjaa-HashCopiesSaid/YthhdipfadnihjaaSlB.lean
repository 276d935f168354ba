/- The walks of slices.Grow, Concat, Clone at bytes. -/
import Derived.Test.YthhdipfadnihjaaWordsA
import Derived.Lib.AppendZerosOnto
import Derived.LoopN
namespace Go.Proofs.Ythhdipfadnihjaa
open Go Go.RowKit

set_option maxRecDepth 100000 in
set_option maxHeartbeats 2000000 in
theorem growB_any (n : Nat) (hn : n ≤ 1000000000) (w : World) :
    Calls Try.prog 105 #[.slice none 0 0, .int .i64 n] w fun e w' => ∃ v, e = .returned v ∧ w'.ownsRow w.heap.size 5 1 v 0 [] ∧ Below w.heap.size w w' ∧ w.heap.size ≤ w'.heap.size := by
  obtain ⟨i0, hi0, hz0, hz1, hz2⟩ := info_parts (elem_u8).info
  by_cases h0 : n = 0
  · subst h0
    go_enter Try.func105, Try.ntmps105
    go_wp2
    go_ret
    exact ⟨_, rfl, World.ownsRow_nil _ _ _ _, Below.refl _ _, Nat.le_refl _⟩
  · have hrz : ∀ ty, (Builtin.append_ #[70, 3] ty #[.slice none 0 0, .int .i64 (n : Int)]).run Try.prog w =
      .ok (.slice (some ⟨w.heap.size, 0, none⟩) n (grownCap w n 0 5)) (w.drew.alloc (.cells (#[] ++ Builtin.zeroCells #[.int .u8 0] n ++ Builtin.zeroCells #[.int .u8 0] (grownCap w n 0 5 - n)) 5)) := fun ty => by
      have h := Lib.run_append_grow_zeros w 70 3 ty 5 i0 (.int .u8 0) .i64 .i64 (elem_u8).under Try.underlying3 hi0 hz0 none 0 0 [] (run_firstCells_none w.drew i0.size 0 0 0) n (by omega) (by omega) (by omega) (by omega) (by rw [hz2]; omega)
        (by have := growslice_fits (need := 0 + n) (old := 0) (bytes := i0.bytes) (by omega) (by rw [hz2]; omega); exact this)
      simpa [Value.cells] using h
    have hge := grownCap_ge w n 0 5
    have hle := grownCap_le_maxLen w n 0 5 (by unfold maxLen; omega)
    obtain ⟨G, hG⟩ : ∃ G, G = grownCap w n 0 5 := ⟨_, rfl⟩
    rw [← hG] at hrz hge hle
    have hle' : G ≤ 9223372036854775807 := by unfold maxLen at hle; omega
    have h1 : ((n : Int) < 0) = False := by simp
    have h2 : (0 : Int) < (n : Int) := by omega
    have HL := Lib.hid hle
    have HR := Lib.hid hrz
    clear hG hle hrz hi0 hz0 hz1 hz2
    go_enter Try.func105, Try.ntmps105
    go_wp2_with (at_builtin; refine Lib.wpList_append_run _ rfl _ _ _ _ rfl _ _ rfl rfl _ _ (HR.out _) ?_)
    go_ret
    refine ⟨_, rfl, ⟨rfl, .inr ⟨w.heap.size, G, _, rfl, Nat.le_refl _, World.alloc_heap_new w.drew _, by omega, HL.out, ?_, by simp⟩⟩, ?_, ?_⟩
    · simp [size_zeroCells]; omega
    · exact ((Below.refl _ w).drew).alloc (Nat.le_refl _) _
    · simp

/-- A slice of two slices of bytes. -/
theorem concat2_any (a c : Nat) (p1 p2 : Option Addr) (c1 c2 : Nat) (xs ys : List (BitVec 8)) (w : World) (h1 : w.cell? ⟨a, 0, none⟩ = some (.slice p1 xs.length c1)) (h2 : w.cell? ⟨a, 1, none⟩ = some (.slice p2 ys.length c2))
    (hx : RdL w.heap.size w p1 c1 vb xs) (hy : RdL w.heap.size w p2 c2 vb ys) (hlx : xs.length ≤ 1000000) (hly : ys.length ≤ 1000000) :
    Calls Try.prog 72 #[.slice (some ⟨a, 0, none⟩) 2 c] w (RetOwn 5 vb (xs ++ ys) w) := by
  have ha := World.block_lt_of_cell? w _ h1
  have HX := Lib.hid hx
  have HY := Lib.hid hy
  have g1 : ∀ w', Below w.heap.size w w' → w'.cell? ⟨a, 0, none⟩ = some (.slice p1 xs.length c1) := fun w' hb => (hb.cell (p := ⟨a, 0, none⟩) ha).trans h1
  have g2 : ∀ w', Below w.heap.size w w' → w'.cell? ⟨a, 1, none⟩ = some (.slice p2 ys.length c2) := fun w' hb => (hb.cell (p := ⟨a, 1, none⟩) ha).trans h2
  have G1 := Lib.hid g1
  have G2 := Lib.hid g2
  have hgr := growB_any (xs.length + ys.length) (by omega) w
  rw [Int.natCast_add] at hgr
  have HG := Lib.hid hgr
  clear hx hy g1 g2 ha hgr
  go_enter Try.func72, Try.ntmps72
  go_wp2_with fail
  refine wp_loop_rounds 3 ?_
  rw [rounds_succ]
  go_wp2_with fail
  rw [rounds_succ]
  go_wp2_with fail
  rw [rounds_succ]
  go_wp2_with fail
  refine HG.out.mono ?_
  rintro e w1 ⟨v1, rfl, hown1, hb1, hs1⟩
  have HO1 := Lib.hid hown1
  have HB1 := Lib.hid hb1
  have HX1 := Lib.hid ((HX.out.below hb1).wide hs1)
  have hc1 := G1.out _ hb1
  clear hown1 hb1 h1 h2 HG
  go_wp2_with fail
  refine wp_loop_rounds 3 ?_
  rw [rounds_succ]
  go_wp2_with (
    at_builtin
    refine wpList_append0 rfl (.tmp 31) (.tmp 32) _ rfl elem_u8 vb w.heap.size xs v1 rfl p1 c1 _ rfl HO1.out HX1.out (fun _ => rfl) ?_ ?_ ?_ ?_
    · omega
    · omega
    · exact hs1
    intro v2 w2 hown hg _
    have hb2 : Below w.heap.size w w2 := below_grown HB1.out hg hs1 (fun b hb => (HO1.out.lt b hb).1)
    have hs2 : w.heap.size ≤ w2.heap.size := Nat.le_trans hs1 hg.size
    have HO2 := Lib.hid hown
    have HB2 := Lib.hid hb2
    have HY2 := Lib.hid ((HY.out.below hb2).wide hs2)
    have hc2 := G2.out _ hb2
    clear hown hg hb2 hc1)
  rw [rounds_succ]
  go_wp2_with (
    at_builtin
    refine wpList_appendR rfl (.tmp 31) (.tmp 32) _ rfl elem_u8 vb w.heap.size xs ys v2 rfl p2 c2 _ rfl HO2.out HY2.out (fun _ => rfl) ?_ ?_ ?_ ?_
    · omega
    · omega
    · exact hs2
    intro v3 w3 hown hg _
    have HB3 := Lib.hid (below_grown HB2.out hg hs2 (fun b hb => (HO2.out.lt b hb).1))
    have HO3 := Lib.hid hown
    clear hown hg hc2)
  rw [rounds_succ]
  go_wp2_with fail
  go_ret
  exact ⟨v3, rfl, HO3.out, HB3.out⟩

set_option maxHeartbeats 1000000 in
theorem cloneB_any (p : Option Addr) (cap : Nat) (xs : List (BitVec 8)) (w : World) (hrd : RdL w.heap.size w p cap vb xs) (hx : xs.length ≤ 1000000) :
    Calls Try.prog 75 #[.slice p xs.length cap] w (RetOwn 5 vb xs w) := by
  have hlen := hrd.len
  have hnil := fun (w : World) (a : Option Addr) (n c : Nat) => Lib.run_eql_slice_nil (P := Try.prog) w 70 5 a n c 0 0 Try.underlying70
  have hsrc := src_rdl (hrd.below ((Below.refl _ w).alloc (Nat.le_refl _) (.cells #[] 5)))
  rcases p with _ | x
  · obtain ⟨rfl, rfl⟩ := hrd.isNil
    go_enter Try.func75, Try.ntmps75
    go_wp2
    go_ret
    exact ⟨.slice none 0 0, rfl, World.ownsRow_nil _ _ _ _, Below.refl _ _⟩
  · clear hrd
    go_enter Try.func75, Try.ntmps75
    go_wp2_with (at_builtin; refine wpList_append_src rfl _ _ _ rfl elem_u8 w.heap.size _ 0 [] rfl (own_empty w _ _ _ (Nat.le_refl _)) _ xs.length (xs.map vb) rfl hsrc ?_ ?_ ?_ ?_ ?_ ?_
                 · simp
                 · simp [Value.oneCell']
                 · unfold maxLen; omega
                 · omega
                 · simp
                 intro v w1 hown hg _ _)
    go_ret
    refine ⟨v, rfl, by simpa using hown, ?_⟩
    exact below_grown ((Below.refl _ w).alloc (Nat.le_refl _) _) hg (by simp) (by intro b hb; cases hb; exact Nat.le_refl _)

end Go.Proofs.Ythhdipfadnihjaa
