/- The walks of the statements' own rows on hashes. -/
import Derived.Test.YthhdipfadnihjaaHashS
import Derived.Test.YthhdipfadnihjaaHashG
namespace Go.Proofs.Ythhdipfadnihjaa
open Go Go.RowKit

set_option maxHeartbeats 400000 in
theorem num2_any (v : Value) (w : World) : Calls Try.prog 70 #[v] w fun e w' => e = .returned v ∧ w = w' := by
  go_enter Try.func70, Try.ntmps70
  go_wp2
  go_ret
  exact ⟨rfl, rfl⟩
def keyA : BitVec 64 := 506097522914230528#64
def keyB : BitVec 64 := 1084818905618843912#64
set_option maxHeartbeats 400000 in
theorem key_any (w : World) : Calls Try.prog 68 #[] w fun e w' => e = .returned (.agg #[vw keyA, vw keyB]) ∧ Below w.heap.size w w' := by
  go_enter Try.func68, Try.ntmps68
  go_wp2
  refine bodyPost_ret (v := .agg #[vw keyA, vw keyB]) ?_ rfl ⟨rfl, (Below.refl _ _).alloc (Nat.le_refl _) _⟩
  simp [results, Try.results68, go_sem, keyA, keyB]
def risen (k : Nat) : List (BitVec 8) := (List.range k).map (BitVec.ofNat 8)
theorem risen_len (k : Nat) : (risen k).length = k := by simp [risen]
theorem risen_succ (k : Nat) : risen (k + 1) = risen k ++ [BitVec.ofNat 8 k] := by simp [risen, List.range_succ]
/-- A block that is risen so far. -/
def RiseAt (w wr : World) (k : Nat) : Prop := wr.heap[w.heap.size]? = some (.cells ((risen k ++ List.replicate (15 - k) 0#8).map vb).toArray 5 (0, 0)) ∧ Below w.heap.size w wr
theorem RiseAt.cell {w wr : World} {k : Nat} (h : RiseAt w wr k) (hk : k < 15) : wr.cell? ⟨w.heap.size, k, none⟩ = some (vb 0#8) := by
  have h1 := h.1
  have hl : (risen k).length = k := risen_len k
  simp only [World.cell?, h1]
  show ((List.map vb (risen k ++ List.replicate (15 - k) 0#8)).toArray)[k]? = _
  rw [List.getElem?_toArray, List.getElem?_map]
  rw [List.getElem?_append_right (by omega), hl, Nat.sub_self, List.getElem?_replicate, if_pos (show 0 < 15 - k by omega)]
  rfl
theorem RiseAt.free {w wr : World} {k : Nat} (h : RiseAt w wr k) : wr.frozen? ⟨w.heap.size, k, none⟩ = false := by
  have h1 := h.1
  simp [World.frozen?, h1]
theorem RiseAt.next {w wr : World} {k : Nat} (h : RiseAt w wr k) (hk : k < 15) : RiseAt w (wr.setCell ⟨w.heap.size, k, none⟩ (vb (BitVec.ofNat 8 k))) (k + 1) := by
  refine ⟨?_, h.2.setCell (Nat.le_refl _) _⟩
  show (wr.heap.modify w.heap.size _)[w.heap.size]? = _
  rw [Array.getElem?_modify, if_pos rfl, h.1]
  have hl : (risen k).length = k := risen_len k
  have e : 15 - k = (15 - (k + 1)) + 1 := by omega
  rw [risen_succ, e, List.replicate_succ]
  simp [List.set_append_right, hl]
set_option maxRecDepth 100000 in
set_option maxHeartbeats 1000000 in
theorem rising_any (w : World) : Calls Try.prog 69 #[.int .i64 15] w fun e w' =>
    ∃ p, e = .returned (.slice p 15 15) ∧ RdL w'.heap.size w' p 15 vb (risen 15) ∧ Below w.heap.size w w' := by
  have hmk : ∀ W : World, (Instr.makeSlice 70 (.int .i64 15) (.int .i64 15)).run Try.prog W = .ok (.slice (some ⟨W.heap.size, 0, none⟩) 15 15) (W.alloc (.cells (Array.replicate 15 (vb 0#8)) 5)) := fun W => made_bytes 15 (by omega) W
  have h0 : RiseAt w (w.alloc (.cells (Array.replicate 15 (vb 0#8)) 5)) 0 := by
    refine ⟨?_, (Below.refl _ _).alloc (Nat.le_refl _) _⟩
    have := World.alloc_heap_new w (.cells (Array.replicate 15 (vb 0#8)) 5)
    rw [this]
    simp [risen]
    rfl
  have H0 := Lib.hid h0
  clear h0
  go_enter Try.func69, Try.ntmps69
  go_wp2
  go_loopw [4] (fun i wr => ∃ k : Nat, k ≤ 15 ∧ i = .int .i64 k ∧ RiseAt w wr k) (fun i _ => 15 - (intOf i).toNat)
  case atStart => exact ⟨0, by omega, rfl, H0.out⟩
  case round =>
    obtain ⟨k, hk, rfl, hr⟩ := hrel
    have HRA := Lib.hid hr
    clear hr
    by_cases hlt : k < 15
    · have c := HRA.out.cell hlt
      have f := HRA.out.free
      have ek : IntKind.u8.wrap (k : Int) = ((BitVec.ofNat 8 k).toNat : Int) := by
        simp [IntKind.wrap, IntKind.signed, IntKind.bits]
      go_wp2
      refine ⟨⟨k + 1, by omega, by go_num, HRA.out.next hlt⟩, by simp [intOf]; omega⟩
    · obtain rfl : k = 15 := by omega
      go_wp2
      go_ret
      have h := HRA.out
      have hh : wr.heap[w.heap.size]? = some (.cells ((risen 15).map vb).toArray 5 (0, 0)) := by
        have := h.1
        rwa [Nat.sub_self, List.replicate_zero, List.append_nil] at this
      refine ⟨_, rfl, ?_, h.2⟩
      have := rdl_block vb (risen 15) hh (by rw [risen_len]; decide)
      rwa [risen_len] at this
theorem hash_rows : hashV keyA keyB (risen 15) = 11613035633349379557#64 ∧ fieldW (hashV keyA keyB (risen 15)) (64 - 8) 8 = 161#64 := by
  constructor <;> kernel_rfl
set_option maxRecDepth 100000 in
set_option maxHeartbeats 2000000 in
theorem works2_any (w : World) : Calls Try.prog 32 #[] w fun e w' => e = .returned (.bool true) ∧ Below w.heap.size w w' := by
  obtain ⟨r1, r2⟩ := hash_rows
  have hrl : (risen 15).length = 15 := risen_len 15
  have hp : ∀ (p : Option Addr) (W : World), RdL W.heap.size W p 15 vb (risen 15) → Calls Try.prog 67 #[.agg #[vw keyA, vw keyB], .slice p 15 15, .int .i64 8] W fun e w' => e = .returned (.tuple #[.int .u64 161, .int .i64 0]) ∧ Below W.heap.size W w' := by
    intro p W h
    have := partIn_any keyA keyB p 15 (risen 15) 8 W h (by rw [hrl]; omega) (by omega) (by omega)
    rw [r2, hrl] at this
    exact this
  have hs : ∀ (p : Option Addr) (W : World), RdL W.heap.size W p 15 vb (risen 15) → Calls Try.prog 37 #[.agg #[vw keyA, vw keyB], .slice p 15 15] W fun e w' => e = .returned (.int .u64 11613035633349379557) ∧ Below W.heap.size W w' := by
    intro p W h
    have := hashSum_any keyA keyB p 15 (risen 15) W h (by rw [hrl]; omega)
    rw [r1, hrl] at this
    exact this
  have hn : ∀ W : World, Calls Try.prog 67 #[.agg #[vw keyA, vw keyB], .slice none 0 0, .int .i64 0] W fun e w' => e = .returned (.tuple #[.int .u64 0, .int .i64 2]) ∧ Below W.heap.size W w' :=
    fun W => partOut_any keyA keyB none 0 [] 0 W (RdL.nil _ _ _) (by simp) (.inl (by omega))
  have HP := Lib.hid hp
  have HS := Lib.hid hs
  have HN := Lib.hid hn
  clear hp hs hn r1 r2 hrl
  go_enter Try.func32, Try.ntmps32
  go_wp2_with fail
  refine (key_any _).mono ?_
  rintro e w1 ⟨rfl, b1⟩
  go_wp2_with fail
  refine (rising_any _).mono ?_
  rintro e w2 ⟨p2, rfl, h2, b2⟩
  have B2 := Lib.hid (b1.trans (b2.mono b1.size))
  have H2 := Lib.hid h2
  clear b1 b2 h2
  go_wp2_with fail
  refine (HP.out p2 w2 H2.out).mono ?_
  rintro e w3 ⟨rfl, b3⟩
  have B3 := Lib.hid (B2.out.trans (b3.mono B2.out.size))
  clear b3
  go_wp2_with fail
  refine (key_any _).mono ?_
  rintro e w4 ⟨rfl, b4⟩
  have B4 := Lib.hid (B3.out.trans (b4.mono B3.out.size))
  clear b4
  go_wp2_with fail
  refine (HN.out w4).mono ?_
  rintro e w5 ⟨rfl, b5⟩
  have B5 := Lib.hid (B4.out.trans (b5.mono B4.out.size))
  clear b5
  go_wp2_with fail
  refine (key_any _).mono ?_
  rintro e w6 ⟨rfl, b6⟩
  have B6 := Lib.hid (B5.out.trans (b6.mono B5.out.size))
  clear b6
  go_wp2_with fail
  refine (rising_any _).mono ?_
  rintro e w7 ⟨p7, rfl, h7, b7⟩
  have B7 := Lib.hid (B6.out.trans (b7.mono B6.out.size))
  have H7 := Lib.hid h7
  clear b7 h7
  go_wp2_with fail
  refine (HS.out p7 w7 H7.out).mono ?_
  rintro e w8 ⟨rfl, b8⟩
  have B8 := Lib.hid (B7.out.trans (b8.mono B7.out.size))
  clear b8
  go_wp2_with fail
  refine (num2_any _ _).mono ?_
  rintro e w9 ⟨rfl, rfl⟩
  go_wp2_with fail
  refine (num2_any _ _).mono ?_
  rintro e w9 ⟨rfl, rfl⟩
  go_wp2_with fail
  go_ret
  exact ⟨rfl, B8.out⟩
/-- The key's block, past a world's end. -/
structure Kb (n : Nat) (a b : BitVec 64) (w : World) : Prop where
  c0 : w.cell? ⟨n, 0, none⟩ = some (vw a)
  c1 : w.cell? ⟨n, 1, none⟩ = some (vw b)
  lt : n < w.heap.size
theorem kb_new (w : World) (a b : BitVec 64) : Kb w.heap.size a b (w.alloc (.cells #[vw a, vw b] 69)) :=
  ⟨by rw [World.cell?_alloc_new]; rfl, by rw [World.cell?_alloc_new]; rfl, by simp⟩
theorem Kb.kept {n : Nat} {a b : BitVec 64} {w w' : World} (h : Kb n a b w) (e : w'.heap[n]? = w.heap[n]?) (hs : w.heap.size ≤ w'.heap.size) : Kb n a b w' :=
  ⟨(World.cell?_of_block (a := ⟨n, 0, none⟩) e).trans h.c0, (World.cell?_of_block (a := ⟨n, 1, none⟩) e).trans h.c1, Nat.lt_of_lt_of_le h.lt hs⟩
theorem Kb.below {n : Nat} {a b : BitVec 64} {w w' : World} (h : Kb n a b w) (hb : Below w.heap.size w w') : Kb n a b w' := h.kept (hb.block n h.lt) hb.size
theorem Kb.frn {n : Nat} {a b : BitVec 64} {w w' : World} {X : Nat → Prop} (h : Kb n a b w) (hf : Frn X w w') (hx : ¬ X n) : Kb n a b w' := h.kept (hf.block n h.lt hx) hf.size
theorem Kb.at {m n : Nat} {a b : BitVec 64} {w w' : World} (h : Kb n a b w) (hA : At m w w') (hx : n < m) : Kb n a b w' := ⟨(hA.1.cell hx).trans h.c0, (hA.1.cell hx).trans h.c1, Nat.lt_of_lt_of_le h.lt hA.1.size⟩
end Go.Proofs.Ythhdipfadnihjaa
