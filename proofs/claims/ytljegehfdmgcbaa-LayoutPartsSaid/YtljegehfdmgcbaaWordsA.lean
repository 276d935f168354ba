/- The walks of words.Bytes. -/
import Derived.Test.YtljegehfdmgcbaaApp
import Derived.Test.YtljegehfdmgcbaaRows
import Derived.Deep.QuietTactic
import Derived.BigQuiet
import Derived.Deep.RegionLaw
namespace Go.Proofs.Ytljegehfdmgcbaa
open Go Go.RowKit

theorem elem_u8 : ElemIs Try.prog 87 5 (.int .u8 0) 1 1 := ⟨by kernel_rfl, by kernel_rfl, rfl, by decide⟩

theorem byteAt_wrap (x : BitVec 64) (n : Nat) : IntKind.u8.wrap ((x.toNat : Int) / 2 ^ (8 * (n : Int)).toNat) = ((byteAt x n).toNat : Int) := by
  rw [IntKind.wrap_u8']
  have h : (8 * (n : Int)).toNat = 8 * n := by omega
  rw [h]
  simp [byteAt, BitVec.toNat_ushiftRight, Nat.shiftRight_eq_div_pow]

set_option maxRecDepth 100000 in
set_option maxHeartbeats 1000000 in
theorem bytes1_any (base B Bw : Nat) (v : Value) (ys : List (BitVec 8)) (x : BitVec 64) (n : Nat) (hn : n < 8) (w : World)
    (hB : Box w B 87 v) (hW : Box w Bw 24 (vw x)) (hb1 : B < base) (hb2 : v.ownBlock ≠ some Bw) (hb3 : base ≤ w.heap.size)
    (hown : w.ownsRow base 5 1 v ys.length (ys.map vb)) (hlen : ys.length < 1000000000) :
    Calls Try.prog 61 #[.int .i64 n, .pointer (some ⟨B, 0, none⟩), .pointer (some ⟨Bw, 0, none⟩)] w fun e w' => e = .returned (.tuple #[]) ∧
      ∃ v', Box w' B 87 v' ∧ w'.ownsRow base 5 1 v' (ys ++ [byteAt x n]).length ((ys ++ [byteAt x n]).map vb) ∧ Blk w v v' ∧ Frn (fun b => b = B ∨ v.ownBlock = some b) w w' := by
  have hc1 := hB.cell
  have hf1 := hB.free
  have hc2 := hW.cell
  have hc1a : ∀ o, (w.alloc o).cell? ⟨B, 0, none⟩ = some v := fun o => (hB.alloc o).cell
  have hc2a : ∀ o, (w.alloc o).cell? ⟨Bw, 0, none⟩ = some (vw x) := fun o => (hW.alloc o).cell
  have hb8 := byteAt_wrap x n
  have hp : (0 : Int) ≤ 8 * (n : Int) := by omega
  have hp2 : 8 * (n : Int) < 64 := by omega
  have hp3 : 0 ≤ (n : Int) := by omega
  have hp4 : (n : Int) < 8 := by omega
  have hw8 : IntKind.i64.wrap (8 * (n : Int)) = 8 * (n : Int) := IntWalk.i64_in _ (by omega)
  go_enter Try.func61, Try.ntmps61
  go_wp2
  go_region_law (first
    | (refine step_append_src rfl _ _ _ rfl elem_u8 base _ ys.length (ys.map vb) rfl ?_ _ 1 [vb (byteAt x n)] rfl ?_ ?_ ?_ ?_ ?_ ?_ ?_
       · exact hown.alloc _
       · exact src_one (Box.new w _ _).cell
       · rfl
       · simp [Value.oneCell']
       · unfold maxLen; omega
       · omega
       · simp; omega
       intro v' w1 hown1 hgrow1 _ hblk
       obtain ⟨g', cap', rfl⟩ := ownsRow_succ hown1
       have hB1 : Box w1 B 87 v := (hB.alloc _).kept (hgrow1.block B (by simp; omega) (fun e => by have := (hown.lt B e.symm).1; omega))
       have hW1 : Box w1 Bw 24 (vw x) := (hW.alloc _).kept (hgrow1.block Bw (by have := hW.lt; simp; omega) (fun e => hb2 e.symm))
       have hd1 := hB1.cell
       have hd2 := hB1.free
       have hd3 := hW1.cell
       have HG := Lib.hid hgrow1
       clear hgrow1))
  all_goals
    go_end0
    refine ⟨rfl, _, hB1.set _, ?_, hblk.imp id (fun ⟨g, h1, h2⟩ => ⟨g, h1, by simp at h2; omega⟩), ?_⟩
    · have h1 := ownsRow_setCell_below hown1 (a := ⟨B, 0, none⟩) hb1 (Value.slice (some { block := g', off := 0 }) (ys.length + 1) cap')
      simpa using h1
    · refine Frn.setCell ?_ ⟨B, 0, none⟩ (.inl (.inl rfl)) _
      exact ((Frn.refl _ w).allocR _).drew.trans (Frn.of_grownBy HG.out fun r hr => .inr hr)

def bytesTo (x : BitVec 64) (n : Nat) : List (BitVec 8) := (List.range n).map (byteAt x)
def bytesOf (x : BitVec 64) : List (BitVec 8) := bytesTo x 8
def bytesL (xs : List (BitVec 64)) : List (BitVec 8) := xs.flatMap bytesOf
theorem bytesTo_succ (x : BitVec 64) (n : Nat) : bytesTo x (n + 1) = bytesTo x n ++ [byteAt x n] := by simp [bytesTo, List.range_succ]
theorem bytesTo_length (x : BitVec 64) (n : Nat) : (bytesTo x n).length = n := by simp [bytesTo]
theorem bytesL_length (xs : List (BitVec 64)) : (bytesL xs).length = 8 * xs.length := by
  induction xs with
  | nil => rfl
  | cons x xs ih => simp only [bytesL, List.flatMap_cons, List.length_append, List.length_cons] at *; rw [ih, bytesOf, bytesTo_length]; omega
theorem bytesL_take_succ (xs : List (BitVec 64)) (k : Nat) (h : k < xs.length) : bytesL (xs.take (k + 1)) = bytesL (xs.take k) ++ bytesOf xs[k] := by
  rw [List.take_succ_eq_append_getElem h, bytesL, List.flatMap_append]; simp [bytesL]
/-- What has been made when j bytes of word k are there. -/
def madeTo (xs : List (BitVec 64)) (k : Nat) (x : BitVec 64) (j : Nat) : List (BitVec 8) := bytesL (xs.take k) ++ bytesTo x j
theorem madeTo_length (xs : List (BitVec 64)) (k : Nat) (x : BitVec 64) (j : Nat) (h : k ≤ xs.length) : (madeTo xs k x j).length = 8 * k + j := by
  simp [madeTo, bytesL_length, bytesTo_length]; omega

theorem madeTo_succ (xs : List (BitVec 64)) (k : Nat) (x : BitVec 64) (j : Nat) : madeTo xs k x (j + 1) = madeTo xs k x j ++ [byteAt x j] := by
  simp [madeTo, bytesTo_succ]

/-- The state between two rounds of words.Bytes. -/
def BSt (w : World) (ys : List (BitVec 8)) (v : Value) (wr : World) : Prop :=
  Box wr w.heap.size 87 v ∧ wr.ownsRow (w.heap.size + 1) 5 1 v ys.length (ys.map vb) ∧ Below w.heap.size w wr ∧ w.heap.size + 1 ≤ wr.heap.size

set_option maxRecDepth 100000 in
set_option maxHeartbeats 2000000 in
theorem bytes_any (p : Option Addr) (cap : Nat) (xs : List (BitVec 64)) (w : World) (hrd : RdL w.heap.size w p cap vw xs) (hx : xs.length ≤ 1000000) :
    Calls Try.prog 57 #[.slice p xs.length cap] w (RetOwn 5 vb (bytesL xs) w) := by
  have hlen := hrd.len
  have HR := Lib.hid hrd
  clear hrd
  go_enter Try.func57, Try.ntmps57
  go_wp2
  go_loopw [10] (fun i wr => ∃ (k : Nat) (v : Value), k ≤ xs.length ∧ i = .int .i64 k ∧ BSt w (bytesL (xs.take k)) v wr) (fun i _ => xs.length - (intOf i).toNat)
  case atStart => exact ⟨0, .slice none 0 0, Nat.zero_le _, rfl, Box.new _ _ _, World.ownsRow_nil _ _ _ _, (Below.refl _ _).alloc (Nat.le_refl _) _, by simp⟩
  case round =>
    obtain ⟨k, v, hk, rfl, hst⟩ := hrel
    by_cases hlt : k < xs.length
    · obtain ⟨b, off, rfl, hb, hcx⟩ := HR.out.at k hlt
      have hcx' : wr.cell? ⟨b, off + k, none⟩ = some (vw xs[k]) := (hst.2.2.1.cell (p := ⟨b, off + k, none⟩) hb).trans hcx
      have HS := Lib.hid hst
      clear hst hcx
      go_wp2
      obtain ⟨wo, rfl⟩ : ∃ wo : World, wo = wr := ⟨_, rfl⟩
      go_loopw [15] (fun i wr => ∃ (j : Nat) (v : Value), j ≤ 8 ∧ i = .int .i64 j ∧ BSt w (madeTo xs k xs[k] j) v wr ∧ Box wr wo.heap.size 24 (vw xs[k]) ∧ v.ownBlock ≠ some wo.heap.size) (fun i _ => 8 - (intOf i).toNat)
      case atStart =>
        obtain ⟨h1, h2, h3, h4⟩ := HS.out
        refine ⟨0, v, by omega, rfl, ⟨h1.alloc _, by simpa [madeTo, bytesTo] using h2.alloc _, h3.alloc (by omega) _, by simp; omega⟩, Box.new _ _ _, fun e => ?_⟩
        have := (h2.lt _ e).2
        omega
      case round =>
        obtain ⟨j, v, hj, rfl, ⟨h1, h2, h3, h4⟩, h5, h6⟩ := hrel
        by_cases hjt : j < 8
        · have hml := madeTo_length xs k xs[k] j (by omega)
          go_wp2_with (go_at_call 61; refine (bytes1_any (w.heap.size + 1) _ _ v (madeTo xs k xs[k] j) xs[k] j hjt _ h1 h5 (by omega) h6 h4 h2 (by omega)).mono ?_; rintro e w' ⟨rfl, v', g1, g2, g3, g4⟩)
          refine ⟨⟨j + 1, v', by omega, by go_num, ⟨g1, by rw [madeTo_succ]; exact g2, ?_, Nat.le_trans h4 g4.size⟩, ?_, ?_⟩, by simp [intOf]; omega⟩
          · exact h3.trans (g4.below h3.size (fun b hb => hb.elim (fun e => by omega) (fun e => by have := (h2.lt _ e).1; omega)))
          · exact h5.kept (g4.block _ h5.lt (fun hb => hb.elim (fun e => by have := HS.out.1.lt; omega) (fun e => h6 e)))
          · rcases g3 with g3 | ⟨g, g3, g5⟩
            · rw [g3]; exact h6
            · rw [g3]; intro e; cases e; have := h5.lt; omega
        · obtain rfl : j = 8 := by omega
          go_wp2
          refine ⟨⟨k + 1, v, by omega, by go_num, ?_⟩, by simp [intOf]; omega⟩
          rw [bytesL_take_succ xs k hlt]
          exact ⟨h1, h2, h3, h4⟩
    · obtain rfl : k = xs.length := by omega
      rw [List.take_length] at hst
      obtain ⟨h1, h2, h3, h4⟩ := hst
      have hc := h1.cell
      go_wp2
      go_ret
      exact ⟨v, rfl, own_wide h2 (Nat.le_succ _), h3⟩

end Go.Proofs.Ytljegehfdmgcbaa
