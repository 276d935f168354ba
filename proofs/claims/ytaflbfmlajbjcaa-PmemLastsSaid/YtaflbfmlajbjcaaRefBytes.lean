/- The walk of the reference's Bytes. -/
import Derived.Test.YtaflbfmlajbjcaaWordsA
namespace Go.Proofs.Ytaflbfmlajbjcaa
open Go Go.RowKit

theorem byteAt_mod (x : BitVec 64) (j : Nat) : IntKind.u8.wrap (((shrw x (8 * j)).toNat : Int) % 256) = ((byteAt x j).toNat : Int) := by
  rw [IntKind.wrap_u8']
  simp [byteAt, shrw, BitVec.toNat_ushiftRight]
theorem shrw_256 (x : BitVec 64) (j : Nat) : ((shrw x (8 * j)).toNat : Int) / 256 = ((shrw x (8 * (j + 1))).toNat : Int) := by
  simp only [shrw, BitVec.toNat_ushiftRight, Nat.shiftRight_eq_div_pow]
  rw [Nat.mul_add, Nat.pow_add, ← Nat.div_div_eq_div_mul]
  simp
theorem shrw_zero (x : BitVec 64) : shrw x (8 * 0) = x := by simp [shrw]

set_option maxRecDepth 100000 in
set_option maxHeartbeats 2000000 in
theorem refBytes_any (p : Option Addr) (cap : Nat) (xs : List (BitVec 64)) (w : World) (hrd : RdL w.heap.size w p cap vw xs) (hx : xs.length ≤ 1000000) :
    Calls Try.prog 55 #[.slice p xs.length cap] w (RetOwn 5 vb (bytesL xs) w) := by
  have hlen := hrd.len
  have HR := Lib.hid hrd
  clear hrd
  go_enter Try.func55, Try.ntmps55
  go_wp2
  go_loopw [3, 4] (fun v i wr => ∃ (k : Nat), k ≤ xs.length ∧ i = .int .i64 k ∧ wr.ownsRow w.heap.size 5 1 v (bytesL (xs.take k)).length ((bytesL (xs.take k)).map vb) ∧ Below w.heap.size w wr) (fun _ i _ => xs.length - (intOf i).toNat)
  case atStart => exact ⟨0, Nat.zero_le _, rfl, World.ownsRow_nil _ _ _ _, Below.refl _ _⟩
  case round =>
    obtain ⟨k, hk, rfl, hown, hb⟩ := hrel
    by_cases hlt : k < xs.length
    · obtain ⟨b, off, rfl, hbb, hcx⟩ := HR.out.at k hlt
      have hcx' : wr.cell? ⟨b, off + k, none⟩ = some (vw xs[k]) := (hb.cell (p := ⟨b, off + k, none⟩) hbb).trans hcx
      have HO := Lib.hid hown
      have HB := Lib.hid hb
      clear hown hcx hb
      go_wp2
      obtain ⟨wo, rfl⟩ : ∃ wo : World, wo = wr := ⟨_, rfl⟩
      go_loopw [3, 5, 6] (fun v u i wr => ∃ (j : Nat), j ≤ 8 ∧ i = .int .i64 j ∧ u = vw (shrw xs[k] (8 * j)) ∧ wr.ownsRow w.heap.size 5 1 v (madeTo xs k xs[k] j).length ((madeTo xs k xs[k] j).map vb) ∧ Below w.heap.size w wr) (fun _ _ i _ => 8 - (intOf i).toNat)
      case atStart => exact ⟨0, by omega, rfl, by rw [shrw_zero], by simpa [madeTo, bytesTo] using HO.out, HB.out⟩
      case round =>
        obtain ⟨j, hj, rfl, rfl, hown, hb⟩ := hrel
        by_cases hjt : j < 8
        · have hml := madeTo_length xs k xs[k] j (by omega)
          have h1 := byteAt_mod xs[k] j
          have h2 := shrw_256 xs[k] j
          have HO := Lib.hid hown
          have HB := Lib.hid hb
          clear hown hb
          have hs := HB.out.size
          go_wp2_with (at_builtin; refine wpList_append_src rfl _ _ _ rfl elem_u8 w.heap.size _ (madeTo xs k xs[k] j).length ((madeTo xs k xs[k] j).map vb) rfl (HO.out.alloc _) _ 1 [vb (byteAt xs[k] j)] rfl (src_one (Box.new wr _ _).cell) rfl ?_ ?_ ?_ ?_ ?_
                       · simp [Value.oneCell']
                       · unfold maxLen; omega
                       · omega
                       · simp; omega
                       intro v' w3 hown3 hg _ _
                       have HB3 := Lib.hid (below_grown (HB.out.alloc hs _) hg (by simp; omega) (fun b hb => (HO.out.lt b hb).1))
                       clear hg)
          exact ⟨⟨j + 1, by omega, by go_num, rfl, by rw [madeTo_succ]; simpa using hown3, HB3.out⟩, by simp [intOf]; omega⟩
        · obtain rfl : j = 8 := by omega
          go_wp2
          exact ⟨⟨k + 1, by omega, by go_num, by rw [bytesL_take_succ xs k hlt]; exact hown, hb⟩, by simp [intOf]; omega⟩
    · obtain rfl : k = xs.length := by omega
      rw [List.take_length] at hown
      go_wp2
      go_ret
      exact ⟨_, rfl, hown, hb⟩

end Go.Proofs.Ytaflbfmlajbjcaa
