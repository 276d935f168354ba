/- The walks of the sum of bytes. -/
import Derived.Test.YtljegehfdmgcbaaMem
import Derived.Test.YtljegehfdmgcbaaRows
namespace Go.Proofs.Ytljegehfdmgcbaa
open Go Go.RowKit
attribute [local go_sem] Oper.semAt_some

def poly : BitVec 64 := 14514072000185962306#64
def odd (x : BitVec 64) : Bool := ((x.toNat % 2 : Nat) : Int) == 1
def stepw (x : BitVec 64) : BitVec 64 := if odd x = true then xorw (shrw x 1) poly else shrw x 1
def steps : Nat → BitVec 64 → BitVec 64
  | 0, x => x
  | n + 1, x => stepw (steps n x)
def intow (x : BitVec 64) (b : BitVec 8) : BitVec 64 := steps 8 (xorw x (ofb b))
def morew (r : BitVec 64) (bs : List (BitVec 8)) : BitVec 64 := bs.foldl intow r

set_option maxHeartbeats 400000 in
theorem step1_any (B : Nat) (x : BitVec 64) (w : World) (hc : w.cell? ⟨B, 0, none⟩ = some (vw x)) :
    Calls Try.prog 66 #[.pointer (some ⟨B, 0, none⟩)] w fun e w' => e = .returned (.bool (odd x)) ∧ w = w' := by
  have h1 := and1_w x
  go_enter Try.func66, Try.ntmps66
  go_wp2
  go_ret
  exact ⟨rfl, rfl⟩

set_option maxHeartbeats 400000 in
theorem step_any (x : BitVec 64) (w : World) :
    Calls Try.prog 65 #[vw x] w fun e w' => e = .returned (vw (stepw x)) ∧ w.alloc (.cells #[vw x] 92) = w' := by
  have hs := shr1_w x
  have hx : bits BinOp.xor IntKind.u64 (↑(shrw x 1).toNat) 14514072000185962306 = ((xorw (shrw x 1) poly).toNat : Int) := bits_xor_w _ poly
  have hc := cell_new_l w (vw x) 92
  by_cases h : odd x = true
  · have hst : stepw x = xorw (shrw x 1) poly := by unfold stepw; rw [if_pos h]
    go_enter Try.func65, Try.ntmps65
    go_wp2_with (go_at_call 66; refine (step1_any _ x _ hc).mono ?_; rintro e w' ⟨rfl, rfl⟩)
    go_ret
    exact ⟨by rw [hst]; rfl, rfl⟩
  · have hst : stepw x = shrw x 1 := by unfold stepw; rw [if_neg h]
    have h' : odd x = false := by simpa using h
    go_enter Try.func65, Try.ntmps65
    go_wp2_with (go_at_call 66; refine (step1_any _ x _ hc).mono ?_; rintro e w' ⟨rfl, rfl⟩)
    go_ret
    exact ⟨by rw [hst]; rfl, rfl⟩

set_option maxHeartbeats 400000 in
theorem into_any (x : BitVec 64) (b : BitVec 8) (w : World) :
    Calls Try.prog 63 #[vw x, vb b] w fun e w' => e = .returned (vw (intow x b)) ∧ Below w.heap.size w w' := by
  have hx := bits_xor_w x (ofb b)
  rw [← ofb_w] at hx
  go_enter Try.func63, Try.ntmps63
  go_wp2
  go_loopw [0, 9] (fun r i wr => ∃ k : Nat, k ≤ 8 ∧ i = .int .i64 k ∧ r = vw (steps k (xorw x (ofb b))) ∧ Below w.heap.size w wr) (fun _ i _ => 8 - (intOf i).toNat)
  case atStart => exact ⟨0, by omega, rfl, rfl, Below.refl _ _⟩
  case round =>
    obtain ⟨k, hk, rfl, rfl, hb⟩ := hrel
    by_cases hlt : k < 8
    · go_wp2_with (go_at_call 65; refine (step_any _ _).mono ?_; rintro e w' ⟨rfl, rfl⟩)
      go_roundw
      case rel => exact ⟨k + 1, by omega, by go_num, rfl, hb.alloc hb.size _⟩
      case measure => simp [intOf]; omega
    · obtain rfl : k = 8 := by omega
      go_wp2
      go_ret
      exact ⟨rfl, hb⟩

end Go.Proofs.Ytljegehfdmgcbaa
