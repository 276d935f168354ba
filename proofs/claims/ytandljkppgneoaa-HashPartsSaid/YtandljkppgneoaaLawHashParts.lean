/- The walk of the law HashParts. -/
import Derived.Test.YtandljkppgneoaaHashK
namespace Go.Proofs.Ytandljkppgneoaa
open Go Go.RowKit

set_option maxRecDepth 100000 in
set_option maxHeartbeats 2000000 in
theorem lawHashParts_big (a b : BitVec 64) (p : Option Addr) (cap : Nat) (bs : List (BitVec 8)) (d : Int) (w : World) (hb : 500 < bs.length) :
    Calls Try.prog 7 #[.agg #[vw a, vw b], .slice p bs.length cap, .int .i64 d] w fun e w' => e = .returned (.bool true) ∧ Below w.heap.size w w' := by
  have HA := Lib.hid ((At.start w).alloc (.cells #[vw a, vw b] 52))
  go_enter Try.func7, Try.ntmps7
  go_wp2_with fail
  refine (works2_any _).mono ?_
  rintro e w1 ⟨rfl, b1⟩
  have HA1 := Lib.hid (HA.out.below b1)
  clear b1
  go_wp2_with fail
  go_ret
  exact ⟨rfl, HA1.out.1⟩
set_option maxRecDepth 100000 in
set_option maxHeartbeats 2000000 in
theorem lawHashParts_out (a b : BitVec 64) (p : Option Addr) (cap : Nat) (bs : List (BitVec 8)) (d : Int) (w : World) (hrd : RdL w.heap.size w p cap vb bs) (hb : ¬ 500 < bs.length) (hd : d < 1 ∨ 64 < d) :
    Calls Try.prog 7 #[.agg #[vw a, vw b], .slice p bs.length cap, .int .i64 d] w fun e w' => e = .returned (.bool true) ∧ Below w.heap.size w w' := by
  have hA := (At.start w).alloc (.cells #[vw a, vw b] 52)
  have HP := Lib.hid (partOut_any a b p cap bs d _ (hA.rdl hrd) (by omega) hd)
  have HA := Lib.hid hA
  clear hA hrd
  go_enter Try.func7, Try.ntmps7
  go_wp2_with fail
  refine HP.out.mono ?_
  rintro e w1 ⟨rfl, b1⟩
  have HA1 := Lib.hid (HA.out.below b1)
  clear b1
  rcases hd with hd | hd
  all_goals
    go_wp2_with fail
    refine (num2_any _ _).mono ?_
    rintro e w2 ⟨rfl, rfl⟩
    go_wp2_with fail
    refine (works2_any _).mono ?_
    rintro e w2 ⟨rfl, b2⟩
    have HA2 := Lib.hid (HA1.out.below b2)
    clear b2
    go_wp2_with fail
    go_ret
    exact ⟨rfl, HA2.out.1⟩
set_option maxRecDepth 100000 in
set_option maxHeartbeats 2000000 in
theorem lawHashParts_in (a b : BitVec 64) (p : Option Addr) (cap : Nat) (bs : List (BitVec 8)) (d : Nat) (w : World) (hrd : RdL w.heap.size w p cap vb bs) (hb : ¬ 500 < bs.length) (h1 : 1 ≤ d) (h2 : d ≤ 64) :
    Calls Try.prog 7 #[.agg #[vw a, vw b], .slice p bs.length cap, .int .i64 d] w fun e w' => e = .returned (.bool true) ∧ Below w.heap.size w w' := by
  have hA := (At.start w).alloc (.cells #[vw a, vw b] 52)
  have HP := Lib.hid (partIn_any a b p cap bs d _ (hA.rdl hrd) (by omega) h1 h2)
  have HA := Lib.hid hA
  have HR := Lib.hid hrd
  have c0 : (w.alloc (.cells #[vw a, vw b] 52)).cell? ⟨w.heap.size, 0, none⟩ = some (vw a) := by rw [World.cell?_alloc_new]; rfl
  have c1 : (w.alloc (.cells #[vw a, vw b] 52)).cell? ⟨w.heap.size, 1, none⟩ = some (vw b) := by rw [World.cell?_alloc_new]; rfl
  have C0 := Lib.hid c0
  have C1 := Lib.hid c1
  clear hA hrd
  go_enter Try.func7, Try.ntmps7
  go_wp2_with fail
  refine HP.out.mono ?_
  rintro e w1 ⟨rfl, b1⟩
  have HA1 := Lib.hid (HA.out.below b1)
  have d0 := (World.cell?_of_block (a := ⟨w.heap.size, 0, none⟩) (b1.block w.heap.size (by simp))).trans C0.out
  have d1 := (World.cell?_of_block (a := ⟨w.heap.size, 1, none⟩) (b1.block w.heap.size (by simp))).trans C1.out
  clear b1
  have HP2 := Lib.hid (refPart_any a b p cap bs d w1 (HA1.out.rdl HR.out) (by omega) h1 h2)
  obtain ⟨x, hx⟩ : ∃ x, fieldW (hashV a b bs) (64 - d) d = x := ⟨_, rfl⟩
  rw [hx] at HP2 ⊢
  go_wp2_with fail
  refine HP2.out.mono ?_
  rintro e w2 ⟨rfl, b2⟩
  have HA2 := Lib.hid (HA1.out.below b2)
  clear b2
  go_wp2_with fail
  refine (num2_any _ _).mono ?_
  rintro e w3 ⟨rfl, rfl⟩
  go_wp2_with fail
  refine (works2_any _).mono ?_
  rintro e w4 ⟨rfl, b4⟩
  have HA4 := Lib.hid (HA2.out.below b4)
  clear b4
  go_wp2_with fail
  go_ret
  exact ⟨rfl, HA4.out.1⟩
theorem lawHashParts (a b : BitVec 64) (p : Option Addr) (cap : Nat) (bs : List (BitVec 8)) (d : Int) (w : World) (hrd : RdL w.heap.size w p cap vb bs) :
    Calls Try.prog 7 #[.agg #[vw a, vw b], .slice p bs.length cap, .int .i64 d] w fun e w' => e = .returned (.bool true) ∧ Below w.heap.size w w' := by
  by_cases hb : 500 < bs.length
  · exact lawHashParts_big a b p cap bs d w hb
  · by_cases hd : d < 1 ∨ 64 < d
    · exact lawHashParts_out a b p cap bs d w hrd hb hd
    · obtain ⟨n, rfl⟩ := Int.eq_ofNat_of_zero_le (show 0 ≤ d by omega)
      exact lawHashParts_in a b p cap bs n w hrd hb (by omega) (by omega)
end Go.Proofs.Ytandljkppgneoaa
