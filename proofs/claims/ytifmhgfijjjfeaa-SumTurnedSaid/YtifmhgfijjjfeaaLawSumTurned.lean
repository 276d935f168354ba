/- The walk of the law SumTurned. -/
import Derived.Test.YtifmhgfijjjfeaaSumE
import Derived.Test.YtifmhgfijjjfeaaSumLaw
namespace Go.Proofs.Ytifmhgfijjjfeaa
open Go Go.RowKit

theorem xorw_self (x y : BitVec 64) : (x = xorw x y) ↔ y = 0#64 := by
  unfold xorw
  constructor
  · intro h
    have h2 : x ^^^ x = x ^^^ (x ^^^ y) := congrArg (x ^^^ ·) h
    rw [← BitVec.xor_assoc, BitVec.xor_self, BitVec.zero_xor] at h2
    exact h2.symm
  · rintro rfl; simp

set_option maxRecDepth 100000 in
set_option maxHeartbeats 4000000 in
theorem lawSumTurned_out (p : Option Addr) (cap : Nat) (xs : List (BitVec 64)) (i : Int) (y : BitVec 64) (w : World) (hx : 100 < xs.length ∨ i < 0 ∨ (xs.length : Int) < i) :
    Calls Try.prog 7 #[.slice p xs.length cap, .int .i64 i, vw y] w fun e w' => e = .returned (.bool true) ∧ Below w.heap.size w w' := by
  by_cases h1 : 100 < xs.length
  · have h1' : decide ((100 : Int) < (xs.length : Int)) = true := by simp; omega
    go_enter Try.func7, Try.ntmps7
    go_wp2_with fail
    refine (works_any _).mono ?_
    rintro e w1 ⟨rfl, hb⟩
    go_wp2_with fail
    go_ret
    exact ⟨rfl, hb⟩
  · by_cases h2 : i < 0
    · have h2' : decide (i < 0) = true := by simpa using h2
      go_enter Try.func7, Try.ntmps7
      go_wp2_with fail
      refine (works_any _).mono ?_
      rintro e w1 ⟨rfl, hb⟩
      go_wp2_with fail
      go_ret
      exact ⟨rfl, hb⟩
    · have h3 : (xs.length : Int) < i := by omega
      have h2' : decide (i < 0) = false := by simpa using h2
      have h3' : decide ((xs.length : Int) < i) = true := by simpa using h3
      go_enter Try.func7, Try.ntmps7
      go_wp2_with fail
      refine (works_any _).mono ?_
      rintro e w1 ⟨rfl, hb⟩
      go_wp2_with fail
      go_ret
      exact ⟨rfl, hb⟩

set_option maxRecDepth 100000 in
set_option maxHeartbeats 4000000 in
theorem lawSumTurned_in (p : Option Addr) (cap : Nat) (xs : List (BitVec 64)) (k : Nat) (y : BitVec 64) (w : World) (hrd : RdL w.heap.size w p cap vw xs) (hx : xs.length ≤ 100) (hk : k ≤ xs.length) :
    Calls Try.prog 7 #[.slice p xs.length cap, .int .i64 k, vw y] w fun e w' => e = .returned (.bool true) ∧ Below w.heap.size w w' := by
  have HR := Lib.hid hrd
  have hsl : (sealL xs).length = xs.length + 1 := by simp [sealL]
  have hks : k < (sealL xs).length := by omega
  have HK := Lib.hid hks
  have HSL := Lib.hid hsl
  have hdl : (((sealL xs).length : Int) != (xs.length : Int) + 1) = false := by rw [hsl]; simp
  have hd1 : decide ((100 : Int) < (xs.length : Int)) = false := by simp; omega
  have hd2 : decide ((k : Int) < 0) = false := by simp
  have hd3 : decide ((xs.length : Int) < (k : Int)) = false := by simp; omega
  have hmx : (sealL xs).length ≤ 101 := by omega
  clear hrd hsl hks
  go_enter Try.func7, Try.ntmps7
  go_wp2_with fail
  refine (seal_any p cap xs _ HR.out (by omega)).mono ?_
  rintro e w1 ⟨v1, rfl, hown1, hb1⟩
  have HA1 := Lib.hid ((At.start w).below hb1)
  obtain ⟨p1, c1, rfl, hr1, _⟩ := rdl_of_owns hown1
  have HM1 := Lib.hid hr1
  clear hown1 hb1 hr1
  go_wp2_with fail
  have ho := open_any p1 c1 (sealL xs) _ HM1.out (by omega)
  unfold RetOpen at ho
  rw [openL_seal, show openNo (sealL xs) = 0 by rw [openNo, openOk_seal]; rfl] at ho
  refine ho.mono ?_
  clear ho
  rintro e w2 ⟨p2, c2, rfl, hr2, hb2⟩
  have HA2 := Lib.hid (HA1.out.below hb2)
  have HM2 := Lib.hid (HM1.out.on hb2)
  have HR2 := Lib.hid hr2
  clear hb2 hr2 HM1
  go_wp2_with fail
  refine (num_any _ _).mono ?_
  rintro e w5 ⟨rfl, rfl⟩
  go_wp2_with fail
  refine (same_any p2 p c2 cap _ _ _ HR2.out (HA2.out.rdl HR.out)).mono ?_
  rintro e w4 ⟨rfl, n4, rfl⟩
  have hs1 := sameB_self xs
  have HA4 := Lib.hid (HA2.out.drewN n4)
  go_wp2_with (
    at_builtin
    refine wpList_append0 rfl (.tmp 51) (.tmp 52) _ rfl elem_u64 vw w.heap.size (sealL xs) _ rfl _ _ _ rfl (own_empty (w2.drewN n4) _ _ _ HA4.out.2) (RdL.on (w := w2.drewN n4) HM2.out ((Below.refl _ (w2.drewN n4)).alloc (Nat.le_refl _) _)) (fun _ => rfl) ?_ ?_ ?_ ?_
    · omega
    · omega
    · have := HA4.out.2; simp; simp at this; omega
    intro v w5 hown hg _
    have HA5 := Lib.hid ((HA4.out.alloc _).grown hg (by intro b hb; cases hb; exact HA4.out.2))
    obtain ⟨g, c5, rfl, hg0, hc5, hc6⟩ := own_pos hown (by rw [HSL.out]; omega)
    have HO5 := Lib.hid hown
    have hk1 : (0 : Int) ≤ (k : Int) := by omega
    have hk2 : (k : Int) < ((sealL xs).length : Int) := by have := HK.out; omega
    obtain ⟨z, hz⟩ : ∃ z, (sealL xs)[k]'HK.out = z := ⟨_, rfl⟩
    have hcell := own_at hown k HK.out
    rw [hz] at hcell
    have HZ := Lib.hid hz
    have hfree := hown.frozenAt k
    have hxor := bits_xor_w z y
    clear hz
    clear hg hown)
  have HO6 := Lib.hid (own_set HO5.out k (xorw z y))
  have HA6 := Lib.hid (HA5.out.setCell ⟨g, k, none⟩ hg0 (vw (xorw z y)))
  generalize w5.setCell ⟨g, k, none⟩ (vw (xorw z y)) = w6 at *
  have hl6 : ((sealL xs).set k (xorw z y)).length = (sealL xs).length := by simp
  have HL6 := Lib.hid hl6
  have ho : openOk ((sealL xs).set k (xorw z y)) = decide (z = xorw z y) := by rw [openOk_turned xs k HK.out, HZ.out]
  have HOk := Lib.hid ho
  have hmx6 : ((sealL xs).set k (xorw z y)).length ≤ 101 := by omega
  have hO6 := HO6.out
  rw [← hl6] at hO6
  obtain ⟨p6, c6, hp6, hr6, _⟩ := rdl_of_owns hO6
  have HR6 := Lib.hid hr6
  simp only [Value.slice.injEq] at hp6
  obtain ⟨rfl, _, rfl⟩ := hp6
  rw [← hl6]
  clear hl6 ho hO6 hr6 hcell hfree hxor
  refine (open_any _ c5 _ _ HR6.out (by omega)).mono ?_
  rintro e w7 ⟨p7, c7, rfl, _, hb7⟩
  have HA7 := Lib.hid (HA6.out.below hb7)
  by_cases hy : y = 0#64
  · have hn : openNo ((sealL xs).set k (xorw z y)) = 0 := by
      rw [openNo, HOk.out, decide_eq_true ((xorw_self z y).2 hy)]; rfl
    rw [hn]
    have hy' : ((y.toNat : Int) != 0) = false := by rw [hy]; rfl
    clear hn hy hb7
    go_wp2_with fail
    refine (num_any _ _).mono ?_
    rintro e w8 ⟨rfl, rfl⟩
    go_wp2_with fail
    refine (works_any _).mono ?_
    rintro e w9 ⟨rfl, hb9⟩
    have HA9 := Lib.hid (HA7.out.below hb9)
    go_wp2_with fail
    go_ret
    exact ⟨rfl, HA9.out.1⟩
  · have hn : openNo ((sealL xs).set k (xorw z y)) = 130 := by
      rw [openNo, HOk.out, decide_eq_false (fun h => hy ((xorw_self z y).1 h))]; rfl
    rw [hn]
    have hy' : ((y.toNat : Int) != 0) = true := by
      simp only [bne_iff_ne, ne_eq]
      intro h
      exact hy (BitVec.eq_of_toNat_eq (by simpa using h))
    clear hn hy hb7
    go_wp2_with fail
    refine (num_any _ _).mono ?_
    rintro e w8 ⟨rfl, rfl⟩
    go_wp2_with fail
    refine (works_any _).mono ?_
    rintro e w9 ⟨rfl, hb9⟩
    have HA9 := Lib.hid (HA7.out.below hb9)
    go_wp2_with fail
    go_ret
    exact ⟨rfl, HA9.out.1⟩

end Go.Proofs.Ytifmhgfijjjfeaa
