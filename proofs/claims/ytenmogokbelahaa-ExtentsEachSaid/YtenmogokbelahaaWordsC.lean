/- The walks of the fields of a word. -/
import Derived.Test.YtenmogokbelahaaFieldLaw
import Derived.Test.YtenmogokbelahaaRows
import Derived.Deep.QuietTactic
import Derived.BigQuiet
namespace Go.Proofs.Ytenmogokbelahaa
open Go Go.RowKit

set_option maxHeartbeats 400000 in
theorem inU_any (a b c : Int) (w : World) :
    Calls Try.prog 116 #[.int .u64 a, .int .u64 b, .int .u64 c] w fun e w' => e = .returned (.bool (decide (b ≤ a ∧ a ≤ c))) ∧ w = w' := by
  by_cases h1 : b ≤ a
  · go_enter Try.func116, Try.ntmps116
    go_wp2
    go_ret
    exact ⟨by simp [h1], rfl⟩
  · go_enter Try.func116, Try.ntmps116
    go_wp2
    go_ret
    exact ⟨by simp; omega, rfl⟩
set_option maxHeartbeats 400000 in
theorem inI_any (a b c : Int) (w : World) :
    Calls Try.prog 117 #[.int .i64 a, .int .i64 b, .int .i64 c] w fun e w' => e = .returned (.bool (decide (b ≤ a ∧ a ≤ c))) ∧ w = w' := by
  by_cases h1 : b ≤ a
  · go_enter Try.func117, Try.ntmps117
    go_wp2
    go_ret
    exact ⟨by simp [h1], rfl⟩
  · go_enter Try.func117, Try.ntmps117
    go_wp2
    go_ret
    exact ⟨by simp; omega, rfl⟩

/-- Whether a field is there, behind a name. -/
def rightV (a d : Int) : Bool := rightB a d

set_option maxHeartbeats 400000 in
theorem there_any (a d : Int) (w : World) :
    Calls Try.prog 104 #[.int .i64 a, .int .i64 d] w fun e w' => e = .returned (.bool (rightV a d)) ∧ w = w' := by
  by_cases h1 : 0 ≤ a ∧ a ≤ 63
  · obtain ⟨h2, h3⟩ := h1
    have hdt : decide (0 ≤ a ∧ a ≤ 63) = true := by simp [h2, h3]
    have HE := Lib.hid (show rightV a d = decide (1 ≤ d ∧ d ≤ 64 - a) by unfold rightV rightB; simp [h2, h3])
    go_enter Try.func104, Try.ntmps104
    go_wp2_with fail
    refine (inI_any _ _ _ _).mono ?_
    rintro e w1 ⟨rfl, rfl⟩
    go_wp2_with fail
    refine (inI_any _ _ _ _).mono ?_
    rintro e w2 ⟨rfl, rfl⟩
    go_wp2_with fail
    go_ret
    exact ⟨by rw [HE.out]; simp, rfl⟩
  · have hdt : decide (0 ≤ a ∧ a ≤ 63) = false := by simpa using h1
    have HE := Lib.hid (show rightV a d = false by unfold rightV rightB; simp; omega)
    clear h1
    go_enter Try.func104, Try.ntmps104
    go_wp2_with fail
    refine (inI_any _ _ _ _).mono ?_
    rintro e w1 ⟨rfl, rfl⟩
    go_wp2_with fail
    go_ret
    exact ⟨by rw [HE.out]; simp, rfl⟩

set_option maxHeartbeats 400000 in
theorem masked_any (a d : Nat) (w : World) (h1 : 1 ≤ d) (h2 : a + d ≤ 64) :
    Calls Try.prog 105 #[.int .i64 a, .int .i64 d] w fun e w' => e = .returned (vw (maskW a d)) ∧ w = w' := by
  by_cases h64 : d = 64
  · obtain rfl : a = 0 := by omega
    subst h64
    have HE := Lib.hid (show vw (maskW 0 64) = .int .u64 18446744073709551615 by rw [mask_full]; rfl)
    go_enter Try.func105, Try.ntmps105
    go_wp2
    go_ret
    exact ⟨by rw [HE.out]; rfl, rfl⟩
  · have hd : (((d : Int)) == 64) = false := by simp; omega
    have HE := Lib.hid (mask_eq a d (by omega) h2)
    have hb1 : (0 : Int) ≤ (d : Int) := by omega
    have hb2 : (d : Int) < 64 := by omega
    have hb3 : (0 : Int) ≤ (a : Int) := by omega
    have hb4 : (a : Int) < 64 := by omega
    go_enter Try.func105, Try.ntmps105
    go_wp2
    go_ret
    refine ⟨?_, rfl⟩
    have := HE.out
    simp [vw] at this ⊢
    exact this

set_option maxHeartbeats 400000 in
theorem of_any (m x : BitVec 64) (w : World) :
    Calls Try.prog 106 #[vw m, vw x] w fun e w' => e = .returned (vw (andw x m)) ∧ w = w' := by
  have h := bits_and_w x m
  go_enter Try.func106, Try.ntmps106
  go_wp2
  go_ret
  exact ⟨rfl, rfl⟩

theorem fieldW_shr (x : BitVec 64) (a d : Nat) : ((andw x (maskW a d)).toNat : Int) / 2 ^ a = ((fieldW x a d).toNat : Int) := by
  unfold andw fieldW
  rw [BitVec.toNat_ushiftRight, Nat.shiftRight_eq_div_pow]
  simp

set_option maxHeartbeats 400000 in
theorem fieldOut_any (x : BitVec 64) (a d : Int) (w : World) (h : rightV a d = false) :
    Calls Try.prog 87 #[vw x, .int .i64 a, .int .i64 d] w fun e w' => e = .returned (.tuple #[.int .u64 0, .int .i64 2]) ∧ w = w' := by
  go_enter Try.func87, Try.ntmps87
  go_wp2_with fail
  refine (there_any _ _ _).mono ?_
  rintro e w1 ⟨rfl, rfl⟩
  go_wp2_with fail
  go_ret2
  exact ⟨rfl, rfl⟩
set_option maxHeartbeats 400000 in
theorem fieldIn_any (x : BitVec 64) (a d : Nat) (w : World) (h1 : 1 ≤ d) (h2 : a + d ≤ 64) :
    Calls Try.prog 87 #[vw x, .int .i64 a, .int .i64 d] w fun e w' => e = .returned (.tuple #[vw (fieldW x a d), .int .i64 0]) ∧ w = w' := by
  have hr : rightV (a : Int) (d : Int) = true := by unfold rightV rightB; simp; omega
  have hb3 : (0 : Int) ≤ (a : Int) := by omega
  have hb4 : (a : Int) < 64 := by omega
  have hs := fieldW_shr x a d
  go_enter Try.func87, Try.ntmps87
  go_wp2_with fail
  refine (there_any _ _ _).mono ?_
  rintro e w1 ⟨rfl, rfl⟩
  go_wp2_with fail
  refine (masked_any a d _ h1 h2).mono ?_
  rintro e w2 ⟨rfl, rfl⟩
  go_wp2_with fail
  refine (of_any _ _ _).mono ?_
  rintro e w2 ⟨rfl, rfl⟩
  go_wp2_with fail
  go_ret2
  exact ⟨rfl, rfl⟩

theorem withW_or (x v : BitVec 64) (a d : Nat) : withW x a d v = orw (x &&& ~~~(andw x (maskW a d))) (shlw v a) := rfl
theorem andNot_w (x y : BitVec 64) : bits .andNot .u64 (x.toNat : Int) (y.toNat : Int) = ((x &&& ~~~y).toNat : Int) := by
  rw [u64_andNot_nat _ _ x.isLt y.isLt, BitVec.toNat_and, BitVec.toNat_not]

set_option maxHeartbeats 400000 in
theorem withOut_any (x v : BitVec 64) (a d : Int) (w : World) (h : rightV a d = false) :
    Calls Try.prog 103 #[vw x, .int .i64 a, .int .i64 d, vw v] w fun e w' => e = .returned (.tuple #[.int .u64 0, .int .i64 2]) ∧ w = w' := by
  go_enter Try.func103, Try.ntmps103
  go_wp2_with fail
  refine (there_any _ _ _).mono ?_
  rintro e w1 ⟨rfl, rfl⟩
  go_wp2_with fail
  go_ret2
  exact ⟨rfl, rfl⟩
theorem maskW0 (d : Nat) (h : d ≤ 64) : (maskW 0 d).toNat = 2 ^ d - 1 := by rw [mask_nat 0 d (by omega)]; simp

set_option maxHeartbeats 400000 in
theorem withBig_any (x v : BitVec 64) (a d : Nat) (w : World) (h1 : 1 ≤ d) (h2 : a + d ≤ 64) (hv : 2 ^ d ≤ v.toNat) :
    Calls Try.prog 103 #[vw x, .int .i64 a, .int .i64 d, vw v] w fun e w' => e = .returned (.tuple #[.int .u64 0, .int .i64 4]) ∧ w = w' := by
  have hr : rightV (a : Int) (d : Int) = true := by unfold rightV rightB; simp; omega
  have hm := masked_any 0 d w h1 (by omega)
  have HM := Lib.hid hm
  have hin : decide ((0 : Int) ≤ (v.toNat : Int) ∧ (v.toNat : Int) ≤ ((maskW 0 d).toNat : Int)) = false := by
    have := maskW0 d (by omega)
    have hp : 0 < 2 ^ d := Nat.pow_pos (by omega)
    simp; omega
  have hc := inU_any (v.toNat : Int) 0 ((maskW 0 d).toNat : Int) w
  rw [hin] at hc
  have HC := Lib.hid hc
  clear hm hin hv hc
  go_enter Try.func103, Try.ntmps103
  go_wp2_with fail
  refine (there_any _ _ _).mono ?_
  rintro e w1 ⟨rfl, rfl⟩
  go_wp2_with fail
  refine HM.out.mono ?_
  rintro e w1 ⟨rfl, rfl⟩
  go_wp2_with fail
  refine HC.out.mono ?_
  rintro e w1 ⟨rfl, rfl⟩
  go_wp2_with fail
  go_ret2
  exact ⟨rfl, rfl⟩

set_option maxRecDepth 100000 in
set_option maxHeartbeats 1000000 in
theorem withIn_any (x v : BitVec 64) (a d : Nat) (w : World) (h1 : 1 ≤ d) (h2 : a + d ≤ 64) (hv : v.toNat < 2 ^ d) :
    Calls Try.prog 103 #[vw x, .int .i64 a, .int .i64 d, vw v] w fun e w' => e = .returned (.tuple #[vw (withW x a d v), .int .i64 0]) ∧ ∃ n, w.drewN n = w' := by
  have hr : rightV (a : Int) (d : Int) = true := by unfold rightV rightB; simp; omega
  have hm := masked_any 0 d w h1 (by omega)
  have HM := Lib.hid hm
  have hin : decide ((0 : Int) ≤ (v.toNat : Int) ∧ (v.toNat : Int) ≤ ((maskW 0 d).toNat : Int)) = true := by
    have := maskW0 d (by omega)
    simp; omega
  have hc := inU_any (v.toNat : Int) 0 ((maskW 0 d).toNat : Int) w
  rw [hin] at hc
  have HC := Lib.hid hc
  have hb3 : (0 : Int) ≤ (a : Int) := by omega
  have hb4 : (a : Int) < 64 := by omega
  have hs1 := shl_w v a
  have hs2 := andNot_w x (andw x (maskW a d))
  obtain ⟨y, hy⟩ : ∃ y, x &&& ~~~(andw x (maskW a d)) = y := ⟨_, rfl⟩
  rw [hy] at hs2
  have hs3 := bits_or_w y (shlw v a)
  have HE := Lib.hid (show withW x a d v = orw y (shlw v a) by rw [withW_or, hy])
  clear hm hin hv hc hy
  go_enter Try.func103, Try.ntmps103
  go_wp2_with fail
  refine (there_any _ _ _).mono ?_
  rintro e w1 ⟨rfl, rfl⟩
  go_wp2_with fail
  refine HM.out.mono ?_
  rintro e w1 ⟨rfl, rfl⟩
  go_wp2_with fail
  refine HC.out.mono ?_
  rintro e w1 ⟨rfl, rfl⟩
  go_wp2_with fail
  refine (masked_any a d _ h1 h2).mono ?_
  rintro e w2 ⟨rfl, rfl⟩
  go_wp2_with fail
  go_quiet ((go_at_call 106; exact Calls.quiet_of_same ((of_any _ _ _).mono fun _ _ ⟨h1, h2⟩ => ⟨h1, h2.symm⟩)))
  go_wp2_with fail
  go_ret2
  exact ⟨by rw [HE.out]; rfl, _, rfl⟩

end Go.Proofs.Ytenmogokbelahaa
