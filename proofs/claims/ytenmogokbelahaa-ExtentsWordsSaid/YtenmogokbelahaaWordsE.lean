/- The walks of the reference's fields. -/
import Derived.Test.YtenmogokbelahaaWordsC
namespace Go.Proofs.Ytenmogokbelahaa
open Go Go.RowKit

/-- A power of two, behind a name. -/
def pw (k : Nat) : Int := ((2 ^ k : Nat) : Int)
theorem pw_succ (k : Nat) (h : k < 63) : IntKind.u64.wrap (2 * pw k) = pw (k + 1) := by
  unfold pw
  have e : 2 * ((2 ^ k : Nat) : Int) = ((2 ^ (k + 1) : Nat) : Int) := by rw [Nat.pow_succ]; omega
  rw [e]
  exact wrap64_nat _ (Nat.pow_lt_pow_right (by omega) (by omega))
theorem pw_pos (k : Nat) : 0 < pw k := by unfold pw; have : 0 < 2 ^ k := Nat.pow_pos (by omega); omega

set_option maxRecDepth 100000 in
set_option maxHeartbeats 1000000 in
theorem power_any (n : Nat) (hn : n ≤ 63) (w : World) :
    Calls Try.prog 86 #[.int .i64 n] w fun e w' => e = .returned (.int .u64 (pw n)) ∧ w = w' := by
  go_enter Try.func86, Try.ntmps86
  go_wp2
  go_loop [3, 4] (fun v i => ∃ k : Nat, k ≤ n ∧ i = .int .i64 k ∧ v = .int .u64 (pw k)) (fun _ i => n - (intOf i).toNat)
  case atStart => exact ⟨0, Nat.zero_le _, rfl, rfl⟩
  case round =>
    obtain ⟨k, hk, rfl, rfl⟩ := hrel
    by_cases hlt : k < n
    · have h1 := pw_succ k (by omega)
      go_wp2
      go_round
      case rel => exact ⟨k + 1, by omega, by go_num, rfl⟩
      case measure => simp [intOf]; omega
    · obtain rfl : k = n := by omega
      go_wp2
      go_ret
      exact ⟨rfl, rfl⟩

theorem quo_wrap (x : BitVec 64) (a : Nat) : IntKind.u64.wrap ((x.toNat : Int) / pw a) = ((x.toNat / 2 ^ a : Nat) : Int) := by
  have e : (x.toNat : Int) / pw a = ((x.toNat / 2 ^ a : Nat) : Int) := by unfold pw; simp
  rw [e]
  exact wrap64_nat _ (Nat.lt_of_le_of_lt (Nat.div_le_self _ _) x.isLt)
theorem field_quo (x : BitVec 64) (a d : Nat) (h : a + d ≤ 64) : vw (fieldW x a d) = .int .u64 ((IntKind.u64.wrap ((x.toNat : Int) / pw a)).tmod (pw d)) := by
  rw [quo_wrap, vw, field_nat x a d h, Int.tmod_eq_emod_of_nonneg (Int.natCast_nonneg _)]
  unfold pw
  simp
theorem field_full (x : BitVec 64) : vw (fieldW x 0 64) = .int .u64 (IntKind.u64.wrap ((x.toNat : Int) / pw 0)) := by
  rw [quo_wrap, vw, field_nat x 0 64 (by omega)]
  have := x.isLt
  congr 2
  omega

set_option maxHeartbeats 1000000 in
theorem refField_any (x : BitVec 64) (a d : Nat) (w : World) (h1 : 1 ≤ d) (h2 : a + d ≤ 64) :
    Calls Try.prog 88 #[vw x, .int .i64 a, .int .i64 d] w fun e w' => e = .returned (vw (fieldW x a d)) ∧ w = w' := by
  by_cases h64 : d = 64
  · obtain rfl : a = 0 := by omega
    subst h64
    have HE := Lib.hid (field_full x)
    have hp0 : (pw 0 == 0) = false := by have := pw_pos 0; simp; omega
    have hp1 : pw 0 ≠ 0 := by have := pw_pos 0; omega
    go_enter Try.func88, Try.ntmps88
    go_wp2_with fail
    refine (power_any 0 (by omega) _).mono ?_
    rintro e w1 ⟨rfl, rfl⟩
    go_wp2_with fail
    go_ret
    exact ⟨by rw [HE.out]; rfl, rfl⟩
  · have HE := Lib.hid (field_quo x a d h2)
    have hp0 : (pw a == 0) = false := by have := pw_pos a; simp; omega
    have hp1 : pw a ≠ 0 := by have := pw_pos a; omega
    have hp2 : (pw d == 0) = false := by have := pw_pos d; simp; omega
    have hp3 : pw d ≠ 0 := by have := pw_pos d; omega
    have hd : (((d : Int)) == 64) = false := by simp; omega
    go_enter Try.func88, Try.ntmps88
    go_wp2_with fail
    refine (power_any a (by omega) _).mono ?_
    rintro e w1 ⟨rfl, rfl⟩
    go_wp2_with fail
    refine (power_any d (by omega) _).mono ?_
    rintro e w1 ⟨rfl, rfl⟩
    go_wp2_with fail
    go_ret
    exact ⟨by rw [HE.out]; rfl, rfl⟩

/-- Whether a field of a width holds a value, behind a name. -/
def holdsV (d : Nat) (v : BitVec 64) : Bool := decide (d = 64 ∨ v.toNat < 2 ^ d)
theorem shl_pw (x : BitVec 64) (a : Nat) : IntKind.u64.wrap ((x.toNat : Int) * pw a) = ((shlw x a).toNat : Int) := by
  have := shl_w x a
  unfold pw
  simpa using this
theorem holds_lt (d : Nat) (v : BitVec 64) (h : holdsV d v = true) : v.toNat < 2 ^ d := by
  simp [holdsV] at h
  rcases h with rfl | h
  · exact v.isLt
  · exact h
theorem holds_ge (d : Nat) (v : BitVec 64) (h : holdsV d v = false) : 2 ^ d ≤ v.toNat := by
  simp [holdsV] at h
  exact h.2

end Go.Proofs.Ytenmogokbelahaa
