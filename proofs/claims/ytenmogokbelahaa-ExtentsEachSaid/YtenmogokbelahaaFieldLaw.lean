/- Plain facts on the fields of a word. -/
import Derived.Test.YtenmogokbelahaaMem
namespace Go.Proofs.Ytenmogokbelahaa
open Go Go.RowKit

def maskW (a d : Nat) : BitVec 64 := BitVec.ofNat 64 ((2 ^ d - 1) * 2 ^ a)
def fieldW (w : BitVec 64) (a d : Nat) : BitVec 64 := (w &&& maskW a d) >>> a
def withW (w : BitVec 64) (a d : Nat) (v : BitVec 64) : BitVec 64 := (w &&& ~~~(w &&& maskW a d)) ||| (v <<< a)
/-- A field is there; it holds a value. -/
def rightB (a d : Int) : Bool := decide (0 ≤ a ∧ a ≤ 63 ∧ 1 ≤ d ∧ d ≤ 64 - a)
def holdsB (d : Int) (v : BitVec 64) : Bool := decide (d = 64 ∨ v.toNat < 2 ^ d.toNat)

theorem mask_nat (a d : Nat) (h : a + d ≤ 64) : (maskW a d).toNat = (2 ^ d - 1) * 2 ^ a := by
  unfold maskW
  rw [BitVec.toNat_ofNat]
  refine Nat.mod_eq_of_lt ?_
  have h1 : 0 < 2 ^ d := Nat.pow_pos (by omega)
  have h2 : 0 < 2 ^ a := Nat.pow_pos (by omega)
  have h3 : (2 ^ d - 1) * 2 ^ a < 2 ^ d * 2 ^ a := Nat.mul_lt_mul_of_pos_right (by omega) h2
  rw [← Nat.pow_add] at h3
  exact Nat.lt_of_lt_of_le h3 (Nat.pow_le_pow_right (by omega) (by omega))
theorem mask_bit (a d i : Nat) (h : a + d ≤ 64) : (maskW a d).getLsbD i = decide (a ≤ i ∧ i < a + d) := by
  rw [BitVec.getLsbD, mask_nat a d h, ← Nat.shiftLeft_eq, Nat.testBit_shiftLeft, Nat.testBit_two_pow_sub_one]
  by_cases h1 : a ≤ i
  · simp [h1]; omega
  · simp [h1]
theorem field_bit (w : BitVec 64) (a d i : Nat) (h : a + d ≤ 64) : (fieldW w a d).getLsbD i = (decide (i < d) && w.getLsbD (a + i)) := by
  unfold fieldW
  rw [BitVec.getLsbD_ushiftRight, BitVec.getLsbD_and, mask_bit a d _ h, Bool.and_comm]
  congr 1
  simp
theorem with_bit (w : BitVec 64) (a d i : Nat) (v : BitVec 64) (h : a + d ≤ 64) (hi : i < 64) (hv : v.toNat < 2 ^ d) : (withW w a d v).getLsbD i = if a ≤ i ∧ i < a + d then v.getLsbD (i - a) else w.getLsbD i := by
  unfold withW
  rw [BitVec.getLsbD_or, BitVec.getLsbD_and, BitVec.getLsbD_not, BitVec.getLsbD_and, mask_bit a d _ h, BitVec.getLsbD_shiftLeft]
  by_cases h1 : a ≤ i ∧ i < a + d
  · have h2 : ¬ i < a := by omega
    simp [h1, hi, h2]
  · have h3 : v.getLsbD (i - a) = false ∨ i < a := by
      by_cases h4 : i < a
      · exact .inr h4
      · refine .inl ?_
        rw [BitVec.getLsbD]
        exact Nat.testBit_lt_two_pow (Nat.lt_of_lt_of_le hv (Nat.pow_le_pow_right (by omega) (by omega)))
    rcases h3 with h3 | h3
    · simp [h1, hi, h3]
    · simp [h1, hi, h3]
theorem field_nat (w : BitVec 64) (a d : Nat) (h : a + d ≤ 64) : (fieldW w a d).toNat = w.toNat / 2 ^ a % 2 ^ d := by
  apply Nat.eq_of_testBit_eq
  intro i
  have := field_bit w a d i h
  rw [BitVec.getLsbD, BitVec.getLsbD] at this
  rw [this, Nat.testBit_mod_two_pow, Nat.testBit_div_two_pow, Nat.add_comm a i]
theorem field_lt (w : BitVec 64) (a d : Nat) (h : a + d ≤ 64) : (fieldW w a d).toNat < 2 ^ d := by
  rw [field_nat w a d h]; exact Nat.mod_lt _ (Nat.pow_pos (by omega))
theorem and_mask (w : BitVec 64) (a d : Nat) (h : a + d ≤ 64) : w &&& maskW a d = fieldW w a d <<< a := by
  apply BitVec.eq_of_getLsbD_eq
  intro i hi
  rw [BitVec.getLsbD_and, mask_bit a d _ h, BitVec.getLsbD_shiftLeft, field_bit w a d _ h]
  by_cases h1 : i < a
  · simp [h1, hi]; omega
  · have e : a + (i - a) = i := by omega
    rw [e]
    by_cases h2 : i < a + d
    · have h3 : a ≤ i := by omega
      have h4 : i - a < d := by omega
      simp [h1, h2, h3, h4, hi]
    · have h4 : ¬ i - a < d := by omega
      simp [h2, h4]
/-- The reference's word: what was in the field is taken off, the value put on. -/
theorem with_ref (w : BitVec 64) (a d : Nat) (v : BitVec 64) (h : a + d ≤ 64) (hv : v.toNat < 2 ^ d) : w - (fieldW w a d <<< a) + (v <<< a) = withW w a d v := by
  have h1 : w &&& ~~~(w &&& maskW a d) &&& (w &&& maskW a d) = 0#64 := by
    apply BitVec.eq_of_getLsbD_eq
    intro i hi
    simp only [BitVec.getLsbD_and, BitVec.getLsbD_not]
    cases w.getLsbD i <;> cases (maskW a d).getLsbD i <;> simp
  have h2 : w = (w &&& ~~~(w &&& maskW a d)) ||| (w &&& maskW a d) := by
    apply BitVec.eq_of_getLsbD_eq
    intro i hi
    simp only [BitVec.getLsbD_and, BitVec.getLsbD_not, BitVec.getLsbD_or]
    cases w.getLsbD i <;> cases (maskW a d).getLsbD i <;> simp [hi]
  have h3 : w = (w &&& ~~~(w &&& maskW a d)) + (w &&& maskW a d) := by
    rw [BitVec.add_eq_or_of_and_eq_zero _ _ h1]; exact h2
  have h4 : w - (fieldW w a d <<< a) = w &&& ~~~(w &&& maskW a d) := by
    rw [← and_mask w a d h]
    have h5 : w - (w &&& maskW a d) = (w &&& ~~~(w &&& maskW a d)) + (w &&& maskW a d) - (w &&& maskW a d) := congrArg (· - (w &&& maskW a d)) h3
    rw [h5, BitVec.add_sub_cancel]
  rw [h4]
  unfold withW
  refine BitVec.add_eq_or_of_and_eq_zero _ _ ?_
  apply BitVec.eq_of_getLsbD_eq
  intro i hi
  simp only [BitVec.getLsbD_and, BitVec.getLsbD_not, BitVec.getLsbD_shiftLeft, mask_bit a d i h]
  by_cases h6 : i < a
  · simp [h6]
  · by_cases h7 : i < a + d
    · have : a ≤ i := by omega
      simp [this, h7, hi]
    · have : v.getLsbD (i - a) = false := by
        rw [BitVec.getLsbD]
        exact Nat.testBit_lt_two_pow (Nat.lt_of_lt_of_le hv (Nat.pow_le_pow_right (by omega) (by omega)))
      simp [this]
theorem field_with (w : BitVec 64) (a d : Nat) (v : BitVec 64) (h : a + d ≤ 64) (hv : v.toNat < 2 ^ d) : fieldW (withW w a d v) a d = v := by
  apply BitVec.eq_of_getLsbD_eq
  intro i hi
  rw [field_bit _ a d i h]
  by_cases h1 : i < d
  · rw [with_bit w a d _ v h (by omega) hv, if_pos ⟨by omega, by omega⟩]
    have e : a + i - a = i := by omega
    simp [h1, e]
  · have : v.getLsbD i = false := by
      rw [BitVec.getLsbD]
      exact Nat.testBit_lt_two_pow (Nat.lt_of_lt_of_le hv (Nat.pow_le_pow_right (by omega) (by omega)))
    simp [h1, this]
theorem field_other (w : BitVec 64) (a d b e : Nat) (v : BitVec 64) (h : a + d ≤ 64) (h2 : b + e ≤ 64) (hv : v.toNat < 2 ^ d) (hd : a + d ≤ b ∨ b + e ≤ a) : fieldW (withW w a d v) b e = fieldW w b e := by
  apply BitVec.eq_of_getLsbD_eq
  intro i hi
  rw [field_bit _ b e i h2, field_bit _ b e i h2]
  by_cases h1 : i < e
  · rw [with_bit w a d _ v h (by omega) hv, if_neg (by omega)]
  · simp [h1]
theorem with_back (w : BitVec 64) (a d : Nat) (v : BitVec 64) (h : a + d ≤ 64) (hv : v.toNat < 2 ^ d) : withW (withW w a d v) a d (fieldW w a d) = w := by
  apply BitVec.eq_of_getLsbD_eq
  intro i hi
  rw [with_bit _ a d i _ h hi (field_lt w a d h)]
  by_cases h1 : a ≤ i ∧ i < a + d
  · rw [if_pos h1, field_bit w a d _ h]
    have e : a + (i - a) = i := by omega
    have h2 : i - a < d := by omega
    simp [e, h2]
  · rw [if_neg h1, with_bit w a d i v h hi hv, if_neg h1]

theorem wrap64_nat (n : Nat) (h : n < 2 ^ 64) : IntKind.u64.wrap (n : Int) = (n : Int) := by
  rw [IntKind.wrap_u64]; omega
theorem mask_eq (a d : Nat) (h : d < 64) (h2 : a + d ≤ 64) : IntKind.u64.wrap (IntKind.u64.wrap (IntKind.u64.wrap (2 ^ d) - 1) * 2 ^ a) = ((maskW a d).toNat : Int) := by
  have hp : 0 < 2 ^ d := Nat.pow_pos (by omega)
  have e1 : IntKind.u64.wrap (2 ^ d) = ((2 ^ d : Nat) : Int) := by
    have := wrap64_nat (2 ^ d) (Nat.pow_lt_pow_right (by omega) h)
    simpa using this
  have e2 : ((2 ^ d : Nat) : Int) - 1 = ((2 ^ d - 1 : Nat) : Int) := by omega
  rw [e1, e2, wrap64_nat (2 ^ d - 1) (by have := Nat.pow_lt_pow_right (a := 2) (by omega) h; omega)]
  have e3 : ((2 ^ d - 1 : Nat) : Int) * 2 ^ a = (((2 ^ d - 1) * 2 ^ a : Nat) : Int) := by rw [Int.natCast_mul]; simp
  rw [e3, ← mask_nat a d h2, wrap64_nat _ (maskW a d).isLt]
theorem mask_full : maskW 0 64 = BitVec.allOnes 64 := by decide

end Go.Proofs.Ytenmogokbelahaa
