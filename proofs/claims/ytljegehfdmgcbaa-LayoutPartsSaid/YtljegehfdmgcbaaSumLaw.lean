/- Plain facts on the sum of words: another word, another sum. -/
import Derived.Test.YtljegehfdmgcbaaSumD
namespace Go.Proofs.Ytljegehfdmgcbaa
open Go Go.RowKit

theorem odd_bit (x : BitVec 64) : odd x = x.getLsbD 0 := by
  unfold odd
  rw [BitVec.getLsbD, Nat.testBit_zero, Bool.eq_iff_iff]
  simp
  omega
theorem xor_cancel (a b c : BitVec 64) (h : a ^^^ c = b ^^^ c) : a = b := by
  have := congrArg (· ^^^ c) h
  simpa [BitVec.xor_assoc] using this
theorem shr_odd_inj (x y : BitVec 64) (h : x >>> 1 = y >>> 1) (ho : odd x = odd y) : x = y := by
  apply BitVec.eq_of_toNat_eq
  have h1 := congrArg BitVec.toNat h
  simp only [BitVec.toNat_ushiftRight, Nat.shiftRight_eq_div_pow] at h1
  unfold odd at ho
  rw [Bool.eq_iff_iff] at ho
  simp at ho
  omega
theorem top_shr (x : BitVec 64) : (x >>> 1).getLsbD 63 = false := by simp
theorem top_poly : poly.getLsbD 63 = true := by decide
theorem stepw_inj (x y : BitVec 64) (h : stepw x = stepw y) : x = y := by
  unfold stepw xorw shrw at h
  by_cases hx : odd x = true <;> by_cases hy : odd y = true
  · rw [if_pos hx, if_pos hy] at h
    exact shr_odd_inj x y (xor_cancel _ _ _ h) (by rw [hx, hy])
  · rw [if_pos hx, if_neg hy] at h
    have := congrArg (·.getLsbD 63) h
    simp only [BitVec.getLsbD_xor, top_shr, top_poly] at this
    cases this
  · rw [if_neg hx, if_pos hy] at h
    have := congrArg (·.getLsbD 63) h
    simp only [BitVec.getLsbD_xor, top_shr, top_poly] at this
    cases this
  · rw [if_neg hx, if_neg hy] at h
    exact shr_odd_inj x y h (by simp at hx hy; rw [hx, hy])
theorem steps_inj : ∀ (n : Nat) (x y : BitVec 64), steps n x = steps n y → x = y
  | 0, _, _, h => h
  | n + 1, x, y, h => steps_inj n x y (stepw_inj _ _ h)
theorem steps_add (m n : Nat) (x : BitVec 64) : steps n (steps m x) = steps (m + n) x := by
  induction n with
  | zero => rfl
  | succ n ih => rw [← Nat.add_assoc]; simp only [steps]; rw [ih]

theorem stepw_lin (x y : BitVec 64) (hy : y.toNat < 2 ^ 63) : stepw (x ^^^ (y <<< 1)) = stepw x ^^^ y := by
  have ho : odd (x ^^^ (y <<< 1)) = odd x := by
    rw [odd_bit, odd_bit]; simp
  have hs : (x ^^^ (y <<< 1)) >>> 1 = x >>> 1 ^^^ y := by
    apply BitVec.eq_of_getLsbD_eq
    intro i hi
    simp only [BitVec.getLsbD_ushiftRight, BitVec.getLsbD_xor, BitVec.getLsbD_shiftLeft]
    by_cases h : 1 + i < 64
    · have e : 1 + i - 1 = i := by omega
      simp [h, e]
    · have e : i = 63 := by omega
      subst e
      have : y.getLsbD 63 = false := by
        rw [BitVec.getLsbD]; exact Nat.testBit_lt_two_pow hy
      simpa using this
  unfold stepw xorw shrw
  rw [ho, hs]
  split
  · rw [BitVec.xor_assoc, BitVec.xor_assoc, BitVec.xor_comm y poly]
  · rfl
theorem steps_lin : ∀ (n : Nat) (x y : BitVec 64), n ≤ 64 → y.toNat < 2 ^ (64 - n) → steps n (x ^^^ (y <<< n)) = steps n x ^^^ y
  | 0, x, y, _, _ => by simp [steps]
  | n + 1, x, y, hn, hy => by
    have hp : 2 ^ (64 - (n + 1)) * 2 = 2 ^ (64 - n) := by rw [← Nat.pow_succ]; congr 1; omega
    have hy1 : y.toNat < 2 ^ 63 := Nat.lt_of_lt_of_le hy (Nat.pow_le_pow_right (by omega) (by omega))
    have h2 : (y <<< 1).toNat < 2 ^ (64 - n) := by
      rw [BitVec.toNat_shiftLeft, Nat.shiftLeft_eq]
      refine Nat.lt_of_le_of_lt (Nat.mod_le _ _) ?_
      omega
    have e : y <<< (n + 1) = (y <<< 1) <<< n := by rw [← BitVec.shiftLeft_add, Nat.add_comm]
    simp only [steps]
    rw [e, steps_lin n x (y <<< 1) (by omega) h2, stepw_lin _ _ hy1]

theorem low_high (x : BitVec 64) : x ^^^ (x.setWidth 8).setWidth 64 = (x >>> 8) <<< 8 := by
  apply BitVec.eq_of_getLsbD_eq
  intro i hi
  simp only [BitVec.getLsbD_xor, BitVec.getLsbD_setWidth, BitVec.getLsbD_shiftLeft, BitVec.getLsbD_ushiftRight]
  by_cases h : i < 8
  · simp [h, hi]
  · have e : 8 + (i - 8) = i := by omega
    simp [h, hi, e]
theorem morew_word_to (r x : BitVec 64) : ∀ n, n ≤ 8 → morew r (bytesTo x n) ^^^ (x >>> (8 * n)) = steps (8 * n) (r ^^^ x)
  | 0, _ => by simp [morew, bytesTo, steps]
  | n + 1, hn => by
    have ih := morew_word_to r x n (by omega)
    have hM : morew r (bytesTo x n) = steps (8 * n) (r ^^^ x) ^^^ (x >>> (8 * n)) := by
      rw [← ih, BitVec.xor_assoc, BitVec.xor_self, BitVec.xor_zero]
    rw [bytesTo_succ, morew_snoc, intow, hM]
    have e1 : xorw (steps (8 * n) (r ^^^ x) ^^^ (x >>> (8 * n))) (ofb (byteAt x n)) = steps (8 * n) (r ^^^ x) ^^^ ((x >>> (8 * n)) >>> 8) <<< 8 := by
      unfold xorw ofb byteAt
      rw [BitVec.xor_assoc, low_high]
    have hlt : ((x >>> (8 * n)) >>> 8).toNat < 2 ^ (64 - 8) := by
      rw [BitVec.toNat_ushiftRight, Nat.shiftRight_eq_div_pow, BitVec.toNat_ushiftRight]
      have h1 : x.toNat >>> (8 * n) ≤ x.toNat := Nat.shiftRight_le _ _
      have h2 := x.isLt
      omega
    rw [e1, steps_lin 8 _ _ (by omega) hlt, steps_add]
    have e2 : (x >>> (8 * n)) >>> 8 = x >>> (8 * (n + 1)) := by rw [← BitVec.shiftRight_add, Nat.mul_add]
    rw [e2, BitVec.xor_assoc, BitVec.xor_self, BitVec.xor_zero, Nat.mul_add]
theorem morew_word (r x : BitVec 64) : morew r (bytesOf x) = steps 64 (r ^^^ x) := by
  have h := morew_word_to r x 8 (by omega)
  have e : x >>> (8 * 8) = 0#64 := by
    apply BitVec.eq_of_toNat_eq
    rw [BitVec.toNat_ushiftRight, Nat.shiftRight_eq_div_pow]
    have := x.isLt
    simp; omega
  rw [e, BitVec.xor_zero] at h
  exact h

theorem morew_append (r : BitVec 64) (a b : List (BitVec 8)) : morew r (a ++ b) = morew (morew r a) b := by simp [morew]
theorem morew_words_inj (xs : List (BitVec 64)) : ∀ (r r' : BitVec 64), morew r (bytesL xs) = morew r' (bytesL xs) → r = r' := by
  induction xs with
  | nil => intro r r' h; exact h
  | cons x xs ih =>
    intro r r' h
    simp only [bytesL, List.flatMap_cons] at h
    rw [morew_append, morew_append, morew_word, morew_word] at h
    exact xor_cancel _ _ _ (steps_inj _ _ _ (ih _ _ h))
theorem notw_inj (x y : BitVec 64) (h : notw x = notw y) : x = y := by
  have := congrArg notw h; simpa [notw] using this
/-- Two lists of words that differ in one word have different sums. -/
theorem wordsSum_differ (us bs : List (BitVec 64)) (x y : BitVec 64) (h : wordsSum (us ++ x :: bs) = wordsSum (us ++ y :: bs)) : x = y := by
  unfold wordsSum sumw at h
  have h1 := notw_inj _ _ h
  simp only [bytesL, List.flatMap_append, List.flatMap_cons] at h1
  rw [morew_append, morew_append, morew_append, morew_append, morew_word, morew_word] at h1
  have h2 := steps_inj _ _ _ (morew_words_inj bs _ _ h1)
  rw [BitVec.xor_comm _ x, BitVec.xor_comm _ y] at h2
  exact xor_cancel _ _ _ h2
theorem notw_notw (x : BitVec 64) : notw (notw x) = x := by simp [notw]
/-- What more bytes make of a sum is the sum of all. -/
theorem more_sum (a b : List (BitVec 8)) : notw (morew (notw (sumw a)) b) = sumw (a ++ b) := by
  unfold sumw
  rw [notw_notw, morew_append]

theorem openOk_seal (xs : List (BitVec 64)) : openOk (sealL xs) = true := by
  unfold sealL; rw [openOk_snoc]; simp
theorem openL_seal (xs : List (BitVec 64)) : openL (sealL xs) = xs := by
  unfold openL; rw [openOk_seal]; simp [sealL]
/-- Sealed words of which one is another one are not opened. -/
theorem openOk_turned (xs : List (BitVec 64)) (i : Nat) (hi : i < (sealL xs).length) (y : BitVec 64) : openOk ((sealL xs).set i y) = decide ((sealL xs)[i] = y) := by
  by_cases h : i < xs.length
  · have e : (sealL xs).set i y = xs.set i y ++ [wordsSum xs] := by
      unfold sealL; rw [List.set_append_left _ _ h]
    have e2 : (sealL xs)[i] = xs[i] := by
      simp [sealL, h]
    rw [e, openOk_snoc, e2]
    by_cases hy : xs[i] = y
    · simp [← hy]
    · simp only [hy, decide_false, decide_eq_false_iff_not]
      intro hs
      have h1 : xs = xs.take i ++ xs[i] :: xs.drop (i + 1) := by rw [← List.drop_eq_getElem_cons h, List.take_append_drop]
      have h2 : xs.set i y = xs.take i ++ y :: xs.drop (i + 1) := List.set_eq_take_append_cons_drop .. |>.trans (by simp [h])
      rw [h2] at hs
      have h3 : wordsSum xs = wordsSum (xs.take i ++ xs[i] :: xs.drop (i + 1)) := congrArg wordsSum h1
      rw [h3] at hs
      exact hy (wordsSum_differ _ _ _ _ hs).symm
  · have hl : (sealL xs).length = xs.length + 1 := by simp [sealL]
    have hi' : i = xs.length := by omega
    subst hi'
    have e : (sealL xs).set xs.length y = xs ++ [y] := by
      unfold sealL; rw [List.set_append_right _ _ (Nat.le_refl _)]; simp
    have e2 : (sealL xs)[xs.length] = wordsSum xs := by simp [sealL]
    rw [e, openOk_snoc, e2]

end Go.Proofs.Ytljegehfdmgcbaa
