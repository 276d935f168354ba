/- Plain facts on words and bytes: words laid out of bytes, and back. -/
import Derived.Test.YthhdipfadnihjaaWordsA
namespace Go.Proofs.Ythhdipfadnihjaa
open Go Go.RowKit

def wordN : List (BitVec 8) → Nat
  | [] => 0
  | b :: bs => b.toNat + 256 * wordN bs
def wordOf (bs : List (BitVec 8)) : BitVec 64 := BitVec.ofNat 64 (wordN bs)
def layL (bs : List (BitVec 8)) : List (BitVec 64) := (List.range ((bs.length + 7) / 8)).map fun i => wordOf ((bs.drop (8 * i)).take 8)

theorem wordN_lt : ∀ bs : List (BitVec 8), wordN bs < 256 ^ bs.length
  | [] => by simp [wordN]
  | b :: bs => by
    have h1 := wordN_lt bs
    have h2 := b.isLt
    simp only [wordN, List.length_cons, Nat.pow_succ]
    omega
theorem wordN_snoc : ∀ (bs : List (BitVec 8)) (b : BitVec 8), wordN (bs ++ [b]) = wordN bs + b.toNat * 256 ^ bs.length
  | [], b => by simp [wordN]
  | c :: bs, b => by
    simp only [List.cons_append, wordN, wordN_snoc bs b, List.length_cons, Nat.pow_succ]
    rw [Nat.mul_add, Nat.mul_comm (256 ^ bs.length) 256, ← Nat.mul_assoc 256, ← Nat.mul_assoc, Nat.mul_comm 256 b.toNat]
    omega
theorem wordN_lt64 (bs : List (BitVec 8)) (h : bs.length ≤ 8) : wordN bs < 2 ^ 64 := by
  refine Nat.lt_of_lt_of_le (wordN_lt bs) ?_
  have : (256 : Nat) ^ bs.length ≤ 256 ^ 8 := Nat.pow_le_pow_right (by omega) h
  exact this
theorem wordOf_toNat (bs : List (BitVec 8)) (h : bs.length ≤ 8) : (wordOf bs).toNat = wordN bs := by
  unfold wordOf; rw [BitVec.toNat_ofNat]; exact Nat.mod_eq_of_lt (wordN_lt64 bs h)
theorem wordOf_snoc (bs : List (BitVec 8)) (b : BitVec 8) (h : bs.length < 8) : wordOf (bs ++ [b]) = orw (wordOf bs) (shlw (ofb b) (8 * bs.length)) := by
  apply BitVec.eq_of_toNat_eq
  have h1 : (wordOf (bs ++ [b])).toNat = wordN bs + b.toNat * 256 ^ bs.length := by rw [wordOf_toNat _ (by simp; omega), wordN_snoc]
  have hp : (2 : Nat) ^ (8 * bs.length) = 256 ^ bs.length := by rw [Nat.pow_mul]
  have hb := b.isLt
  have hlt : b.toNat * 256 ^ bs.length < 2 ^ 64 := by
    have h2 : b.toNat * 256 ^ bs.length < 256 * 256 ^ bs.length := Nat.mul_lt_mul_of_pos_right hb (Nat.pow_pos (by omega))
    have h3 : 256 * 256 ^ bs.length ≤ 256 ^ 8 := by
      rw [← Nat.pow_succ']
      exact Nat.pow_le_pow_right (by omega) (by omega)
    exact Nat.lt_of_lt_of_le h2 h3
  have h2 : (shlw (ofb b) (8 * bs.length)).toNat = b.toNat * 256 ^ bs.length := by
    unfold shlw ofb
    rw [BitVec.toNat_shiftLeft, Nat.shiftLeft_eq, BitVec.toNat_setWidth, Nat.mod_eq_of_lt (show b.toNat < 2 ^ 64 by omega), hp, Nat.mod_eq_of_lt hlt]
  rw [h1, orw, BitVec.toNat_or, h2, wordOf_toNat bs (by omega), Nat.or_comm]
  rw [nat_join (8 * bs.length) _ _ (by rw [hp]; simp) (by rw [hp]; exact wordN_lt bs)]
  omega
theorem wordOf_one (b : BitVec 8) : wordOf [b] = orw 0#64 (shlw (ofb b) 0) := wordOf_snoc [] b (by simp)

theorem layL_length (bs : List (BitVec 8)) : (layL bs).length = (bs.length + 7) / 8 := by simp [layL]
theorem layL_nil : layL [] = [] := rfl
theorem layL_new (l : List (BitVec 8)) (b : BitVec 8) (h : l.length % 8 = 0) : layL (l ++ [b]) = (layL l ++ [0#64]).set (l.length / 8) (orw 0#64 (shlw (ofb b) (8 * (l.length % 8)))) := by
  have hl : (layL l).length = l.length / 8 := by rw [layL_length]; omega
  rw [List.set_append_right _ _ (by omega), hl, Nat.sub_self, List.set_cons_zero, h, ← wordOf_one]
  have e : ((l ++ [b]).length + 7) / 8 = l.length / 8 + 1 := by simp; omega
  unfold layL
  rw [e, List.range_succ, List.map_append, show (l.length + 7) / 8 = l.length / 8 by omega]
  congr 1
  · apply List.map_congr_left
    intro i hi
    have hi' : i < l.length / 8 := by simpa using hi
    rw [List.drop_append_of_le_length (by omega), List.take_append_of_le_length (by simp; omega)]
  · have : 8 * (l.length / 8) = l.length := by omega
    simp [this]
theorem layL_more (l : List (BitVec 8)) (b : BitVec 8) (h : l.length % 8 ≠ 0) (h2 : l.length / 8 < (layL l).length) :
    layL (l ++ [b]) = (layL l).set (l.length / 8) (orw (layL l)[l.length / 8] (shlw (ofb b) (8 * (l.length % 8)))) := by
  have e : ((l ++ [b]).length + 7) / 8 = (l.length + 7) / 8 := by simp; omega
  apply List.ext_getElem
  · rw [List.length_set, layL_length, layL_length, e]
  · intro i h3 h4
    rw [List.length_set, layL_length] at h4
    rw [List.getElem_set]
    by_cases hi : l.length / 8 = i
    · subst hi
      rw [if_pos rfl]
      simp only [layL, List.getElem_map, List.getElem_range]
      have e1 : (l.drop (8 * (l.length / 8))).length = l.length % 8 := by simp; omega
      rw [List.drop_append_of_le_length (by omega), List.take_of_length_le (by simp; omega), List.take_of_length_le (by omega), wordOf_snoc _ _ (by omega), e1]
    · rw [if_neg hi]
      simp only [layL, List.getElem_map, List.getElem_range]
      rw [List.drop_append_of_le_length (by omega), List.take_append_of_le_length (by simp; omega)]

theorem wordN_bytesTo (x : BitVec 64) : ∀ n, n ≤ 8 → wordN (bytesTo x n) = x.toNat % 256 ^ n
  | 0, _ => by simp [bytesTo, wordN, Nat.mod_one]
  | n + 1, hn => by
    rw [bytesTo_succ, wordN_snoc, wordN_bytesTo x n (by omega), bytesTo_length]
    have hb : (byteAt x n).toNat = x.toNat / 256 ^ n % 256 := by
      unfold byteAt
      rw [BitVec.toNat_setWidth, BitVec.toNat_ushiftRight, Nat.shiftRight_eq_div_pow, Nat.pow_mul]
    rw [hb, Nat.pow_succ, Nat.mod_mul, Nat.mul_comm (256 ^ n)]
theorem wordOf_bytesOf (x : BitVec 64) : wordOf (bytesOf x) = x := by
  apply BitVec.eq_of_toNat_eq
  rw [wordOf_toNat _ (by rw [bytesOf, bytesTo_length]; exact Nat.le_refl _), bytesOf, wordN_bytesTo x 8 (Nat.le_refl _)]
  exact Nat.mod_eq_of_lt x.isLt
theorem layL_append8 (a b : List (BitVec 8)) (h : a.length = 8) : layL (a ++ b) = wordOf a :: layL b := by
  apply List.ext_getElem
  · rw [layL_length, List.length_cons, layL_length, List.length_append]; omega
  · intro i h1 h2
    cases i with
    | zero => simp [layL, h]
    | succ i =>
      simp only [layL, List.getElem_map, List.getElem_range, List.getElem_cons_succ]
      rw [List.drop_append, List.drop_eq_nil_of_le (by omega), h]
      congr 2
theorem layL_bytesL (xs : List (BitVec 64)) : layL (bytesL xs) = xs := by
  induction xs with
  | nil => rfl
  | cons x xs ih =>
    have : bytesL (x :: xs) = bytesOf x ++ bytesL xs := by simp [bytesL]
    rw [this, layL_append8 _ _ (by rw [bytesOf, bytesTo_length]), wordOf_bytesOf, ih]
theorem byteAt_wordOf (bs : List (BitVec 8)) (h : bs.length ≤ 8) (i : Nat) (hi : i < bs.length) : byteAt (wordOf bs) i = bs[i] := by
  have key : ∀ (bs : List (BitVec 8)) (i : Nat) (hi : i < bs.length), wordN bs / 256 ^ i % 256 = bs[i].toNat := by
    intro bs
    induction bs with
    | nil => intro i hi; simp at hi
    | cons b bs ih =>
      intro i hi
      have hb := b.isLt
      cases i with
      | zero => simp [wordN]; omega
      | succ i =>
        have e : (b.toNat + 256 * wordN bs) / 256 ^ (i + 1) = wordN bs / 256 ^ i := by
          rw [Nat.pow_succ', ← Nat.div_div_eq_div_mul]
          congr 1; omega
        simp only [wordN, List.getElem_cons_succ]
        rw [e]
        exact ih i (by simpa using hi)
  apply BitVec.eq_of_toNat_eq
  unfold byteAt
  rw [BitVec.toNat_setWidth, BitVec.toNat_ushiftRight, Nat.shiftRight_eq_div_pow, Nat.pow_mul, wordOf_toNat bs h]
  exact key bs i hi
theorem bytesOf_wordOf (bs : List (BitVec 8)) (h : bs.length = 8) : bytesOf (wordOf bs) = bs := by
  apply List.ext_getElem
  · rw [bytesOf, bytesTo_length, h]
  · intro i h1 h2
    simp only [bytesOf, bytesTo, List.getElem_map, List.getElem_range]
    exact byteAt_wordOf bs (by omega) i h2
/-- The bytes of words that were laid out of bytes: those bytes, and noughts behind them. -/
theorem bytesOf_wordOf_short (bs : List (BitVec 8)) (h : bs.length ≤ 8) : bytesOf (wordOf bs) = bs ++ List.replicate (8 - bs.length) 0#8 := by
  apply List.ext_getElem
  · rw [bytesOf, bytesTo_length]; simp; omega
  · intro i h1 h2
    rw [bytesOf, bytesTo_length] at h1
    simp only [bytesOf, bytesTo, List.getElem_map, List.getElem_range]
    by_cases hi : i < bs.length
    · rw [List.getElem_append_left hi]; exact byteAt_wordOf bs h i hi
    · rw [List.getElem_append_right (by omega), List.getElem_replicate]
      apply BitVec.eq_of_toNat_eq
      unfold byteAt
      rw [BitVec.toNat_setWidth, BitVec.toNat_ushiftRight, Nat.shiftRight_eq_div_pow, Nat.pow_mul, wordOf_toNat bs h]
      have h3 : wordN bs < 256 ^ i := Nat.lt_of_lt_of_le (wordN_lt bs) (Nat.pow_le_pow_right (by omega) (by omega))
      show wordN bs / 256 ^ i % 256 = 0
      rw [Nat.div_eq_of_lt h3]

end Go.Proofs.Ythhdipfadnihjaa
