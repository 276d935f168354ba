/- Plain facts on the bits of a word that are set, one by one. -/
import Derived.Test.YtljegehfdmgcbaaDoorMem
import Derived.Lib.TrailingZeros
namespace Go.Proofs.YtljegehfdmgcbaaDoor
open Go Go.RowKit

def bitsTo (x : BitVec 64) (n : Nat) : List Nat := (List.range n).filter fun i => x.getLsbD i
def bitsL (x : BitVec 64) : List Nat := bitsTo x 64
def ctzW (x : BitVec 64) : Nat := Lib.ctz 64 x.toNat
def decw (x : BitVec 64) : BitVec 64 := x - 1#64
def clr (x : BitVec 64) : BitVec 64 := andw x (decw x)

theorem filter_first (p : Nat → Bool) (k : Nat) (hk : p k = true) (hl : ∀ j, j < k → p j = false) : ∀ n, k < n → (List.range n).filter p = k :: (List.range n).filter (fun i => p i && decide (i ≠ k)) := by
  intro n
  induction n with
  | zero => intro h; omega
  | succ n ih =>
    intro h
    rw [List.range_succ, List.filter_append, List.filter_append]
    by_cases hn : k < n
    · rw [ih hn]
      have : decide (n ≠ k) = true := by simp; omega
      simp only [List.cons_append, List.filter_cons, List.filter_nil, this, Bool.and_true]
    · obtain rfl : k = n := by omega
      have e1 : (List.range k).filter p = [] := by
        rw [List.filter_eq_nil_iff]; intro a ha; simp [hl a (by simpa using ha)]
      have e2 : (List.range k).filter (fun i => p i && decide (i ≠ k)) = [] := by
        rw [List.filter_eq_nil_iff]; intro a ha; simp [hl a (by simpa using ha)]
      rw [e1, e2]
      simp [hk]

theorem ctzW_spec (x : BitVec 64) (hx : x ≠ 0#64) : ∃ m, x.toNat = 2 ^ ctzW x * (2 * m + 1) ∧ ctzW x < 64 := by
  have h0 : x.toNat ≠ 0 := fun h => hx (BitVec.eq_of_toNat_eq (by simpa using h))
  have : ctzW x = Lib.ctzFrom 64 x.toNat := by unfold ctzW Lib.ctz; rw [if_neg h0]
  rw [this]
  exact Lib.ctzFrom_spec 64 x.toNat (by omega) x.isLt
theorem bit_of (k m i : Nat) : (2 ^ k * (2 * m + 1)).testBit i = (decide (k ≤ i) && (2 * m + 1).testBit (i - k)) := by
  rw [Nat.mul_comm, Nat.testBit_mul_two_pow]
theorem bit_less (k m i : Nat) : (2 ^ k * (2 * m + 1) - 1).testBit i = if i < k then true else (2 * m).testBit (i - k) := by
  have hp : 0 < 2 ^ k := Nat.pow_pos (by omega)
  have e : 2 ^ k * (2 * m + 1) - 1 = 2 ^ k * (2 * m) + (2 ^ k - 1) := by rw [Nat.mul_add]; omega
  rw [e, Nat.testBit_two_pow_mul_add _ (by omega)]
  by_cases h : i < k
  · simp [h]
  · simp [h]
theorem clr_bit (x : BitVec 64) (hx : x ≠ 0#64) (i : Nat) : (clr x).getLsbD i = (x.getLsbD i && decide (i ≠ ctzW x)) := by
  obtain ⟨m, hm, hk⟩ := ctzW_spec x hx
  obtain ⟨k, e⟩ : ∃ k, ctzW x = k := ⟨_, rfl⟩
  rw [e] at hm hk ⊢
  have hd : (decw x).toNat = x.toNat - 1 := by
    have h0 : x.toNat ≠ 0 := fun h => hx (BitVec.eq_of_toNat_eq (by simpa using h))
    have := x.isLt
    unfold decw; rw [BitVec.toNat_sub]; simp; omega
  unfold clr andw
  rw [BitVec.getLsbD_and, BitVec.getLsbD, BitVec.getLsbD, hd, hm, bit_of, bit_less]
  by_cases h1 : i < k
  · have : ¬ k ≤ i := by omega
    simp [this]
  · by_cases h2 : i = k
    · subst h2; simp
    · obtain ⟨j, rfl⟩ : ∃ j, i = k + (j + 1) := ⟨i - k - 1, by omega⟩
      have e3 : k + (j + 1) - k = j + 1 := by omega
      have e4 : k ≤ k + (j + 1) := by omega
      have e5 : k + (j + 1) ≠ k := by omega
      have e6 : ¬ k + (j + 1) < k := by omega
      rw [if_neg e6, e3, Nat.testBit_succ, Nat.testBit_succ]
      have d1 : (2 * m + 1) / 2 = m := by omega
      have d2 : 2 * m / 2 = m := by omega
      simp [e4, d1]
theorem bitsL_cons (x : BitVec 64) (hx : x ≠ 0#64) : bitsL x = ctzW x :: bitsL (clr x) := by
  obtain ⟨m, hm, hk⟩ := ctzW_spec x hx
  have h1 : x.getLsbD (ctzW x) = true := by
    rw [BitVec.getLsbD, hm]
    obtain ⟨k, e⟩ : ∃ k, ctzW x = k := ⟨_, rfl⟩
    rw [e, bit_of]; simp
  have h2 : ∀ j, j < ctzW x → x.getLsbD j = false := by
    intro j hj
    rw [BitVec.getLsbD, hm]
    obtain ⟨k, e⟩ : ∃ k, ctzW x = k := ⟨_, rfl⟩
    rw [e] at hj ⊢
    rw [bit_of]
    have : ¬ k ≤ j := by omega
    simp [this]
  unfold bitsL bitsTo
  rw [filter_first (fun i => x.getLsbD i) (ctzW x) h1 h2 64 hk]
  congr 1
  apply List.filter_congr
  intro i _
  rw [clr_bit x hx]
theorem bitsL_zero : bitsL 0#64 = [] := by decide
theorem bitsL_nil (x : BitVec 64) : bitsL x = [] ↔ x = 0#64 := by
  constructor
  · intro h
    apply Classical.byContradiction
    intro hx
    rw [bitsL_cons x hx] at h
    cases h
  · rintro rfl; exact bitsL_zero
theorem bitsL_len (x : BitVec 64) : (bitsL x).length ≤ 64 := by
  have := List.length_filter_le (fun i => x.getLsbD i) (List.range 64)
  simpa [bitsL, bitsTo] using this
theorem bitsTo_len (x : BitVec 64) (n : Nat) : (bitsTo x n).length ≤ n := by
  have := List.length_filter_le (fun i => x.getLsbD i) (List.range n)
  simpa [bitsTo] using this
theorem bitsTo_succ (x : BitVec 64) (n : Nat) : bitsTo x (n + 1) = bitsTo x n ++ if (shrw x n).toNat % 2 = 1 then [n] else [] := by
  have e : x.getLsbD n = decide ((shrw x n).toNat % 2 = 1) := by
    unfold shrw
    rw [BitVec.getLsbD, BitVec.toNat_ushiftRight, Nat.testBit_eq_decide_div_mod_eq, Nat.shiftRight_eq_div_pow]
  unfold bitsTo
  rw [List.range_succ, List.filter_append]
  congr 1
  simp only [List.filter_cons, List.filter_nil, e, decide_eq_true_eq]
/-- What is left behind k bits. -/
def leftOk (x : BitVec 64) (k : Nat) (y : BitVec 64) : Prop := bitsL y = (bitsL x).drop k
theorem leftOk_zero (x : BitVec 64) : leftOk x 0 x := rfl
theorem leftOk_end {x y : BitVec 64} {k : Nat} (h : leftOk x k y) (hk : k ≤ (bitsL x).length) (hy : y = 0#64) : k = (bitsL x).length := by
  unfold leftOk at h
  rw [(bitsL_nil y).2 hy] at h
  have := congrArg List.length h
  simp at this; omega
theorem leftOk_lt {x y : BitVec 64} {k : Nat} (h : leftOk x k y) (hy : y ≠ 0#64) : ∃ hk : k < (bitsL x).length, (bitsL x)[k] = ctzW y ∧ leftOk x (k + 1) (clr y) := by
  unfold leftOk at *
  rw [bitsL_cons y hy] at h
  have hk : k < (bitsL x).length := by
    have := congrArg List.length h
    simp at this; omega
  refine ⟨hk, ?_⟩
  rw [List.drop_eq_getElem_cons hk] at h
  simp only [List.cons.injEq] at h
  exact ⟨h.1.symm, h.2⟩

end Go.Proofs.YtljegehfdmgcbaaDoor
