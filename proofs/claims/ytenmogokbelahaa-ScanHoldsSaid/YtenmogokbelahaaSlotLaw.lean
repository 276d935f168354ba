/- The plain law of slots: no program in sight. -/
import Derived.Test.YtenmogokbelahaaScanLaw
namespace Go.Proofs.Ytenmogokbelahaa
open Go Go.RowKit

abbrev Pr := BitVec 64 × BitVec 64
def keyS (s : List (BitVec 64)) (j : Nat) : BitVec 64 := s.getD (2 * j) 0#64
def ptrS (s : List (BitVec 64)) (j : Nat) : BitVec 64 := s.getD (2 * j + 1) 0#64
def aheadS (left : BitVec 64) (s : List (BitVec 64)) (j : Nat) : BitVec 64 := if j = 0 then left else ptrS s (j - 1)
/-- So many slots are gone over. -/
def RawOk (s : List (BitVec 64)) (n : Nat) : Prop := n ≤ s.length / 2 ∧ (∀ i, i < n → ptrS s i ≠ 0#64) ∧ (n < s.length / 2 → ptrS s n = 0#64)
def rawA (s : List (BitVec 64)) : Nat → Nat → Nat
  | 0, k => k
  | f + 1, k => if k < s.length / 2 ∧ ptrS s k ≠ 0#64 then rawA s f (k + 1) else k
def rawS (s : List (BitVec 64)) : Nat := rawA s (s.length / 2) 0
theorem rawA_ok (s : List (BitVec 64)) : ∀ f k, s.length / 2 ≤ k + f → k ≤ s.length / 2 → (∀ i, i < k → ptrS s i ≠ 0#64) → RawOk s (rawA s f k)
  | 0, k, h1, h2, h3 => ⟨h2, h3, fun h => by simp only [rawA] at h; omega⟩
  | f + 1, k, h1, h2, h3 => by
    unfold rawA
    by_cases h : k < s.length / 2 ∧ ptrS s k ≠ 0#64
    · rw [if_pos h]
      refine rawA_ok s f (k + 1) (by omega) (by omega) fun i hi => ?_
      rcases Nat.lt_succ_iff_lt_or_eq.1 hi with hi | rfl
      · exact h3 i hi
      · exact h.2
    · rw [if_neg h]
      refine ⟨h2, h3, fun hk => ?_⟩
      by_cases h' : ptrS s k = 0#64
      · exact h'
      · exact absurd ⟨hk, h'⟩ h
theorem rawS_ok (s : List (BitVec 64)) : RawOk s (rawS s) := rawA_ok s _ 0 (by omega) (Nat.zero_le _) (fun i hi => by omega)
theorem raw_uniq {s : List (BitVec 64)} {n m : Nat} (h : RawOk s n) (h' : RawOk s m) : n = m := by
  obtain ⟨a1, a2, a3⟩ := h
  obtain ⟨b1, b2, b3⟩ := h'
  rcases Nat.lt_trichotomy n m with hl | hl | hl
  · exact absurd (a3 (by omega)) (b2 n hl)
  · exact hl
  · exact absurd (b3 (by omega)) (a2 m hl)
/-- The pairs of the first slots. -/
def readN (left : BitVec 64) (s : List (BitVec 64)) : Nat → List Pr
  | 0 => []
  | k + 1 => readN left s k ++ (if ptrS s k ≠ aheadS left s k then [(keyS s k, ptrS s k)] else [])
theorem readN_len (left : BitVec 64) (s : List (BitVec 64)) (k : Nat) : (readN left s k).length ≤ k := by
  induction k with
  | zero => exact Nat.le_refl _
  | succ k ih =>
    unfold readN
    rw [List.length_append]
    split
    · simp; omega
    · simp; omega
def readL (left : BitVec 64) (s : List (BitVec 64)) : List Pr := readN left s (rawS s)
def pairP (l : List Pr) (key : BitVec 64) : BitVec 64 × Bool := match l.find? (fun x => decide (x.1 = key)) with | some x => (x.2, true) | none => (0#64, false)
def hasP (l : List Pr) (ptr : BitVec 64) : Bool := l.any fun x => decide (x.2 = ptr)
/-- Rising keys, unlike pointers, none the left. -/
def FineL (left : BitVec 64) (l : List Pr) : Prop := ∀ i (h : i < l.length), (∀ h2 : 0 < i, (l[i - 1]'(by omega)).1.toNat < l[i].1.toNat) ∧ hasP (l.take i) l[i].2 = false ∧ l[i].2 ≠ left
/-- A settled row. -/
structure Settled (left : BitVec 64) (s : List (BitVec 64)) (n : Nat) : Prop where
  l0 : left ≠ 0#64
  ev : s.length % 2 = 0
  l4 : 4 ≤ s.length
  l56 : s.length ≤ 56
  nm : n < s.length / 2
  nz : ∀ i, i < n → ptrS s i ≠ 0#64
  z : ∀ j, n ≤ j → j < s.length / 2 → ptrS s j = 0#64
  nl : ∀ i, i < n → ptrS s i ≠ left
  un : ∀ i j, i < j → j < n → ptrS s i ≠ ptrS s j
  up : ∀ i, i + 1 < n → (keyS s i).toNat < (keyS s (i + 1)).toNat
def allP (s : List (BitVec 64)) (n : Nat) : List Pr := (List.range n).map fun j => (keyS s j, ptrS s j)
theorem allP_len (s : List (BitVec 64)) (n : Nat) : (allP s n).length = n := by simp [allP]
theorem allP_get (s : List (BitVec 64)) (n i : Nat) (h : i < (allP s n).length) : (allP s n)[i] = (keyS s i, ptrS s i) := by simp [allP]
theorem allP_succ (s : List (BitVec 64)) (n : Nat) : allP s (n + 1) = allP s n ++ [(keyS s n, ptrS s n)] := by simp [allP, List.range_succ]
/-- All slots that are gone over count, so the pairs are all of them. -/
theorem readN_all {left : BitVec 64} {s : List (BitVec 64)} : ∀ {k : Nat}, (readN left s k).length = k → readN left s k = allP s k ∧ ∀ i, i < k → ptrS s i ≠ aheadS left s i
  | 0, _ => ⟨rfl, fun i hi => by omega⟩
  | k + 1, h => by
    have hl := readN_len left s k
    unfold readN at h ⊢
    rw [List.length_append] at h
    by_cases hp : ptrS s k ≠ aheadS left s k
    · rw [if_pos hp] at h ⊢
      obtain ⟨h1, h2⟩ := readN_all (left := left) (s := s) (k := k) (by simpa using h)
      refine ⟨by rw [h1, allP_succ], fun i hi => ?_⟩
      rcases Nat.lt_succ_iff_lt_or_eq.1 hi with hi | rfl
      · exact h2 i hi
      · exact hp
    · rw [if_neg hp] at h
      simp at h
      omega
theorem hasP_not {l : List Pr} {ptr : BitVec 64} (h : hasP l ptr = false) : ∀ x ∈ l, x.2 ≠ ptr := by
  intro x hx he
  unfold hasP at h
  have := List.any_eq_false.1 h x hx
  simp [he] at this
theorem settled_of {left : BitVec 64} {s : List (BitVec 64)} (h0 : left ≠ 0#64) (h1 : s.length % 2 = 0) (h2 : 4 ≤ s.length) (h3 : s.length ≤ 56) (hf : FineL left (readL left s)) (hr : (readL left s).length = rawS s)
    (hm : (readL left s).length < s.length / 2) (hz : ∀ j, (readL left s).length ≤ j → j < s.length / 2 → ptrS s j = 0#64) : Settled left s (rawS s) ∧ readL left s = allP s (rawS s) := by
  obtain ⟨h4, -⟩ := readN_all (left := left) (s := s) hr
  have h4' : readL left s = allP s (rawS s) := h4
  rw [hr] at hm hz
  rw [h4'] at hf
  obtain ⟨r1, r2, r3⟩ := rawS_ok s
  refine ⟨⟨h0, h1, h2, h3, hm, r2, hz, ?_, ?_, ?_⟩, h4'⟩
  · intro i hi
    have := (hf i (by rw [allP_len]; exact hi)).2.2
    rwa [allP_get] at this
  · intro i j hij hj
    have h5 := (hf j (by rw [allP_len]; exact hj)).2.1
    rw [allP_get] at h5
    have h6 := hasP_not h5 (keyS s i, ptrS s i) (by
      rw [List.mem_take_iff_getElem]
      exact ⟨i, by rw [allP_len]; omega, by rw [allP_get]⟩)
    exact h6
  · intro i hi
    have h5 := (hf (i + 1) (by rw [allP_len]; exact hi)).1 (by omega)
    rw [allP_get] at h5
    rw [allP_get] at h5
    exact h5
/-- The pair of a key in a settled row. -/
theorem keys_lt {left : BitVec 64} {s : List (BitVec 64)} {n : Nat} (h : Settled left s n) : ∀ {i j : Nat}, i < j → j < n → (keyS s i).toNat < (keyS s j).toNat
  | i, 0, h1, _ => by omega
  | i, j + 1, h1, h2 => by
    have h3 := h.up j h2
    rcases Nat.lt_succ_iff_lt_or_eq.1 h1 with h4 | rfl
    · have := keys_lt h h4 (by omega : j < n); omega
    · exact h3
theorem pair_at {left : BitVec 64} {s : List (BitVec 64)} {n : Nat} (h : Settled left s n) {i : Nat} (hi : i < n) : pairP (allP s n) (keyS s i) = (ptrS s i, true) := by
  unfold pairP
  have e : (allP s n).find? (fun x => decide (x.1 = keyS s i)) = some (keyS s i, ptrS s i) := by
    rw [List.find?_eq_some_iff_getElem]
    refine ⟨by simp, i, by rw [allP_len]; exact hi, by rw [allP_get], fun j hj => ?_⟩
    rw [allP_get]
    have := keys_lt h hj hi
    have : keyS s j ≠ keyS s i := fun he => by rw [he] at this; omega
    simpa using this
  rw [e]
theorem pair_none {s : List (BitVec 64)} {n : Nat} {key : BitVec 64} (h : ∀ i, i < n → keyS s i ≠ key) : pairP (allP s n) key = (0#64, false) := by
  unfold pairP
  have e : (allP s n).find? (fun x => decide (x.1 = key)) = none := by
    rw [List.find?_eq_none]
    intro x hx
    obtain ⟨i, hi, rfl⟩ := List.mem_iff_getElem.1 hx
    rw [allP_len] at hi
    rw [allP_get]
    simpa using h i hi
  rw [e]
end Go.Proofs.Ytenmogokbelahaa
