/- Plain: what a change's stores owe the law; the lists of stores, one by one. -/
import Derived.Test.YtenmogokbelahaaSlotD
import Derived.Test.YtenmogokbelahaaChangeLaw
namespace Go.Proofs.Ytenmogokbelahaa
open Go Go.RowKit

def Good (way : Nat) (left : BitVec 64) (s : List (BitVec 64)) (l : List St) : Prop := l.length ≤ 200 ∧ (∀ x ∈ l, x.1 < s.length) ∧ ∀ k q t, Rch (mkTm left s l).at l.length (newR way (s.length / 2) k) q t → q.done = true → HoldOk (pairP (readL left s) k) (pairP (readL left (rowT s l l.length)) k) q.found
variable {left : BitVec 64} {s : List (BitVec 64)} {n i : Nat} {K P : BitVec 64}
theorem good_put (hS : SetR left s) (hi : i ≤ rawS s) (hn : rawS s + 1 < s.length / 2) (hP : P ≠ 0#64) (hPl : P ≠ left) (hPn : ∀ j, j < rawS s → ptrS s j ≠ P) (hK : ∀ j, j < rawS s → keyS s j ≠ K) : Good 1 left s (putL left s (rawS s) i 1 K P) := by
  have hl := hS.1.l56
  refine ⟨by rw [putL_len]; omega, fun x hx => ?_, fun k q t h hd => ?_⟩
  · obtain ⟨t, ht, rfl⟩ := List.mem_map.1 hx
    have ht := List.mem_range.1 ht
    unfold fPut
    split
    · show 2 * rawS s + 3 < _; omega
    · split
      · show 2 * i + 1 < _; omega
      · split
        · show 2 * (rawS s - (t - 1) / 2) + 1 < _; omega
        · show 2 * (rawS s - (t - 1) / 2) < _; omega
  · rw [hS.2]
    exact put_holds hS.1 hi hn hP hPl hPn hK k h hd
theorem good_take (hS : SetR left s) (hi : i < rawS s) : Good 2 left s (takeL left s (rawS s) i) := by
  have hl := hS.1.l56
  have hnm := hS.1.nm
  refine ⟨by simp [takeL]; omega, fun x hx => ?_, fun k q t h hd => ?_⟩
  · obtain ⟨t, ht, rfl⟩ := List.mem_map.1 hx
    have ht := List.mem_range.1 ht
    unfold fTake
    split
    · show 2 * i + 1 < _; omega
    · split
      · show 2 * rawS s - 1 < _; omega
      · split
        · show 2 * (i + t / 2) < _; omega
        · show 2 * (i + t / 2 - 1) + 1 < _; omega
  · rw [hS.2]
    exact take_holds hS.1 hi k h hd
theorem good_swapU (hS : SetR left s) (hi : i < rawS s) (hP : P ≠ 0#64) (hPl : P ≠ left) (hPn : ∀ j, j < rawS s → ptrS s j ≠ P) : Good 1 left s (swapL i P) := by
  have hnm := hS.1.nm
  refine ⟨by simp [swapL], fun x hx => ?_, fun k q t h hd => ?_⟩
  · rw [swapL, List.mem_singleton] at hx
    subst hx
    show 2 * i + 1 < _; omega
  · rw [hS.2]
    exact swap_holdsU hS.1 hi hP hPl hPn k h hd
theorem good_swapD (hS : SetR left s) (hi : i < rawS s) (hP : P ≠ 0#64) (hPl : P ≠ left) (hPn : ∀ j, j < rawS s → ptrS s j ≠ P) : Good 2 left s (swapL i P) := by
  have hnm := hS.1.nm
  refine ⟨by simp [swapL], fun x hx => ?_, fun k q t h hd => ?_⟩
  · rw [swapL, List.mem_singleton] at hx
    subst hx
    show 2 * i + 1 < _; omega
  · rw [hS.2]
    exact swap_holdsD hS.1 hi hP hPl hPn k h hd
/-- Of the pairs that a settled row tells. -/
theorem set_len (hS : SetR left s) : (readL left s).length = rawS s := by rw [hS.2]; exact allP_len _ _
theorem set_get (hS : SetR left s) {j : Nat} (h : j < (readL left s).length) : (readL left s)[j] = (keyS s j, ptrS s j) := by
  have h' : j < (allP s (rawS s)).length := by rw [← hS.2]; exact h
  have : (readL left s)[j] = (allP s (rawS s))[j] := by congr 1; exact hS.2
  rw [this, allP_get]
theorem set_has (hS : SetR left s) {Q : BitVec 64} (h : hasP (readL left s) Q = false) : ∀ j, j < rawS s → ptrS s j ≠ Q := by
  intro j hj
  have hj' : j < (readL left s).length := by rw [set_len hS]; exact hj
  have := hasP_not h _ (List.getElem_mem hj')
  rw [set_get hS hj'] at this
  exact this
/-- Put: two stores of a round. -/
theorem put_step {c : Nat} (hc : c < n - i) : (List.range (1 + 2 * (c + 1))).map (fPut left s n i 1 K P) = (List.range (1 + 2 * c)).map (fPut left s n i 1 K P) ++ [(2 * (n - 1 - c) + 3, ptrS s (n - 1 - c)), (2 * (n - 1 - c) + 2, keyS s (n - 1 - c))] := by
  rw [show 1 + 2 * (c + 1) = 1 + 2 * c + 1 + 1 by omega, List.range_succ, List.range_succ]
  simp only [List.map_append, List.map_cons, List.map_nil, List.append_assoc, List.cons_append, List.nil_append]
  congr 1
  have e1 : fPut left s n i 1 K P (1 + 2 * c) = (2 * (n - 1 - c) + 3, ptrS s (n - 1 - c)) := by
    unfold fPut
    rw [if_neg (by omega), if_neg (by omega), if_pos (by omega)]
    rw [show n - (1 + 2 * c - 1) / 2 = n - 1 - c + 1 by omega]
    unfold aheadS
    rw [if_neg (by omega)]
    rfl
  have e2 : fPut left s n i 1 K P (1 + 2 * c + 1) = (2 * (n - 1 - c) + 2, keyS s (n - 1 - c)) := by
    unfold fPut
    rw [if_neg (by omega), if_neg (by omega), if_neg (by omega)]
    rw [show n - (1 + 2 * c + 1 - 1) / 2 = n - 1 - c + 1 by omega, if_neg (by omega)]
    rfl
  rw [e1, e2]
theorem put_start : (List.range (1 + 2 * 0)).map (fPut left s n i 1 K P) = [(2 * n + 3, 0#64)] := rfl
theorem put_end (hi : i ≤ n) : putL left s n i 1 K P = (List.range (1 + 2 * (n - i))).map (fPut left s n i 1 K P) ++ [(2 * i + 1, aheadS left s i), (2 * i, K), (2 * i + 1, P)] := by
  unfold putL
  rw [show 1 + 2 * (n - i) + 3 = 1 + 2 * (n - i) + 1 + 1 + 1 by omega, List.range_succ, List.range_succ, List.range_succ]
  simp only [List.map_append, List.map_cons, List.map_nil, List.append_assoc, List.cons_append, List.nil_append]
  congr 1
  have e1 : fPut left s n i 1 K P (1 + 2 * (n - i)) = (2 * i + 1, aheadS left s i) := by
    unfold fPut
    rw [if_neg (by omega), if_neg (by omega), if_pos (by omega)]
    rw [show n - (1 + 2 * (n - i) - 1) / 2 = i by omega]
  have e2 : fPut left s n i 1 K P (1 + 2 * (n - i) + 1) = (2 * i, K) := by
    unfold fPut
    rw [if_neg (by omega), if_neg (by omega), if_neg (by omega)]
    rw [show n - (1 + 2 * (n - i) + 1 - 1) / 2 = i by omega, if_pos rfl]
  have e3 : fPut left s n i 1 K P (1 + 2 * (n - i) + 1 + 1) = (2 * i + 1, P) := by
    unfold fPut
    rw [if_neg (by omega), if_pos (by omega)]
  rw [e1, e2, e3]
/-- Take: the shift's stores behind the first. -/
theorem take_step {c : Nat} (hc : c < n - 1 - i) : (List.range (1 + 2 * (c + 1))).map (fTake left s n i) = (List.range (1 + 2 * c)).map (fTake left s n i) ++ [(2 * (i + c), keyS s (i + c + 1)), (2 * (i + c) + 1, ptrS s (i + c + 1))] := by
  rw [show 1 + 2 * (c + 1) = 1 + 2 * c + 1 + 1 by omega, List.range_succ, List.range_succ]
  simp only [List.map_append, List.map_cons, List.map_nil, List.append_assoc, List.cons_append, List.nil_append]
  congr 1
  have e1 : fTake left s n i (1 + 2 * c) = (2 * (i + c), keyS s (i + c + 1)) := by
    unfold fTake
    rw [if_neg (by omega), if_neg (by omega), if_pos (by omega), show (1 + 2 * c) / 2 = c by omega]
  have e2 : fTake left s n i (1 + 2 * c + 1) = (2 * (i + c) + 1, ptrS s (i + c + 1)) := by
    unfold fTake
    rw [if_neg (by omega), if_neg (by omega), if_neg (by omega), show (1 + 2 * c + 1) / 2 = c + 1 by omega]
    congr 1
  rw [e1, e2]
/-- The shift's stores: of slots d .. m-2, then the last pointer. -/
def shiftL (s : List (BitVec 64)) (d : Nat) : Nat → List St
  | 0 => []
  | c + 1 => shiftL s d c ++ [(2 * (d + c), keyS s (d + c + 1)), (2 * (d + c) + 1, ptrS s (d + c + 1))]
theorem shiftL_len (s : List (BitVec 64)) (d : Nat) : ∀ c, (shiftL s d c).length = 2 * c
  | 0 => rfl
  | c + 1 => by show (shiftL s d c ++ _).length = _; rw [List.length_append, shiftL_len s d c]; simp; omega
theorem take_all (hi : i < n) : takeL left s n i = [(2 * i + 1, aheadS left s i)] ++ (shiftL s i (n - 1 - i) ++ [(2 * n - 1, 0#64)]) := by
  have h : ∀ c, c ≤ n - 1 - i → (List.range (1 + 2 * c)).map (fTake left s n i) = [(2 * i + 1, aheadS left s i)] ++ shiftL s i c := by
    intro c
    induction c with
    | zero => intro _; rfl
    | succ c ih =>
      intro hc
      rw [take_step (by omega), ih (by omega)]
      show _ = [(2 * i + 1, aheadS left s i)] ++ (shiftL s i c ++ _)
      rw [List.append_assoc]
  unfold takeL
  rw [show 2 * (n - 1 - i) + 2 = 1 + 2 * (n - 1 - i) + 1 by omega, List.range_succ, List.map_append, h _ (Nat.le_refl _), List.append_assoc]
  congr 2
  show [fTake left s n i (1 + 2 * (n - 1 - i))] = _
  unfold fTake
  rw [if_neg (by omega), if_pos (by omega)]
end Go.Proofs.Ytenmogokbelahaa
