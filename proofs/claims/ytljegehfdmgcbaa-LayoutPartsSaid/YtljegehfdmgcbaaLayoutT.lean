/- The plain law of parts: a scan of all words gives the items of a layout. -/
import Derived.Test.YtljegehfdmgcbaaLayoutLaw
namespace Go.Proofs.Ytljegehfdmgcbaa
open Go Go.RowKit

/-- The part of a word, by the document. -/
def refP (l : Lay) (word : Int) : Int × Int :=
  if word / 64 = 0 then (1, 0) else if word / 64 < 9 then (2, word / 64 - 1) else if word / 64 < l.r then (3, (word - 64 * l.i) / 16 + 1) else if word / 64 < l.m then (4, (word - 64 * l.r) / 16 + 1) else if word / 64 = l.m then (5, 0) else (6, word / 64)
/-- Where a part begins. -/
def fst (l : Lay) (w : Nat) : Option Itm := if w = 0 ∨ refP l w ≠ refP l ((w : Int) - 1) then some ((w : Int), (refP l w).1, (refP l w).2) else none
def scanF (l : Lay) (n : Nat) : List Itm := (List.range n).filterMap (fst l)
theorem scanF_succ (l : Lay) (n : Nat) : scanF l (n + 1) = scanF l n ++ (fst l n).toList := by
  unfold scanF
  rw [List.range_succ, List.filterMap_append]
  congr 1
/-- The last item of the scan is that of the last word. -/
theorem scanF_last (l : Lay) (n : Nat) : ∃ its it, scanF l (n + 1) = its ++ [it] ∧ it.2 = refP l n := by
  induction n with
  | zero => exact ⟨[], (0, (refP l 0).1, (refP l 0).2), by simp [scanF, fst], rfl⟩
  | succ n ih =>
    obtain ⟨its, it, h1, h2⟩ := ih
    rw [scanF_succ]
    cases h : fst l (n + 1) with
    | none =>
      refine ⟨its, it, by rw [h1]; simp, ?_⟩
      unfold fst at h
      split at h
      · cases h
      · rename_i hn
        have h3 : refP l ((n + 1 : Nat) : Int) = refP l (((n + 1 : Nat) : Int) - 1) := Classical.byContradiction fun hc => hn (.inr hc)
        rw [h2, h3]
        congr 1
        push_cast
        omega
    | some it' =>
      refine ⟨scanF l (n + 1), it', by simp, ?_⟩
      unfold fst at h
      split at h
      · injection h with h
        rw [← h]
      · cases h

/-- Words that lie n by n: one item each. -/
theorem blocks {f : Nat → Option Itm} {g : Nat → Itm} (wd : Nat) (hwd : 0 < wd) : ∀ (n a : Nat), (∀ j, j < n → f (a + j * wd) = some (g j)) → (∀ j, j < n → ∀ i, 0 < i → i < wd → f (a + j * wd + i) = none) → (List.range' a (n * wd)).filterMap f = (List.range n).map g
  | 0, a, _, _ => by simp
  | n + 1, a, h1, h2 => by
    have ih := blocks wd hwd n a (fun j hj => h1 j (by omega)) (fun j hj => h2 j (by omega))
    rw [Nat.add_mul, Nat.one_mul, ← List.range'_append_1, List.filterMap_append, ih, List.range_succ, List.map_append]
    congr 1
    obtain ⟨m, rfl⟩ : ∃ m, wd = m + 1 := ⟨wd - 1, by omega⟩
    rw [List.range'_succ, List.filterMap_cons, h1 n (by omega)]
    simp only [List.map_cons, List.map_nil]
    congr 1
    rw [List.filterMap_eq_nil_iff]
    intro x hx
    rw [List.mem_range'_1] at hx
    have := h2 n (by omega) (x - (a + n * (m + 1))) (by omega) (by omega)
    rwa [show a + n * (m + 1) + (x - (a + n * (m + 1))) = x by omega] at this
/-- Facts of a right layout, in numbers. -/
theorem right_nums {l : Lay} (h : RightL l) : l.i = 9 ∧ l.I = 4 * (l.r - 9) ∧ l.R = 4 * (l.m - l.r) ∧ l.d = l.m + 1 ∧ 4 ≤ l.I ∧ 4 ≤ l.R ∧ 4 ≤ l.B - l.d ∧ l.B ≤ 2048 := by
  obtain ⟨⟨h1, h2, h3, h4, h5⟩, h6, h7, h8, h9⟩ := h
  omega
/-- Every word of a part has that part. -/
theorem refP_eq {l : Lay} (h : RightL l) (k : Nat) (hk : k < 6) (j i : Int) (hj : 0 ≤ j) (hj2 : j < pMany l k) (hi : 0 ≤ i) (hi2 : i < pWide k) : refP l (pAt l k j + i) = (pKind k, pNum l k j) := by
  obtain ⟨e1, e2, e3, e4, e5, e6, e7, e8⟩ := right_nums h
  rcases (show k = 0 ∨ k = 1 ∨ k = 2 ∨ k = 3 ∨ k = 4 ∨ k = 5 by omega) with rfl | rfl | rfl | rfl | rfl | rfl <;>
    simp only [pMany, pWide] at hj2 hi2 <;> simp only [refP, pAt, pFrom, pWide, pKind, pNum, pFirst]
  · rw [if_pos (by omega)]
    simp
    omega
  · rw [if_neg (by omega), if_pos (by omega)]
    simp
    omega
  · rw [if_neg (by omega), if_neg (by omega), if_pos (by omega)]
    simp
    omega
  · rw [if_neg (by omega), if_neg (by omega), if_neg (by omega), if_pos (by omega)]
    simp
    omega
  · rw [if_neg (by omega), if_neg (by omega), if_neg (by omega), if_neg (by omega), if_pos (by omega)]
    simp
    omega
  · rw [if_neg (by omega), if_neg (by omega), if_neg (by omega), if_neg (by omega), if_neg (by omega)]
    simp
    omega
/-- The first word of all parts ahead. -/
def bgn (l : Lay) : Nat → Nat | 0 => 0 | k + 1 => bgn l k + (pMany l k).toNat * (pWide k).toNat
theorem bgn_from {l : Lay} (h : RightL l) : (∀ k, k < 6 → ((bgn l k : Nat) : Int) = pFrom l k * 64) ∧ ((bgn l 6 : Nat) : Int) = 64 * l.B := by
  obtain ⟨e1, e2, e3, e4, e5, e6, e7, e8⟩ := right_nums h
  have g1 : bgn l 1 = 64 := by simp [bgn, pMany, pWide]
  have g2 : bgn l 2 = 576 := by rw [bgn, g1]; simp [pMany, pWide]
  have g3 : bgn l 3 = 576 + l.I.toNat * 16 := by rw [bgn, g2]; simp [pMany, pWide]
  have g4 : bgn l 4 = 576 + l.I.toNat * 16 + l.R.toNat * 16 := by rw [bgn, g3]; simp [pMany, pWide]
  have g5 : bgn l 5 = 576 + l.I.toNat * 16 + l.R.toNat * 16 + 64 := by rw [bgn, g4]; simp [pMany, pWide]
  have g6 : bgn l 6 = 576 + l.I.toNat * 16 + l.R.toNat * 16 + 64 + (l.B - l.d).toNat * 64 := by rw [bgn, g5]; simp [pMany, pWide]
  refine ⟨fun k hk => ?_, by rw [g6]; omega⟩
  rcases (show k = 0 ∨ k = 1 ∨ k = 2 ∨ k = 3 ∨ k = 4 ∨ k = 5 by omega) with rfl | rfl | rfl | rfl | rfl | rfl
  · simp [bgn, pFrom]
  · rw [g1]; simp [pFrom]
  · rw [g2]; simp only [pFrom]; omega
  · rw [g3]; simp only [pFrom]; omega
  · rw [g4]; simp only [pFrom]; omega
  · rw [g5]; simp only [pFrom]; omega
theorem pWide_pos (k : Nat) : (pWide k = 16 ∨ pWide k = 64) := by unfold pWide; split <;> simp
theorem fst_in {l : Lay} (h : RightL l) (k : Nat) (hk : k < 6) (j i : Nat) (hj : j < (pMany l k).toNat) (hi : 0 < i) (hi2 : i < (pWide k).toNat) : fst l (bgn l k + j * (pWide k).toNat + i) = none := by
  have hb := (bgn_from h).1 k hk
  have hw := pWide_pos k
  have a1 := refP_eq h k hk j i (by omega) (by omega) (by omega) (by omega)
  have a2 := refP_eq h k hk j ((i : Int) - 1) (by omega) (by omega) (by omega) (by omega)
  have c1 : ((bgn l k + j * (pWide k).toNat + i : Nat) : Int) = pAt l k j + i := by
    unfold pAt
    rcases hw with hw | hw <;> rw [hw] <;> push_cast <;> simp <;> omega
  unfold fst
  rw [c1, if_neg]
  rintro (h0 | h0)
  · omega
  · rw [a1, show pAt l k j + (i : Int) - 1 = pAt l k j + ((i : Int) - 1) by omega, a2] at h0
    exact h0 rfl
theorem fst_at {l : Lay} (h : RightL l) (k : Nat) (hk : k < 6) (j : Nat) (hj : j < (pMany l k).toNat) : fst l (bgn l k + j * (pWide k).toNat) = some (pItem l k j) := by
  have hb := (bgn_from h).1 k hk
  have hw := pWide_pos k
  have a1 := refP_eq h k hk j 0 (by omega) (by omega) (by omega) (by omega)
  have c1 : ((bgn l k + j * (pWide k).toNat : Nat) : Int) = pAt l k j := by
    unfold pAt
    rcases hw with hw | hw <;> rw [hw] <;> push_cast <;> simp <;> omega
  rw [Int.add_zero] at a1
  unfold fst
  rw [c1, a1, if_pos]
  · rfl
  by_cases h0 : bgn l k + j * (pWide k).toNat = 0
  · exact .inl h0
  refine .inr ?_
  by_cases hj0 : j = 0
  · subst hj0
    obtain ⟨k', rfl⟩ : ∃ k', k = k' + 1 := by
      cases k with
      | zero => simp [bgn] at h0
      | succ k' => exact ⟨k', rfl⟩
    have hm := pMany_nn h k'
    have hw' := pWide_pos k'
    have hb' := (bgn_from h).1 k' (by omega)
    have hpos : 0 < pMany l k' := by
      obtain ⟨e1, e2, e3, e4, e5, e6, e7, e8⟩ := right_nums h
      unfold pMany
      split <;> omega
    have a2 := refP_eq h k' (by omega) (pMany l k' - 1) (pWide k' - 1) (by omega) (by omega) (by omega) (by omega)
    have c2 : pAt l k' (pMany l k' - 1) + (pWide k' - 1) = pAt l (k' + 1) ((0 : Nat) : Int) - 1 := by
      have hb2 : (bgn l (k' + 1) : Int) = bgn l k' + (pMany l k').toNat * (pWide k').toNat := by simp [bgn]
      rw [hb, hb'] at hb2
      unfold pAt
      rcases hw' with hw' | hw' <;> rw [hw'] at hb2 ⊢ <;> simp at hb2 ⊢ <;> omega
    rw [← c2, a2]
    intro hc
    injection hc with hc _
    simp only [pKind] at hc
    omega
  · have a2 := refP_eq h k hk ((j : Int) - 1) (pWide k - 1) (by omega) (by omega) (by omega) (by omega)
    have c2 : pAt l k ((j : Int) - 1) + (pWide k - 1) = pAt l k j - 1 := by
      unfold pAt
      rcases hw with hw | hw <;> rw [hw] <;> omega
    rw [← c2, a2]
    intro hc
    injection hc with _ hc
    unfold pNum at hc
    split at hc <;> omega
theorem scan_pre {l : Lay} (h : RightL l) : ∀ k, k ≤ 6 → scanF l (bgn l k) = (List.range k).flatMap (pItems l)
  | 0, _ => by simp [scanF, bgn]
  | k + 1, hk => by
    have ih := scan_pre h k (by omega)
    unfold scanF at ih ⊢
    rw [bgn, List.range_eq_range', ← List.range'_append_1, List.filterMap_append, ← List.range_eq_range', ih, List.range_succ, List.flatMap_append]
    congr 1
    rw [Nat.zero_add, blocks (g := pItem l k) (pWide k).toNat (by have := pWide_pos k; omega) _ _ (fun j hj => fst_at h k (by omega) j hj) (fun j hj i h1 h2 => fst_in h k (by omega) j i hj h1 h2)]
    simp [pItems]
/-- The scan of all words gives the items. -/
theorem scan_all {l : Lay} (h : RightL l) {n : Nat} (hn : (n : Int) = 64 * l.B) : scanF l n = itemsL l := by
  have h6 := (bgn_from h).2
  have : n = bgn l 6 := by omega
  subst this
  rw [scan_pre h 6 (by omega)]
  unfold itemsL
  rw [if_pos h]
end Go.Proofs.Ytljegehfdmgcbaa
