/- The plain law of rows over time: no program in sight. -/
import Derived.Test.YtenmogokbelahaaHoldLaw
namespace Go.Proofs.Ytenmogokbelahaa
open Go Go.RowKit

abbrev St := Nat × BitVec 64
/-- A row behind its first t stores. -/
def rowT (s : List (BitVec 64)) (l : List St) (t : Nat) : List (BitVec 64) := (l.take t).foldl (fun r x => r.set x.1 x.2) s
theorem rowT_succ (s : List (BitVec 64)) (l : List St) (t : Nat) (h : t < l.length) : rowT s l (t + 1) = (rowT s l t).set l[t].1 l[t].2 := by
  unfold rowT
  rw [List.take_succ_eq_append_getElem h, List.foldl_append]
  rfl
theorem rowT_len (s : List (BitVec 64)) (l : List St) : ∀ t, (rowT s l t).length = s.length := by
  intro t
  unfold rowT
  generalize l.take t = k
  induction k generalizing s with
  | nil => rfl
  | cons a k ih => exact (ih (s.set a.1 a.2)).trans (List.length_set ..)
def mkTm (left : BitVec 64) (s : List (BitVec 64)) (l : List St) : Tm := ⟨fun j t => keyS (rowT s l t) j, fun j t => ptrS (rowT s l t) j, left⟩
theorem mkTm_at (left : BitVec 64) (s : List (BitVec 64)) (l : List St) : (mkTm left s l).at = fun i t => atW left (rowT s l t) i := by
  funext i t
  unfold Tm.at atW mkTm
  by_cases h : i < 0
  · rw [if_pos h, if_pos h]
  · rw [if_neg h, if_neg h]
    by_cases h2 : i % 2 = 0
    · rw [if_pos h2]
      show (rowT s l t).getD (2 * (i / 2).toNat) 0#64 = _
      congr 1
      omega
    · rw [if_neg h2]
      show (rowT s l t).getD (2 * (i / 2).toNat + 1) 0#64 = _
      congr 1
      omega
theorem getD_set (r : List (BitVec 64)) (a i : Nat) (v : BitVec 64) (ha : a < r.length) : (r.set a v).getD i 0#64 = if a = i then v else r.getD i 0#64 := by
  simp only [List.getD_eq_getElem?_getD, List.getElem?_set]
  by_cases h : a = i
  · rw [if_pos h, if_pos h]
    subst h
    simp [ha]
  · rw [if_neg h, if_neg h]
theorem row_char {s : List (BitVec 64)} {l : List St} {m : Nat} {kf pf : Nat → Nat → BitVec 64} (h0 : ∀ j, j < m → kf j 0 = keyS s j ∧ pf j 0 = ptrS s j)
    (hs : ∀ t (h : t < l.length), l[t].1 < s.length ∧ ∀ j, j < m → kf j (t + 1) = (if l[t].1 = 2 * j then l[t].2 else kf j t) ∧ pf j (t + 1) = (if l[t].1 = 2 * j + 1 then l[t].2 else pf j t)) :
    ∀ t, t ≤ l.length → ∀ j, j < m → keyS (rowT s l t) j = kf j t ∧ ptrS (rowT s l t) j = pf j t := by
  intro t
  induction t with
  | zero => intro _ j hj; exact ⟨(h0 j hj).1.symm, (h0 j hj).2.symm⟩
  | succ t ih =>
    intro ht j hj
    have ht' : t < l.length := by omega
    obtain ⟨h1, h2⟩ := hs t ht'
    obtain ⟨h3, h4⟩ := ih (by omega) j hj
    obtain ⟨h5, h6⟩ := h2 j hj
    have hlen : l[t].1 < (rowT s l t).length := by rw [rowT_len]; exact h1
    rw [rowT_succ s l t ht', h5, h6, ← h3, ← h4]
    exact ⟨getD_set _ _ _ _ hlen, getD_set _ _ _ _ hlen⟩
/-- The stores of a Put at slot i of n pairs. -/
def fPut (left : BitVec 64) (s : List (BitVec 64)) (n i o : Nat) (K P : BitVec 64) (t : Nat) : St :=
  if t < o then (2 * n + 3, 0#64) else if t = o + 2 * (n - i) + 2 then (2 * i + 1, P) else
  if (t - o) % 2 = 0 then (2 * (n - (t - o) / 2) + 1, aheadS left s (n - (t - o) / 2)) else (2 * (n - (t - o) / 2), if n - (t - o) / 2 = i then K else keyS s (n - (t - o) / 2 - 1))
def putL (left : BitVec 64) (s : List (BitVec 64)) (n i o : Nat) (K P : BitVec 64) : List St := (List.range (o + 2 * (n - i) + 3)).map (fPut left s n i o K P)
def kPut (s : List (BitVec 64)) (n i o : Nat) (K : BitVec 64) (j t : Nat) : BitVec 64 := if i ≤ j ∧ j ≤ n ∧ o + 2 * (n - j) + 2 ≤ t then (if j = i then K else keyS s (j - 1)) else keyS s j
def pPut (left : BitVec 64) (s : List (BitVec 64)) (n i o : Nat) (P : BitVec 64) (j t : Nat) : BitVec 64 := if j = i ∧ o + 2 * (n - i) + 3 ≤ t then P else if i ≤ j ∧ j ≤ n ∧ o + 2 * (n - j) + 1 ≤ t then aheadS left s j else ptrS s j
theorem put_rows {left : BitVec 64} {s : List (BitVec 64)} {n i o : Nat} {K P : BitVec 64} (hS : Settled left s n) (hi : i ≤ n) (ho : o = if n + 1 < s.length / 2 then 1 else 0) :
    ∀ t, t ≤ (putL left s n i o K P).length → ∀ j, j < s.length / 2 → keyS (rowT s (putL left s n i o K P) t) j = kPut s n i o K j t ∧ ptrS (rowT s (putL left s n i o K P) t) j = pPut left s n i o P j t := by
  have hev := hS.ev
  have hnm := hS.nm
  have ho1 : o ≤ 1 := by rw [ho]; split <;> omega
  have ho2 : 0 < o → n + 1 < s.length / 2 := fun h => by
    rw [ho] at h
    by_cases h' : n + 1 < s.length / 2
    · exact h'
    · rw [if_neg h'] at h; omega
  refine row_char ?_ ?_
  · intro j hj
    unfold kPut pPut
    rw [if_neg (by omega), if_neg (by omega), if_neg (by omega)]
    exact ⟨rfl, rfl⟩
  · intro t ht
    have ht' : t < o + 2 * (n - i) + 3 := by simpa [putL] using ht
    have e : (putL left s n i o K P)[t] = fPut left s n i o K P t := by simp [putL]
    rw [e]
    unfold fPut
    by_cases h1 : t < o
    · rw [if_pos h1]
      have hn1 := ho2 (by omega)
      refine ⟨by show 2 * n + 3 < _; omega, fun j hj => ⟨?_, ?_⟩⟩
      · rw [if_neg (by show ¬ (2 * n + 3 = 2 * j); omega)]
        unfold kPut
        rw [if_neg (by omega), if_neg (by omega)]
      · unfold pPut
        rw [if_neg (by omega), if_neg (by omega)]
        by_cases hj2 : 2 * n + 3 = 2 * j + 1
        · rw [if_pos hj2]
          exact hS.z j (by omega) hj
        · rw [if_neg hj2, if_neg (by omega), if_neg (by omega)]
    · rw [if_neg h1]
      by_cases h2 : t = o + 2 * (n - i) + 2
      · rw [if_pos h2]
        refine ⟨by show 2 * i + 1 < _; omega, fun j hj => ⟨?_, ?_⟩⟩
        · rw [if_neg (by show ¬ (2 * i + 1 = 2 * j); omega)]
          unfold kPut
          by_cases hc : i ≤ j ∧ j ≤ n ∧ o + 2 * (n - j) + 2 ≤ t
          · rw [if_pos (by omega), if_pos hc]
          · rw [if_neg (by omega), if_neg hc]
        · unfold pPut
          by_cases hj2 : 2 * i + 1 = 2 * j + 1
          · rw [if_pos hj2, if_pos (by omega)]
          · rw [if_neg hj2, if_neg (show ¬ (j = i ∧ o + 2 * (n - i) + 3 ≤ t + 1) by omega), if_neg (show ¬ (j = i ∧ o + 2 * (n - i) + 3 ≤ t) by omega)]
            by_cases hc : i ≤ j ∧ j ≤ n ∧ o + 2 * (n - j) + 1 ≤ t
            · rw [if_pos (by omega), if_pos hc]
            · rw [if_neg (by omega), if_neg hc]
      · rw [if_neg h2]
        by_cases h3 : (t - o) % 2 = 0
        · rw [if_pos h3]
          refine ⟨by show 2 * (n - (t - o) / 2) + 1 < _; omega, fun j hj => ⟨?_, ?_⟩⟩
          · rw [if_neg (by show ¬ (2 * (n - (t - o) / 2) + 1 = 2 * j); omega)]
            unfold kPut
            by_cases hc : i ≤ j ∧ j ≤ n ∧ o + 2 * (n - j) + 2 ≤ t
            · rw [if_pos (by omega), if_pos hc]
            · rw [if_neg (by omega), if_neg hc]
          · unfold pPut
            rw [if_neg (show ¬ (j = i ∧ o + 2 * (n - i) + 3 ≤ t + 1) by omega), if_neg (show ¬ (j = i ∧ o + 2 * (n - i) + 3 ≤ t) by omega)]
            by_cases hj2 : 2 * (n - (t - o) / 2) + 1 = 2 * j + 1
            · rw [if_pos hj2, if_pos (by omega)]
              show _ = aheadS left s (n - (t - o) / 2)
              rw [show n - (t - o) / 2 = j by omega]
            · rw [if_neg hj2]
              by_cases hc : i ≤ j ∧ j ≤ n ∧ o + 2 * (n - j) + 1 ≤ t
              · rw [if_pos (by omega), if_pos hc]
              · rw [if_neg (by omega), if_neg hc]
        · rw [if_neg h3]
          refine ⟨by show 2 * (n - (t - o) / 2) < _; omega, fun j hj => ⟨?_, ?_⟩⟩
          · unfold kPut
            by_cases hj2 : 2 * (n - (t - o) / 2) = 2 * j
            · rw [if_pos hj2, if_pos (by omega)]
              show _ = if n - (t - o) / 2 = i then K else keyS s (n - (t - o) / 2 - 1)
              rw [show n - (t - o) / 2 = j by omega]
            · rw [if_neg hj2]
              by_cases hc : i ≤ j ∧ j ≤ n ∧ o + 2 * (n - j) + 2 ≤ t
              · rw [if_pos (by omega), if_pos hc]
              · rw [if_neg (by omega), if_neg hc]
          · rw [if_neg (by show ¬ (2 * (n - (t - o) / 2) = 2 * j + 1); omega)]
            unfold pPut
            rw [if_neg (show ¬ (j = i ∧ o + 2 * (n - i) + 3 ≤ t + 1) by omega), if_neg (show ¬ (j = i ∧ o + 2 * (n - i) + 3 ≤ t) by omega)]
            by_cases hc : i ≤ j ∧ j ≤ n ∧ o + 2 * (n - j) + 1 ≤ t
            · rw [if_pos (by omega), if_pos hc]
            · rw [if_neg (by omega), if_neg hc]
/-- The stores of a Take of slot i of n pairs. -/
def fTake (left : BitVec 64) (s : List (BitVec 64)) (n i : Nat) (t : Nat) : St :=
  if t = 0 then (2 * i + 1, aheadS left s i) else if t = 2 * (n - 1 - i) + 1 then (2 * n - 1, 0#64) else
  if t % 2 = 1 then (2 * (i + t / 2), keyS s (i + t / 2 + 1)) else (2 * (i + t / 2 - 1) + 1, ptrS s (i + t / 2))
def takeL (left : BitVec 64) (s : List (BitVec 64)) (n i : Nat) : List St := (List.range (2 * (n - 1 - i) + 2)).map (fTake left s n i)
def kTake (s : List (BitVec 64)) (n i : Nat) (j t : Nat) : BitVec 64 := if i ≤ j ∧ j + 1 < n ∧ 2 * (j - i) + 2 ≤ t then keyS s (j + 1) else keyS s j
def pTake (left : BitVec 64) (s : List (BitVec 64)) (n i : Nat) (j t : Nat) : BitVec 64 := if j + 1 = n ∧ 2 * (j - i) + 2 ≤ t then 0#64 else if i ≤ j ∧ j + 1 < n ∧ 2 * (j - i) + 3 ≤ t then ptrS s (j + 1) else if j = i ∧ 1 ≤ t then aheadS left s i else ptrS s j
theorem take_rows {left : BitVec 64} {s : List (BitVec 64)} {n i : Nat} (hS : Settled left s n) (hi : i < n) :
    ∀ t, t ≤ (takeL left s n i).length → ∀ j, j < s.length / 2 → keyS (rowT s (takeL left s n i) t) j = kTake s n i j t ∧ ptrS (rowT s (takeL left s n i) t) j = pTake left s n i j t := by
  have hev := hS.ev
  have hnm := hS.nm
  refine row_char ?_ ?_
  · intro j hj
    unfold kTake pTake
    rw [if_neg (by omega), if_neg (by omega), if_neg (by omega), if_neg (by omega)]
    exact ⟨rfl, rfl⟩
  · intro t ht
    have ht' : t < 2 * (n - 1 - i) + 2 := by simpa [takeL] using ht
    have e : (takeL left s n i)[t] = fTake left s n i t := by simp [takeL]
    rw [e]
    unfold fTake
    by_cases h1 : t = 0
    · rw [if_pos h1]
      refine ⟨by show 2 * i + 1 < _; omega, fun j hj => ⟨?_, ?_⟩⟩
      · rw [if_neg (by show ¬ (2 * i + 1 = 2 * j); omega)]
        unfold kTake
        rw [if_neg (by omega), if_neg (by omega)]
      · unfold pTake
        rw [if_neg (show ¬ (j + 1 = n ∧ 2 * (j - i) + 2 ≤ t + 1) by omega), if_neg (show ¬ (i ≤ j ∧ j + 1 < n ∧ 2 * (j - i) + 3 ≤ t + 1) by omega), if_neg (show ¬ (j + 1 = n ∧ 2 * (j - i) + 2 ≤ t) by omega), if_neg (show ¬ (i ≤ j ∧ j + 1 < n ∧ 2 * (j - i) + 3 ≤ t) by omega)]
        by_cases hj2 : 2 * i + 1 = 2 * j + 1
        · rw [if_pos hj2, if_pos (by omega)]
        · rw [if_neg hj2, if_neg (by omega), if_neg (by omega)]
    · rw [if_neg h1]
      by_cases h2 : t = 2 * (n - 1 - i) + 1
      · rw [if_pos h2]
        refine ⟨by show 2 * n - 1 < _; omega, fun j hj => ⟨?_, ?_⟩⟩
        · rw [if_neg (by show ¬ (2 * n - 1 = 2 * j); omega)]
          unfold kTake
          by_cases hc : i ≤ j ∧ j + 1 < n ∧ 2 * (j - i) + 2 ≤ t
          · rw [if_pos (by omega), if_pos hc]
          · rw [if_neg (by omega), if_neg hc]
        · unfold pTake
          by_cases hj2 : 2 * n - 1 = 2 * j + 1
          · rw [if_pos hj2, if_pos (by omega)]
          · rw [if_neg hj2, if_neg (show ¬ (j + 1 = n ∧ 2 * (j - i) + 2 ≤ t + 1) by omega), if_neg (show ¬ (j + 1 = n ∧ 2 * (j - i) + 2 ≤ t) by omega)]
            by_cases hc : i ≤ j ∧ j + 1 < n ∧ 2 * (j - i) + 3 ≤ t
            · rw [if_pos (by omega), if_pos hc]
            · rw [if_neg (by omega), if_neg hc]
              by_cases hd : j = i ∧ 1 ≤ t
              · rw [if_pos (by omega), if_pos hd]
              · rw [if_neg (by omega), if_neg hd]
      · rw [if_neg h2]
        by_cases h3 : t % 2 = 1
        · rw [if_pos h3]
          refine ⟨by show 2 * (i + t / 2) < _; omega, fun j hj => ⟨?_, ?_⟩⟩
          · unfold kTake
            by_cases hj2 : 2 * (i + t / 2) = 2 * j
            · rw [if_pos hj2, if_pos (by omega)]
              show _ = keyS s (i + t / 2 + 1)
              rw [show i + t / 2 = j by omega]
            · rw [if_neg hj2]
              by_cases hc : i ≤ j ∧ j + 1 < n ∧ 2 * (j - i) + 2 ≤ t
              · rw [if_pos (by omega), if_pos hc]
              · rw [if_neg (by omega), if_neg hc]
          · rw [if_neg (by show ¬ (2 * (i + t / 2) = 2 * j + 1); omega)]
            unfold pTake
            rw [if_neg (show ¬ (j + 1 = n ∧ 2 * (j - i) + 2 ≤ t + 1) by omega), if_neg (show ¬ (j + 1 = n ∧ 2 * (j - i) + 2 ≤ t) by omega)]
            by_cases hc : i ≤ j ∧ j + 1 < n ∧ 2 * (j - i) + 3 ≤ t
            · rw [if_pos (by omega), if_pos hc]
            · rw [if_neg (by omega), if_neg hc]
              by_cases hd : j = i ∧ 1 ≤ t
              · rw [if_pos (by omega), if_pos hd]
              · rw [if_neg (by omega), if_neg hd]
        · rw [if_neg h3]
          refine ⟨by show 2 * (i + t / 2 - 1) + 1 < _; omega, fun j hj => ⟨?_, ?_⟩⟩
          · rw [if_neg (by show ¬ (2 * (i + t / 2 - 1) + 1 = 2 * j); omega)]
            unfold kTake
            by_cases hc : i ≤ j ∧ j + 1 < n ∧ 2 * (j - i) + 2 ≤ t
            · rw [if_pos (by omega), if_pos hc]
            · rw [if_neg (by omega), if_neg hc]
          · unfold pTake
            rw [if_neg (show ¬ (j + 1 = n ∧ 2 * (j - i) + 2 ≤ t + 1) by omega), if_neg (show ¬ (j + 1 = n ∧ 2 * (j - i) + 2 ≤ t) by omega)]
            by_cases hj2 : 2 * (i + t / 2 - 1) + 1 = 2 * j + 1
            · rw [if_pos hj2, if_pos (by omega)]
              show _ = ptrS s (i + t / 2)
              rw [show i + t / 2 = j + 1 by omega]
            · rw [if_neg hj2]
              by_cases hc : i ≤ j ∧ j + 1 < n ∧ 2 * (j - i) + 3 ≤ t
              · rw [if_pos (by omega), if_pos hc]
              · rw [if_neg (by omega), if_neg hc]
                by_cases hd : j = i ∧ 1 ≤ t
                · rw [if_pos (by omega), if_pos hd]
                · rw [if_neg (by omega), if_neg hd]
/-- The store of a Swap. -/
def swapL (i : Nat) (P : BitVec 64) : List St := [(2 * i + 1, P)]
theorem swap_rows {left : BitVec 64} {s : List (BitVec 64)} {n i : Nat} {P : BitVec 64} (hS : Settled left s n) (hi : i < n) :
    ∀ t, t ≤ 1 → ∀ j, j < s.length / 2 → keyS (rowT s (swapL i P) t) j = keyS s j ∧ ptrS (rowT s (swapL i P) t) j = (if j = i ∧ 1 ≤ t then P else ptrS s j) := by
  have hev := hS.ev
  have hnm := hS.nm
  refine row_char (l := swapL i P) (kf := fun j _ => keyS s j) (pf := fun j t => if j = i ∧ 1 ≤ t then P else ptrS s j) ?_ ?_
  · intro j hj
    exact ⟨rfl, if_neg (by omega)⟩
  · intro t ht
    have ht' : t = 0 := by simp [swapL] at ht; exact ht
    subst ht'
    refine ⟨by show 2 * i + 1 < _; omega, fun j hj => ⟨?_, ?_⟩⟩
    · show _ = if 2 * i + 1 = 2 * j then P else _
      rw [if_neg (by omega)]
    · show (if j = i ∧ 1 ≤ 0 + 1 then P else ptrS s j) = if 2 * i + 1 = 2 * j + 1 then P else (if j = i ∧ 1 ≤ 0 then P else ptrS s j)
      by_cases hj2 : 2 * i + 1 = 2 * j + 1
      · rw [if_pos hj2, if_pos (by omega)]
      · rw [if_neg hj2, if_neg (by omega), if_neg (by omega)]
end Go.Proofs.Ytenmogokbelahaa
