/- The plain law of changes beside a reader: no program in sight. -/
import Derived.Test.YtenmogokbelahaaRowLaw
namespace Go.Proofs.Ytenmogokbelahaa
open Go Go.RowKit

theorem ahead_pos {left : BitVec 64} {s : List (BitVec 64)} {j : Nat} (h : 0 < j) : aheadS left s j = ptrS s (j - 1) := by
  unfold aheadS
  rw [if_neg (by omega)]
/-- A pointer of the row is the pointer ahead of its next slot alone. -/
theorem ne_ahead {left : BitVec 64} {s : List (BitVec 64)} {n x y : Nat} (h : Settled left s n) (hx : x < n) (hy : y ≤ n) (hne : y ≠ x + 1) : ptrS s x ≠ aheadS left s y := by
  by_cases h0 : y = 0
  · subst h0; exact h.nl x hx
  · rw [ahead_pos (by omega)]
    intro he
    rcases Nat.lt_trichotomy x (y - 1) with hl | hl | hl
    · exact h.un x (y - 1) hl (by omega) he
    · omega
    · exact h.un (y - 1) x hl hx he.symm
theorem ahead_nz {left : BitVec 64} {s : List (BitVec 64)} {n y : Nat} (h : Settled left s n) (hy : y ≤ n) : aheadS left s y ≠ 0#64 := by
  by_cases h0 : y = 0
  · subst h0; exact h.l0
  · rw [ahead_pos (by omega)]; exact h.nz _ (by omega)
theorem ptr_ne {left : BitVec 64} {s : List (BitVec 64)} {n x y : Nat} (h : Settled left s n) (hx : x < n) (hy : y < n) (hne : x ≠ y) : ptrS s x ≠ ptrS s y := by
  rcases Nat.lt_or_gt_of_ne hne with hl | hl
  · exact h.un x y hl hy
  · exact fun he => h.un y x hl hx he.symm
theorem key_ne {left : BitVec 64} {s : List (BitVec 64)} {n x y : Nat} (h : Settled left s n) (hx : x < n) (hy : y < n) (hne : x ≠ y) : keyS s x ≠ keyS s y := by
  intro he
  rcases Nat.lt_or_gt_of_ne hne with hl | hl
  · have := keys_lt h hl hy; rw [he] at this; omega
  · have := keys_lt h hl hx; rw [he] at this; omega
/-- What a row's pairs tell of a key. -/
theorem read_none {left : BitVec 64} {s : List (BitVec 64)} {k : BitVec 64} : ∀ {r : Nat}, (∀ i, i < r → keyS s i ≠ k) → (readN left s r).find? (fun x => decide (x.1 = k)) = none
  | 0, _ => rfl
  | r + 1, h => by
    have h1 := read_none (left := left) (r := r) (fun i hi => h i (by omega))
    unfold readN
    rw [List.find?_append, h1]
    split
    · simpa using h r (by omega)
    · rfl
theorem read_some {left : BitVec 64} {s : List (BitVec 64)} {k : BitVec 64} {j : Nat} (h1 : ∀ i, i < j → keyS s i ≠ k) (h2 : keyS s j = k) (h3 : ptrS s j ≠ aheadS left s j) : ∀ {r : Nat}, j < r → (readN left s r).find? (fun x => decide (x.1 = k)) = some (k, ptrS s j)
  | 0, h => by omega
  | r + 1, h => by
    unfold readN
    rw [List.find?_append]
    by_cases hr : j = r
    · subst hr
      rw [read_none h1, if_pos h3]
      simp [h2]
    · rw [read_some h1 h2 h3 (by omega)]
      rfl
theorem pair_read {left : BitVec 64} {s : List (BitVec 64)} {k : BitVec 64} {j : Nat} (h1 : ∀ i, i < j → keyS s i ≠ k) (h2 : keyS s j = k) (h3 : ptrS s j ≠ aheadS left s j) (h4 : ∀ i, i ≤ j → ptrS s i ≠ 0#64) (h5 : j < s.length / 2) : pairP (readL left s) k = (ptrS s j, true) := by
  have hr : j < rawS s := by
    obtain ⟨r1, r2, r3⟩ := rawS_ok s
    by_cases h : j < rawS s
    · exact h
    · exact absurd (r3 (by omega)) (h4 _ (by omega))
  unfold pairP readL
  rw [read_some h1 h2 h3 hr]
theorem pair_unread {left : BitVec 64} {s : List (BitVec 64)} {k : BitVec 64} {r : Nat} (h0 : rawS s ≤ r) (h1 : ∀ i, i < r → keyS s i ≠ k) : pairP (readL left s) k = (0#64, false) := by
  unfold pairP readL
  rw [read_none (fun i hi => h1 i (by omega))]
theorem was_of {left : BitVec 64} {s : List (BitVec 64)} {n : Nat} (h : Settled left s n) (k : BitVec 64) : (∃ x, x < n ∧ keyS s x = k ∧ pairP (allP s n) k = (ptrS s x, true)) ∨ ((∀ x, x < n → keyS s x ≠ k) ∧ pairP (allP s n) k = (0#64, false)) := by
  by_cases hx : ∃ x, x < n ∧ keyS s x = k
  · obtain ⟨x, h1, h2⟩ := hx
    exact .inl ⟨x, h1, h2, by rw [← h2]; exact pair_at h h1⟩
  · have h' : ∀ x, x < n → keyS s x ≠ k := fun x h1 h2 => hx ⟨x, h1, h2⟩
    exact .inr ⟨h', pair_none h'⟩
/-- What was found is right, of a key that has pointers ahead and behind, or not. -/
def HoldOk (was will f : BitVec 64 × Bool) : Prop := (f.2 = true → (was.2 = true ∧ f.1 = was.1) ∨ (will.2 = true ∧ f.1 = will.1)) ∧ (f.2 = false → f.1 = 0#64 ∧ ¬ (was.2 = true ∧ will.2 = true))
theorem hold_of {was will : BitVec 64 × Bool} {q : Rd} (hd : q.done = true) (h1 : q.is = true → (was.2 = true ∧ q.ptr = was.1) ∨ (will.2 = true ∧ q.ptr = will.1)) (h2 : q.is = false → ¬ (was.2 = true ∧ will.2 = true)) : HoldOk was will q.found := by
  unfold Rd.found
  cases hi : q.is with
  | true =>
    rw [if_pos ⟨hd, rfl⟩]
    exact ⟨fun _ => h1 hi, fun h => (by cases h)⟩
  | false =>
    rw [if_neg (fun h => Bool.noConfusion h.2)]
    exact ⟨fun h => (by cases h), fun _ => ⟨rfl, h2 hi⟩⟩
section
variable {left : BitVec 64} {s : List (BitVec 64)} {n i : Nat} {K P : BitVec 64}
theorem ahead_put (hS : Settled left s n) (hi : i ≤ n) (hn : n + 1 < s.length / 2) {j t : Nat} (hj : j ≤ n) (ht : t ≤ (putL left s n i 1 K P).length) :
    (mkTm left s (putL left s n i 1 K P)).ahead j t = if j = 0 then left else pPut left s n i 1 P (j - 1) t := by
  unfold Tm.ahead
  by_cases h0 : j = 0
  · rw [if_pos h0, if_pos h0]; rfl
  · rw [if_neg h0, if_neg h0]
    exact (put_rows hS hi (by rw [if_pos hn]) t ht (j - 1) (by omega)).2
theorem putL_len : (putL left s n i 1 K P).length = 1 + 2 * (n - i) + 3 := by simp [putL]
theorem pPut_early {j t : Nat} (h : ¬ (i ≤ j ∧ j ≤ n ∧ 1 + 2 * (n - j) + 1 ≤ t)) (hi : i ≤ n) : pPut left s n i 1 P j t = ptrS s j := by
  unfold pPut
  rw [if_neg (by omega), if_neg h]
theorem pPut_mid {j t : Nat} (h : i ≤ j ∧ j ≤ n ∧ 1 + 2 * (n - j) + 1 ≤ t) (h' : ¬ (j = i ∧ 1 + 2 * (n - i) + 3 ≤ t)) : pPut left s n i 1 P j t = aheadS left s j := by
  unfold pPut
  rw [if_neg h', if_pos h]
theorem safe_put (hS : Settled left s n) (hi : i ≤ n) (hn : n + 1 < s.length / 2) (k : BitVec 64) :
    SafeU (mkTm left s (putL left s n i 1 K P)) (putL left s n i 1 K P).length (s.length / 2) k (fun v => (∃ x, x < n ∧ keyS s x = k ∧ v = ptrS s x) ∨ (k = K ∧ v = P)) := by
  intro j t0 t1 t2 t3 hj h01 h12 h23 h3 hk0 hk3 hp0 hpa
  have hr := fun t ht => put_rows (K := K) (P := P) hS hi (o := 1) (by rw [if_pos hn]) t ht j hj
  have e0 : keyS (rowT s (putL left s n i 1 K P) t0) j = k := hk0
  have e3 : keyS (rowT s (putL left s n i 1 K P) t3) j = k := hk3
  have e2 : (mkTm left s (putL left s n i 1 K P)).ptr j t2 = pPut left s n i 1 P j t2 := (hr t2 (by omega)).2
  rw [(hr t0 (by omega)).1] at e0
  rw [(hr t3 h3).1] at e3
  rw [e2] at hp0 hpa ⊢
  have hl := putL_len (left := left) (s := s) (n := n) (i := i) (K := K) (P := P)
  by_cases hji : j < i
  · unfold kPut at e0
    rw [if_neg (by omega)] at e0
    rw [pPut_early (by omega) hi]
    exact .inl ⟨j, by omega, e0, rfl⟩
  · by_cases hjn : n < j
    · rw [pPut_early (by omega) hi] at hp0
      exact absurd (hS.z j (by omega) hj) hp0
    · by_cases ha : j = i ∧ 1 + 2 * (n - i) + 3 ≤ t2
      · have hv : pPut left s n i 1 P j t2 = P := by unfold pPut; rw [if_pos ha]
        rw [hv]
        unfold kPut at e3
        rw [if_pos (by omega), if_pos ha.1] at e3
        exact .inr ⟨e3.symm, rfl⟩
      · by_cases hb : i ≤ j ∧ j ≤ n ∧ 1 + 2 * (n - j) + 1 ≤ t2
        · rw [pPut_mid hb ha] at hpa ⊢
          rw [ahead_put hS hi hn (by omega) (by omega)] at hpa
          by_cases h0 : j = 0
          · rw [if_pos h0] at hpa
            subst h0
            exact absurd rfl hpa
          · rw [if_neg h0] at hpa
            by_cases hc : i ≤ j - 1 ∧ j - 1 ≤ n ∧ 1 + 2 * (n - (j - 1)) + 1 ≤ t1
            · unfold kPut at e3
              rw [if_pos (by omega), if_neg (by omega)] at e3
              exact .inl ⟨j - 1, by omega, e3, ahead_pos (by omega)⟩
            · rw [pPut_early hc hi, ahead_pos (by omega)] at hpa
              exact absurd rfl hpa
        · rw [pPut_early hb hi] at hp0 ⊢
          by_cases hjn' : j = n
          · rw [hjn'] at hp0
            exact absurd (hS.z n (Nat.le_refl _) hS.nm) hp0
          · unfold kPut at e0
            rw [if_neg (by omega)] at e0
            exact .inl ⟨j, by omega, e0, rfl⟩
theorem pPut_nz (hS : Settled left s n) (hP : P ≠ 0#64) {j t : Nat} (hj : j < n ∨ (j ≤ n ∧ i ≤ j ∧ 1 + 2 * (n - j) + 1 ≤ t)) : pPut left s n i 1 P j t ≠ 0#64 := by
  unfold pPut
  split
  · exact hP
  · split
    · exact ahead_nz hS (by omega)
    · rename_i h1 h2
      exact hS.nz j (by omega)
theorem live_put (hS : Settled left s n) (hi : i ≤ n) (hn : n + 1 < s.length / 2) (hP : P ≠ 0#64) (hPn : ∀ j, j < n → ptrS s j ≠ P) {x : Nat} (hx : x < n) :
    LiveU (mkTm left s (putL left s n i 1 K P)) (putL left s n i 1 K P).length (s.length / 2) (keyS s x) x (fun t => i ≤ x ∧ 1 + 2 * (n - x) + 1 ≤ t) := by
  have hnm := hS.nm
  have hr := fun t ht j hj => put_rows (K := K) (P := P) hS hi (o := 1) (by rw [if_pos hn]) t ht j hj
  have hk : ∀ t, t ≤ (putL left s n i 1 K P).length → ∀ j, j < s.length / 2 → (mkTm left s (putL left s n i 1 K P)).key j t = kPut s n i 1 K j t := fun t ht j hj => (hr t ht j hj).1
  have hp : ∀ t, t ≤ (putL left s n i 1 K P).length → ∀ j, j < s.length / 2 → (mkTm left s (putL left s n i 1 K P)).ptr j t = pPut left s n i 1 P j t := fun t ht j hj => (hr t ht j hj).2
  refine ⟨by omega, ?_, ?_, ?_, ?_, ?_, ?_⟩
  · intro j t hj ht
    rw [hp t ht j (by omega)]
    exact pPut_nz hS hP (.inl (by omega))
  · rintro t t' ⟨h1, h2⟩ h3
    exact ⟨h1, by omega⟩
  · intro t ht hne
    rw [hk t ht x (by omega)] at hne
    unfold kPut at hne
    by_cases hc : i ≤ x ∧ x ≤ n ∧ 1 + 2 * (n - x) + 2 ≤ t
    · exact ⟨hc.1, by omega⟩
    · rw [if_neg hc] at hne
      exact absurd rfl hne
  · intro t1 t2 h12 ht he
    by_cases hm : i ≤ x ∧ 1 + 2 * (n - x) + 1 ≤ t2
    · exact hm
    · exfalso
      rw [hp t2 ht x (by omega), pPut_early (by omega) hi, ahead_put hS hi hn (by omega) (by omega)] at he
      by_cases h0 : x = 0
      · rw [if_pos h0] at he
        exact hS.nl x hx he
      · rw [if_neg h0] at he
        unfold pPut at he
        split at he
        · exact hPn x hx he
        · split at he
          · exact ne_ahead hS hx (by omega) (by omega) he
          · exact ptr_ne hS hx (by omega) (by omega) he
  · rintro t ht ⟨h1, h2⟩
    refine ⟨by omega, ?_, ?_⟩
    · rw [hk t ht (x + 1) (by omega)]
      unfold kPut
      rw [if_pos (by omega), if_neg (by omega)]
      rfl
    · rw [hp t ht (x + 1) (by omega)]
      exact pPut_nz hS hP (.inr ⟨by omega, by omega, by omega⟩)
  · rintro t1 t2 h12 ht ⟨h1, h2⟩ he
    rw [hp t2 ht (x + 1) (by omega), pPut_mid (by omega) (by omega), ahead_put hS hi hn (by omega) (by omega), if_neg (by omega), ahead_pos (by omega)] at he
    rw [show x + 1 - 1 = x from rfl] at he
    unfold pPut at he
    split at he
    · exact hPn x hx he
    · rw [if_pos (by omega)] at he
      exact ne_ahead hS hx (by omega) (by omega) he
/-- Beside a Put, read up. -/
theorem put_holds (hS : Settled left s n) (hi : i ≤ n) (hn : n + 1 < s.length / 2) (hP : P ≠ 0#64) (hPl : P ≠ left) (hPn : ∀ j, j < n → ptrS s j ≠ P) (hK : ∀ j, j < n → keyS s j ≠ K) (k : BitVec 64) {q : Rd} {t : Nat}
    (h : Rch (mkTm left s (putL left s n i 1 K P)).at (putL left s n i 1 K P).length (newR 1 (s.length / 2) k) q t) (hd : q.done = true) :
    HoldOk (pairP (allP s n) k) (pairP (readL left (rowT s (putL left s n i 1 K P) (putL left s n i 1 K P).length)) k) q.found := by
  have h1 := safeU (safe_put (K := K) (P := P) hS hi hn k) (by have := hS.l4; omega) h
  have hwill : pairP (readL left (rowT s (putL left s n i 1 K P) (putL left s n i 1 K P).length)) K = (P, true) := by
    have hl := putL_len (left := left) (s := s) (n := n) (i := i) (K := K) (P := P)
    have hr := fun j hj => put_rows (K := K) (P := P) hS hi (o := 1) (by rw [if_pos hn]) _ (Nat.le_refl _) j hj
    have hpi : ptrS (rowT s (putL left s n i 1 K P) (putL left s n i 1 K P).length) i = P := by
      rw [(hr i (by omega)).2]
      unfold pPut
      rw [if_pos ⟨rfl, by omega⟩]
    have := pair_read (left := left) (s := rowT s (putL left s n i 1 K P) (putL left s n i 1 K P).length) (k := K) (j := i) ?_ ?_ ?_ ?_ (by rw [rowT_len]; omega)
    · rw [this, hpi]
    · intro j hj
      rw [(hr j (by omega)).1]
      unfold kPut
      rw [if_neg (by omega)]
      exact hK j (by omega)
    · rw [(hr i (by omega)).1]
      unfold kPut
      rw [if_pos (by omega), if_pos rfl]
    · rw [hpi]
      by_cases h0 : i = 0
      · subst h0; exact hPl
      · rw [ahead_pos (by omega), (hr (i - 1) (by omega)).2, pPut_early (by omega) hi]
        exact fun he => hPn (i - 1) (by omega) he.symm
    · intro j hj
      rw [(hr j (by omega)).2]
      by_cases hjn : j < n
      · exact pPut_nz hS hP (.inl hjn)
      · exact pPut_nz hS hP (.inr ⟨by omega, by omega, by omega⟩)
  refine hold_of hd (fun hi' => ?_) (fun hi' hb => ?_)
  · rcases h1.2.2.2.2.1 hd hi' with ⟨x, h2, h3, h4⟩ | ⟨h2, h3⟩
    · left
      rw [← h3, pair_at hS h2]
      exact ⟨rfl, h4⟩
    · right
      rw [h2, hwill]
      exact ⟨rfl, h3⟩
  · rcases was_of hS k with ⟨x, h2, h3, -⟩ | ⟨-, h3⟩
    · subst h3
      have := (liveU (live_put (K := K) hS hi hn hP hPn h2) h).2.2.2.2.1 hd
      rw [hi'] at this
      cases this
    · rw [h3] at hb
      exact Bool.noConfusion hb.1
theorem takeL_len : (takeL left s n i).length = 2 * (n - 1 - i) + 2 := by simp [takeL]
theorem ahead_take (hS : Settled left s n) (hi : i < n) {j t : Nat} (hj : j ≤ n) (ht : t ≤ (takeL left s n i).length) :
    (mkTm left s (takeL left s n i)).ahead j t = if j = 0 then left else pTake left s n i (j - 1) t := by
  have hnm := hS.nm
  unfold Tm.ahead
  by_cases h0 : j = 0
  · rw [if_pos h0, if_pos h0]; rfl
  · rw [if_neg h0, if_neg h0]
    exact (take_rows hS hi t ht (j - 1) (by omega)).2
theorem pTake_early {j t : Nat} (h1 : ¬ (j + 1 = n ∧ 2 * (j - i) + 2 ≤ t)) (h2 : ¬ (i ≤ j ∧ j + 1 < n ∧ 2 * (j - i) + 3 ≤ t)) (h3 : ¬ (j = i ∧ 1 ≤ t)) : pTake left s n i j t = ptrS s j := by
  unfold pTake
  rw [if_neg h1, if_neg h2, if_neg h3]
theorem pTake_moved {j t : Nat} (h2 : i ≤ j ∧ j + 1 < n ∧ 2 * (j - i) + 3 ≤ t) : pTake left s n i j t = ptrS s (j + 1) := by
  unfold pTake
  rw [if_neg (by omega), if_pos h2]
theorem safe_take (hS : Settled left s n) (hi : i < n) (k : BitVec 64) :
    SafeD (mkTm left s (takeL left s n i)) (takeL left s n i).length (s.length / 2) k (fun v => ∃ x, x < n ∧ keyS s x = k ∧ v = ptrS s x) := by
  intro j t0 t1 t2 t3 hj h01 h12 h23 h3 hk0 hk3 hp0 hpa
  have hr := fun t ht => take_rows hS hi t ht j hj
  have e0 : keyS (rowT s (takeL left s n i) t0) j = k := hk0
  have e3 : keyS (rowT s (takeL left s n i) t3) j = k := hk3
  have e2 : (mkTm left s (takeL left s n i)).ptr j t1 = pTake left s n i j t1 := (hr t1 (by omega)).2
  rw [(hr t0 (by omega)).1] at e0
  rw [(hr t3 h3).1] at e3
  rw [e2] at hp0 hpa ⊢
  by_cases hjn : n ≤ j
  · rw [pTake_early (by omega) (by omega) (by omega)] at hp0
    exact absurd (hS.z j hjn hj) hp0
  · rw [ahead_take hS hi (by omega) (by omega)] at hpa
    by_cases ha : j + 1 = n ∧ 2 * (j - i) + 2 ≤ t1
    · unfold pTake at hp0
      rw [if_pos ha] at hp0
      exact absurd rfl hp0
    · by_cases hb : i ≤ j ∧ j + 1 < n ∧ 2 * (j - i) + 3 ≤ t1
      · rw [pTake_moved hb]
        unfold kTake at e3
        rw [if_pos (by omega)] at e3
        exact ⟨j + 1, by omega, e3, rfl⟩
      · by_cases hc : j = i ∧ 1 ≤ t1
        · have hv : pTake left s n i j t1 = aheadS left s i := by unfold pTake; rw [if_neg ha, if_neg hb, if_pos hc]
          rw [hv] at hpa
          by_cases h0 : j = 0
          · rw [if_pos h0] at hpa
            exfalso
            apply hpa
            rw [← hc.1, h0]; rfl
          · rw [if_neg h0, pTake_early (by omega) (by omega) (by omega)] at hpa
            exfalso
            apply hpa
            rw [← hc.1, ahead_pos (by omega)]
        · rw [pTake_early ha hb hc] at hpa ⊢
          by_cases hk : i ≤ j ∧ j + 1 < n ∧ 2 * (j - i) + 2 ≤ t0
          · exfalso
            rw [if_neg (by omega), pTake_moved (by omega)] at hpa
            apply hpa
            rw [show j - 1 + 1 = j by omega]
          · unfold kTake at e0
            rw [if_neg hk] at e0
            exact ⟨j, by omega, e0, rfl⟩
theorem live_take (hS : Settled left s n) (hi : i < n) {x : Nat} (hx : x < n) (hxi : x ≠ i) :
    LiveD (mkTm left s (takeL left s n i)) (takeL left s n i).length (s.length / 2) (keyS s x) x (fun t => i < x ∧ 2 * (x - 1 - i) + 3 ≤ t) := by
  have hnm := hS.nm
  have hr := fun t ht j hj => take_rows hS hi t ht j hj
  have hk : ∀ t, t ≤ (takeL left s n i).length → ∀ j, j < s.length / 2 → (mkTm left s (takeL left s n i)).key j t = kTake s n i j t := fun t ht j hj => (hr t ht j hj).1
  have hp : ∀ t, t ≤ (takeL left s n i).length → ∀ j, j < s.length / 2 → (mkTm left s (takeL left s n i)).ptr j t = pTake left s n i j t := fun t ht j hj => (hr t ht j hj).2
  refine ⟨by omega, ?_, ?_, ?_, ?_, ?_, ?_⟩
  · rintro t t' ⟨h1, h2⟩ h3
    exact ⟨h1, by omega⟩
  · intro t ht hne
    rw [hk t ht x (by omega)] at hne
    unfold kTake at hne
    by_cases hc : i ≤ x ∧ x + 1 < n ∧ 2 * (x - i) + 2 ≤ t
    · exact ⟨by omega, by omega⟩
    · rw [if_neg hc] at hne
      exact absurd rfl hne
  · intro t ht h0
    rw [hp t ht x (by omega)] at h0
    by_cases ha : x + 1 = n ∧ 2 * (x - i) + 2 ≤ t
    · exact ⟨by omega, by omega⟩
    · by_cases hb : i ≤ x ∧ x + 1 < n ∧ 2 * (x - i) + 3 ≤ t
      · rw [pTake_moved hb] at h0
        exact absurd h0 (hS.nz _ (by omega))
      · rw [pTake_early ha hb (by omega)] at h0
        exact absurd h0 (hS.nz _ hx)
  · intro t1 t2 h12 ht he
    by_cases hm : i < x ∧ 2 * (x - 1 - i) + 3 ≤ t2
    · exact hm
    · exfalso
      rw [hp t1 (by omega) x (by omega), pTake_early (by omega) (by omega) (by omega), ahead_take hS hi (by omega) ht] at he
      by_cases h0 : x = 0
      · rw [if_pos h0] at he
        exact hS.nl x hx he
      · rw [if_neg h0] at he
        by_cases hc : x - 1 = i ∧ 1 ≤ t2
        · have hv : pTake left s n i (x - 1) t2 = aheadS left s i := by unfold pTake; rw [if_neg (by omega), if_neg (by omega), if_pos hc]
          rw [hv] at he
          exact ne_ahead hS hx (by omega) (by omega) he
        · rw [pTake_early (by omega) (by omega) hc] at he
          exact ptr_ne hS hx (by omega) (by omega) he
  · rintro t ht ⟨h1, h2⟩
    refine ⟨by omega, ?_, ?_⟩
    · rw [hk t ht (x - 1) (by omega)]
      unfold kTake
      rw [if_pos (by omega), show x - 1 + 1 = x by omega]
    · rw [hp t ht (x - 1) (by omega), pTake_moved (by omega)]
      exact hS.nz _ (by omega)
  · rintro t1 t2 h12 ht ⟨h1, h2⟩ he
    rw [hp t1 (by omega) (x - 1) (by omega), pTake_moved (by omega), show x - 1 + 1 = x by omega, ahead_take hS hi (by omega) ht] at he
    by_cases h0 : x - 1 = 0
    · rw [if_pos h0] at he
      exact hS.nl x hx he
    · rw [if_neg h0] at he
      by_cases hb : i ≤ x - 1 - 1 ∧ x - 1 - 1 + 1 < n ∧ 2 * (x - 1 - 1 - i) + 3 ≤ t2
      · rw [pTake_moved hb] at he
        exact ptr_ne hS hx (by omega) (by omega) he
      · by_cases hc : x - 1 - 1 = i ∧ 1 ≤ t2
        · have hv : pTake left s n i (x - 1 - 1) t2 = aheadS left s i := by unfold pTake; rw [if_neg (by omega), if_neg hb, if_pos hc]
          rw [hv] at he
          exact ne_ahead hS hx (by omega) (by omega) he
        · rw [pTake_early (by omega) hb hc] at he
          exact ptr_ne hS hx (by omega) (by omega) he
/-- Beside a Take, read down. -/
theorem take_holds (hS : Settled left s n) (hi : i < n) (k : BitVec 64) {q : Rd} {t : Nat}
    (h : Rch (mkTm left s (takeL left s n i)).at (takeL left s n i).length (newR 2 (s.length / 2) k) q t) (hd : q.done = true) :
    HoldOk (pairP (allP s n) k) (pairP (readL left (rowT s (takeL left s n i) (takeL left s n i).length)) k) q.found := by
  have hnm := hS.nm
  have hm2 : 2 ≤ s.length / 2 := by have := hS.l4; omega
  have h1 := safeD (safe_take hS hi k) hm2 h
  refine hold_of hd (fun hi' => ?_) (fun hi' hb => ?_)
  · obtain ⟨x, h2, h3, h4⟩ := h1.2.2.2.2.1 hd hi'
    left
    rw [← h3, pair_at hS h2]
    exact ⟨rfl, h4⟩
  · rcases was_of hS k with ⟨x, h2, h3, -⟩ | ⟨-, h3⟩
    · by_cases hxi : x = i
      · subst hxi
        have hl := takeL_len (left := left) (s := s) (n := n) (i := x)
        have hr := fun j hj => take_rows hS hi _ (Nat.le_refl _) j hj
        have hw : pairP (readL left (rowT s (takeL left s n x) (takeL left s n x).length)) k = (0#64, false) := by
          refine pair_unread (r := n - 1) ?_ ?_
          · obtain ⟨r1, r2, r3⟩ := rawS_ok (rowT s (takeL left s n x) (takeL left s n x).length)
            by_cases hc : rawS (rowT s (takeL left s n x) (takeL left s n x).length) ≤ n - 1
            · exact hc
            · refine absurd ?_ (r2 (n - 1) (by omega))
              rw [(hr (n - 1) (by omega)).2]
              unfold pTake
              rw [if_pos (by omega)]
          · intro j hj
            rw [(hr j (by omega)).1, ← h3]
            unfold kTake
            by_cases hc : x ≤ j ∧ j + 1 < n ∧ 2 * (j - x) + 2 ≤ (takeL left s n x).length
            · rw [if_pos hc]
              exact key_ne hS (by omega) (by omega) (by omega)
            · rw [if_neg hc]
              exact key_ne hS (by omega) (by omega) (by omega)
        rw [hw] at hb
        exact Bool.noConfusion hb.2
      · subst h3
        have := (liveD (live_take hS hi h2 hxi) hm2 h).2.2.2.2.1 hd
        rw [hi'] at this
        cases this
    · rw [h3] at hb
      exact Bool.noConfusion hb.1
def pSwap (s : List (BitVec 64)) (i : Nat) (P : BitVec 64) (j t : Nat) : BitVec 64 := if j = i ∧ 1 ≤ t then P else ptrS s j
theorem swap_at (hS : Settled left s n) (hi : i < n) {j t : Nat} (ht : t ≤ (swapL i P).length) (hj : j < s.length / 2) :
    (mkTm left s (swapL i P)).key j t = keyS s j ∧ (mkTm left s (swapL i P)).ptr j t = pSwap s i P j t := swap_rows (left := left) hS hi t ht j hj
theorem pSwap_ne (hS : Settled left s n) (hPl : P ≠ left) (hPn : ∀ j, j < n → ptrS s j ≠ P) {x : Nat} (hx : x < n) (hi : i < n) {t1 t2 : Nat} (ht : t1 ≤ (swapL i P).length) : pSwap s i P x t2 ≠ (mkTm left s (swapL i P)).ahead x t1 := by
  have hnm := hS.nm
  unfold Tm.ahead
  by_cases h0 : x = 0
  · rw [if_pos h0]
    unfold pSwap
    split
    · exact hPl
    · exact hS.nl x hx
  · rw [if_neg h0, (swap_at (P := P) hS hi ht (by omega : x - 1 < s.length / 2)).2]
    unfold pSwap
    split
    · split
      · omega
      · exact fun he => hPn _ (by omega) he.symm
    · split
      · exact hPn x hx
      · exact ptr_ne hS hx (by omega) (by omega)
theorem pSwap_nz (hS : Settled left s n) (hP : P ≠ 0#64) {x t : Nat} (hx : x < n) : pSwap s i P x t ≠ 0#64 := by
  unfold pSwap
  split
  · exact hP
  · exact hS.nz x hx
theorem swap_good (hS : Settled left s n) (hi : i < n) {k : BitVec 64} {j t t' : Nat} (hj : j < s.length / 2) (ht : t ≤ (swapL i P).length) (ht' : t' ≤ (swapL i P).length) (hk : (mkTm left s (swapL i P)).key j t = k) (hp : (mkTm left s (swapL i P)).ptr j t' ≠ 0#64) :
    (∃ x, x < n ∧ keyS s x = k ∧ (mkTm left s (swapL i P)).ptr j t' = ptrS s x) ∨ (k = keyS s i ∧ (mkTm left s (swapL i P)).ptr j t' = P) := by
  rw [(swap_at hS hi ht hj).1] at hk
  rw [(swap_at hS hi ht' hj).2] at hp ⊢
  unfold pSwap at hp ⊢
  by_cases hc : j = i ∧ 1 ≤ t'
  · rw [if_pos hc]
    exact .inr ⟨by rw [← hk, hc.1], rfl⟩
  · rw [if_neg hc] at hp ⊢
    by_cases hjn : j < n
    · exact .inl ⟨j, hjn, hk, rfl⟩
    · exact absurd (hS.z j (by omega) hj) hp
theorem swap_will (hS : Settled left s n) (hi : i < n) (hP : P ≠ 0#64) (hPl : P ≠ left) (hPn : ∀ j, j < n → ptrS s j ≠ P) : pairP (readL left (rowT s (swapL i P) (swapL i P).length)) (keyS s i) = (P, true) := by
  have hnm := hS.nm
  have hr := fun j hj => swap_rows (left := left) (P := P) hS hi (swapL i P).length (Nat.le_refl _) j hj
  have hpi : ptrS (rowT s (swapL i P) (swapL i P).length) i = P := by
    rw [(hr i (by omega)).2, if_pos ⟨rfl, Nat.le_refl _⟩]
  have := pair_read (left := left) (s := rowT s (swapL i P) (swapL i P).length) (k := keyS s i) (j := i) ?_ ?_ ?_ ?_ (by rw [rowT_len]; omega)
  · rw [this, hpi]
  · intro j hj
    rw [(hr j (by omega)).1]
    exact key_ne hS (by omega) hi (by omega)
  · exact (hr i (by omega)).1
  · rw [hpi]
    by_cases h0 : i = 0
    · subst h0; exact hPl
    · rw [ahead_pos (by omega), (hr (i - 1) (by omega)).2, if_neg (by omega)]
      exact fun he => hPn (i - 1) (by omega) he.symm
  · intro j hj
    rw [(hr j (by omega)).2]
    split
    · exact hP
    · exact hS.nz j (by omega)
theorem swap_end (hS : Settled left s n) (hi : i < n) (hP : P ≠ 0#64) (hPl : P ≠ left) (hPn : ∀ j, j < n → ptrS s j ≠ P) (k : BitVec 64) {q : Rd} (hd : q.done = true)
    (hg : q.is = true → (∃ x, x < n ∧ keyS s x = k ∧ q.ptr = ptrS s x) ∨ (k = keyS s i ∧ q.ptr = P)) (hl : ∀ x, x < n → keyS s x = k → q.is = true) :
    HoldOk (pairP (allP s n) k) (pairP (readL left (rowT s (swapL i P) (swapL i P).length)) k) q.found := by
  refine hold_of hd (fun hi' => ?_) (fun hi' hb => ?_)
  · rcases hg hi' with ⟨x, h2, h3, h4⟩ | ⟨h2, h3⟩
    · left
      rw [← h3, pair_at hS h2]
      exact ⟨rfl, h4⟩
    · right
      rw [h2, swap_will hS hi hP hPl hPn]
      exact ⟨rfl, h3⟩
  · rcases was_of hS k with ⟨x, h2, h3, -⟩ | ⟨-, h3⟩
    · have := hl x h2 h3
      rw [hi'] at this
      cases this
    · rw [h3] at hb
      exact Bool.noConfusion hb.1
/-- Beside a Swap, read up. -/
theorem swap_holdsU (hS : Settled left s n) (hi : i < n) (hP : P ≠ 0#64) (hPl : P ≠ left) (hPn : ∀ j, j < n → ptrS s j ≠ P) (k : BitVec 64) {q : Rd} {t : Nat}
    (h : Rch (mkTm left s (swapL i P)).at (swapL i P).length (newR 1 (s.length / 2) k) q t) (hd : q.done = true) :
    HoldOk (pairP (allP s n) k) (pairP (readL left (rowT s (swapL i P) (swapL i P).length)) k) q.found := by
  have hnm := hS.nm
  have hm2 : 2 ≤ s.length / 2 := by have := hS.l4; omega
  have hsafe : SafeU (mkTm left s (swapL i P)) (swapL i P).length (s.length / 2) k (fun v => (∃ x, x < n ∧ keyS s x = k ∧ v = ptrS s x) ∨ (k = keyS s i ∧ v = P)) :=
    fun j t0 t1 t2 t3 hj h01 h12 h23 h3 hk0 hk3 hp0 hpa => swap_good hS hi hj (by omega) (by omega) hk0 hp0
  refine swap_end hS hi hP hPl hPn k hd ((safeU hsafe hm2 h).2.2.2.2.1 hd) (fun x hx hk => ?_)
  subst hk
  have hL : LiveU (mkTm left s (swapL i P)) (swapL i P).length (s.length / 2) (keyS s x) x (fun _ => False) := by
    refine ⟨by omega, fun j t hj ht => ?_, fun _ _ h _ => h, fun t ht hne => hne (swap_at hS hi ht (by omega)).1, fun t1 t2 h12 ht he => ?_, fun _ _ h => h.elim, fun _ _ _ _ h => h.elim⟩
    · rw [(swap_at hS hi ht (by omega)).2]
      exact pSwap_nz hS hP (by omega)
    · rw [(swap_at hS hi ht (by omega)).2] at he
      exact pSwap_ne hS hPl hPn hx hi (by omega) he
  exact (liveU hL h).2.2.2.2.1 hd
/-- Beside a Swap, read down. -/
theorem swap_holdsD (hS : Settled left s n) (hi : i < n) (hP : P ≠ 0#64) (hPl : P ≠ left) (hPn : ∀ j, j < n → ptrS s j ≠ P) (k : BitVec 64) {q : Rd} {t : Nat}
    (h : Rch (mkTm left s (swapL i P)).at (swapL i P).length (newR 2 (s.length / 2) k) q t) (hd : q.done = true) :
    HoldOk (pairP (allP s n) k) (pairP (readL left (rowT s (swapL i P) (swapL i P).length)) k) q.found := by
  have hnm := hS.nm
  have hm2 : 2 ≤ s.length / 2 := by have := hS.l4; omega
  have hsafe : SafeD (mkTm left s (swapL i P)) (swapL i P).length (s.length / 2) k (fun v => (∃ x, x < n ∧ keyS s x = k ∧ v = ptrS s x) ∨ (k = keyS s i ∧ v = P)) :=
    fun j t0 t1 t2 t3 hj h01 h12 h23 h3 hk0 hk3 hp0 hpa => swap_good hS hi hj (by omega) (by omega) hk0 hp0
  refine swap_end hS hi hP hPl hPn k hd ((safeD hsafe hm2 h).2.2.2.2.1 hd) (fun x hx hk => ?_)
  subst hk
  have hL : LiveD (mkTm left s (swapL i P)) (swapL i P).length (s.length / 2) (keyS s x) x (fun _ => False) := by
    refine ⟨by omega, fun _ _ h _ => h, fun t ht hne => hne (swap_at hS hi ht (by omega)).1, fun t ht h0 => ?_, fun t1 t2 h12 ht he => ?_, fun _ _ h => h.elim, fun _ _ _ _ h => h.elim⟩
    · rw [(swap_at hS hi ht (by omega)).2] at h0
      exact pSwap_nz hS hP hx h0
    · rw [(swap_at hS hi (by omega) (by omega)).2] at he
      exact pSwap_ne hS hPl hPn hx hi ht he
  exact (liveD hL hm2 h).2.2.2.2.1 hd
end
end Go.Proofs.Ytenmogokbelahaa
