/- The plain law of a reader in a settled row that stays: no program in sight. -/
import Derived.Test.YtenmogokbelahaaSlotLaw
namespace Go.Proofs.Ytenmogokbelahaa
open Go Go.RowKit

theorem stA_add (left : BitVec 64) (s : List (BitVec 64)) (q : Rd) (k : Nat) : ∀ j, stA left s q (k + j) = stA left s (stA left s q k) j
  | 0 => rfl
  | j + 1 => by
    have e1 : stA left s q (k + (j + 1)) = if (stA left s q (k + j)).done then stA left s q (k + j) else (stA left s q (k + j)).give (atW left s (stA left s q (k + j)).wants) := rfl
    rw [e1, stA_add left s q k j]
    rfl
/-- Behind some loads a reader stands so. -/
def Goes (left : BitVec 64) (s : List (BitVec 64)) (q q' : Rd) : Prop := ∃ k, stA left s q k = q'
theorem Goes.trans {left : BitVec 64} {s : List (BitVec 64)} {a b c : Rd} (h : Goes left s a b) (k : Goes left s b c) : Goes left s a c := by
  obtain ⟨i, rfl⟩ := h
  obtain ⟨j, rfl⟩ := k
  exact ⟨i + j, stA_add left s a i j⟩
theorem Goes.refl (left : BitVec 64) (s : List (BitVec 64)) (a : Rd) : Goes left s a a := ⟨0, rfl⟩
theorem Goes.one {left : BitVec 64} {s : List (BitVec 64)} {a b : Rd} (hd : a.done = false) {v : BitVec 64} (hv : atW left s a.wants = v) (hb : a.give v = b) : Goes left s a b :=
  ⟨1, by rw [stA_succ (k := 0) hd]; show a.give (atW left s a.wants) = b; rw [hv, hb]⟩
theorem atW_key (left : BitVec 64) (s : List (BitVec 64)) (j : Nat) : atW left s (2 * (j : Int)) = keyS s j := by
  unfold atW keyS
  rw [if_neg (by omega)]
  congr 1 <;> omega
theorem atW_ptr (left : BitVec 64) (s : List (BitVec 64)) (j : Nat) : atW left s (2 * (j : Int) + 1) = ptrS s j := by
  unfold atW ptrS
  rw [if_neg (by omega)]
  congr 1 <;> omega
theorem atW_ahead (left : BitVec 64) (s : List (BitVec 64)) (j : Nat) : atW left s (2 * (j : Int) - 1) = aheadS left s j := by
  unfold atW aheadS
  by_cases h : j = 0
  · subst h; rfl
  · rw [if_neg (by omega), if_neg h]
    unfold ptrS
    congr 1
    omega
section
variable {left : BitVec 64} {s : List (BitVec 64)} {m : Nat} {key p a : BitVec 64} {ld j : Nat}
theorem up_next (hk : keyS s j ≠ key) (hp : ptrS s j ≠ 0#64) (hj : j + 1 < m) : Goes left s (Rd.mk 1 m key j 0 p a false false ld) (Rd.mk 1 m key ((j + 1 : Nat) : Int) 0 (ptrS s j) a false false (ld + 2)) := by
  refine Goes.trans (b := Rd.mk 1 m key j 4 p a false false (ld + 1)) (Goes.one rfl (atW_key left s j) (by simp [Rd.give, Rd.nxt, hk])) (Goes.one rfl (atW_ptr left s j) ?_)
  simp [Rd.give, Rd.nxt, Rd.ended, Rd.goes, hp]
  omega
theorem up_hit (hk : keyS s j = key) (hp : ptrS s j ≠ 0#64) (ha : ptrS s j ≠ aheadS left s j) : Goes left s (Rd.mk 1 m key j 0 p a false false ld) (Rd.mk 1 m key j 3 (ptrS s j) (aheadS left s j) true true (ld + 4)) := by
  refine Goes.trans (b := Rd.mk 1 m key j 1 p a false false (ld + 1)) (Goes.one rfl (atW_key left s j) (by simp [Rd.give, Rd.nxt, hk])) ?_
  refine Goes.trans (b := Rd.mk 1 m key j 2 p (aheadS left s j) false false (ld + 2)) (Goes.one rfl (atW_ahead left s j) (by simp [Rd.give, Rd.nxt])) ?_
  refine Goes.trans (b := Rd.mk 1 m key j 3 (ptrS s j) (aheadS left s j) false false (ld + 3)) (Goes.one rfl (atW_ptr left s j) (by simp [Rd.give, Rd.nxt])) ?_
  exact Goes.one rfl (atW_key left s j) (by simp [Rd.give, Rd.nxt, Rd.ended, hk, hp, ha])
theorem up_end (hp : ptrS s j = 0#64) : ∃ q, Goes left s (Rd.mk 1 m key j 0 p a false false ld) q ∧ q.done = true ∧ q.is = false := by
  by_cases hk : keyS s j = key
  · refine ⟨Rd.mk 1 m key j 3 0#64 (aheadS left s j) true false (ld + 4), ?_, rfl, rfl⟩
    refine Goes.trans (b := Rd.mk 1 m key j 1 p a false false (ld + 1)) (Goes.one rfl (atW_key left s j) (by simp [Rd.give, Rd.nxt, hk])) ?_
    refine Goes.trans (b := Rd.mk 1 m key j 2 p (aheadS left s j) false false (ld + 2)) (Goes.one rfl (atW_ahead left s j) (by simp [Rd.give, Rd.nxt])) ?_
    refine Goes.trans (b := Rd.mk 1 m key j 3 0#64 (aheadS left s j) false false (ld + 3)) (Goes.one rfl (atW_ptr left s j) (by simp [Rd.give, Rd.nxt, hp])) ?_
    exact Goes.one rfl (atW_key left s j) (by simp [Rd.give, Rd.nxt, Rd.ended])
  · refine ⟨Rd.mk 1 m key j 4 0#64 a true false (ld + 2), ?_, rfl, rfl⟩
    refine Goes.trans (b := Rd.mk 1 m key j 4 p a false false (ld + 1)) (Goes.one rfl (atW_key left s j) (by simp [Rd.give, Rd.nxt, hk])) (Goes.one rfl (atW_ptr left s j) ?_)
    simp [Rd.give, Rd.nxt, Rd.ended, hp]
/-- Down: nothing is found in a slot. -/
theorem down_next (h : keyS s j ≠ key ∨ ptrS s j = 0#64) : ∃ p' ld', Goes left s (Rd.mk 2 m key j 0 p a false false ld) (Rd.mk 2 m key ((j : Int) - 1) 0 p' a (decide ((j : Int) - 1 < 0)) false ld') := by
  by_cases hk : keyS s j = key
  · have hp : ptrS s j = 0#64 := h.resolve_left (fun h => h hk)
    refine ⟨0#64, ld + 2, ?_⟩
    refine Goes.trans (b := Rd.mk 2 m key j 1 p a false false (ld + 1)) (Goes.one rfl (atW_key left s j) (by simp [Rd.give, Rd.nxt, hk])) ?_
    exact Goes.one rfl (atW_ptr left s j) (by simp [Rd.give, Rd.nxt, Rd.goes, hp])
  · exact ⟨p, ld + 1, Goes.one rfl (atW_key left s j) (by simp [Rd.give, Rd.nxt, Rd.goes, hk])⟩
theorem down_hit (hk : keyS s j = key) (hp : ptrS s j ≠ 0#64) (ha : ptrS s j ≠ aheadS left s j) : Goes left s (Rd.mk 2 m key j 0 p a false false ld) (Rd.mk 2 m key j 3 (ptrS s j) (aheadS left s j) true true (ld + 4)) := by
  refine Goes.trans (b := Rd.mk 2 m key j 1 p a false false (ld + 1)) (Goes.one rfl (atW_key left s j) (by simp [Rd.give, Rd.nxt, hk])) ?_
  refine Goes.trans (b := Rd.mk 2 m key j 2 (ptrS s j) a false false (ld + 2)) (Goes.one rfl (atW_ptr left s j) (by simp [Rd.give, Rd.nxt, hp])) ?_
  refine Goes.trans (b := Rd.mk 2 m key j 3 (ptrS s j) (aheadS left s j) false false (ld + 3)) (Goes.one rfl (atW_ahead left s j) (by simp [Rd.give, Rd.nxt])) ?_
  exact Goes.one rfl (atW_key left s j) (by simp [Rd.give, Rd.nxt, Rd.ended, hk, hp, ha])
end
theorem ahead_ne {left : BitVec 64} {s : List (BitVec 64)} {n j : Nat} (h : Settled left s n) (hj : j < n) : ptrS s j ≠ aheadS left s j := by
  unfold aheadS
  by_cases h0 : j = 0
  · rw [if_pos h0]; exact h.nl j hj
  · rw [if_neg h0]
    exact fun he => h.un (j - 1) j (by omega) hj he.symm
theorem up_from {left : BitVec 64} {s : List (BitVec 64)} {n : Nat} (h : Settled left s n) (key : BitVec 64) : ∀ (f j : Nat) (p a : BitVec 64) (ld : Nat), n ≤ j + f → j ≤ n → (∀ i, i < j → keyS s i ≠ key) →
    ∃ q, Goes left s (Rd.mk 1 (s.length / 2) key j 0 p a false false ld) q ∧ q.done = true ∧ q.found = pairP (allP s n) key
  | 0, j, p, a, ld, h1, h2, h3 => by
    obtain rfl : j = n := by omega
    obtain ⟨q, hq, hd, hi⟩ := up_end (left := left) (m := s.length / 2) (key := key) (p := p) (a := a) (ld := ld) (h.z j (Nat.le_refl _) h.nm)
    refine ⟨q, hq, hd, ?_⟩
    rw [pair_none h3]
    unfold Rd.found
    rw [if_neg (by simp [hi])]
  | f + 1, j, p, a, ld, h1, h2, h3 => by
    by_cases hj : j = n
    · subst hj
      exact up_from h key 0 j p a ld (Nat.le_refl _) (Nat.le_refl _) h3
    · have hjn : j < n := by omega
      by_cases hk : keyS s j = key
      · refine ⟨_, up_hit hk (h.nz j hjn) (ahead_ne h hjn), rfl, ?_⟩
        rw [← hk, pair_at h hjn]
        rfl
      · obtain ⟨q, hq, hd, hf⟩ := up_from h key f (j + 1) (ptrS s j) a (ld + 2) (by omega) (by omega) (fun i hi => by
          rcases Nat.lt_succ_iff_lt_or_eq.1 hi with hi | rfl
          · exact h3 i hi
          · exact hk)
        exact ⟨q, (up_next hk (h.nz j hjn) (by have := h.nm; omega)).trans hq, hd, hf⟩
theorem down_from {left : BitVec 64} {s : List (BitVec 64)} {n : Nat} (h : Settled left s n) (key : BitVec 64) : ∀ (j : Nat) (p a : BitVec 64) (ld : Nat), j < s.length / 2 → (∀ i, j < i → i < n → keyS s i ≠ key) →
    ∃ q, Goes left s (Rd.mk 2 (s.length / 2) key j 0 p a false false ld) q ∧ q.done = true ∧ q.found = pairP (allP s n) key := by
  intro j
  induction j with
  | zero =>
    intro p a ld h1 h2
    by_cases hh : keyS s 0 ≠ key ∨ ptrS s 0 = 0#64
    · obtain ⟨p', ld', hg⟩ := down_next (left := left) (m := s.length / 2) (p := p) (a := a) (ld := ld) hh
      refine ⟨_, hg, rfl, ?_⟩
      rw [pair_none (fun i hi => by
        by_cases h0 : i = 0
        · subst h0
          rcases hh with hh | hh
          · exact hh
          · exact absurd hh (h.nz 0 hi)
        · exact h2 i (by omega) hi)]
      rfl
    · have hk : keyS s 0 = key := Classical.byContradiction fun h' => hh (.inl h')
      have hp : ptrS s 0 ≠ 0#64 := fun h' => hh (.inr h')
      have h0n : 0 < n := by
        by_cases h' : 0 < n
        · exact h'
        · exact absurd (h.z 0 (by omega) h1) hp
      refine ⟨_, down_hit hk hp (ahead_ne h h0n), rfl, ?_⟩
      rw [← hk, pair_at h h0n]
      rfl
  | succ j ih =>
    intro p a ld h1 h2
    by_cases hh : keyS s (j + 1) ≠ key ∨ ptrS s (j + 1) = 0#64
    · obtain ⟨p', ld', hg⟩ := down_next (left := left) (m := s.length / 2) (p := p) (a := a) (ld := ld) hh
      have e : Rd.mk 2 (s.length / 2) key (((j + 1 : Nat) : Int) - 1) 0 p' a (decide (((j + 1 : Nat) : Int) - 1 < 0)) false ld' = Rd.mk 2 (s.length / 2) key (j : Int) 0 p' a false false ld' := by
        congr 1
        · omega
        · exact decide_eq_false (by omega)
      rw [e] at hg
      obtain ⟨q, hq, hd, hf⟩ := ih p' a ld' (by omega) (fun i h3 h4 => by
        by_cases h0 : i = j + 1
        · subst h0
          rcases hh with hh | hh
          · exact hh
          · exact absurd hh (h.nz _ h4)
        · exact h2 i (by omega) h4)
      exact ⟨q, hg.trans hq, hd, hf⟩
    · have hk : keyS s (j + 1) = key := Classical.byContradiction fun h' => hh (.inl h')
      have hp : ptrS s (j + 1) ≠ 0#64 := fun h' => hh (.inr h')
      have h0n : j + 1 < n := by
        by_cases h' : j + 1 < n
        · exact h'
        · exact absurd (h.z (j + 1) (by omega) h1) hp
      refine ⟨_, down_hit hk hp (ahead_ne h h0n), rfl, ?_⟩
      rw [← hk, pair_at h h0n]
      rfl
/-- In a settled row that stays a reader finds the pointer of the key's pair, or none, whichever way. -/
theorem end_settled {left : BitVec 64} {s : List (BitVec 64)} {n : Nat} (h : Settled left s n) (way : Nat) (hw : way = 1 ∨ way = 2) (key : BitVec 64) : (endA left s (newR way (s.length / 2) key)).found = pairP (allP s n) key := by
  have hok : OkR (newR way (s.length / 2) key) := newR_ok hw (by have := h.l4; omega) (by have := h.l56; omega)
  have key' : ∃ q, Goes left s (newR way (s.length / 2) key) q ∧ q.done = true ∧ q.found = pairP (allP s n) key := by
    rcases hw with rfl | rfl
    · exact up_from h key n 0 0#64 0#64 0 (by omega) (Nat.zero_le _) (fun i hi => by omega)
    · have e : newR 2 (s.length / 2) key = Rd.mk 2 (s.length / 2) key ((s.length / 2 - 1 : Nat) : Int) 0 0#64 0#64 false false 0 := by
        unfold newR
        congr 1
        have := h.l4
        simp only [if_pos]
        omega
      rw [e]
      exact down_from h key (s.length / 2 - 1) 0#64 0#64 0 (by have := h.l4; omega) (fun i h1 h2 => by have := h.nm; omega)
  obtain ⟨q, ⟨k, hk⟩, hd, hf⟩ := key'
  have := stA_end (left := left) (s := s) hok (k := k) (by rw [hk]; exact hd)
  rw [← this, hk, hf]
end Go.Proofs.Ytenmogokbelahaa
