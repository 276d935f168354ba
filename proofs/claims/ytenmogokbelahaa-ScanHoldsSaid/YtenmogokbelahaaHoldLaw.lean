/- The plain law of a reader beside stores: no program in sight. -/
import Derived.Test.YtenmogokbelahaaSetLaw
namespace Go.Proofs.Ytenmogokbelahaa
open Go Go.RowKit

/-- A reader r0 may stand so behind t of T stores; V: what stands at a word behind so many stores. -/
def Rch (V : Int → Nat → BitVec 64) (T : Nat) (r0 : Rd) (q : Rd) (t : Nat) : Prop :=
  ∀ Z : Rd → Nat → Prop, Z r0 0 → (∀ q t, Z q t → t < T → Z q (t + 1)) → (∀ q t, Z q t → t ≤ T → q.done = false → Z (q.give (V q.wants t)) t) → Z q t
theorem Rch.start (V : Int → Nat → BitVec 64) (T : Nat) (r0 : Rd) : Rch V T r0 r0 0 := fun _ h _ _ => h
theorem Rch.store {V : Int → Nat → BitVec 64} {T : Nat} {r0 q : Rd} {t : Nat} (h : Rch V T r0 q t) (ht : t < T) : Rch V T r0 q (t + 1) := fun Z h0 h1 h2 => h1 q t (h Z h0 h1 h2) ht
theorem Rch.load {V : Int → Nat → BitVec 64} {T : Nat} {r0 q : Rd} {t : Nat} (h : Rch V T r0 q t) (ht : t ≤ T) (hd : q.done = false) : Rch V T r0 (q.give (V q.wants t)) t := fun Z h0 h1 h2 => h2 q t (h Z h0 h1 h2) ht hd

/-- Slots over time: keys, pointers, the pointer ahead. -/
structure Tm where
  key : Nat → Nat → BitVec 64
  ptr : Nat → Nat → BitVec 64
  left : BitVec 64
def Tm.ahead (M : Tm) (j t : Nat) : BitVec 64 := if j = 0 then M.left else M.ptr (j - 1) t
def Tm.at (M : Tm) (i : Int) (t : Nat) : BitVec 64 := if i < 0 then M.left else if i % 2 = 0 then M.key (i / 2).toNat t else M.ptr (i / 2).toNat t
theorem Tm.at_key (M : Tm) (j t : Nat) : M.at (2 * (j : Int)) t = M.key j t := by
  unfold Tm.at
  rw [if_neg (by omega), if_pos (by omega)]
  congr 1
  omega
theorem Tm.at_ptr (M : Tm) (j t : Nat) : M.at (2 * (j : Int) + 1) t = M.ptr j t := by
  unfold Tm.at
  rw [if_neg (by omega), if_neg (by omega)]
  congr 1
  omega
theorem Tm.at_ahead (M : Tm) (j t : Nat) : M.at (2 * (j : Int) - 1) t = M.ahead j t := by
  unfold Tm.at Tm.ahead
  by_cases h : j = 0
  · subst h
    rw [if_pos (by omega), if_pos rfl]
  · rw [if_neg (by omega), if_neg (by omega), if_neg h]
    congr 1
    omega
/-- What is found, if something is, is good: reader up. -/
def SafeU (M : Tm) (T m : Nat) (k : BitVec 64) (G : BitVec 64 → Prop) : Prop :=
  ∀ j t0 t1 t2 t3, j < m → t0 ≤ t1 → t1 ≤ t2 → t2 ≤ t3 → t3 ≤ T → M.key j t0 = k → M.key j t3 = k → M.ptr j t2 ≠ 0#64 → M.ptr j t2 ≠ M.ahead j t1 → G (M.ptr j t2)
def SafeD (M : Tm) (T m : Nat) (k : BitVec 64) (G : BitVec 64 → Prop) : Prop :=
  ∀ j t0 t1 t2 t3, j < m → t0 ≤ t1 → t1 ≤ t2 → t2 ≤ t3 → t3 ≤ T → M.key j t0 = k → M.key j t3 = k → M.ptr j t1 ≠ 0#64 → M.ptr j t1 ≠ M.ahead j t2 → G (M.ptr j t1)
section
variable {M : Tm} {T m : Nat} {k : BitVec 64}
/-- The state of a safe reader, up. -/
def InvU (M : Tm) (T m : Nat) (k : BitVec 64) (G : BitVec 64 → Prop) (q : Rd) (t : Nat) : Prop := t ≤ T ∧ q.way = 1 ∧ q.slots = m ∧ q.key = k ∧ (q.done = true → q.is = true → G q.ptr) ∧
  (q.done = false → q.is = false ∧ ∃ j : Nat, q.slot = j ∧ j < m ∧ (q.step = 0 ∨ (q.step = 1 ∧ ∃ t0, t0 ≤ t ∧ M.key j t0 = k) ∨ (q.step = 2 ∧ ∃ t0 t1, t0 ≤ t1 ∧ t1 ≤ t ∧ M.key j t0 = k ∧ q.ahead = M.ahead j t1) ∨
    (q.step = 3 ∧ ∃ t0 t1 t2, t0 ≤ t1 ∧ t1 ≤ t2 ∧ t2 ≤ t ∧ M.key j t0 = k ∧ q.ahead = M.ahead j t1 ∧ q.ptr = M.ptr j t2) ∨ q.step = 4))
theorem goesU {G : BitVec 64 → Prop} {q : Rd} {t j : Nat} (ht : t ≤ T) (hw : q.way = 1) (hs : q.slots = m) (hk : q.key = k) (hi : q.is = false) (hj : q.slot = j) : InvU M T m k G q.goes t := by
  unfold Rd.goes
  rw [if_pos hw]
  refine ⟨ht, hw, hs, hk, fun _ h => (by simp only at h; rw [hi] at h; cases h), fun hd => ⟨hi, j + 1, by show q.slot + 1 = _; omega, ?_, .inl rfl⟩⟩
  have := of_decide_eq_false hd
  omega
theorem safeU {G : BitVec 64 → Prop} (hS : SafeU M T m k G) (hm : 2 ≤ m) {q : Rd} {t : Nat} (h : Rch M.at T (newR 1 m k) q t) : InvU M T m k G q t := by
  refine h (InvU M T m k G) ?_ ?_ ?_
  · exact ⟨Nat.zero_le _, rfl, rfl, rfl, fun h => (by cases h), fun _ => ⟨rfl, 0, rfl, by omega, .inl rfl⟩⟩
  · rintro q t ⟨h1, h2, h3, h4, h5, h6⟩ ht
    refine ⟨ht, h2, h3, h4, h5, fun hd => ?_⟩
    obtain ⟨hi, j, e1, e2, e3⟩ := h6 hd
    refine ⟨hi, j, e1, e2, ?_⟩
    rcases e3 with e3 | ⟨e3, t0, a1, a2⟩ | ⟨e3, t0, t1, a1, a2, a3⟩ | ⟨e3, t0, t1, t2, a1, a2, a3, a4⟩ | e3
    · exact .inl e3
    · exact .inr (.inl ⟨e3, t0, by omega, a2⟩)
    · exact .inr (.inr (.inl ⟨e3, t0, t1, a1, by omega, a3⟩))
    · exact .inr (.inr (.inr (.inl ⟨e3, t0, t1, t2, a1, a2, by omega, a4⟩)))
    · exact .inr (.inr (.inr (.inr e3)))
  · rintro q t ⟨h1, h2, h3, h4, h5, h6⟩ - hd
    obtain ⟨hi, j, e1, e2, e3⟩ := h6 hd
    obtain ⟨way, slots, key, slot, step, ptr, ahead, done, is, loads⟩ := q
    simp only at h2 h3 h4 hd hi e1 e3
    subst h2 h3 h4 hd hi e1
    rcases e3 with e3 | ⟨e3, t0, a1, a2⟩ | ⟨e3, t0, t1, a1, a2, a3, a4⟩ | ⟨e3, t0, t1, t2, a1, a2, a3, a4, a5, a6⟩ | e3
    · subst e3
      have hv : M.at (Rd.mk 1 slots key j 0 ptr ahead false false loads).wants t = M.key j t := M.at_key j t
      rw [hv]
      by_cases hk : M.key j t = key
      · exact ⟨h1, rfl, rfl, rfl, fun h => (by cases h), fun _ => ⟨rfl, j, rfl, e2, .inr (.inl ⟨by simp [Rd.give, Rd.nxt, hk], t, Nat.le_refl _, hk⟩)⟩⟩
      · exact ⟨h1, rfl, rfl, rfl, fun h => (by cases h), fun _ => ⟨rfl, j, rfl, e2, .inr (.inr (.inr (.inr (by simp [Rd.give, Rd.nxt, hk]))))⟩⟩
    · subst e3
      have hv : M.at (Rd.mk 1 slots key j 1 ptr ahead false false loads).wants t = M.ahead j t := M.at_ahead j t
      rw [hv]
      exact ⟨h1, rfl, rfl, rfl, fun h => (by cases h), fun _ => ⟨rfl, j, rfl, e2, .inr (.inr (.inl ⟨rfl, t0, t, a1, Nat.le_refl _, a2, rfl⟩))⟩⟩
    · subst e3
      have hv : M.at (Rd.mk 1 slots key j 2 ptr ahead false false loads).wants t = M.ptr j t := M.at_ptr j t
      rw [hv]
      exact ⟨h1, rfl, rfl, rfl, fun h => (by cases h), fun _ => ⟨rfl, j, rfl, e2, .inr (.inr (.inr (.inl ⟨rfl, t0, t1, t, a1, a2, Nat.le_refl _, a3, a4, rfl⟩)))⟩⟩
    · subst e3
      have hv : M.at (Rd.mk 1 slots key j 3 ptr ahead false false loads).wants t = M.key j t := M.at_key j t
      rw [hv]
      show InvU M T slots key G ((Rd.mk 1 slots key j 3 ptr ahead false false (loads + 1)).ended (decide (M.key j t = key))) t
      unfold Rd.ended
      by_cases hf : decide (M.key j t = key) = true ∧ ptr ≠ 0#64 ∧ ptr ≠ ahead
      · rw [if_pos hf]
        refine ⟨h1, rfl, rfl, rfl, fun _ _ => ?_, fun h => (by cases h)⟩
        have hf2 := hf.2
        rw [a5, a6] at hf2
        show G ptr
        rw [a6]
        exact hS j t0 t1 t2 t e2 a1 a2 a3 h1 a4 (of_decide_eq_true hf.1) hf2.1 hf2.2
      · rw [if_neg hf]
        by_cases h0 : (1 : Nat) = 1 ∧ ptr = 0#64
        · rw [if_pos h0]
          exact ⟨h1, rfl, rfl, rfl, fun _ h => (by cases h), fun h => (by cases h)⟩
        · rw [if_neg h0]
          exact goesU h1 rfl rfl rfl rfl rfl
    · subst e3
      have hv : M.at (Rd.mk 1 slots key j 4 ptr ahead false false loads).wants t = M.ptr j t := M.at_ptr j t
      rw [hv]
      show InvU M T slots key G ((Rd.mk 1 slots key j 4 (M.ptr j t) ahead false false (loads + 1)).ended false) t
      unfold Rd.ended
      rw [if_neg (by simp)]
      by_cases h0 : (1 : Nat) = 1 ∧ M.ptr j t = 0#64
      · rw [if_pos h0]
        exact ⟨h1, rfl, rfl, rfl, fun _ h => (by cases h), fun h => (by cases h)⟩
      · rw [if_neg h0]
        exact goesU h1 rfl rfl rfl rfl rfl
/-- Where a reader up is bound to find something: in slot x, or, once that has moved on, in the next. -/
structure LiveU (M : Tm) (T m : Nat) (k : BitVec 64) (x : Nat) (mv : Nat → Prop) : Prop where
  xm : x < m
  nz : ∀ j t, j ≤ x → t ≤ T → M.ptr j t ≠ 0#64
  mono : ∀ t t', mv t → t ≤ t' → mv t'
  key : ∀ t, t ≤ T → M.key x t ≠ k → mv t
  ne : ∀ t1 t2, t1 ≤ t2 → t2 ≤ T → M.ptr x t2 = M.ahead x t1 → mv t2
  next : ∀ t, t ≤ T → mv t → x + 1 < m ∧ M.key (x + 1) t = k ∧ M.ptr (x + 1) t ≠ 0#64
  nextne : ∀ t1 t2, t1 ≤ t2 → t2 ≤ T → mv t1 → M.ptr (x + 1) t2 ≠ M.ahead (x + 1) t1
def InvLU (M : Tm) (T m : Nat) (k : BitVec 64) (x : Nat) (mv : Nat → Prop) (q : Rd) (t : Nat) : Prop := t ≤ T ∧ q.way = 1 ∧ q.slots = m ∧ q.key = k ∧ (q.done = true → q.is = true) ∧
  (q.done = false → q.is = false ∧ ∃ j : Nat, q.slot = j ∧ q.step ≤ 4 ∧ ((j < x ∧ (q.step = 3 → q.ptr ≠ 0#64)) ∨
    (j = x ∧ (q.step = 2 → ∃ t1, t1 ≤ t ∧ q.ahead = M.ahead x t1) ∧ (q.step = 3 → ∃ t1 t2, t1 ≤ t2 ∧ t2 ≤ t ∧ q.ahead = M.ahead x t1 ∧ q.ptr = M.ptr x t2) ∧ (q.step = 4 → mv t)) ∨
    (j = x + 1 ∧ mv t ∧ q.step ≠ 4 ∧ (q.step = 2 → ∃ t1, t1 ≤ t ∧ mv t1 ∧ q.ahead = M.ahead (x + 1) t1) ∧ (q.step = 3 → ∃ t1 t2, t1 ≤ t2 ∧ t2 ≤ t ∧ mv t1 ∧ q.ahead = M.ahead (x + 1) t1 ∧ q.ptr = M.ptr (x + 1) t2))))
/-- On to the next slot. -/
theorem goesLU {x : Nat} {mv : Nat → Prop} (hL : LiveU M T m k x mv) {q : Rd} {t j : Nat} (ht : t ≤ T) (hw : q.way = 1) (hs : q.slots = m) (hk : q.key = k) (hi : q.is = false) (hj : q.slot = j) (hjx : j < x ∨ (j = x ∧ mv t)) : InvLU M T m k x mv q.goes t := by
  have hjm : j + 1 < m := by
    rcases hjx with h | ⟨h, h'⟩
    · have := hL.xm; omega
    · subst h; exact (hL.next t ht h').1
  unfold Rd.goes
  rw [if_pos hw]
  have hnd : decide ((q.slots : Int) ≤ q.slot + 1) = false := decide_eq_false (by rw [hs, hj]; omega)
  rw [hnd]
  refine ⟨ht, hw, hs, hk, fun h => (by cases h), fun _ => ⟨hi, j + 1, by show q.slot + 1 = _; omega, Nat.zero_le _, ?_⟩⟩
  rcases hjx with h | ⟨h, h'⟩
  · by_cases hx : j + 1 < x
    · exact .inl ⟨hx, fun h => (by cases h)⟩
    · exact .inr (.inl ⟨by omega, fun h => (by cases h), fun h => (by cases h), fun h => (by cases h)⟩)
  · subst h
    exact .inr (.inr ⟨rfl, h', fun h => (by cases h), fun h => (by cases h), fun h => (by cases h)⟩)
theorem liveU {x : Nat} {mv : Nat → Prop} (hL : LiveU M T m k x mv) {q : Rd} {t : Nat} (h : Rch M.at T (newR 1 m k) q t) : InvLU M T m k x mv q t := by
  refine h (InvLU M T m k x mv) ?_ ?_ ?_
  · refine ⟨Nat.zero_le _, rfl, rfl, rfl, fun h => (by cases h), fun _ => ⟨rfl, 0, rfl, Nat.zero_le _, ?_⟩⟩
    by_cases hx : 0 < x
    · exact .inl ⟨hx, fun h => (by cases h)⟩
    · exact .inr (.inl ⟨by omega, fun h => (by cases h), fun h => (by cases h), fun h => (by cases h)⟩)
  · rintro q t ⟨h1, h2, h3, h4, h5, h6⟩ ht
    refine ⟨ht, h2, h3, h4, h5, fun hd => ?_⟩
    obtain ⟨hi, j, e1, e2, e3⟩ := h6 hd
    refine ⟨hi, j, e1, e2, ?_⟩
    rcases e3 with e3 | ⟨e3, b2, b3, b4⟩ | ⟨e3, b1, b0, b2, b3⟩
    · exact .inl e3
    · refine .inr (.inl ⟨e3, fun h => ?_, fun h => ?_, fun h => hL.mono _ _ (b4 h) (Nat.le_succ _)⟩)
      · obtain ⟨t1, c1, c2⟩ := b2 h
        exact ⟨t1, by omega, c2⟩
      · obtain ⟨t1, t2, c1, c2, c3⟩ := b3 h
        exact ⟨t1, t2, c1, by omega, c3⟩
    · refine .inr (.inr ⟨e3, hL.mono _ _ b1 (Nat.le_succ _), b0, fun h => ?_, fun h => ?_⟩)
      · obtain ⟨t1, c1, c2⟩ := b2 h
        exact ⟨t1, by omega, c2⟩
      · obtain ⟨t1, t2, c1, c2, c3⟩ := b3 h
        exact ⟨t1, t2, c1, by omega, c3⟩
  · rintro q t ⟨h1, h2, h3, h4, h5, h6⟩ - hd
    obtain ⟨hi, j, e1, e2, e3⟩ := h6 hd
    obtain ⟨way, slots, key, slot, step, ptr, ahead, done, is, loads⟩ := q
    simp only at h2 h3 h4 hd hi e1 e2 e3
    subst h2 h3 h4 hd hi e1
    have hnz : j ≤ x → M.ptr j t ≠ 0#64 := fun h => hL.nz j t h h1
    have e4 : step = 0 ∨ step = 1 ∨ step = 2 ∨ step = 3 ∨ step = 4 := by omega
    rcases e4 with rfl | rfl | rfl | rfl | rfl
    · have hv : M.at (Rd.mk 1 slots key j 0 ptr ahead false false loads).wants t = M.key j t := M.at_key j t
      rw [hv]
      by_cases hk : M.key j t = key
      · have e : (Rd.mk 1 slots key j 0 ptr ahead false false loads).give (M.key j t) = Rd.mk 1 slots key j 1 ptr ahead false false (loads + 1) := by simp [Rd.give, Rd.nxt, hk]
        rw [e]
        refine ⟨h1, rfl, rfl, rfl, fun h => (by cases h), fun _ => ⟨rfl, j, rfl, Nat.le_of_ble_eq_true rfl, ?_⟩⟩
        rcases e3 with e3 | ⟨e3, b2, b3, b4⟩ | ⟨e3, b1, b0, b2, b3⟩
        · exact .inl ⟨e3.1, fun h => (by cases h)⟩
        · exact .inr (.inl ⟨e3, fun h => (by cases h), fun h => (by cases h), fun h => (by cases h)⟩)
        · exact .inr (.inr ⟨e3, b1, fun h => (by cases h), fun h => (by cases h), fun h => (by cases h)⟩)
      · have e : (Rd.mk 1 slots key j 0 ptr ahead false false loads).give (M.key j t) = Rd.mk 1 slots key j 4 ptr ahead false false (loads + 1) := by simp [Rd.give, Rd.nxt, hk]
        rw [e]
        refine ⟨h1, rfl, rfl, rfl, fun h => (by cases h), fun _ => ⟨rfl, j, rfl, Nat.le_refl _, ?_⟩⟩
        rcases e3 with e3 | ⟨e3, b2, b3, b4⟩ | ⟨e3, b1, b0, b2, b3⟩
        · exact .inl ⟨e3.1, fun h => (by cases h)⟩
        · refine .inr (.inl ⟨e3, fun h => (by cases h), fun h => (by cases h), fun _ => hL.key t h1 ?_⟩)
          subst e3; exact hk
        · subst e3
          exact absurd (hL.next t h1 b1).2.1 hk
    · have hv : M.at (Rd.mk 1 slots key j 1 ptr ahead false false loads).wants t = M.ahead j t := M.at_ahead j t
      rw [hv]
      have e : (Rd.mk 1 slots key j 1 ptr ahead false false loads).give (M.ahead j t) = Rd.mk 1 slots key j 2 ptr (M.ahead j t) false false (loads + 1) := rfl
      rw [e]
      refine ⟨h1, rfl, rfl, rfl, fun h => (by cases h), fun _ => ⟨rfl, j, rfl, Nat.le_of_ble_eq_true rfl, ?_⟩⟩
      rcases e3 with e3 | ⟨e3, b2, b3, b4⟩ | ⟨e3, b1, b0, b2, b3⟩
      · exact .inl ⟨e3.1, fun h => (by cases h)⟩
      · exact .inr (.inl ⟨e3, fun _ => ⟨t, Nat.le_refl _, by rw [e3]⟩, fun h => (by cases h), fun h => (by cases h)⟩)
      · exact .inr (.inr ⟨e3, b1, fun h => (by cases h), fun _ => ⟨t, Nat.le_refl _, b1, by rw [e3]⟩, fun h => (by cases h)⟩)
    · have hv : M.at (Rd.mk 1 slots key j 2 ptr ahead false false loads).wants t = M.ptr j t := M.at_ptr j t
      rw [hv]
      have e : (Rd.mk 1 slots key j 2 ptr ahead false false loads).give (M.ptr j t) = Rd.mk 1 slots key j 3 (M.ptr j t) ahead false false (loads + 1) := rfl
      rw [e]
      refine ⟨h1, rfl, rfl, rfl, fun h => (by cases h), fun _ => ⟨rfl, j, rfl, Nat.le_of_ble_eq_true rfl, ?_⟩⟩
      rcases e3 with e3 | ⟨e3, b2, b3, b4⟩ | ⟨e3, b1, b0, b2, b3⟩
      · exact .inl ⟨e3.1, fun _ => hnz (by omega)⟩
      · obtain ⟨t1, c1, c2⟩ := b2 rfl
        exact .inr (.inl ⟨e3, fun h => (by cases h), fun _ => ⟨t1, t, c1, Nat.le_refl _, c2, by rw [e3]⟩, fun h => (by cases h)⟩)
      · obtain ⟨t1, c1, c2, c3⟩ := b2 rfl
        exact .inr (.inr ⟨e3, b1, fun h => (by cases h), fun h => (by cases h), fun _ => ⟨t1, t, c1, Nat.le_refl _, c2, c3, by rw [e3]⟩⟩)
    · have hv : M.at (Rd.mk 1 slots key j 3 ptr ahead false false loads).wants t = M.key j t := M.at_key j t
      rw [hv]
      show InvLU M T slots key x mv ((Rd.mk 1 slots key j 3 ptr ahead false false (loads + 1)).ended (decide (M.key j t = key))) t
      unfold Rd.ended
      by_cases hf : decide (M.key j t = key) = true ∧ ptr ≠ 0#64 ∧ ptr ≠ ahead
      · rw [if_pos hf]
        exact ⟨h1, rfl, rfl, rfl, fun _ => rfl, fun h => (by cases h)⟩
      · rw [if_neg hf]
        have hp0 : ptr ≠ 0#64 := by
          rcases e3 with e3 | ⟨e3, b2, b3, b4⟩ | ⟨e3, b1, b0, b2, b3⟩
          · exact e3.2 rfl
          · obtain ⟨t1, t2, c1, c2, c3, c4⟩ := b3 rfl
            rw [c4]
            exact hL.nz x t2 (Nat.le_refl _) (by omega)
          · obtain ⟨t1, t2, c1, c2, c3, c4, c5⟩ := b3 rfl
            rw [c5]
            exact (hL.next t2 (by omega) (hL.mono _ _ c3 c1)).2.2
        rw [if_neg (fun h => hp0 h.2)]
        refine goesLU hL h1 rfl rfl rfl rfl rfl ?_
        rcases e3 with e3 | ⟨e3, b2, b3, b4⟩ | ⟨e3, b1, b0, b2, b3⟩
        · exact .inl e3.1
        · refine .inr ⟨e3, ?_⟩
          obtain ⟨t1, t2, c1, c2, c3, c4⟩ := b3 rfl
          by_cases hk : M.key j t = key
          · have hpa : ptr = ahead := Classical.byContradiction fun h => hf ⟨decide_eq_true hk, hp0, h⟩
            exact hL.mono _ _ (hL.ne t1 t2 c1 (by omega) (by rw [← c3, ← c4]; exact hpa)) c2
          · subst e3
            exact hL.key t h1 hk
        · exfalso
          obtain ⟨t1, t2, c1, c2, c3, c4, c5⟩ := b3 rfl
          have hk : M.key j t = key := by rw [e3]; exact (hL.next t h1 b1).2.1
          have hpa : ptr = ahead := Classical.byContradiction fun h => hf ⟨decide_eq_true hk, hp0, h⟩
          exact hL.nextne t1 t2 c1 (by omega) c3 (by rw [← c4, ← c5]; exact hpa)
    · have hv : M.at (Rd.mk 1 slots key j 4 ptr ahead false false loads).wants t = M.ptr j t := M.at_ptr j t
      rw [hv]
      show InvLU M T slots key x mv ((Rd.mk 1 slots key j 4 (M.ptr j t) ahead false false (loads + 1)).ended false) t
      unfold Rd.ended
      rw [if_neg (by simp)]
      have hjx : j ≤ x ∧ (j < x ∨ (j = x ∧ mv t)) := by
        rcases e3 with e3 | ⟨e3, b2, b3, b4⟩ | ⟨e3, b1, b0, b2, b3⟩
        · exact ⟨by omega, .inl e3.1⟩
        · exact ⟨by omega, .inr ⟨e3, b4 rfl⟩⟩
        · exact absurd rfl b0
      rw [if_neg (fun h => hnz hjx.1 h.2)]
      exact goesLU hL h1 rfl rfl rfl rfl rfl hjx.2
/-- The state of a safe reader, down. -/
def InvD (M : Tm) (T m : Nat) (k : BitVec 64) (G : BitVec 64 → Prop) (q : Rd) (t : Nat) : Prop := t ≤ T ∧ q.way = 2 ∧ q.slots = m ∧ q.key = k ∧ (q.done = true → q.is = true → G q.ptr) ∧
  (q.done = false → q.is = false ∧ ∃ j : Nat, q.slot = j ∧ j < m ∧ (q.step = 0 ∨ (q.step = 1 ∧ ∃ t0, t0 ≤ t ∧ M.key j t0 = k) ∨ (q.step = 2 ∧ ∃ t0 t1, t0 ≤ t1 ∧ t1 ≤ t ∧ M.key j t0 = k ∧ q.ptr = M.ptr j t1) ∨
    (q.step = 3 ∧ ∃ t0 t1 t2, t0 ≤ t1 ∧ t1 ≤ t2 ∧ t2 ≤ t ∧ M.key j t0 = k ∧ q.ptr = M.ptr j t1 ∧ q.ahead = M.ahead j t2)))
theorem goesD {G : BitVec 64 → Prop} {q : Rd} {t j : Nat} (ht : t ≤ T) (hw : q.way = 2) (hs : q.slots = m) (hk : q.key = k) (hi : q.is = false) (hj : q.slot = j) (hjm : j < m) : InvD M T m k G q.goes t := by
  unfold Rd.goes
  rw [if_neg (by omega)]
  refine ⟨ht, hw, hs, hk, fun _ h => (by simp only at h; rw [hi] at h; cases h), fun hd => ?_⟩
  have hd' := of_decide_eq_false hd
  exact ⟨hi, j - 1, by show q.slot - 1 = _; omega, by omega, .inl rfl⟩
theorem newR_down (m : Nat) (k : BitVec 64) (hm : 2 ≤ m) : newR 2 m k = Rd.mk 2 m k ((m - 1 : Nat) : Int) 0 0#64 0#64 false false 0 := by
  unfold newR
  congr 1
  simp only [if_pos]
  omega
theorem safeD {G : BitVec 64 → Prop} (hS : SafeD M T m k G) (hm : 2 ≤ m) {q : Rd} {t : Nat} (h : Rch M.at T (newR 2 m k) q t) : InvD M T m k G q t := by
  rw [newR_down m k hm] at h
  refine h (InvD M T m k G) ?_ ?_ ?_
  · exact ⟨Nat.zero_le _, rfl, rfl, rfl, fun h => (by cases h), fun _ => ⟨rfl, m - 1, rfl, by omega, .inl rfl⟩⟩
  · rintro q t ⟨h1, h2, h3, h4, h5, h6⟩ ht
    refine ⟨ht, h2, h3, h4, h5, fun hd => ?_⟩
    obtain ⟨hi, j, e1, e2, e3⟩ := h6 hd
    refine ⟨hi, j, e1, e2, ?_⟩
    rcases e3 with e3 | ⟨e3, t0, a1, a2⟩ | ⟨e3, t0, t1, a1, a2, a3⟩ | ⟨e3, t0, t1, t2, a1, a2, a3, a4⟩
    · exact .inl e3
    · exact .inr (.inl ⟨e3, t0, by omega, a2⟩)
    · exact .inr (.inr (.inl ⟨e3, t0, t1, a1, by omega, a3⟩))
    · exact .inr (.inr (.inr ⟨e3, t0, t1, t2, a1, a2, by omega, a4⟩))
  · rintro q t ⟨h1, h2, h3, h4, h5, h6⟩ - hd
    obtain ⟨hi, j, e1, e2, e3⟩ := h6 hd
    obtain ⟨way, slots, key, slot, step, ptr, ahead, done, is, loads⟩ := q
    simp only at h2 h3 h4 hd hi e1 e3
    subst h2 h3 h4 hd hi e1
    rcases e3 with e3 | ⟨e3, t0, a1, a2⟩ | ⟨e3, t0, t1, a1, a2, a3, a4⟩ | ⟨e3, t0, t1, t2, a1, a2, a3, a4, a5, a6⟩
    · subst e3
      have hv : M.at (Rd.mk 2 slots key j 0 ptr ahead false false loads).wants t = M.key j t := M.at_key j t
      rw [hv]
      by_cases hk : M.key j t = key
      · have e : (Rd.mk 2 slots key j 0 ptr ahead false false loads).give (M.key j t) = Rd.mk 2 slots key j 1 ptr ahead false false (loads + 1) := by simp [Rd.give, Rd.nxt, hk]
        rw [e]
        exact ⟨h1, rfl, rfl, rfl, fun h => (by cases h), fun _ => ⟨rfl, j, rfl, e2, .inr (.inl ⟨rfl, t, Nat.le_refl _, hk⟩)⟩⟩
      · have e : (Rd.mk 2 slots key j 0 ptr ahead false false loads).give (M.key j t) = (Rd.mk 2 slots key j 0 ptr ahead false false (loads + 1)).goes := by simp [Rd.give, Rd.nxt, hk]
        rw [e]
        exact goesD h1 rfl rfl rfl rfl rfl e2
    · subst e3
      have hv : M.at (Rd.mk 2 slots key j 1 ptr ahead false false loads).wants t = M.ptr j t := M.at_ptr j t
      rw [hv]
      by_cases h0 : M.ptr j t = 0#64
      · have e : (Rd.mk 2 slots key j 1 ptr ahead false false loads).give (M.ptr j t) = (Rd.mk 2 slots key j 2 (M.ptr j t) ahead false false (loads + 1)).goes := by simp [Rd.give, Rd.nxt, h0]
        rw [e]
        exact goesD h1 rfl rfl rfl rfl rfl e2
      · have e : (Rd.mk 2 slots key j 1 ptr ahead false false loads).give (M.ptr j t) = Rd.mk 2 slots key j 2 (M.ptr j t) ahead false false (loads + 1) := by simp [Rd.give, Rd.nxt, h0]
        rw [e]
        exact ⟨h1, rfl, rfl, rfl, fun h => (by cases h), fun _ => ⟨rfl, j, rfl, e2, .inr (.inr (.inl ⟨rfl, t0, t, a1, Nat.le_refl _, a2, rfl⟩))⟩⟩
    · subst e3
      have hv : M.at (Rd.mk 2 slots key j 2 ptr ahead false false loads).wants t = M.ahead j t := M.at_ahead j t
      rw [hv]
      exact ⟨h1, rfl, rfl, rfl, fun h => (by cases h), fun _ => ⟨rfl, j, rfl, e2, .inr (.inr (.inr ⟨rfl, t0, t1, t, a1, a2, Nat.le_refl _, a3, a4, rfl⟩))⟩⟩
    · subst e3
      have hv : M.at (Rd.mk 2 slots key j 3 ptr ahead false false loads).wants t = M.key j t := M.at_key j t
      rw [hv]
      show InvD M T slots key G ((Rd.mk 2 slots key j 3 ptr ahead false false (loads + 1)).ended (decide (M.key j t = key))) t
      unfold Rd.ended
      by_cases hf : decide (M.key j t = key) = true ∧ ptr ≠ 0#64 ∧ ptr ≠ ahead
      · rw [if_pos hf]
        refine ⟨h1, rfl, rfl, rfl, fun _ _ => ?_, fun h => (by cases h)⟩
        have hf2 := hf.2
        rw [a5, a6] at hf2
        show G ptr
        rw [a5]
        exact hS j t0 t1 t2 t e2 a1 a2 a3 h1 a4 (of_decide_eq_true hf.1) hf2.1 hf2.2
      · rw [if_neg hf, if_neg (fun h => absurd (show (2 : Nat) = 1 from h.1) (by decide))]
        exact goesD h1 rfl rfl rfl rfl rfl e2
/-- Where a reader down is bound to find something: in slot x, or, once that has moved on, in the one ahead. -/
structure LiveD (M : Tm) (T m : Nat) (k : BitVec 64) (x : Nat) (mv : Nat → Prop) : Prop where
  xm : x < m
  mono : ∀ t t', mv t → t ≤ t' → mv t'
  key : ∀ t, t ≤ T → M.key x t ≠ k → mv t
  zero : ∀ t, t ≤ T → M.ptr x t = 0#64 → mv t
  ne : ∀ t1 t2, t1 ≤ t2 → t2 ≤ T → M.ptr x t1 = M.ahead x t2 → mv t2
  next : ∀ t, t ≤ T → mv t → 1 ≤ x ∧ M.key (x - 1) t = k ∧ M.ptr (x - 1) t ≠ 0#64
  nextne : ∀ t1 t2, t1 ≤ t2 → t2 ≤ T → mv t1 → M.ptr (x - 1) t1 ≠ M.ahead (x - 1) t2
def InvLD (M : Tm) (T m : Nat) (k : BitVec 64) (x : Nat) (mv : Nat → Prop) (q : Rd) (t : Nat) : Prop := t ≤ T ∧ q.way = 2 ∧ q.slots = m ∧ q.key = k ∧ (q.done = true → q.is = true) ∧
  (q.done = false → q.is = false ∧ ∃ j : Nat, q.slot = j ∧ q.step ≤ 3 ∧ (x < j ∨
    (j = x ∧ (q.step = 2 → ∃ t1, t1 ≤ t ∧ q.ptr = M.ptr x t1) ∧ (q.step = 3 → ∃ t1 t2, t1 ≤ t2 ∧ t2 ≤ t ∧ q.ptr = M.ptr x t1 ∧ q.ahead = M.ahead x t2)) ∨
    (j + 1 = x ∧ mv t ∧ (q.step = 2 → ∃ t1, t1 ≤ t ∧ mv t1 ∧ q.ptr = M.ptr (x - 1) t1) ∧ (q.step = 3 → ∃ t1 t2, t1 ≤ t2 ∧ t2 ≤ t ∧ mv t1 ∧ q.ptr = M.ptr (x - 1) t1 ∧ q.ahead = M.ahead (x - 1) t2))))
theorem goesLD {x : Nat} {mv : Nat → Prop} (hL : LiveD M T m k x mv) {q : Rd} {t j : Nat} (ht : t ≤ T) (hw : q.way = 2) (hs : q.slots = m) (hk : q.key = k) (hi : q.is = false) (hj : q.slot = j) (hjx : x < j ∨ (j = x ∧ mv t)) : InvLD M T m k x mv q.goes t := by
  have hj1 : 1 ≤ j := by
    rcases hjx with h | ⟨h, h'⟩
    · omega
    · subst h; exact (hL.next t ht h').1
  unfold Rd.goes
  rw [if_neg (by omega)]
  have hnd : decide (q.slot - 1 < 0) = false := decide_eq_false (by omega)
  rw [hnd]
  refine ⟨ht, hw, hs, hk, fun h => (by cases h), fun _ => ⟨hi, j - 1, by show q.slot - 1 = _; omega, Nat.zero_le _, ?_⟩⟩
  rcases hjx with h | ⟨h, h'⟩
  · by_cases hx : x < j - 1
    · exact .inl hx
    · exact .inr (.inl ⟨by omega, fun h => (by cases h), fun h => (by cases h)⟩)
  · exact .inr (.inr ⟨by omega, h', fun h => (by cases h), fun h => (by cases h)⟩)
theorem liveD {x : Nat} {mv : Nat → Prop} (hL : LiveD M T m k x mv) (hm : 2 ≤ m) {q : Rd} {t : Nat} (h : Rch M.at T (newR 2 m k) q t) : InvLD M T m k x mv q t := by
  rw [newR_down m k hm] at h
  refine h (InvLD M T m k x mv) ?_ ?_ ?_
  · refine ⟨Nat.zero_le _, rfl, rfl, rfl, fun h => (by cases h), fun _ => ⟨rfl, m - 1, rfl, Nat.zero_le _, ?_⟩⟩
    by_cases hx : x < m - 1
    · exact .inl hx
    · exact .inr (.inl ⟨by have := hL.xm; omega, fun h => (by cases h), fun h => (by cases h)⟩)
  · rintro q t ⟨h1, h2, h3, h4, h5, h6⟩ ht
    refine ⟨ht, h2, h3, h4, h5, fun hd => ?_⟩
    obtain ⟨hi, j, e1, e2, e3⟩ := h6 hd
    refine ⟨hi, j, e1, e2, ?_⟩
    rcases e3 with e3 | ⟨e3, b2, b3⟩ | ⟨e3, b1, b2, b3⟩
    · exact .inl e3
    · refine .inr (.inl ⟨e3, fun h => ?_, fun h => ?_⟩)
      · obtain ⟨t1, c1, c2⟩ := b2 h
        exact ⟨t1, by omega, c2⟩
      · obtain ⟨t1, t2, c1, c2, c3⟩ := b3 h
        exact ⟨t1, t2, c1, by omega, c3⟩
    · refine .inr (.inr ⟨e3, hL.mono _ _ b1 (Nat.le_succ _), fun h => ?_, fun h => ?_⟩)
      · obtain ⟨t1, c1, c2⟩ := b2 h
        exact ⟨t1, by omega, c2⟩
      · obtain ⟨t1, t2, c1, c2, c3⟩ := b3 h
        exact ⟨t1, t2, c1, by omega, c3⟩
  · rintro q t ⟨h1, h2, h3, h4, h5, h6⟩ - hd
    obtain ⟨hi, j, e1, e2, e3⟩ := h6 hd
    obtain ⟨way, slots, key, slot, step, ptr, ahead, done, is, loads⟩ := q
    simp only at h2 h3 h4 hd hi e1 e2 e3
    subst h2 h3 h4 hd hi e1
    have e4 : step = 0 ∨ step = 1 ∨ step = 2 ∨ step = 3 := by omega
    rcases e4 with rfl | rfl | rfl | rfl
    · have hv : M.at (Rd.mk 2 slots key j 0 ptr ahead false false loads).wants t = M.key j t := M.at_key j t
      rw [hv]
      by_cases hk : M.key j t = key
      · have e : (Rd.mk 2 slots key j 0 ptr ahead false false loads).give (M.key j t) = Rd.mk 2 slots key j 1 ptr ahead false false (loads + 1) := by simp [Rd.give, Rd.nxt, hk]
        rw [e]
        refine ⟨h1, rfl, rfl, rfl, fun h => (by cases h), fun _ => ⟨rfl, j, rfl, Nat.le_of_ble_eq_true rfl, ?_⟩⟩
        rcases e3 with e3 | ⟨e3, b2, b3⟩ | ⟨e3, b1, b2, b3⟩
        · exact .inl e3
        · exact .inr (.inl ⟨e3, fun h => (by cases h), fun h => (by cases h)⟩)
        · exact .inr (.inr ⟨e3, b1, fun h => (by cases h), fun h => (by cases h)⟩)
      · have e : (Rd.mk 2 slots key j 0 ptr ahead false false loads).give (M.key j t) = (Rd.mk 2 slots key j 0 ptr ahead false false (loads + 1)).goes := by simp [Rd.give, Rd.nxt, hk]
        rw [e]
        refine goesLD hL h1 rfl rfl rfl rfl rfl ?_
        rcases e3 with e3 | ⟨e3, b2, b3⟩ | ⟨e3, b1, b2, b3⟩
        · exact .inl e3
        · subst e3
          exact .inr ⟨rfl, hL.key t h1 hk⟩
        · exfalso
          have := (hL.next t h1 b1).2.1
          rw [show x - 1 = j by omega] at this
          exact hk this
    · have hv : M.at (Rd.mk 2 slots key j 1 ptr ahead false false loads).wants t = M.ptr j t := M.at_ptr j t
      rw [hv]
      by_cases h0 : M.ptr j t = 0#64
      · have e : (Rd.mk 2 slots key j 1 ptr ahead false false loads).give (M.ptr j t) = (Rd.mk 2 slots key j 2 (M.ptr j t) ahead false false (loads + 1)).goes := by simp [Rd.give, Rd.nxt, h0]
        rw [e]
        refine goesLD hL h1 rfl rfl rfl rfl rfl ?_
        rcases e3 with e3 | ⟨e3, b2, b3⟩ | ⟨e3, b1, b2, b3⟩
        · exact .inl e3
        · subst e3
          exact .inr ⟨rfl, hL.zero t h1 h0⟩
        · exfalso
          have := (hL.next t h1 b1).2.2
          rw [show x - 1 = j by omega] at this
          exact this h0
      · have e : (Rd.mk 2 slots key j 1 ptr ahead false false loads).give (M.ptr j t) = Rd.mk 2 slots key j 2 (M.ptr j t) ahead false false (loads + 1) := by simp [Rd.give, Rd.nxt, h0]
        rw [e]
        refine ⟨h1, rfl, rfl, rfl, fun h => (by cases h), fun _ => ⟨rfl, j, rfl, Nat.le_of_ble_eq_true rfl, ?_⟩⟩
        rcases e3 with e3 | ⟨e3, b2, b3⟩ | ⟨e3, b1, b2, b3⟩
        · exact .inl e3
        · exact .inr (.inl ⟨e3, fun _ => ⟨t, Nat.le_refl _, by rw [e3]⟩, fun h => (by cases h)⟩)
        · exact .inr (.inr ⟨e3, b1, fun _ => ⟨t, Nat.le_refl _, b1, by rw [show x - 1 = j by omega]⟩, fun h => (by cases h)⟩)
    · have hv : M.at (Rd.mk 2 slots key j 2 ptr ahead false false loads).wants t = M.ahead j t := M.at_ahead j t
      rw [hv]
      have e : (Rd.mk 2 slots key j 2 ptr ahead false false loads).give (M.ahead j t) = Rd.mk 2 slots key j 3 ptr (M.ahead j t) false false (loads + 1) := rfl
      rw [e]
      refine ⟨h1, rfl, rfl, rfl, fun h => (by cases h), fun _ => ⟨rfl, j, rfl, Nat.le_refl _, ?_⟩⟩
      rcases e3 with e3 | ⟨e3, b2, b3⟩ | ⟨e3, b1, b2, b3⟩
      · exact .inl e3
      · obtain ⟨t1, c1, c2⟩ := b2 rfl
        exact .inr (.inl ⟨e3, fun h => (by cases h), fun _ => ⟨t1, t, c1, Nat.le_refl _, c2, by rw [e3]⟩⟩)
      · obtain ⟨t1, c1, c2, c3⟩ := b2 rfl
        exact .inr (.inr ⟨e3, b1, fun h => (by cases h), fun _ => ⟨t1, t, c1, Nat.le_refl _, c2, c3, by rw [show x - 1 = j by omega]⟩⟩)
    · have hv : M.at (Rd.mk 2 slots key j 3 ptr ahead false false loads).wants t = M.key j t := M.at_key j t
      rw [hv]
      show InvLD M T slots key x mv ((Rd.mk 2 slots key j 3 ptr ahead false false (loads + 1)).ended (decide (M.key j t = key))) t
      unfold Rd.ended
      by_cases hf : decide (M.key j t = key) = true ∧ ptr ≠ 0#64 ∧ ptr ≠ ahead
      · rw [if_pos hf]
        exact ⟨h1, rfl, rfl, rfl, fun _ => rfl, fun h => (by cases h)⟩
      · rw [if_neg hf, if_neg (fun h => absurd (show (2 : Nat) = 1 from h.1) (by decide))]
        refine goesLD hL h1 rfl rfl rfl rfl rfl ?_
        rcases e3 with e3 | ⟨e3, b2, b3⟩ | ⟨e3, b1, b2, b3⟩
        · exact .inl e3
        · refine .inr ⟨e3, ?_⟩
          obtain ⟨t1, t2, c1, c2, c3, c4⟩ := b3 rfl
          by_cases hk : M.key j t = key
          · by_cases h0 : ptr = 0#64
            · exact hL.mono _ _ (hL.zero t1 (by omega) (by rw [← c3]; exact h0)) (by omega)
            · have hpa : ptr = ahead := Classical.byContradiction fun h => hf ⟨decide_eq_true hk, h0, h⟩
              exact hL.mono _ _ (hL.ne t1 t2 c1 (by omega) (by rw [← c3, ← c4]; exact hpa)) c2
          · subst e3
            exact hL.key t h1 hk
        · exfalso
          obtain ⟨t1, t2, c1, c2, c3, c4, c5⟩ := b3 rfl
          have hk : M.key j t = key := by rw [show j = x - 1 by omega]; exact (hL.next t h1 b1).2.1
          have h0 : ptr ≠ 0#64 := by rw [c4]; exact (hL.next t1 (by omega) c3).2.2
          have hpa : ptr = ahead := Classical.byContradiction fun h => hf ⟨decide_eq_true hk, h0, h⟩
          exact hL.nextne t1 t2 c1 (by omega) c3 (by rw [← c4, ← c5]; exact hpa)
end
end Go.Proofs.Ytenmogokbelahaa
