/- The plain law of readers: no program in sight. -/
import Derived.Test.YtenmogokbelahaaMem
namespace Go.Proofs.Ytenmogokbelahaa
open Go Go.RowKit

/-- A reader: its way (1 up, 2 down), how many slots, the key, the slot, which load comes next, what was loaded, what is found. -/
structure Rd where
  way : Nat
  slots : Nat
  key : BitVec 64
  slot : Int
  step : Nat
  ptr : BitVec 64
  ahead : BitVec 64
  done : Bool
  is : Bool
  loads : Nat

def newR (way slots : Nat) (key : BitVec 64) : Rd := ⟨way, slots, key, if way = 2 then (slots : Int) - 1 else 0, 0, 0#64, 0#64, false, false, 0⟩
def Rd.wants (r : Rd) : Int :=
  if r.step = 0 ∨ r.step = 3 then 2 * r.slot else if (r.way = 1 ∧ r.step = 1) ∨ (r.way = 2 ∧ r.step = 2) then 2 * r.slot - 1 else 2 * r.slot + 1
def Rd.goes (r : Rd) : Rd :=
  if r.way = 1 then { r with step := 0, slot := r.slot + 1, done := decide ((r.slots : Int) ≤ r.slot + 1) }
  else { r with step := 0, slot := r.slot - 1, done := decide (r.slot - 1 < 0) }
def Rd.ended (r : Rd) (same : Bool) : Rd :=
  if same = true ∧ r.ptr ≠ 0#64 ∧ r.ptr ≠ r.ahead then { r with done := true, is := true }
  else if r.way = 1 ∧ r.ptr = 0#64 then { r with done := true } else r.goes
def Rd.nxt (r : Rd) (v : BitVec 64) : Rd :=
  if r.way = 1 then
    match r.step with
    | 0 => { r with step := if v = r.key then 1 else 4 }
    | 1 => { r with ahead := v, step := 2 }
    | 2 => { r with ptr := v, step := 3 }
    | 3 => r.ended (decide (v = r.key))
    | _ => ({ r with ptr := v } : Rd).ended false
  else
    match r.step with
    | 0 => if v = r.key then { r with step := 1 } else r.goes
    | 1 => if v = 0#64 then ({ r with ptr := v, step := 2 } : Rd).goes else { r with ptr := v, step := 2 }
    | 2 => { r with ahead := v, step := 3 }
    | _ => r.ended (decide (v = r.key))
def Rd.give (r : Rd) (v : BitVec 64) : Rd := ({ r with loads := r.loads + 1 } : Rd).nxt v
def Rd.found (r : Rd) : BitVec 64 × Bool := if r.done = true ∧ r.is = true then (r.ptr, true) else (0#64, false)

/-- How many loads may come at most. -/
def Rd.rem (r : Rd) : Nat :=
  if r.done then 0 else if r.way = 1 then 4 * ((r.slots : Int) - r.slot).toNat - (if r.step = 4 then 1 else r.step) else 4 * (r.slot + 1).toNat - r.step
structure OkR (r : Rd) : Prop where
  way : r.way = 1 ∨ r.way = 2
  lo : 2 ≤ r.slots
  hi : r.slots ≤ 28
  at_ : r.done = false → 0 ≤ r.slot ∧ r.slot < r.slots ∧ r.step ≤ 4 ∧ (r.way = 2 → r.step ≤ 3)
  rem : r.loads + r.rem ≤ 4 * r.slots
theorem newR_ok {way slots : Nat} {key : BitVec 64} (hw : way = 1 ∨ way = 2) (h1 : 2 ≤ slots) (h2 : slots ≤ 28) : OkR (newR way slots key) := by
  refine ⟨hw, h1, h2, fun _ => ?_, ?_⟩
  · rcases hw with rfl | rfl <;> simp [newR] <;> omega
  · rcases hw with rfl | rfl <;> simp [newR, Rd.rem] <;> omega
theorem goes_ok {r : Rd} (hw : r.way = 1 ∨ r.way = 2) (h1 : 2 ≤ r.slots) (h2 : r.slots ≤ 28) (h3 : 0 ≤ r.slot) (h4 : r.slot < r.slots)
    (hl : r.loads + (if r.way = 1 then 4 * ((r.slots : Int) - r.slot - 1).toNat else 4 * r.slot.toNat) ≤ 4 * r.slots) :
    OkR r.goes ∧ r.goes.loads = r.loads ∧ r.goes.rem ≤ (if r.way = 1 then 4 * ((r.slots : Int) - r.slot - 1).toNat else 4 * r.slot.toNat) := by
  obtain ⟨way, slots, key, slot, step, ptr, ahead, done, is, loads⟩ := r
  simp only at *
  rcases hw with rfl | rfl
  · have hl' : loads + 4 * ((slots : Int) - slot - 1).toNat ≤ 4 * slots := hl
    have hg : (Rd.mk 1 slots key slot step ptr ahead done is loads).goes = Rd.mk 1 slots key (slot + 1) 0 ptr ahead (decide ((slots : Int) ≤ slot + 1)) is loads := rfl
    rw [hg]
    by_cases h : (slots : Int) ≤ slot + 1
    · rw [decide_eq_true h]
      exact ⟨⟨.inl rfl, h1, h2, fun h' => (by cases h'), by show loads + 0 ≤ 4 * slots; omega⟩, rfl, Nat.zero_le _⟩
    · rw [decide_eq_false h]
      have hr : (Rd.mk 1 slots key (slot + 1) 0 ptr ahead false is loads).rem = 4 * ((slots : Int) - (slot + 1)).toNat := rfl
      refine ⟨⟨.inl rfl, h1, h2, fun _ => ⟨by show 0 ≤ slot + 1; omega, by show slot + 1 < (slots : Int); omega, Nat.zero_le _, fun _ => Nat.zero_le _⟩, ?_⟩, rfl, ?_⟩
      · rw [hr]; show loads + _ ≤ 4 * slots; omega
      · rw [hr]; show _ ≤ 4 * ((slots : Int) - slot - 1).toNat; omega
  · have hl' : loads + 4 * slot.toNat ≤ 4 * slots := hl
    have hg : (Rd.mk 2 slots key slot step ptr ahead done is loads).goes = Rd.mk 2 slots key (slot - 1) 0 ptr ahead (decide (slot - 1 < 0)) is loads := rfl
    rw [hg]
    by_cases h : slot - 1 < 0
    · rw [decide_eq_true h]
      exact ⟨⟨.inr rfl, h1, h2, fun h' => (by cases h'), by show loads + 0 ≤ 4 * slots; omega⟩, rfl, Nat.zero_le _⟩
    · rw [decide_eq_false h]
      have hr : (Rd.mk 2 slots key (slot - 1) 0 ptr ahead false is loads).rem = 4 * (slot - 1 + 1).toNat := rfl
      refine ⟨⟨.inr rfl, h1, h2, fun _ => ⟨by show 0 ≤ slot - 1; omega, by show slot - 1 < (slots : Int); omega, Nat.zero_le _, fun _ => Nat.zero_le _⟩, ?_⟩, rfl, ?_⟩
      · rw [hr]; show loads + _ ≤ 4 * slots; omega
      · rw [hr]; show _ ≤ 4 * slot.toNat; omega
theorem goes_same (r : Rd) : r.goes.way = r.way ∧ r.goes.slots = r.slots ∧ r.goes.key = r.key := by
  unfold Rd.goes
  split <;> exact ⟨rfl, rfl, rfl⟩
theorem ended_same (r : Rd) (b : Bool) : (r.ended b).way = r.way ∧ (r.ended b).slots = r.slots ∧ (r.ended b).key = r.key := by
  unfold Rd.ended
  split
  · exact ⟨rfl, rfl, rfl⟩
  · split
    · exact ⟨rfl, rfl, rfl⟩
    · exact goes_same r
theorem ended_ok {r : Rd} (hw : r.way = 1 ∨ r.way = 2) (h1 : 2 ≤ r.slots) (h2 : r.slots ≤ 28) (h3 : 0 ≤ r.slot) (h4 : r.slot < r.slots)
    (hl : r.loads + (if r.way = 1 then 4 * ((r.slots : Int) - r.slot - 1).toNat else 4 * r.slot.toNat) ≤ 4 * r.slots) (b : Bool) :
    OkR (r.ended b) ∧ (r.ended b).loads = r.loads ∧ (r.ended b).rem ≤ (if r.way = 1 then 4 * ((r.slots : Int) - r.slot - 1).toNat else 4 * r.slot.toNat) := by
  unfold Rd.ended
  split
  · exact ⟨⟨hw, h1, h2, fun h => (by cases h), by show r.loads + 0 ≤ 4 * r.slots; omega⟩, rfl, Nat.zero_le _⟩
  · split
    · exact ⟨⟨hw, h1, h2, fun h => (by cases h), by show r.loads + 0 ≤ 4 * r.slots; omega⟩, rfl, Nat.zero_le _⟩
    · exact goes_ok hw h1 h2 h3 h4 hl
theorem give_same (r : Rd) (v : BitVec 64) : (r.give v).way = r.way ∧ (r.give v).slots = r.slots ∧ (r.give v).key = r.key := by
  unfold Rd.give Rd.nxt
  simp only
  split
  · split
    · exact ⟨rfl, rfl, rfl⟩
    · exact ⟨rfl, rfl, rfl⟩
    · exact ⟨rfl, rfl, rfl⟩
    · exact ended_same _ _
    · exact ended_same _ _
  · split
    · split
      · exact ⟨rfl, rfl, rfl⟩
      · exact goes_same _
    · split
      · exact goes_same _
      · exact ⟨rfl, rfl, rfl⟩
    · exact ⟨rfl, rfl, rfl⟩
    · exact ended_same _ _
theorem give_ok {r : Rd} (h : OkR r) (hd : r.done = false) (v : BitVec 64) : OkR (r.give v) ∧ (r.give v).loads = r.loads + 1 ∧ (r.give v).rem + 1 ≤ r.rem := by
  obtain ⟨hw, h1, h2, ha, hr⟩ := h
  obtain ⟨way, slots, key, slot, step, ptr, ahead, done, is, loads⟩ := r
  simp only at hw h1 h2 hd ha hr
  subst hd
  obtain ⟨a1, a2, a3, a4⟩ := ha rfl
  have go : ∀ (r' : Rd) (m : Nat), OkR r' ∧ r'.loads = loads + 1 ∧ r'.rem ≤ m → m + 1 ≤ (Rd.mk way slots key slot step ptr ahead false is loads).rem → OkR r' ∧ r'.loads = loads + 1 ∧ r'.rem + 1 ≤ (Rd.mk way slots key slot step ptr ahead false is loads).rem :=
    fun r' m hh hm => ⟨hh.1, hh.2.1, Nat.le_trans (Nat.add_le_add_right hh.2.2 1) hm⟩
  rcases hw with rfl | rfl
  · have h5 : step = 0 ∨ step = 1 ∨ step = 2 ∨ step = 3 ∨ step = 4 := by omega
    rcases h5 with rfl | rfl | rfl | rfl | rfl
    · have hr' : loads + 4 * ((slots : Int) - slot).toNat ≤ 4 * slots := hr
      by_cases hv : v = key
      · have hg : (Rd.mk 1 slots key slot 0 ptr ahead false is loads).give v = Rd.mk 1 slots key slot 1 ptr ahead false is (loads + 1) := by simp [Rd.give, Rd.nxt, hv]
        rw [hg]
        refine ⟨⟨.inl rfl, h1, h2, fun _ => ⟨a1, a2, Nat.le_of_ble_eq_true rfl, fun h => (by cases h)⟩, ?_⟩, rfl, ?_⟩
        · show loads + 1 + (4 * ((slots : Int) - slot).toNat - 1) ≤ 4 * slots; omega
        · show (4 * ((slots : Int) - slot).toNat - 1) + 1 ≤ 4 * ((slots : Int) - slot).toNat - 0; omega
      · have hg : (Rd.mk 1 slots key slot 0 ptr ahead false is loads).give v = Rd.mk 1 slots key slot 4 ptr ahead false is (loads + 1) := by simp [Rd.give, Rd.nxt, hv]
        rw [hg]
        refine ⟨⟨.inl rfl, h1, h2, fun _ => ⟨a1, a2, Nat.le_of_ble_eq_true rfl, fun h => (by cases h)⟩, ?_⟩, rfl, ?_⟩
        · show loads + 1 + (4 * ((slots : Int) - slot).toNat - 1) ≤ 4 * slots; omega
        · show (4 * ((slots : Int) - slot).toNat - 1) + 1 ≤ 4 * ((slots : Int) - slot).toNat - 0; omega
    · have hr' : loads + (4 * ((slots : Int) - slot).toNat - 1) ≤ 4 * slots := hr
      refine ⟨⟨.inl rfl, h1, h2, fun _ => ⟨a1, a2, Nat.le_of_ble_eq_true rfl, fun h => (by cases h)⟩, ?_⟩, rfl, ?_⟩
      · show loads + 1 + (4 * ((slots : Int) - slot).toNat - 2) ≤ 4 * slots; omega
      · show (4 * ((slots : Int) - slot).toNat - 2) + 1 ≤ 4 * ((slots : Int) - slot).toNat - 1; omega
    · have hr' : loads + (4 * ((slots : Int) - slot).toNat - 2) ≤ 4 * slots := hr
      refine ⟨⟨.inl rfl, h1, h2, fun _ => ⟨a1, a2, Nat.le_of_ble_eq_true rfl, fun h => (by cases h)⟩, ?_⟩, rfl, ?_⟩
      · show loads + 1 + (4 * ((slots : Int) - slot).toNat - 3) ≤ 4 * slots; omega
      · show (4 * ((slots : Int) - slot).toNat - 3) + 1 ≤ 4 * ((slots : Int) - slot).toNat - 2; omega
    · have hr' : loads + (4 * ((slots : Int) - slot).toNat - 3) ≤ 4 * slots := hr
      refine go _ (4 * ((slots : Int) - slot - 1).toNat) (ended_ok (r := Rd.mk 1 slots key slot 3 ptr ahead false is (loads + 1)) (.inl rfl) h1 h2 a1 a2 ?_ _) ?_
      · show loads + 1 + 4 * ((slots : Int) - slot - 1).toNat ≤ 4 * slots; omega
      · show _ ≤ 4 * ((slots : Int) - slot).toNat - 3; omega
    · have hr' : loads + (4 * ((slots : Int) - slot).toNat - 1) ≤ 4 * slots := hr
      refine go _ (4 * ((slots : Int) - slot - 1).toNat) (ended_ok (r := Rd.mk 1 slots key slot 4 v ahead false is (loads + 1)) (.inl rfl) h1 h2 a1 a2 ?_ false) ?_
      · show loads + 1 + 4 * ((slots : Int) - slot - 1).toNat ≤ 4 * slots; omega
      · show _ ≤ 4 * ((slots : Int) - slot).toNat - 1; omega
  · have a4' := a4 rfl
    have h5 : step = 0 ∨ step = 1 ∨ step = 2 ∨ step = 3 := by omega
    rcases h5 with rfl | rfl | rfl | rfl
    · have hr' : loads + 4 * (slot + 1).toNat ≤ 4 * slots := hr
      by_cases hv : v = key
      · have hg : (Rd.mk 2 slots key slot 0 ptr ahead false is loads).give v = Rd.mk 2 slots key slot 1 ptr ahead false is (loads + 1) := by simp [Rd.give, Rd.nxt, hv]
        rw [hg]
        refine ⟨⟨.inr rfl, h1, h2, fun _ => ⟨a1, a2, Nat.le_of_ble_eq_true rfl, fun _ => Nat.le_of_ble_eq_true rfl⟩, ?_⟩, rfl, ?_⟩
        · show loads + 1 + (4 * (slot + 1).toNat - 1) ≤ 4 * slots; omega
        · show (4 * (slot + 1).toNat - 1) + 1 ≤ 4 * (slot + 1).toNat - 0; omega
      · have hg : (Rd.mk 2 slots key slot 0 ptr ahead false is loads).give v = (Rd.mk 2 slots key slot 0 ptr ahead false is (loads + 1)).goes := by simp [Rd.give, Rd.nxt, hv]
        rw [hg]
        refine go _ (4 * slot.toNat) (goes_ok (r := Rd.mk 2 slots key slot 0 ptr ahead false is (loads + 1)) (.inr rfl) h1 h2 a1 a2 ?_) ?_
        · show loads + 1 + 4 * slot.toNat ≤ 4 * slots; omega
        · show _ ≤ 4 * (slot + 1).toNat - 0; omega
    · have hr' : loads + (4 * (slot + 1).toNat - 1) ≤ 4 * slots := hr
      by_cases hv : v = 0#64
      · have hg : (Rd.mk 2 slots key slot 1 ptr ahead false is loads).give v = (Rd.mk 2 slots key slot 2 v ahead false is (loads + 1)).goes := by simp [Rd.give, Rd.nxt, hv]
        rw [hg]
        refine go _ (4 * slot.toNat) (goes_ok (r := Rd.mk 2 slots key slot 2 v ahead false is (loads + 1)) (.inr rfl) h1 h2 a1 a2 ?_) ?_
        · show loads + 1 + 4 * slot.toNat ≤ 4 * slots; omega
        · show _ ≤ 4 * (slot + 1).toNat - 1; omega
      · have hg : (Rd.mk 2 slots key slot 1 ptr ahead false is loads).give v = Rd.mk 2 slots key slot 2 v ahead false is (loads + 1) := by simp [Rd.give, Rd.nxt, hv]
        rw [hg]
        refine ⟨⟨.inr rfl, h1, h2, fun _ => ⟨a1, a2, Nat.le_of_ble_eq_true rfl, fun _ => Nat.le_of_ble_eq_true rfl⟩, ?_⟩, rfl, ?_⟩
        · show loads + 1 + (4 * (slot + 1).toNat - 2) ≤ 4 * slots; omega
        · show (4 * (slot + 1).toNat - 2) + 1 ≤ 4 * (slot + 1).toNat - 1; omega
    · have hr' : loads + (4 * (slot + 1).toNat - 2) ≤ 4 * slots := hr
      refine ⟨⟨.inr rfl, h1, h2, fun _ => ⟨a1, a2, Nat.le_of_ble_eq_true rfl, fun _ => Nat.le_of_ble_eq_true rfl⟩, ?_⟩, rfl, ?_⟩
      · show loads + 1 + (4 * (slot + 1).toNat - 3) ≤ 4 * slots; omega
      · show (4 * (slot + 1).toNat - 3) + 1 ≤ 4 * (slot + 1).toNat - 2; omega
    · have hr' : loads + (4 * (slot + 1).toNat - 3) ≤ 4 * slots := hr
      refine go _ (4 * slot.toNat) (ended_ok (r := Rd.mk 2 slots key slot 3 ptr ahead false is (loads + 1)) (.inr rfl) h1 h2 a1 a2 ?_ _) ?_
      · show loads + 1 + 4 * slot.toNat ≤ 4 * slots; omega
      · show _ ≤ 4 * (slot + 1).toNat - 3; omega
theorem wants_in {r : Rd} (h : OkR r) (hd : r.done = false) : -1 ≤ r.wants ∧ r.wants < 2 * (r.slots : Int) := by
  obtain ⟨a1, a2, -, -⟩ := h.at_ hd
  unfold Rd.wants
  split
  · omega
  · split <;> omega

/-- What stands at a word of a row. -/
def atW (left : BitVec 64) (s : List (BitVec 64)) (i : Int) : BitVec 64 := if i < 0 then left else s.getD i.toNat 0#64
/-- A reader behind k loads of a row that stays. -/
def stA (left : BitVec 64) (s : List (BitVec 64)) (r : Rd) : Nat → Rd
  | 0 => r
  | k + 1 => let q := stA left s r k; if q.done then q else q.give (atW left s q.wants)
def endA (left : BitVec 64) (s : List (BitVec 64)) (r : Rd) : Rd := stA left s r (4 * r.slots)
theorem stA_ok (left : BitVec 64) (s : List (BitVec 64)) {r : Rd} (h : OkR r) : ∀ k, OkR (stA left s r k) ∧ (stA left s r k).way = r.way ∧ (stA left s r k).slots = r.slots ∧ (stA left s r k).key = r.key ∧ ((stA left s r k).done = true ∨ ((stA left s r k).rem + k ≤ r.rem ∧ (stA left s r k).loads = r.loads + k))
  | 0 => ⟨h, rfl, rfl, rfl, .inr ⟨Nat.le_refl _, rfl⟩⟩
  | k + 1 => by
    obtain ⟨h1, h2, h3, h4, h5⟩ := stA_ok left s h k
    show OkR (if (stA left s r k).done then _ else _) ∧ (if (stA left s r k).done then _ else _ : Rd).way = _ ∧ (if (stA left s r k).done then _ else _ : Rd).slots = _ ∧ (if (stA left s r k).done then _ else _ : Rd).key = _ ∧ ((if (stA left s r k).done then _ else _ : Rd).done = true ∨ ((if (stA left s r k).done then _ else _ : Rd).rem + (k + 1) ≤ _ ∧ (if (stA left s r k).done then _ else _ : Rd).loads = _))
    by_cases hd : (stA left s r k).done = true
    · rw [if_pos hd]
      exact ⟨h1, h2, h3, h4, .inl hd⟩
    · rw [if_neg hd]
      have hd' : (stA left s r k).done = false := by simpa using hd
      obtain ⟨g1, g2, g3⟩ := give_ok h1 hd' (atW left s (stA left s r k).wants)
      obtain ⟨s1, s2, s3⟩ := give_same (stA left s r k) (atW left s (stA left s r k).wants)
      refine ⟨g1, s1.trans h2, s2.trans h3, s3.trans h4, ?_⟩
      rcases h5 with h5 | ⟨h5, h6⟩
      · exact absurd h5 hd
      · right; omega
theorem stA_stay {left : BitVec 64} {s : List (BitVec 64)} {r : Rd} {k : Nat} (h : (stA left s r k).done = true) : ∀ j, stA left s r (k + j) = stA left s r k
  | 0 => rfl
  | j + 1 => by
    show (if (stA left s r (k + j)).done then stA left s r (k + j) else _) = _
    rw [stA_stay h j, if_pos h]
theorem rem_pos {r : Rd} (h : OkR r) (hd : r.done = false) : 1 ≤ r.rem := by have := (give_ok h hd 0#64).2.2; omega
theorem endA_done (left : BitVec 64) (s : List (BitVec 64)) {r : Rd} (h : OkR r) : (endA left s r).done = true := by
  obtain ⟨h1, -, -, -, h5⟩ := stA_ok left s h (4 * r.slots)
  rcases h5 with h5 | ⟨h5, -⟩
  · exact h5
  · by_cases hd : (stA left s r (4 * r.slots)).done = true
    · exact hd
    · have := rem_pos h1 (by simpa using hd)
      have := h.rem
      omega
theorem stA_end {left : BitVec 64} {s : List (BitVec 64)} {r : Rd} (hOk : OkR r) {k : Nat} (h : (stA left s r k).done = true) : stA left s r k = endA left s r := by
  unfold endA
  by_cases hk : k ≤ 4 * r.slots
  · obtain ⟨j, hj⟩ : ∃ j, 4 * r.slots = k + j := ⟨4 * r.slots - k, by omega⟩
    rw [hj, stA_stay h]
  · obtain ⟨j, hj⟩ : ∃ j, k = 4 * r.slots + j := ⟨k - 4 * r.slots, by omega⟩
    rw [hj]
    exact stA_stay (endA_done left s hOk) j
theorem stA_loads {left : BitVec 64} {s : List (BitVec 64)} {r : Rd} (h : OkR r) (h0 : r.loads = 0) : ∀ k, (stA left s r k).loads ≤ k ∧ ((stA left s r k).done = false → (stA left s r k).loads = k) := by
  intro k
  induction k with
  | zero => exact ⟨by show r.loads ≤ 0; omega, fun _ => h0⟩
  | succ k ih =>
    by_cases hd : (stA left s r k).done = true
    · have e : stA left s r (k + 1) = stA left s r k := stA_stay hd 1
      rw [e]
      exact ⟨by omega, fun h' => absurd (hd.symm.trans h') (by simp)⟩
    · have hd' : (stA left s r k).done = false := by simpa using hd
      have e : stA left s r (k + 1) = (stA left s r k).give (atW left s (stA left s r k).wants) := by
        show (if (stA left s r k).done then _ else _) = _
        rw [if_neg hd]
      have := (give_ok (stA_ok left s h k).1 hd' (atW left s (stA left s r k).wants)).2.1
      have := ih.2 hd'
      rw [e]
      exact ⟨by omega, fun _ => by omega⟩
/-- So many loads, and no more: the reader is not done behind the k-th exactly if k is less. -/
theorem stA_lt {left : BitVec 64} {s : List (BitVec 64)} {r : Rd} (h : OkR r) (h0 : r.loads = 0) (k : Nat) : (stA left s r k).done = false ↔ k < (endA left s r).loads := by
  constructor
  · intro hd
    have e : stA left s r (k + 1) = (stA left s r k).give (atW left s (stA left s r k).wants) := by
      show (if (stA left s r k).done then _ else _) = _
      rw [if_neg (by simp [hd])]
    have h1 := (stA_loads (left := left) (s := s) h h0 k).2 hd
    have h2 := (give_ok (stA_ok left s h k).1 hd (atW left s (stA left s r k).wants)).2.1
    rw [← e] at h2
    have hm : ∀ j, (stA left s r (k + 1)).loads ≤ (stA left s r (k + 1 + j)).loads := by
      intro j
      induction j with
      | zero => exact Nat.le_refl _
      | succ j ih =>
        refine Nat.le_trans ih ?_
        have ej : stA left s r (k + 1 + (j + 1)) = if (stA left s r (k + 1 + j)).done then stA left s r (k + 1 + j) else (stA left s r (k + 1 + j)).give (atW left s (stA left s r (k + 1 + j)).wants) := rfl
        rw [ej]
        by_cases hd2 : (stA left s r (k + 1 + j)).done = true
        · rw [if_pos hd2]; exact Nat.le_refl _
        · rw [if_neg hd2, (give_ok (stA_ok left s h (k + 1 + j)).1 (by simpa using hd2) _).2.1]; omega
    have h3 := hm (4 * r.slots)
    have h4 : stA left s r (k + 1 + 4 * r.slots) = endA left s r := by
      rw [show k + 1 + 4 * r.slots = 4 * r.slots + (k + 1) by omega]
      exact stA_stay (endA_done left s h) _
    rw [h4] at h3
    omega
  · intro hk
    by_cases hd : (stA left s r k).done = true
    · have := (stA_loads (left := left) (s := s) h h0 k).1
      rw [stA_end h hd] at this
      omega
    · simpa using hd
theorem endA_same (left : BitVec 64) (s : List (BitVec 64)) {r : Rd} (h : OkR r) : OkR (endA left s r) ∧ (endA left s r).way = r.way ∧ (endA left s r).slots = r.slots ∧ (endA left s r).key = r.key := by
  obtain ⟨h1, h2, h3, h4, -⟩ := stA_ok left s h (4 * r.slots)
  exact ⟨h1, h2, h3, h4⟩
/-- A reader's loads in a row that stays. -/
def itemsA (left : BitVec 64) (s : List (BitVec 64)) (r : Rd) : List (Int × BitVec 64) := (List.range (endA left s r).loads).map fun k => ((stA left s r k).wants, atW left s (stA left s r k).wants)
theorem itemsA_len (left : BitVec 64) (s : List (BitVec 64)) (r : Rd) : (itemsA left s r).length = (endA left s r).loads := by simp [itemsA]
theorem itemsA_get (left : BitVec 64) (s : List (BitVec 64)) (r : Rd) (k : Nat) (h : k < (itemsA left s r).length) : (itemsA left s r)[k] = ((stA left s r k).wants, atW left s (stA left s r k).wants) := by simp [itemsA]
theorem stA_succ {left : BitVec 64} {s : List (BitVec 64)} {r : Rd} {k : Nat} (hd : (stA left s r k).done = false) : stA left s r (k + 1) = (stA left s r k).give (atW left s (stA left s r k).wants) := by
  show (if (stA left s r k).done then _ else _) = _
  rw [if_neg (by simp [hd])]
end Go.Proofs.Ytenmogokbelahaa
