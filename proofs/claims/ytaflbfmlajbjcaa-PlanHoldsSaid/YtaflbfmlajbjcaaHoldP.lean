/- PlanHolds: the plain law: behind a crash at any place of an ordered plan the words are what they were, to which so many of the stores are applied. -/
import Derived.Test.YtaflbfmlajbjcaaRunB
import Derived.Test.YtaflbfmlajbjcaaPmemM
namespace Go.Proofs.Ytaflbfmlajbjcaa
open Go Go.RowKit

def applyL (w : List (BitVec 64)) (ps : List Put2) : List (BitVec 64) := ps.foldl (fun l p => l.set p.1.toNat p.2) w
theorem applyL_len (ps : List Put2) : ∀ (w : List (BitVec 64)), (applyL w ps).length = w.length := by
  induction ps with
  | nil => intro w; rfl
  | cons p t ih => intro w; exact (ih _).trans (List.length_set ..)
theorem applyL_take (w : List (BitVec 64)) (ps : List Put2) (k : Nat) (h : k < ps.length) : applyL w (ps.take (k + 1)) = (applyL w (ps.take k)).set ps[k].1.toNat ps[k].2 := by
  unfold applyL
  rw [List.take_succ_eq_append_getElem h, List.foldl_append]
  rfl
theorem lineAt_set (l : List (BitVec 64)) (a : Nat) (v : BitVec 64) (i : Nat) (h : a < l.length) : lineAt (l.set a v) i = if a / 8 = i then (lineAt l i).setIfInBounds (a % 8) v else lineAt l i := by
  apply Vector.ext
  intro j hj
  have e1 : (lineAt (l.set a v) i)[j] = (l.set a v).getD (8 * i + j) 0#64 := by simp [lineAt]
  have e2 : (lineAt l i)[j] = l.getD (8 * i + j) 0#64 := by simp [lineAt]
  rw [e1, List.getD_eq_getElem?_getD, List.getElem?_set]
  by_cases hi : a / 8 = i
  · rw [if_pos hi, Vector.getElem_setIfInBounds]
    by_cases hj2 : a % 8 = j
    · rw [if_pos (by omega), if_pos (by omega), if_pos hj2]; rfl
    · rw [if_neg (by omega), if_neg hj2, e2, List.getD_eq_getElem?_getD]
  · rw [if_neg hi, if_neg (by omega), e2, List.getD_eq_getElem?_getD]
theorem flat_lines (l : List (BitVec 64)) (n : Nat) (h : l.length = 8 * n) : flatW (linesOf l) = l := by
  have hL : (linesOf l).length = n := by rw [linesOf_len]; omega
  have hl : (flatW (linesOf l)).length = 8 * n := by rw [flatW_len, hL]
  have key : ∀ k, k ≤ n → flatW ((linesOf l).take k) = l.take (8 * k) := by
    intro k
    induction k with
    | zero => intro _; simp [flatW]
    | succ k ih =>
      intro hk
      rw [flatW_take _ k (by omega), ih (by omega), linesOf_get]
      apply List.ext_getElem?
      intro i
      by_cases h1 : i < 8 * k
      · rw [List.getElem?_append_left (by simp; omega), List.getElem?_take_of_lt h1, List.getElem?_take_of_lt (by omega)]
      · rw [List.getElem?_append_right (by simp; omega)]
        by_cases h2 : i < 8 * (k + 1)
        · rw [List.getElem?_take_of_lt h2, List.length_take, Nat.min_eq_left (by omega)]
          obtain ⟨j, rfl⟩ : ∃ j, i = 8 * k + j := ⟨i - 8 * k, by omega⟩
          have hj : j < 8 := by omega
          rw [Nat.add_sub_cancel_left, lineAt, Vector.toList_ofFn, List.getElem?_ofFn, dif_pos hj, List.getElem?_eq_getElem (by omega)]
          simp [List.getD_eq_getElem?_getD, List.getElem?_eq_getElem (show 8 * k + j < l.length by omega)]
        · rw [List.getElem?_eq_none (by simp; omega), List.getElem?_eq_none (by simp; omega)]
  have := key n (Nat.le_refl _)
  rw [← h, List.take_length] at this
  rwa [← hL, List.take_length] at this
/-- What is known of a memory beside the words behind so many stores: f are surely lasting, s are done; line: the line that is stored to, or -1; fl: whether it was flushed since. -/
structure HInv (m : Mem) (ws : Nat → List (BitVec 64)) (n f s : Nat) (line : Int) (fl : Bool) : Prop where
  fs : f ≤ s
  len : m.length = n
  wl : ∀ k, (ws k).length = 8 * n
  now : ∀ i (h : i < m.length), m[i].now = lineAt (ws s) i
  oth : ∀ i (h : i < m.length), (i : Int) ≠ line → m[i].lasts = m[i].now ∧ (m[i].q = none ∨ m[i].q = some m[i].now) ∧ ∀ k, f ≤ k → k ≤ s → lineAt (ws k) i = m[i].now
  own : ∀ i (h : i < m.length), (i : Int) = line → (∃ k, f ≤ k ∧ k ≤ s ∧ m[i].lasts = lineAt (ws k) i) ∧ (m[i].q = none ∨ ∃ k, f ≤ k ∧ k ≤ s ∧ m[i].q = some (lineAt (ws k) i)) ∧ (fl = true → m[i].q = some m[i].now ∨ (m[i].q = none ∧ m[i].lasts = m[i].now))
section
variable {m : Mem} {ws : Nat → List (BitVec 64)} {n f s : Nat} {line : Int} {fl : Bool}
theorem hinv_start (w0 : List (BitVec 64)) (h0 : w0.length = 8 * n) (hws : ws 0 = w0) (hwl : ∀ k, (ws k).length = 8 * n) : HInv (Mem.of (linesOf w0)) ws n 0 0 (-1) false := by
  have hl : (Mem.of (linesOf w0)).length = n := by rw [of_len, linesOf_len]; omega
  have he : ∀ i (h : i < (Mem.of (linesOf w0)).length), (Mem.of (linesOf w0))[i] = ⟨lineAt w0 i, lineAt w0 i, none⟩ := fun i h => by
    simp only [Mem.of, List.getElem_map, linesOf_get]
  refine ⟨Nat.le_refl _, hl, hwl, fun i h => by rw [he i h, hws], fun i h _ => ?_, fun i h e => by omega⟩
  rw [he i h]
  refine ⟨rfl, .inl rfl, fun k h1 h2 => ?_⟩
  obtain rfl : k = 0 := by omega
  rw [hws]
theorem HInv.store (h : HInv m ws n f s line fl) (a : Nat) (v : BitVec 64) (ha : a < 8 * n) (hl : line < 0 ∨ line = ((a / 8 : Nat) : Int)) (hw : ws (s + 1) = (ws s).set a v) : HInv (m.store a v) ws n f (s + 1) ((a / 8 : Nat) : Int) false := by
  have hlen : (m.store a v).length = m.length := store_len m a v
  have hfs := h.fs
  have hline : ∀ i, lineAt (ws (s + 1)) i = if a / 8 = i then (lineAt (ws s) i).setIfInBounds (a % 8) v else lineAt (ws s) i := fun i => by rw [hw, lineAt_set _ _ _ _ (by rw [h.wl]; exact ha)]
  have hget : ∀ i (hi : i < m.length), (m.store a v)[i]'(by rw [hlen]; exact hi) = if a / 8 = i then ⟨m[i].now.setIfInBounds (a % 8) v, m[i].lasts, m[i].q⟩ else m[i] := fun i hi => by
    simp only [Mem.store, List.getElem_modify]
  refine ⟨by omega, hlen.trans h.len, h.wl, fun i hi => ?_, fun i hi hne => ?_, fun i hi he => ?_⟩
  · have hi' : i < m.length := by rw [hlen] at hi; exact hi
    rw [hget i hi', hline, ← h.now i hi']
    split <;> rfl
  · have hi' : i < m.length := by rw [hlen] at hi; exact hi
    have hne2 : ¬ a / 8 = i := fun e => hne (by omega)
    have hnl : (i : Int) ≠ line := by omega
    have ho := h.oth i hi' hnl
    rw [hget i hi', if_neg hne2]
    refine ⟨ho.1, ho.2.1, fun k h1 h2 => ?_⟩
    by_cases e : k = s + 1
    · subst e
      rw [hline, if_neg hne2]
      exact ho.2.2 s hfs (Nat.le_refl _)
    · exact ho.2.2 k h1 (by omega)
  · have hi' : i < m.length := by rw [hlen] at hi; exact hi
    have he2 : a / 8 = i := by omega
    rw [hget i hi', if_pos he2]
    refine ⟨?_, ?_, fun h => by cases h⟩
    · rcases hl with hl | hl
      · have ho := h.oth i hi' (by omega)
        exact ⟨s, hfs, by omega, by show m[i].lasts = _; rw [ho.1]; exact h.now i hi'⟩
      · obtain ⟨k, h1, h2, h3⟩ := (h.own i hi' (by omega)).1
        exact ⟨k, h1, by omega, h3⟩
    · show m[i].q = none ∨ ∃ k, _
      rcases hl with hl | hl
      · have ho := h.oth i hi' (by omega)
        rcases ho.2.1 with h1 | h1
        · exact .inl h1
        · exact .inr ⟨s, hfs, by omega, by rw [h1, h.now i hi']⟩
      · rcases (h.own i hi' (by omega)).2.1 with h1 | ⟨k, h1, h2, h3⟩
        · exact .inl h1
        · exact .inr ⟨k, h1, by omega, h3⟩
theorem HInv.flush (h : HInv m ws n f s line fl) (b : Nat) (hb : b < n) : HInv (m.flush b) ws n f s line (fl || decide (line = (b : Int))) := by
  have hlen : (m.flush b).length = m.length := flush_len m b
  have hfs := h.fs
  have hget : ∀ i (hi : i < m.length), (m.flush b)[i]'(by rw [hlen]; exact hi) = if b = i then ⟨m[i].now, m[i].lasts, some m[i].now⟩ else m[i] := fun i hi => by
    simp only [Mem.flush, List.getElem_modify]
  refine ⟨hfs, hlen.trans h.len, h.wl, fun i hi => ?_, fun i hi hne => ?_, fun i hi he => ?_⟩
  · have hi' : i < m.length := by rw [hlen] at hi; exact hi
    rw [hget i hi', ← h.now i hi']
    split <;> rfl
  · have hi' : i < m.length := by rw [hlen] at hi; exact hi
    have ho := h.oth i hi' hne
    rw [hget i hi']
    split
    · exact ⟨ho.1, .inr rfl, ho.2.2⟩
    · exact ho
  · have hi' : i < m.length := by rw [hlen] at hi; exact hi
    have ho := h.own i hi' he
    rw [hget i hi']
    by_cases e : b = i
    · rw [if_pos e]
      exact ⟨ho.1, .inr ⟨s, hfs, Nat.le_refl _, by show some m[i].now = _; rw [h.now i hi']⟩, fun _ => .inl rfl⟩
    · rw [if_neg e]
      refine ⟨ho.1, ho.2.1, fun hf => ho.2.2 ?_⟩
      rw [Bool.or_eq_true, decide_eq_true_eq] at hf
      exact hf.resolve_right (fun e2 => e (by omega))
theorem HInv.fence (h : HInv m ws n f s line fl) (hl : line < 0 ∨ fl = true) : HInv m.fence ws n s s (-1) false := by
  have hlen : m.fence.length = m.length := fence_len m
  have hget : ∀ i (hi : i < m.length), m.fence[i]'(by rw [hlen]; exact hi) = ⟨m[i].now, m[i].q.getD m[i].lasts, none⟩ := fun i hi => by
    simp only [Mem.fence, List.getElem_map]
  refine ⟨Nat.le_refl _, hlen.trans h.len, h.wl, fun i hi => ?_, fun i hi _ => ?_, fun i hi he => by omega⟩
  · have hi' : i < m.length := by rw [hlen] at hi; exact hi
    rw [hget i hi']
    exact h.now i hi'
  · have hi' : i < m.length := by rw [hlen] at hi; exact hi
    rw [hget i hi']
    refine ⟨?_, .inl rfl, fun k h1 h2 => ?_⟩
    · show m[i].q.getD m[i].lasts = m[i].now
      by_cases e : (i : Int) = line
      · rcases hl with hl | hl
        · omega
        · rcases (h.own i hi' e).2.2 hl with h1 | ⟨h1, h2⟩
          · rw [h1]; rfl
          · rw [h1]; exact h2
      · have ho := h.oth i hi' e
        rcases ho.2.1 with h1 | h1
        · rw [h1]; exact ho.1
        · rw [h1]; rfl
    · obtain rfl : k = s := by omega
      exact (h.now i hi').symm
theorem HInv.evict (h : HInv m ws n f s line fl) (b : Nat) : HInv (m.evict b) ws n f s line fl := by
  have hlen : (m.evict b).length = m.length := evict_len m b
  have hfs := h.fs
  have hget : ∀ i (hi : i < m.length), (m.evict b)[i]'(by rw [hlen]; exact hi) = if b = i then ⟨m[i].now, m[i].now, none⟩ else m[i] := fun i hi => by
    simp only [Mem.evict, List.getElem_modify]
  refine ⟨hfs, hlen.trans h.len, h.wl, fun i hi => ?_, fun i hi hne => ?_, fun i hi he => ?_⟩
  · have hi' : i < m.length := by rw [hlen] at hi; exact hi
    rw [hget i hi', ← h.now i hi']
    split <;> rfl
  · have hi' : i < m.length := by rw [hlen] at hi; exact hi
    have ho := h.oth i hi' hne
    rw [hget i hi']
    split
    · exact ⟨rfl, .inl rfl, ho.2.2⟩
    · exact ho
  · have hi' : i < m.length := by rw [hlen] at hi; exact hi
    have ho := h.own i hi' he
    rw [hget i hi']
    by_cases e : b = i
    · rw [if_pos e]
      exact ⟨⟨s, hfs, Nat.le_refl _, h.now i hi'⟩, .inl rfl, fun _ => .inr ⟨rfl, rfl⟩⟩
    · rw [if_neg e]
      exact ho
theorem crashL_three (m : Mem) (pk : List (BitVec 8)) (i : Nat) (x : Ln) : crashL m pk i x = x.lasts ∨ crashL m pk i x = x.q.getD x.lasts ∨ crashL m pk i x = x.now := by
  unfold crashL
  split
  · split
    · unfold takeL
      split
      · exact .inl rfl
      · split
        · exact .inr (.inl rfl)
        · exact .inr (.inr rfl)
    · exact .inl rfl
  · exact .inl rfl
/-- Behind a crash: the words behind so many stores. -/
theorem HInv.crash (h : HInv m ws n f s line fl) (pk : List (BitVec 8)) : ∃ k, f ≤ k ∧ k ≤ s ∧ flatW (m.crash pk).nows = ws k := by
  have hfs := h.fs
  have hn : (m.crash pk).nows = crashV m pk := by unfold Mem.crash; rw [of_nows]
  have hoth : ∀ i (hi : i < m.length), (i : Int) ≠ line → ∀ k, f ≤ k → k ≤ s → crashL m pk i m[i] = lineAt (ws k) i := fun i hi hne k h1 h2 => by
    have ho := h.oth i hi hne
    rw [ho.2.2 k h1 h2]
    rcases crashL_three m pk i m[i] with e | e | e
    · rw [e]; exact ho.1
    · rw [e]
      rcases ho.2.1 with e2 | e2
      · rw [e2]; exact ho.1
      · rw [e2]; rfl
    · exact e
  have hk : ∃ k, f ≤ k ∧ k ≤ s ∧ ∀ i (hi : i < m.length), (i : Int) = line → crashL m pk i m[i] = lineAt (ws k) i := by
    by_cases hex : ∃ i, i < m.length ∧ (i : Int) = line
    · obtain ⟨i, hi, he⟩ := hex
      have ho := h.own i hi he
      have huniq : ∀ j (hj : j < m.length), (j : Int) = line → j = i := fun j _ e => by omega
      rcases crashL_three m pk i m[i] with e | e | e
      · obtain ⟨k, h1, h2, h3⟩ := ho.1
        refine ⟨k, h1, h2, fun j hj ej => ?_⟩
        obtain rfl := huniq j hj ej
        rw [e, h3]
      · rcases ho.2.1 with e2 | ⟨k, h1, h2, h3⟩
        · obtain ⟨k, h1, h2, h3⟩ := ho.1
          refine ⟨k, h1, h2, fun j hj ej => ?_⟩
          obtain rfl := huniq j hj ej
          rw [e, e2]; exact h3
        · refine ⟨k, h1, h2, fun j hj ej => ?_⟩
          obtain rfl := huniq j hj ej
          rw [e, h3]; rfl
      · refine ⟨s, hfs, Nat.le_refl _, fun j hj ej => ?_⟩
        obtain rfl := huniq j hj ej
        rw [e]; exact h.now j hj
    · exact ⟨s, hfs, Nat.le_refl _, fun i hi e => absurd ⟨i, hi, e⟩ hex⟩
  obtain ⟨k, h1, h2, h3⟩ := hk
  refine ⟨k, h1, h2, ?_⟩
  have he : (m.crash pk).nows = linesOf (ws k) := by
    rw [hn]
    apply List.ext_getElem
    · rw [crashV_len, linesOf_len, h.wl, h.len]; omega
    · intro i hi hj
      have him : i < m.length := by rwa [crashV_len] at hi
      rw [linesOf_get]
      simp only [crashV, List.getElem_mapIdx]
      by_cases e : (i : Int) = line
      · exact h3 i him e
      · exact hoth i him e k h1 h2
  rw [he, flat_lines _ n (h.wl k)]
end
/-- An act of an ordered plan. -/
theorem HInv.act {m : Mem} {ws : Nat → List (BitVec 64)} {n f s : Nat} {line : Int} {fl : Bool} (h : HInv m ws n f s line fl) (x : Act3) {l' : Int} {f' : Bool} (hn : nextA line fl x = some (l', f')) (hx : fineA n x = true)
    (hw : x.1 = 1 → ws (s + 1) = (ws s).set x.2.1.toNat x.2.2) : HInv (doA m x) ws n (if x.1 = 3 then s else f) (if x.1 = 1 then s + 1 else s) l' f' := by
  obtain ⟨k, a, V⟩ := x
  have hk3 : k = 1 ∨ k = 2 ∨ k = 3 := by simp only [fineA, rightA, Bool.and_eq_true, Bool.or_eq_true, decide_eq_true_eq] at hx; omega
  have hr : rightA (k, a, V) = true := by simp only [fineA, Bool.and_eq_true] at hx; exact hx.1
  unfold nextA at hn
  rw [if_neg (by rw [hr]; simp)] at hn
  rcases hk3 with rfl | rfl | rfl
  · simp [fineA, rightA, thereA] at hx
    obtain ⟨i, rfl⟩ : ∃ i : Nat, a = i := ⟨a.toNat, by omega⟩
    simp only [if_true] at hn
    split at hn
    · cases hn
    · rename_i hc
      simp only [Option.some.injEq, Prod.mk.injEq] at hn
      obtain ⟨rfl, rfl⟩ := hn
      have e : lnP (i : Int) = ((i / 8 : Nat) : Int) := by unfold lnP; omega
      have := h.store i V (by omega) (by rw [e] at hc; omega) (hw rfl)
      rw [e]
      exact this
  · simp [fineA, rightA, thereA] at hx
    obtain ⟨i, rfl⟩ : ∃ i : Nat, a = i := ⟨a.toNat, by omega⟩
    simp at hn
    obtain ⟨rfl, rfl⟩ := hn
    exact h.flush i (by omega)
  · simp at hn
    obtain ⟨hc, rfl, rfl⟩ := hn
    have := h.fence (by
      by_cases h0 : line < 0
      · exact .inl h0
      · exact .inr (hc (by omega)))
    exact this
/-- All acts of a plan of stores that are there are there. -/
theorem goA_there {n : Nat} (hn : 0 < n) : ∀ (k : Nat) (ps : List Put2), ps.length = k → (∀ p ∈ ps, 0 ≤ p.1 ∧ p.1 < ((8 * n : Nat) : Int)) → (∀ x ∈ (goA ps).1, thereA n x = true) ∧ (goA ps).2 < (n : Int) := by
  intro k
  induction k with
  | zero =>
    intro ps hp _
    rw [List.length_eq_zero_iff.1 hp]
    exact ⟨fun x hx => (by cases hx), (by show (-1 : Int) < _; omega)⟩
  | succ k ih =>
    intro ps hp hb
    rcases List.eq_nil_or_concat ps with rfl | ⟨qs, q, rfl⟩
    · simp at hp
    · rw [List.concat_eq_append] at hp hb ⊢
      have h1 := ih qs (by simpa using hp) (fun p hp => hb p (List.mem_append_left _ hp))
      have hq := hb q (by simp)
      rw [goA_snoc]
      unfold stepA
      refine ⟨fun x hx => ?_, by show lnP q.1 < _; unfold lnP; omega⟩
      simp only at hx
      rw [List.mem_append, List.mem_singleton] at hx
      rcases hx with hx | rfl
      · split at hx
        · rw [List.mem_append] at hx
          rcases hx with hx | hx
          · exact h1.1 x hx
          · simp only [shutA, List.mem_cons, List.not_mem_nil, or_false] at hx
            rcases hx with rfl | rfl
            · simp [thereA, h1.2]
            · simp [thereA]
        · exact h1.1 x hx
      · simp only [thereA, if_true, decide_eq_true_eq]; exact hq.2
theorem ordA_there {n : Nat} (hn : 0 < n) {ps : List Put2} (hb : ∀ p ∈ ps, 0 ≤ p.1 ∧ p.1 < ((8 * n : Nat) : Int)) : ∀ x ∈ ordA ps, thereA n x = true := by
  intro x hx
  have h1 := goA_there hn ps.length ps rfl hb
  unfold ordA endA at hx
  split at hx
  · cases hx
  · split at hx
    · rw [List.mem_append] at hx
      rcases hx with hx | hx
      · exact h1.1 x hx
      · simp only [shutA, List.mem_cons, List.not_mem_nil, or_false] at hx
        rcases hx with rfl | rfl
        · simp [thereA, h1.2]
        · simp [thereA]
    · exact h1.1 x hx
theorem badP_fine {n : Nat} {ps : List Put2} (hb : ∀ p ∈ ps, 0 ≤ p.1 ∧ p.1 < ((8 * n : Nat) : Int)) : badP ps = false := by
  unfold badP
  rw [List.any_eq_false]
  intro p hp
  have := (hb p hp).1
  simp; omega
/-- Where a plan stands behind so many acts, and what comes next. -/
theorem ord_at {ps : List Put2} (hb : badP ps = false) (j : Nat) (hj : j ≤ (ordA ps).length) : ∃ l f, runA (some (-1, false)) ((ordA ps).take j) = some (l, f) := by
  have ho := ordered_ord hb
  cases hr : runA (some (-1, false)) ((ordA ps).take j) with
  | some s => exact ⟨s.1, s.2, rfl⟩
  | none =>
    have h2 : ordA ps = (ordA ps).take j ++ (ordA ps).drop j := (List.take_append_drop _ _).symm
    unfold orderedA at ho
    rw [h2, runA_append, hr, runA_none] at ho
    cases ho
theorem run_next {xs : List Act3} {k : Nat} {l : Int} {f : Bool} (hk : k < xs.length) (h : runA (some (-1, false)) (xs.take k) = some (l, f)) : runA (some (-1, false)) (xs.take (k + 1)) = nextA l f xs[k] := by
  rw [List.take_succ_eq_append_getElem hk, runA_append, h]
  simp only [runA]
theorem ord_next {ps : List Put2} (hb : badP ps = false) (j : Nat) (hj : j < (ordA ps).length) {l : Int} {f : Bool} (h : runA (some (-1, false)) ((ordA ps).take j) = some (l, f)) : ∃ l' f', nextA l f (ordA ps)[j] = some (l', f') ∧ runA (some (-1, false)) ((ordA ps).take (j + 1)) = some (l', f') := by
  obtain ⟨l', f', h'⟩ := ord_at hb (j + 1) hj
  exact ⟨l', f', by rw [← run_next hj h, h'], h'⟩
theorem next_right {l : Int} {f : Bool} {x : Act3} {s : Int × Bool} (h : nextA l f x = some s) : rightA x = true := by
  unfold nextA at h
  split at h
  · cases h
  · rename_i hc
    simpa using hc
/-- The store that comes next. -/
theorem ord_store {ps : List Put2} (hb : badP ps = false) (j : Nat) (hj : j < (ordA ps).length) (h1 : (ordA ps)[j].1 = 1) : ∃ h : cntA (ordA ps) j < ps.length, ps[cntA (ordA ps) j] = ((ordA ps)[j].2.1, (ordA ps)[j].2.2) := by
  have hs := stores_ord hb
  have h2 : ordA ps = (ordA ps).take (j + 1) ++ (ordA ps).drop (j + 1) := (List.take_append_drop _ _).symm
  have h3 : storesA (ordA ps) = storesA ((ordA ps).take (j + 1)) ++ storesA ((ordA ps).drop (j + 1)) := by
    conv => lhs; rw [h2]
    unfold storesA
    rw [List.filterMap_append]
  rw [List.take_succ_eq_append_getElem hj, storesA_snoc, if_pos h1, hs] at h3
  have h4 : ps[cntA (ordA ps) j]? = some ((ordA ps)[j].2.1, (ordA ps)[j].2.2) := by
    have e := congrArg (fun l => l[cntA (ordA ps) j]?) h3
    refine e.trans ?_
    show (storesA ((ordA ps).take j) ++ [((ordA ps)[j].2.1, (ordA ps)[j].2.2)] ++ storesA ((ordA ps).drop (j + 1)))[(storesA ((ordA ps).take j)).length]? = _
    rw [List.append_assoc, List.getElem?_append_right (Nat.le_refl _), Nat.sub_self]
    rfl
  obtain ⟨hlt, h5⟩ := List.getElem?_eq_some_iff.1 h4
  exact ⟨hlt, h5⟩
theorem cntA_max {ps : List Put2} (hb : badP ps = false) (j : Nat) : cntA (ordA ps) j ≤ ps.length := by
  have hs := stores_ord hb
  have h2 : ordA ps = (ordA ps).take j ++ (ordA ps).drop j := (List.take_append_drop _ _).symm
  have h3 : storesA (ordA ps) = storesA ((ordA ps).take j) ++ storesA ((ordA ps).drop j) := by
    conv => lhs; rw [h2]
    unfold storesA
    rw [List.filterMap_append]
  rw [hs] at h3
  unfold cntA
  have := congrArg List.length h3
  rw [List.length_append] at this
  omega
end Go.Proofs.Ytaflbfmlajbjcaa
