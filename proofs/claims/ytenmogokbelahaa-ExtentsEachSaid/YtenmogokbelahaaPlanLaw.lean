/- The plain law of plans of stores: no program in sight. -/
import Derived.Test.YtenmogokbelahaaOwnG
namespace Go.Proofs.Ytenmogokbelahaa
open Go Go.RowKit

abbrev Act3 := Int × Int × BitVec 64
abbrev Put2 := Int × BitVec 64
def ac3 (x : Act3) : List Value := [.int .i64 x.1, .int .i64 x.2.1, vw x.2.2]
def pc2 (p : Put2) : List Value := [.int .i64 p.1, vw p.2]
theorem ac3_len (x : Act3) : (ac3 x).length = 3 := rfl
theorem pc2_len (x : Put2) : (pc2 x).length = 2 := rfl
theorem ac3_one (y : Act3) : ∀ u ∈ ac3 y, u.oneCell' = true := by
  intro u hu
  simp only [ac3, List.mem_cons, List.not_mem_nil, or_false] at hu
  rcases hu with rfl | rfl | rfl <;> rfl
theorem pc2_one (y : Put2) : ∀ u ∈ pc2 y, u.oneCell' = true := by
  intro u hu
  simp only [pc2, List.mem_cons, List.not_mem_nil, or_false] at hu
  rcases hu with rfl | rfl <;> rfl
theorem RdS.rows3 {B : Nat} {w : World} {p : Option Addr} {cap : Nat} {ys : List Act3} (h : RdS B w p cap 3 ac3 ys) (i : Nat) (hi : i < ys.length) :
    ∃ b off, p = some ⟨b, off, none⟩ ∧ b < B ∧ w.cell? ⟨b, off + i * 3, none⟩ = some (.int .i64 ys[i].1) ∧ w.cell? ⟨b, off + i * 3 + 1, none⟩ = some (.int .i64 ys[i].2.1) ∧ w.cell? ⟨b, off + i * 3 + 2, none⟩ = some (vw ys[i].2.2) := by
  obtain ⟨h1, h2, h3⟩ := h
  rcases h3 with h3 | ⟨b, off, rfl, hb, hc⟩
  · omega
  · refine ⟨b, off, rfl, hb, hc i hi 0 _ rfl, ?_, ?_⟩
    · exact hc i hi 1 _ rfl
    · exact hc i hi 2 _ rfl
theorem RdS.rows2 {B : Nat} {w : World} {p : Option Addr} {cap : Nat} {ys : List Put2} (h : RdS B w p cap 2 pc2 ys) (i : Nat) (hi : i < ys.length) :
    ∃ b off, p = some ⟨b, off, none⟩ ∧ b < B ∧ w.cell? ⟨b, off + i * 2, none⟩ = some (.int .i64 ys[i].1) ∧ w.cell? ⟨b, off + i * 2 + 1, none⟩ = some (vw ys[i].2) := by
  obtain ⟨h1, h2, h3⟩ := h
  rcases h3 with h3 | ⟨b, off, rfl, hb, hc⟩
  · omega
  · exact ⟨b, off, rfl, hb, hc i hi 0 _ rfl, hc i hi 1 _ rfl⟩

/-- The line of a word. -/
def lnP (a : Int) : Int := a / 8
def shutA (line : Int) : List Act3 := [(2, line, 0), (3, 0, 0)]
def stepA (s : List Act3 × Int) (p : Put2) : List Act3 × Int := ((if lnP p.1 ≠ s.2 ∧ 0 ≤ s.2 then s.1 ++ shutA s.2 else s.1) ++ [(1, p.1, p.2)], lnP p.1)
def goA (ps : List Put2) : List Act3 × Int := ps.foldl stepA ([], -1)
def endA (s : List Act3 × Int) : List Act3 := if 0 ≤ s.2 then s.1 ++ shutA s.2 else s.1
def badP (ps : List Put2) : Bool := ps.any fun p => decide (p.1 < 0)
def ordA (ps : List Put2) : List Act3 := if badP ps then [] else endA (goA ps)
def noA (ps : List Put2) : Int := if badP ps then 2 else 0

theorem goA_snoc (ps : List Put2) (p : Put2) : goA (ps ++ [p]) = stepA (goA ps) p := by simp [goA]
theorem lnP_nn {a : Int} (h : 0 ≤ a) : 0 ≤ lnP a := by unfold lnP; omega
theorem badP_snoc (ps : List Put2) (p : Put2) : badP (ps ++ [p]) = (badP ps || decide (p.1 < 0)) := by simp [badP]
theorem goA_line {ps : List Put2} (h : badP ps = false) : (ps = [] ∧ (goA ps).2 = -1) ∨ (ps ≠ [] ∧ 0 ≤ (goA ps).2) := by
  rcases List.eq_nil_or_concat ps with rfl | ⟨qs, q, rfl⟩
  · exact .inl ⟨rfl, rfl⟩
  · refine .inr ⟨by simp, ?_⟩
    rw [List.concat_eq_append] at h ⊢
    rw [goA_snoc]
    rw [badP_snoc] at h
    simp only [Bool.or_eq_false_iff, decide_eq_false_iff_not] at h
    exact lnP_nn (by omega)
theorem goA_last (ps : List Put2) (p : Put2) : (goA (ps ++ [p])).2 = lnP p.1 := by rw [goA_snoc]; rfl
theorem stepA_len (s : List Act3 × Int) (p : Put2) : (stepA s p).1.length ≤ s.1.length + 3 := by
  unfold stepA
  split <;> simp [shutA]
theorem goA_len : ∀ (ps : List Put2), (goA ps).1.length ≤ 3 * ps.length := by
  intro ps
  have h : ∀ (n : Nat) (ps : List Put2), ps.length = n → (goA ps).1.length ≤ 3 * n := by
    intro n
    induction n with
    | zero =>
      intro ps hp
      rw [List.length_eq_zero_iff.1 hp]
      simp [goA]
    | succ n ih =>
      intro ps hp
      rcases List.eq_nil_or_concat ps with rfl | ⟨qs, q, rfl⟩
      · simp at hp
      · rw [List.concat_eq_append, goA_snoc]
        have := stepA_len (goA qs) q
        have := ih qs (by simpa using hp)
        omega
  exact h _ _ rfl
theorem ordA_len (ps : List Put2) : (ordA ps).length ≤ 3 * ps.length + 2 := by
  unfold ordA endA
  have := goA_len ps
  split
  · simp
  · split
    · simp [shutA]; omega
    · omega
theorem badP_take {ps : List Put2} {k : Nat} (h : badP (ps.take k) = true) : badP ps = true := by
  unfold badP at *
  rw [List.any_eq_true] at *
  obtain ⟨x, hx, h'⟩ := h
  exact ⟨x, List.mem_of_mem_take hx, h'⟩

/-- May an act be? -/
def rightA (x : Act3) : Bool := (decide (x.1 = 1) && decide (0 ≤ x.2.1)) || (decide (x.1 = 2) && decide (x.2.2 = 0) && decide (0 ≤ x.2.1)) || (decide (x.1 = 3) && decide (x.2.1 = 0) && decide (x.2.2 = 0))
/-- What a plan must be from here on, a line (or -1) being stored to, and flushed or not. -/
def nextA (line : Int) (fl : Bool) (x : Act3) : Option (Int × Bool) :=
  if rightA x = false then none else
  if x.1 = 1 then (if 0 ≤ line ∧ line ≠ lnP x.2.1 then none else some (lnP x.2.1, false)) else
  if x.1 = 2 then some (line, fl || decide (line = x.2.1)) else
  if 0 ≤ line ∧ fl = false then none else some (-1, false)
def runA : Option (Int × Bool) → List Act3 → Option (Int × Bool)
  | s, [] => s
  | none, _ :: _ => none
  | some (l, f), x :: r => runA (nextA l f x) r
def orderedA (xs : List Act3) : Bool := match runA (some (-1, false)) xs with | none => false | some (l, _) => decide (l < 0)
theorem runA_none (xs : List Act3) : runA none xs = none := by cases xs <;> rfl
theorem runA_append : ∀ (xs ys : List Act3) (s : Option (Int × Bool)), runA s (xs ++ ys) = runA (runA s xs) ys
  | [], _, _ => by cases ‹Option (Int × Bool)› <;> rfl
  | x :: xs, ys, none => by simp [runA, runA_none]
  | x :: xs, ys, some (l, f) => by simp only [List.cons_append, runA]; exact runA_append xs ys _
theorem runA_shut {l : Int} (h : 0 ≤ l) : runA (some (l, false)) (shutA l) = some (-1, false) := by
  have h1 : rightA (2, l, 0#64) = true := by simp [rightA, h]
  have h2 : rightA (3, 0, 0#64) = true := by decide
  simp [shutA, runA, nextA, h1, h2]
theorem runA_go {ps : List Put2} (h : badP ps = false) : runA (some (-1, false)) (goA ps).1 = some ((goA ps).2, false) := by
  have hh : ∀ (n : Nat) (ps : List Put2), ps.length = n → badP ps = false → runA (some (-1, false)) (goA ps).1 = some ((goA ps).2, false) := by
    intro n
    induction n with
    | zero =>
      intro ps hp _
      rw [List.length_eq_zero_iff.1 hp]
      rfl
    | succ n ih =>
      intro ps hp hb
      rcases List.eq_nil_or_concat ps with rfl | ⟨qs, q, rfl⟩
      · simp at hp
      · rw [List.concat_eq_append] at hp hb ⊢
        rw [badP_snoc] at hb
        simp only [Bool.or_eq_false_iff, decide_eq_false_iff_not] at hb
        have hq : 0 ≤ q.1 := by omega
        have hr : rightA (1, q.1, q.2) = true := by simp [rightA, hq]
        have h1 := ih qs (by simpa using hp) hb.1
        rw [goA_snoc]
        unfold stepA
        simp only
        rw [runA_append]
        split
        · rename_i hc
          rw [runA_append, h1, runA_shut hc.2]
          simp [runA, nextA, hr]
        · rename_i hc
          rw [h1]
          simp only [runA, nextA, hr, if_false, if_true, Bool.true_eq_false]
          rw [if_neg]
          rintro ⟨h3, h4⟩
          exact hc ⟨fun e => h4 e.symm, h3⟩
  exact hh _ _ rfl h
/-- The plan of stores is ordered. -/
theorem ordered_ord {ps : List Put2} (h : badP ps = false) : orderedA (ordA ps) = true := by
  have h1 : runA (some (-1, false)) (ordA ps) = some (-1, false) ∨ ∃ l, l < 0 ∧ runA (some (-1, false)) (ordA ps) = some (l, false) := by
    unfold ordA endA
    rw [h]
    simp only [Bool.false_eq_true, if_false]
    split
    · rename_i h0
      rw [runA_append, runA_go h, runA_shut h0]
      exact .inl rfl
    · rename_i h0
      rw [runA_go h]
      exact .inr ⟨_, by omega, rfl⟩
  unfold orderedA
  rcases h1 with h1 | ⟨l, hl, h1⟩
  · rw [h1]; rfl
  · rw [h1]; exact decide_eq_true hl
/-- The stores of acts. -/
def storesA (xs : List Act3) : List Put2 := xs.filterMap fun x => if x.1 = 1 then some (x.2.1, x.2.2) else none
theorem storesA_snoc (xs : List Act3) (x : Act3) : storesA (xs ++ [x]) = storesA xs ++ (if x.1 = 1 then [(x.2.1, x.2.2)] else []) := by
  unfold storesA
  rw [List.filterMap_append]
  by_cases h : x.1 = 1 <;> simp [h]
theorem storesA_shut (l : Int) : storesA (shutA l) = [] := by simp [storesA, shutA]
theorem stores_go (ps : List Put2) : storesA (goA ps).1 = ps := by
  have hh : ∀ (n : Nat) (ps : List Put2), ps.length = n → storesA (goA ps).1 = ps := by
    intro n
    induction n with
    | zero =>
      intro ps hp
      rw [List.length_eq_zero_iff.1 hp]
      rfl
    | succ n ih =>
      intro ps hp
      rcases List.eq_nil_or_concat ps with rfl | ⟨qs, q, rfl⟩
      · simp at hp
      · rw [List.concat_eq_append] at hp ⊢
        rw [goA_snoc]
        unfold stepA
        simp only
        rw [storesA_snoc]
        have h1 := ih qs (by simpa using hp)
        have h2 : storesA (if lnP q.1 ≠ (goA qs).2 ∧ 0 ≤ (goA qs).2 then (goA qs).1 ++ shutA (goA qs).2 else (goA qs).1) = qs := by
          split
          · unfold storesA at h1 ⊢
            rw [List.filterMap_append, h1]
            have := storesA_shut (goA qs).2
            unfold storesA at this
            rw [this]; simp
          · exact h1
        rw [h2]
        simp
  exact hh _ _ rfl
theorem stores_ord {ps : List Put2} (h : badP ps = false) : storesA (ordA ps) = ps := by
  unfold ordA endA
  rw [h]
  simp only [Bool.false_eq_true, if_false]
  split
  · have := stores_go ps
    unfold storesA at this ⊢
    rw [List.filterMap_append, this]
    have := storesA_shut (goA ps).2
    unfold storesA at this
    rw [this]; simp
  · exact stores_go ps
/-- How many stores are among the first k. -/
def cntA (xs : List Act3) (k : Nat) : Nat := (storesA (xs.take k)).length
theorem cntA_succ (xs : List Act3) (k : Nat) (h : k < xs.length) : cntA xs (k + 1) = cntA xs k + (if xs[k].1 = 1 then 1 else 0) := by
  unfold cntA
  rw [List.take_succ_eq_append_getElem h, storesA_snoc]
  by_cases h : xs[k].1 = 1 <;> simp [h]
theorem cntA_le (xs : List Act3) (k : Nat) : cntA xs k ≤ k := by
  unfold cntA storesA
  refine Nat.le_trans (List.length_filterMap_le _ _) ?_
  rw [List.length_take]
  exact Nat.min_le_left _ _
end Go.Proofs.Ytenmogokbelahaa
