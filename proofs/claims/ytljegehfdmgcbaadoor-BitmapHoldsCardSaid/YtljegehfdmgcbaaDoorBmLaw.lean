/- The plain law of bitmaps: no program in sight. -/
import Derived.Test.YtljegehfdmgcbaaDoorBitsLaw
namespace Go.Proofs.YtljegehfdmgcbaaDoor
open Go Go.RowKit

/-- Is a bit of words set? -/
def bitW (ws : List (BitVec 64)) (i : Nat) : Bool := decide ((shrw (ws.getD (i / 64) 0#64) (i % 64)).toNat % 2 = 1)
theorem shr_bit (x : BitVec 64) (n : Nat) : decide ((shrw x n).toNat % 2 = 1) = x.getLsbD n := by
  unfold shrw
  rw [BitVec.getLsbD, BitVec.toNat_ushiftRight, Nat.testBit_eq_decide_div_mod_eq, Nat.shiftRight_eq_div_pow]
theorem bitW_lsb (ws : List (BitVec 64)) (i : Nat) : bitW ws i = (ws.getD (i / 64) 0#64).getLsbD (i % 64) := shr_bit _ _

abbrev Run2 := Nat × Nat
/-- The runs ahead of a bit: those that are done, the one that goes on. -/
def stR (f : Nat → Bool) : Nat → List Run2 × Option Run2
  | 0 => ([], none)
  | i + 1 => match f i, stR f i with
    | true, (ds, none) => (ds, some (i, 1))
    | true, (ds, some (a, m)) => (ds, some (a, m + 1))
    | false, (ds, none) => (ds, none)
    | false, (ds, some r) => (ds ++ [r], none)
theorem stR_succ (f : Nat → Bool) (i : Nat) : stR f (i + 1) = match f i, stR f i with
    | true, (ds, none) => (ds, some (i, 1))
    | true, (ds, some (a, m)) => (ds, some (a, m + 1))
    | false, (ds, none) => (ds, none)
    | false, (ds, some r) => (ds ++ [r], none) := rfl
def runsF (f : Nat → Bool) (n : Nat) : List Run2 := (stR f n).1 ++ (stR f n).2.toList
theorem stR_cur (f : Nat → Bool) : ∀ i, (∀ a m, (stR f i).2 = some (a, m) → 1 ≤ m ∧ a + m = i ∧ ∀ j, a ≤ j → j < a + m → f j = true) ∧ ((stR f i).2 = none → i = 0 ∨ f (i - 1) = false)
  | 0 => by simp [stR]
  | i + 1 => by
    obtain ⟨h1, h2⟩ := stR_cur f i
    rw [stR_succ]
    cases hf : f i with
    | true =>
      rcases hs : stR f i with ⟨ds, _ | ⟨a, m⟩⟩
      · refine ⟨?_, by simp⟩
        simp only [Option.some.injEq, Prod.mk.injEq, and_imp]
        rintro _ _ rfl rfl
        exact ⟨Nat.le_refl _, rfl, fun j hj1 hj2 => by rw [show j = i by omega]; exact hf⟩
      · refine ⟨?_, by simp⟩
        simp only [Option.some.injEq, Prod.mk.injEq, and_imp]
        rintro _ _ rfl rfl
        obtain ⟨g1, g2, g3⟩ := h1 a m (by rw [hs])
        refine ⟨by omega, by omega, fun j hj1 hj2 => ?_⟩
        by_cases hj : j = i
        · rw [hj]; exact hf
        · exact g3 j hj1 (by omega)
    | false =>
      rcases hs : stR f i with ⟨ds, _ | ⟨a, m⟩⟩ <;> simp [hf]
theorem stR_len (f : Nat → Bool) : ∀ i, (runsF f i).length ≤ i
  | 0 => by simp [runsF, stR]
  | i + 1 => by
    have ih := stR_len f i
    unfold runsF at ih ⊢
    rw [stR_succ]
    cases f i <;> rcases hs : stR f i with ⟨ds, _ | ⟨a, m⟩⟩ <;> rw [hs] at ih <;> simp at ih ⊢ <;> omega

/-- How many of the first bits are set. -/
def cntF (f : Nat → Bool) (n : Nat) : Nat := ((List.range n).filter f).length
theorem cntF_succ (f : Nat → Bool) (n : Nat) : cntF f (n + 1) = cntF f n + if f n then 1 else 0 := by
  unfold cntF
  rw [List.range_succ, List.filter_append, List.length_append]
  congr 1
  cases h : f n <;> simp [h]
theorem cntF_le (f : Nat → Bool) (n : Nat) : cntF f n ≤ n := by
  have := List.length_filter_le f (List.range n)
  simpa [cntF] using this
def sumR (rs : List Run2) : Nat := (rs.map (·.2)).sum
theorem sumR_snoc (rs : List Run2) (r : Run2) : sumR (rs ++ [r]) = sumR rs + r.2 := by simp [sumR]
theorem sum_runs (f : Nat → Bool) : ∀ i, sumR (runsF f i) = cntF f i
  | 0 => by simp [runsF, stR, sumR, cntF]
  | i + 1 => by
    have ih := sum_runs f i
    rw [cntF_succ, ← ih]
    unfold runsF
    rw [stR_succ]
    cases f i <;> rcases hs : stR f i with ⟨ds, _ | ⟨a, m⟩⟩ <;> simp [sumR] <;> omega

/-- Runs in order, from one bit on up to another; all between is free, all in them is set. -/
def RunsOk (f : Nat → Bool) : Nat → List Run2 → Nat → Prop
  | e, [], n => e ≤ n ∧ ∀ j, e ≤ j → j < n → f j = false
  | e, r :: rs, n => e ≤ r.1 ∧ 1 ≤ r.2 ∧ (∀ j, e ≤ j → j < r.1 → f j = false) ∧ RunsOk f (r.1 + r.2) rs n
theorem RunsOk.more {f : Nat → Bool} : ∀ {rs : List Run2} {e n : Nat}, RunsOk f e rs n → f n = false → RunsOk f e rs (n + 1)
  | [], e, n, h, hf => ⟨by have := h.1; omega, fun j h1 h2 => by
      by_cases hj : j = n
      · rw [hj]; exact hf
      · exact h.2 j h1 (by omega)⟩
  | _ :: rs, _, _, h, hf => ⟨h.1, h.2.1, h.2.2.1, RunsOk.more h.2.2.2 hf⟩
theorem RunsOk.snoc {f : Nat → Bool} {m : Nat} (hm : 1 ≤ m) : ∀ {rs : List Run2} {e a : Nat}, RunsOk f e rs a → RunsOk f e (rs ++ [(a, m)]) (a + m)
  | [], e, a, h => ⟨h.1, hm, h.2, ⟨Nat.le_refl _, fun j h1 h2 => by omega⟩⟩
  | _ :: rs, _, _, h => ⟨h.1, h.2.1, h.2.2.1, RunsOk.snoc hm h.2.2.2⟩
theorem stR_ok (f : Nat → Bool) : ∀ i, match stR f i with | (ds, none) => RunsOk f 0 ds i | (ds, some (a, _)) => RunsOk f 0 ds a
  | 0 => by simp [stR, RunsOk]
  | i + 1 => by
    have ih := stR_ok f i
    have hc := (stR_cur f i).1
    rw [stR_succ]
    cases hf : f i <;> rcases hs : stR f i with ⟨ds, _ | ⟨a, m⟩⟩ <;> rw [hs] at ih hc <;> simp only at ih ⊢
    · exact ih.more hf
    · obtain ⟨g1, g2, _⟩ := hc a m rfl
      have := ih.snoc g1
      rw [g2] at this
      exact this.more hf
    · exact ih
    · exact ih
theorem runs_ok (f : Nat → Bool) (n : Nat) : RunsOk f 0 (runsF f n) n := by
  have ih := stR_ok f n
  have hc := (stR_cur f n).1
  unfold runsF
  rcases hs : stR f n with ⟨ds, _ | ⟨a, m⟩⟩ <;> rw [hs] at ih hc <;> simp only at ih
  · simpa using ih
  · obtain ⟨g1, g2, _⟩ := hc a m rfl
    have := ih.snoc g1
    rw [g2] at this
    simpa using this

/-- Behind so many runs. -/
def endE (e : Nat) : List Run2 → Nat
  | [] => e
  | r :: rs => endE (r.1 + r.2) rs
def endR (rs : List Run2) : Nat := endE 0 rs
theorem endE_snoc : ∀ (rs : List Run2) (e : Nat) (r : Run2), endE e (rs ++ [r]) = r.1 + r.2
  | [], _, _ => rfl
  | x :: rs, _, r => endE_snoc rs (x.1 + x.2) r
theorem endR_snoc (rs : List Run2) (r : Run2) : endR (rs ++ [r]) = r.1 + r.2 := endE_snoc rs 0 r
theorem RunsOk.le {f : Nat → Bool} : ∀ {rs : List Run2} {e n : Nat}, RunsOk f e rs n → e ≤ n
  | [], _, _, h => h.1
  | r :: _, _, _, h => by have := RunsOk.le h.2.2.2; have := h.1; omega
theorem RunsOk.cut {f : Nat → Bool} : ∀ {rs : List Run2} {e n : Nat} {qs : List Run2} {r : Run2}, RunsOk f e (rs ++ r :: qs) n →
    endE e rs ≤ r.1 ∧ 1 ≤ r.2 ∧ r.1 + r.2 ≤ n ∧ ∀ j, endE e rs ≤ j → j < r.1 → f j = false
  | [], e, n, qs, r, h => ⟨h.1, h.2.1, RunsOk.le h.2.2.2, h.2.2.1⟩
  | x :: rs, e, n, qs, r, h => RunsOk.cut (rs := rs) h.2.2.2
theorem RunsOk.fin {f : Nat → Bool} : ∀ {rs : List Run2} {e n : Nat}, RunsOk f e rs n → endE e rs ≤ n ∧ ∀ j, endE e rs ≤ j → j < n → f j = false
  | [], _, _, h => h
  | x :: rs, e, n, h => RunsOk.fin (rs := rs) h.2.2.2
theorem runs_at {f : Nat → Bool} {n k : Nat} (hk : k < (runsF f n).length) : endR ((runsF f n).take k) ≤ (runsF f n)[k].1 ∧ 1 ≤ (runsF f n)[k].2 ∧ (runsF f n)[k].1 + (runsF f n)[k].2 ≤ n ∧
    (∀ j, endR ((runsF f n).take k) ≤ j → j < (runsF f n)[k].1 → f j = false) := by
  have h := runs_ok f n
  have e : runsF f n = (runsF f n).take k ++ (runsF f n)[k] :: (runsF f n).drop (k + 1) := by
    conv => lhs; rw [← List.take_append_drop k (runsF f n), List.drop_eq_getElem_cons hk]
  generalize runsF f n = rs at *
  rw [e] at h
  exact h.cut
theorem runs_end (f : Nat → Bool) (n : Nat) : endR (runsF f n) ≤ n ∧ ∀ j, endR (runsF f n) ≤ j → j < n → f j = false := (runs_ok f n).fin

/-- The gaps between runs. -/
def gapsP : List Run2 → List Run2 → List Run2
  | _, [] => []
  | ps, r :: rs => (if endR ps < r.1 then [(endR ps, r.1 - endR ps)] else []) ++ gapsP (ps ++ [r]) rs
theorem gapsP_snoc (ps : List Run2) : ∀ (rs : List Run2) (r : Run2), gapsP ps (rs ++ [r]) = gapsP ps rs ++ if endR (ps ++ rs) < r.1 then [(endR (ps ++ rs), r.1 - endR (ps ++ rs))] else []
  | [], r => by simp [gapsP]
  | x :: rs, r => by
    have := gapsP_snoc (ps ++ [x]) rs r
    rw [List.cons_append]
    unfold gapsP
    rw [this]
    simp
def gapsR (rs : List Run2) : List Run2 := gapsP [] rs
theorem gapsR_nil : gapsR [] = [] := rfl
theorem gapsR_snoc (rs : List Run2) (r : Run2) : gapsR (rs ++ [r]) = gapsR rs ++ if endR rs < r.1 then [(endR rs, r.1 - endR rs)] else [] := gapsP_snoc [] rs r
/-- All gaps of so many bits. -/
def gapsF (f : Nat → Bool) (n : Nat) : List Run2 := gapsR (runsF f n) ++ if endR (runsF f n) < n then [(endR (runsF f n), n - endR (runsF f n))] else []
theorem gapsR_len (rs : List Run2) : (gapsR rs).length ≤ rs.length := by
  have h : ∀ n (rs : List Run2), rs.length = n → (gapsR rs).length ≤ n := by
    intro n
    induction n with
    | zero => intro rs h; rw [List.length_eq_zero_iff.1 h]; simp [gapsR_nil]
    | succ n ih =>
      intro rs h
      rcases List.eq_nil_or_concat rs with rfl | ⟨qs, r, rfl⟩
      · simp at h
      · rw [List.concat_eq_append] at h ⊢
        have := ih qs (by simpa using h)
        rw [gapsR_snoc, List.length_append]
        split <;> simp <;> omega
  exact h _ _ rfl
theorem gaps_free {f : Nat → Bool} {n : Nat} : ∀ g ∈ gapsF f n, g.1 + g.2 ≤ n ∧ 1 ≤ g.2 ∧ ∀ j, g.1 ≤ j → j < g.1 + g.2 → f j = false := by
  have h1 : ∀ k, k ≤ (runsF f n).length → ∀ g ∈ gapsR ((runsF f n).take k), g.1 + g.2 ≤ n ∧ 1 ≤ g.2 ∧ ∀ j, g.1 ≤ j → j < g.1 + g.2 → f j = false := by
    intro k
    induction k with
    | zero => intro _ g hg; simp [gapsR_nil] at hg
    | succ k ih =>
      intro hk g hg
      rw [List.take_succ_eq_append_getElem (by omega), gapsR_snoc, List.mem_append] at hg
      rcases hg with hg | hg
      · exact ih (by omega) g hg
      · obtain ⟨a1, a2, a3, a4⟩ := runs_at (show k < (runsF f n).length by omega)
        split at hg
        · simp only [List.mem_cons, List.not_mem_nil, or_false] at hg
          subst hg
          simp only
          exact ⟨by omega, by omega, fun j h1 h2 => a4 j h1 (by omega)⟩
        · simp at hg
  intro g hg
  unfold gapsF at hg
  rw [List.mem_append] at hg
  rcases hg with hg | hg
  · have := h1 _ (Nat.le_refl _) g (by rw [List.take_length]; exact hg)
    exact this
  · obtain ⟨a1, a2⟩ := runs_end f n
    split at hg
    · simp only [List.mem_cons, List.not_mem_nil, or_false] at hg
      subst hg
      simp only
      exact ⟨by omega, by omega, fun j h1 h2 => a2 j h1 (by omega)⟩
    · simp at hg

/-- What Find tells: the first gap in which there is room from a bit on; else the first that has room. -/
def fitG (many fromB : Int) (g : Run2) : Bool := decide (many ≤ (g.1 : Int) + g.2 - max (g.1 : Int) fromB)
def anyG (many : Int) (g : Run2) : Bool := decide (many ≤ (g.2 : Int))
def findL (gs : List Run2) (many fromB : Int) : Int × Int :=
  match gs.find? (fitG many fromB) with
  | some g => (max (g.1 : Int) fromB, 0)
  | none => match gs.find? (anyG many) with
    | some g => ((g.1 : Int), 0)
    | none => (0, 5)
theorem findL_none {f : Nat → Bool} {n : Nat} {many fromB : Int} (h : (findL (gapsF f n) many fromB).2 = 5) : ∀ g ∈ gapsF f n, (g.2 : Int) < many := by
  unfold findL at h
  split at h
  · cases h
  · split at h
    · cases h
    · rename_i hn
      intro g hg
      have := List.find?_eq_none.1 hn g hg
      simp [anyG] at this
      exact this
theorem findL_some {f : Nat → Bool} {n : Nat} {many fromB : Int} (h0 : 0 ≤ fromB) (h1 : fromB < n) (hm : 1 ≤ many) (h : (findL (gapsF f n) many fromB).2 ≠ 5) :
    (findL (gapsF f n) many fromB).2 = 0 ∧ 0 ≤ (findL (gapsF f n) many fromB).1 ∧ many ≤ n - (findL (gapsF f n) many fromB).1 ∧
    (∀ j : Nat, (findL (gapsF f n) many fromB).1 ≤ j → (j : Int) < (findL (gapsF f n) many fromB).1 + many → f j = false) ∧ ∃ g ∈ gapsF f n, many ≤ (g.2 : Int) := by
  unfold findL at h ⊢
  cases hf : (gapsF f n).find? (fitG many fromB) with
  | some g =>
    have hg := List.mem_of_find?_eq_some hf
    have hp := List.find?_some hf
    obtain ⟨a1, a2, a3⟩ := gaps_free g hg
    simp only [fitG, decide_eq_true_eq] at hp
    simp only
    refine ⟨trivial, by omega, by omega, fun j hj1 hj2 => a3 j (by omega) (by omega), g, hg, by omega⟩
  | none =>
    rw [hf] at h
    simp only at h ⊢
    cases hg2 : (gapsF f n).find? (anyG many) with
    | some g =>
      have hg := List.mem_of_find?_eq_some hg2
      have hp := List.find?_some hg2
      obtain ⟨a1, a2, a3⟩ := gaps_free g hg
      simp only [anyG, decide_eq_true_eq] at hp
      simp only
      refine ⟨trivial, by omega, by omega, fun j hj1 hj2 => a3 j (by omega) (by omega), g, hg, hp⟩
    | none => rw [hg2] at h; exact absurd rfl h

/-- The longest gap. -/
def longR : List Run2 → List Run2 → Nat → Nat
  | _, [], m => m
  | ps, r :: rs, m => longR (ps ++ [r]) rs (max m (r.1 - endR ps))
theorem longR_snoc (ps : List Run2) : ∀ (rs : List Run2) (r : Run2) (m : Nat), longR ps (rs ++ [r]) m = max (longR ps rs m) (r.1 - endR (ps ++ rs))
  | [], r, m => by simp [longR]
  | x :: rs, r, m => by
    have := longR_snoc (ps ++ [x]) rs r (max m (x.1 - endR ps))
    rw [List.cons_append]
    unfold longR
    rw [this]
    simp
theorem long_gaps (many : Nat) (hm : 1 ≤ many) : ∀ (n : Nat) (rs : List Run2), rs.length = n → (many ≤ longR [] rs 0 ↔ ∃ g ∈ gapsR rs, many ≤ g.2) := by
  intro n
  induction n with
  | zero => intro rs h; rw [List.length_eq_zero_iff.1 h]; simp [gapsR_nil, longR]; omega
  | succ n ih =>
    intro rs h
    rcases List.eq_nil_or_concat rs with rfl | ⟨qs, r, rfl⟩
    · simp at h
    · rw [List.concat_eq_append] at h ⊢
      have ih := ih qs (by simpa using h)
      rw [gapsR_snoc, longR_snoc, List.nil_append]
      constructor
      · intro h1
        by_cases h2 : many ≤ longR [] qs 0
        · obtain ⟨g, hg, h3⟩ := ih.1 h2
          exact ⟨g, List.mem_append_left _ hg, h3⟩
        · refine ⟨(endR qs, r.1 - endR qs), List.mem_append_right _ ?_, by simp only; omega⟩
          rw [if_pos (by omega)]
          simp
      · rintro ⟨g, hg, h3⟩
        rw [List.mem_append] at hg
        rcases hg with hg | hg
        · have := ih.2 ⟨g, hg, h3⟩
          omega
        · split at hg
          · simp only [List.mem_cons, List.not_mem_nil, or_false] at hg
            subst hg
            simp only at h3
            omega
          · simp at hg
def longF (f : Nat → Bool) (n : Nat) : Nat := max (longR [] (runsF f n) 0) (n - endR (runsF f n))
theorem longF_gaps (f : Nat → Bool) (n many : Nat) (hm : 1 ≤ many) : many ≤ longF f n ↔ ∃ g ∈ gapsF f n, many ≤ g.2 := by
  have h := long_gaps many hm _ (runsF f n) rfl
  unfold longF gapsF
  constructor
  · intro h1
    by_cases h2 : many ≤ longR [] (runsF f n) 0
    · obtain ⟨g, hg, h3⟩ := h.1 h2
      exact ⟨g, List.mem_append_left _ hg, h3⟩
    · refine ⟨(endR (runsF f n), n - endR (runsF f n)), List.mem_append_right _ ?_, by simp only; omega⟩
      rw [if_pos (by omega)]
      simp
  · rintro ⟨g, hg, h3⟩
    rw [List.mem_append] at hg
    rcases hg with hg | hg
    · have := h.2 ⟨g, hg, h3⟩
      omega
    · split at hg
      · simp only [List.mem_cons, List.not_mem_nil, or_false] at hg
        subst hg
        simp only at h3
        omega
      · simp at hg

/-- The bits of words, counted word by word. -/
def onesW (ws : List (BitVec 64)) : Nat := (ws.map fun w => (bitsL w).length).sum
theorem cnt_add (f : Nat → Bool) (a : Nat) : ∀ b, cntF f (a + b) = cntF f a + cntF (fun j => f (a + j)) b
  | 0 => by simp [cntF]
  | b + 1 => by rw [← Nat.add_assoc, cntF_succ, cntF_succ, cnt_add f a b]; omega
theorem cnt_congr {f g : Nat → Bool} : ∀ {n : Nat}, (∀ j, j < n → f j = g j) → cntF f n = cntF g n
  | 0, _ => by simp [cntF]
  | n + 1, h => by rw [cntF_succ, cntF_succ, cnt_congr (fun j hj => h j (by omega)), h n (by omega)]
theorem ones_cnt (ws : List (BitVec 64)) : ∀ k, k ≤ ws.length → onesW (ws.take k) = cntF (bitW ws) (64 * k)
  | 0, _ => by simp [onesW, cntF]
  | k + 1, hk => by
    rw [List.take_succ_eq_append_getElem (by omega), show 64 * (k + 1) = 64 * k + 64 by omega, cnt_add, ← ones_cnt ws k (by omega)]
    unfold onesW
    rw [List.map_append, List.sum_append]
    congr 1
    simp only [List.map_cons, List.map_nil, List.sum_cons, List.sum_nil, Nat.add_zero]
    unfold bitsL bitsTo cntF
    congr 1
    refine List.filter_congr fun j hj => ?_
    rw [List.mem_range] at hj
    rw [bitW_lsb, show (64 * k + j) / 64 = k by omega, show (64 * k + j) % 64 = j by omega]
    simp [show k < ws.length by omega]
theorem ones_all (ws : List (BitVec 64)) : onesW ws = cntF (bitW ws) (64 * ws.length) := by
  have := ones_cnt ws ws.length (Nat.le_refl _)
  rwa [List.take_length] at this
/-- Words of so many bits: as many as must be, and none is set behind the last bit. -/
def RightW (n : Nat) (ws : List (BitVec 64)) : Prop := ws.length = (n + 63) / 64 ∧ ∀ j, n ≤ j → j < 64 * ws.length → bitW ws j = false
theorem ones_right {n : Nat} {ws : List (BitVec 64)} (h : RightW n ws) : onesW ws = cntF (bitW ws) n := by
  have hl := h.1
  rw [ones_all, show 64 * ws.length = n + (64 * ws.length - n) by omega, cnt_add]
  have : cntF (fun j => bitW ws (n + j)) (64 * ws.length - n) = 0 := by
    rw [cnt_congr (g := fun _ => false) (fun j hj => h.2 _ (by omega) (by omega))]
    simp [cntF]
  omega
end Go.Proofs.YtljegehfdmgcbaaDoor
