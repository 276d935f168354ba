/- The plain law of a file's map of extents: no program in sight. -/
import Derived.Test.YtenmogokbelahaaOwnG
namespace Go.Proofs.Ytenmogokbelahaa
open Go Go.RowKit

abbrev Ext3 := Int × Int × Int
abbrev RunE := Int × Int
def xc (x : Ext3) : List Value := [.int .i64 x.1, .int .i64 x.2.1, .int .i64 x.2.2]
def rc (r : RunE) : List Value := [.int .i64 r.1, .int .i64 r.2]
theorem xc_len (x : Ext3) : (xc x).length = 3 := rfl
theorem rc_len (r : RunE) : (rc r).length = 2 := rfl
theorem xc_one (y : Ext3) : ∀ u ∈ xc y, u.oneCell' = true := by
  intro u hu
  simp only [xc, List.mem_cons, List.not_mem_nil, or_false] at hu
  rcases hu with rfl | rfl | rfl <;> rfl
theorem rc_one (y : RunE) : ∀ u ∈ rc y, u.oneCell' = true := by
  intro u hu
  simp only [rc, List.mem_cons, List.not_mem_nil, or_false] at hu
  rcases hu with rfl | rfl <;> rfl
def xv (x : Ext3) : Value := .agg #[.int .i64 x.1, .int .i64 x.2.1, .int .i64 x.2.2]
/-- May an extent be? -/
def rightX (x : Ext3) : Bool := decide (0 ≤ x.1 ∧ x.1 < 128 ∧ 1 ≤ x.2.2 ∧ x.2.2 ≤ 128 - x.1) && decide (1 ≤ x.2.1 ∧ x.2.1 < 2048 ∧ x.2.2 ≤ 2048 - x.2.1)
theorem right_iff (x : Ext3) : rightX x = true ↔ 0 ≤ x.1 ∧ 1 ≤ x.2.2 ∧ x.1 + x.2.2 ≤ 128 ∧ 1 ≤ x.2.1 ∧ x.2.1 + x.2.2 ≤ 2048 := by
  unfold rightX
  rw [Bool.and_eq_true, decide_eq_true_eq, decide_eq_true_eq]
  omega
/-- A table: where each block lies; 0: nowhere. -/
structure TabOk (t : List Int) : Prop where
  len : t.length = 128
  lo : ∀ i (h : i < t.length), 0 ≤ t[i]
  hi : ∀ i (h : i < t.length), t[i] < 2048
def zeroT : List Int := List.replicate 128 0
theorem zeroT_get (i : Nat) (h : i < zeroT.length) : zeroT[i] = 0 := List.getElem_replicate _
theorem zeroT_ok : TabOk zeroT := ⟨List.length_replicate, fun i h => by rw [zeroT_get i h]; exact Int.le_refl 0, fun i h => by rw [zeroT_get i h]; decide⟩
theorem TabOk.set {t : List Int} (h : TabOk t) (i : Nat) (a : Int) (h0 : 0 ≤ a) (h1 : a < 2048) : TabOk (t.set i a) := by
  refine ⟨by rw [List.length_set]; exact h.len, fun j hj => ?_, fun j hj => ?_⟩
  · rw [List.getElem_set]
    split
    · exact h0
    · exact h.lo j (by simpa using hj)
  · rw [List.getElem_set]
    split
    · exact h1
    · exact h.hi j (by simpa using hj)
/-- A thing behind others, or the last one longer. -/
def joinX (l : List Ext3) (i a : Int) : List Ext3 :=
  if h : 0 < l.length then
    if l[l.length - 1].1 + l[l.length - 1].2.2 = i ∧ l[l.length - 1].2.1 + l[l.length - 1].2.2 = a then l.set (l.length - 1) (l[l.length - 1].1, l[l.length - 1].2.1, l[l.length - 1].2.2 + 1) else l ++ [(i, a, 1)]
  else l ++ [(i, a, 1)]
def joinR (l : List RunE) (a : Int) : List RunE :=
  if h : 0 < l.length then
    if l[l.length - 1].1 + l[l.length - 1].2 = a then l.set (l.length - 1) (l[l.length - 1].1, l[l.length - 1].2 + 1) else l ++ [(a, 1)]
  else l ++ [(a, 1)]
theorem joinX_nil (i a : Int) : joinX [] i a = [(i, a, 1)] := by simp [joinX]
theorem joinR_nil (a : Int) : joinR [] a = [(a, 1)] := by simp [joinR]
theorem joinX_go {l : List Ext3} {n : Nat} {f d m i a : Int} (hn : n + 1 = l.length) (hl : l[n]'(by omega) = (f, d, m)) (h1 : f + m = i) (h2 : d + m = a) : joinX l i a = l.set n (f, d, m + 1) := by
  have e : l.length - 1 = n := by omega
  unfold joinX
  rw [dif_pos (by omega)]
  simp only [e, hl]
  rw [if_pos ⟨h1, h2⟩]
theorem joinX_new {l : List Ext3} {n : Nat} {f d m i a : Int} (hn : n + 1 = l.length) (hl : l[n]'(by omega) = (f, d, m)) (h : ¬ (f + m = i ∧ d + m = a)) : joinX l i a = l ++ [(i, a, 1)] := by
  have e : l.length - 1 = n := by omega
  unfold joinX
  rw [dif_pos (by omega)]
  simp only [e, hl]
  rw [if_neg h]
theorem joinR_go {l : List RunE} {n : Nat} {d m a : Int} (hn : n + 1 = l.length) (hl : l[n]'(by omega) = (d, m)) (h2 : d + m = a) : joinR l a = l.set n (d, m + 1) := by
  have e : l.length - 1 = n := by omega
  unfold joinR
  rw [dif_pos (by omega)]
  simp only [e, hl]
  rw [if_pos h2]
theorem joinR_new {l : List RunE} {n : Nat} {d m a : Int} (hn : n + 1 = l.length) (hl : l[n]'(by omega) = (d, m)) (h : ¬ d + m = a) : joinR l a = l ++ [(a, 1)] := by
  have e : l.length - 1 = n := by omega
  unfold joinR
  rw [dif_pos (by omega)]
  simp only [e, hl]
  rw [if_neg h]
theorem joinX_len (l : List Ext3) (i a : Int) : (joinX l i a).length ≤ l.length + 1 := by
  unfold joinX
  split
  · split
    · rw [List.length_set]; omega
    · simp
  · simp
theorem joinR_len (l : List RunE) (a : Int) : (joinR l a).length ≤ l.length + 1 := by
  unfold joinR
  split
  · split
    · rw [List.length_set]; omega
    · simp
  · simp
/-- A table's extents, of its first k blocks. -/
def listX (t : List Int) : Nat → List Ext3
  | 0 => []
  | k + 1 => if t.getD k 0 = 0 then listX t k else joinX (listX t k) k (t.getD k 0)
/-- Extents that are small: what is added to them fits. -/
def SmallX (l : List Ext3) (k : Nat) : Prop := ∀ x ∈ l, 0 ≤ x.1 ∧ 1 ≤ x.2.2 ∧ x.1 + x.2.2 ≤ k ∧ 0 ≤ x.2.1 ∧ x.2.1 + x.2.2 ≤ 2048
theorem joinX_small {l : List Ext3} {k : Nat} {a : Int} (h : SmallX l k) (h0 : 0 ≤ a) (h1 : a < 2048) : SmallX (joinX l k a) (k + 1) := by
  have hnew : ∀ x ∈ l ++ [((k : Int), a, (1 : Int))], 0 ≤ x.1 ∧ 1 ≤ x.2.2 ∧ x.1 + x.2.2 ≤ ((k + 1 : Nat) : Int) ∧ 0 ≤ x.2.1 ∧ x.2.1 + x.2.2 ≤ 2048 := fun x hx => by
    rw [List.mem_append, List.mem_singleton] at hx
    rcases hx with hx | rfl
    · have := h x hx; omega
    · exact ⟨by show (0 : Int) ≤ (k : Int); omega, by show (1 : Int) ≤ 1; omega, by show (k : Int) + 1 ≤ _; omega, h0, by show a + 1 ≤ 2048; omega⟩
  intro x hx
  unfold joinX at hx
  split at hx
  · rename_i hl
    split at hx
    · rename_i hc
      rcases List.mem_or_eq_of_mem_set hx with hx | rfl
      · have := h x hx; omega
      · have := h _ (List.getElem_mem (by omega : l.length - 1 < l.length))
        exact ⟨this.1, by show 1 ≤ l[l.length - 1].2.2 + 1; omega, by show l[l.length - 1].1 + (l[l.length - 1].2.2 + 1) ≤ _; omega, this.2.2.2.1, by show l[l.length - 1].2.1 + (l[l.length - 1].2.2 + 1) ≤ _; omega⟩
    · exact hnew x hx
  · exact hnew x hx
theorem listX_small {t : List Int} (ht : TabOk t) : ∀ k, k ≤ 128 → SmallX (listX t k) k ∧ (listX t k).length ≤ k
  | 0, _ => ⟨fun x hx => (by cases hx), Nat.le_refl _⟩
  | k + 1, hk => by
    have ih := listX_small ht k (by omega)
    have hl := ht.len
    have e : t.getD k 0 = t[k]'(by omega) := by rw [List.getD_eq_getElem?_getD, List.getElem?_eq_getElem (by omega)]; rfl
    unfold listX
    split
    · refine ⟨fun x hx => ?_, by omega⟩
      have := ih.1 x hx; omega
    · refine ⟨joinX_small ih.1 (by rw [e]; exact ht.lo k (by omega)) (by rw [e]; exact ht.hi k (by omega)), ?_⟩
      have := joinX_len (listX t k) k (t.getD k 0)
      omega
/-- The blocks of an extent are laid, one by one. -/
def placeK (t : List Int) (f d : Nat) : Nat → Option (List Int)
  | 0 => some t
  | k + 1 => match placeK t f d k with
    | none => none
    | some u => if u.getD (f + k) 0 ≠ 0 ∨ ((d + k : Nat) : Int) ∈ u then none else some (u.set (f + k) ((d + k : Nat) : Int))
def placeL (l : List Ext3) : Nat → Option (List Int)
  | 0 => some zeroT
  | j + 1 => match placeL l j with
    | none => none
    | some t => match l[j]? with
      | none => none
      | some x => placeK t x.1.toNat x.2.1.toNat x.2.2.toNat
/-- The table of a list, or none. -/
def ofX (l : List Ext3) : Option (List Int) :=
  if 10 < l.length then none else
  if l.all rightX then (match placeL l l.length with | none => none | some t => if listX t 128 = l then some t else none) else none
theorem placeK_ok {t : List Int} (ht : TabOk t) {f d m : Nat} (h1 : f + m ≤ 128) (h2 : d + m ≤ 2048) : ∀ k, k ≤ m → ∀ u, placeK t f d k = some u → TabOk u
  | 0, _, u, h => by cases h; exact ht
  | k + 1, hk, u, h => by
    unfold placeK at h
    split at h
    · cases h
    · rename_i v hv
      have ih := placeK_ok ht h1 h2 k (by omega) v hv
      split at h
      · cases h
      · cases h
        exact ih.set _ _ (by omega) (by omega)
theorem placeK_none {t : List Int} {f d k j : Nat} (h : placeK t f d k = none) (hkj : k ≤ j) : placeK t f d j = none := by
  induction j with
  | zero =>
    obtain rfl : k = 0 := by omega
    exact h
  | succ j ih =>
    by_cases e : k = j + 1
    · subst e; exact h
    · unfold placeK
      rw [ih (by omega)]
theorem placeL_none {l : List Ext3} {k j : Nat} (h : placeL l k = none) (hkj : k ≤ j) : placeL l j = none := by
  induction j with
  | zero =>
    obtain rfl : k = 0 := by omega
    exact h
  | succ j ih =>
    by_cases e : k = j + 1
    · subst e; exact h
    · unfold placeL
      rw [ih (by omega)]
theorem placeL_step {l : List Ext3} {j : Nat} (hj : j < l.length) {t : List Int} (h : placeL l j = some t) : placeL l (j + 1) = placeK t l[j].1.toNat l[j].2.1.toNat l[j].2.2.toNat := by
  show (match placeL l j with | none => none | some t => match l[j]? with | none => none | some x => placeK t x.1.toNat x.2.1.toNat x.2.2.toNat) = _
  rw [h, List.getElem?_eq_getElem hj]
theorem placeL_ok {l : List Ext3} (hr : ∀ x ∈ l, rightX x = true) : ∀ j, j ≤ l.length → ∀ t, placeL l j = some t → TabOk t
  | 0, _, t, h => by cases h; exact zeroT_ok
  | j + 1, hj, t, h => by
    cases hp : placeL l j with
    | none => rw [placeL_none hp (Nat.le_succ j)] at h; cases h
    | some u =>
      rw [placeL_step (by omega) hp] at h
      have hx := (right_iff _).1 (hr _ (List.getElem_mem (by omega : j < l.length)))
      exact placeK_ok (placeL_ok hr j (by omega) u hp) (by omega) (by omega) _ (Nat.le_refl _) t h
theorem ofX_ok {l : List Ext3} {t : List Int} (h : ofX l = some t) : TabOk t ∧ listX t 128 = l ∧ l.length ≤ 10 ∧ (∀ x ∈ l, rightX x = true) := by
  unfold ofX at h
  split at h
  · cases h
  · rename_i h10
    split at h
    · rename_i hr
      rw [List.all_eq_true] at hr
      split at h
      · cases h
      · rename_i u hu
        split at h
        · rename_i hl
          cases h
          exact ⟨placeL_ok hr _ (Nat.le_refl _) t hu, hl, by omega, hr⟩
        · cases h
    · cases h
/-- A block is laid somewhere; runs with where it lay. -/
def putX (s : List Int × List RunE) (i : Nat) (a : Int) : List Int × List RunE := (s.1.set i a, if s.1.getD i 0 = 0 then s.2 else joinR s.2 (s.1.getD i 0))
def putK (t : List Int) (f d : Nat) : Nat → List Int × List RunE
  | 0 => (t, [])
  | k + 1 => putX (putK t f d k) (f + k) ((d + k : Nat) : Int)
def cutK (t : List Int) (b : Nat) : Nat → List Int × List RunE
  | 0 => (t, [])
  | k + 1 => putX (cutK t b k) (b + k) 0
def hitX (t : List Int) (x : Ext3) : Bool := t.any fun a => decide (x.2.1 ≤ a ∧ a < x.2.1 + x.2.2)
def putL (l : List Ext3) (x : Ext3) : List Ext3 × List RunE × Int :=
  match ofX l with
  | none => ([], [], 2)
  | some t => if rightX x = false ∨ hitX t x = true then ([], [], 2) else
    if 10 < (listX (putK t x.1.toNat x.2.1.toNat x.2.2.toNat).1 128).length then ([], [], 3) else
    (listX (putK t x.1.toNat x.2.1.toNat x.2.2.toNat).1 128, (putK t x.1.toNat x.2.1.toNat x.2.2.toNat).2, 0)
def cutL (l : List Ext3) (b : Int) : List Ext3 × List RunE × Int :=
  match ofX l with
  | none => ([], [], 2)
  | some t => if b < 0 ∨ 128 < b then ([], [], 2) else (listX (cutK t b.toNat (128 - b.toNat)).1 128, (cutK t b.toNat (128 - b.toNat)).2, 0)
/-- Runs that are small. -/
def SmallR (l : List RunE) (n : Nat) : Prop := l.length ≤ n ∧ ∀ r ∈ l, 0 ≤ r.1 ∧ 1 ≤ r.2 ∧ r.1 + r.2 ≤ 2048
theorem joinR_small {l : List RunE} {n : Nat} {a : Int} (h : SmallR l n) (h0 : 0 ≤ a) (h1 : a < 2048) : SmallR (joinR l a) (n + 1) := by
  refine ⟨Nat.le_trans (joinR_len l a) (by have := h.1; omega), ?_⟩
  have hnew : ∀ r ∈ l ++ [((a : Int), (1 : Int))], 0 ≤ r.1 ∧ 1 ≤ r.2 ∧ r.1 + r.2 ≤ 2048 := fun x hx => by
    rw [List.mem_append, List.mem_singleton] at hx
    rcases hx with hx | rfl
    · exact h.2 x hx
    · exact ⟨h0, by show (1 : Int) ≤ 1; omega, by show a + 1 ≤ 2048; omega⟩
  intro x hx
  unfold joinR at hx
  split at hx
  · rename_i hl
    split at hx
    · rename_i hc
      rcases List.mem_or_eq_of_mem_set hx with hx | rfl
      · exact h.2 x hx
      · have := h.2 _ (List.getElem_mem (by omega : l.length - 1 < l.length))
        exact ⟨this.1, by show 1 ≤ l[l.length - 1].2 + 1; omega, by show l[l.length - 1].1 + (l[l.length - 1].2 + 1) ≤ _; omega⟩
    · exact hnew x hx
  · exact hnew x hx
def StOk (s : List Int × List RunE) (n : Nat) : Prop := TabOk s.1 ∧ SmallR s.2 n
theorem getD_ok {t : List Int} (h : TabOk t) (i : Nat) : 0 ≤ t.getD i 0 ∧ t.getD i 0 < 2048 := by
  rw [List.getD_eq_getElem?_getD]
  by_cases hi : i < t.length
  · rw [List.getElem?_eq_getElem hi]
    exact ⟨h.lo i hi, h.hi i hi⟩
  · rw [List.getElem?_eq_none (by omega)]
    exact ⟨Int.le_refl 0, by decide⟩
theorem putX_ok {s : List Int × List RunE} {n : Nat} (h : StOk s n) (i : Nat) (a : Int) (h0 : 0 ≤ a) (h1 : a < 2048) : StOk (putX s i a) (n + 1) := by
  refine ⟨h.1.set i a h0 h1, ?_⟩
  show SmallR (if s.1.getD i 0 = 0 then s.2 else joinR s.2 (s.1.getD i 0)) (n + 1)
  split
  · exact ⟨Nat.le_succ_of_le h.2.1, h.2.2⟩
  · exact joinR_small h.2 (getD_ok h.1 i).1 (getD_ok h.1 i).2
theorem putK_ok {t : List Int} (ht : TabOk t) {f d m : Nat} (h2 : d + m ≤ 2048) : ∀ k, k ≤ m → StOk (putK t f d k) k
  | 0, _ => ⟨ht, Nat.le_refl _, fun r hr => by cases hr⟩
  | k + 1, hk => putX_ok (putK_ok ht h2 k (by omega)) _ _ (by omega) (by omega)
theorem cutK_ok {t : List Int} (ht : TabOk t) {b : Nat} : ∀ k, StOk (cutK t b k) k
  | 0 => ⟨ht, Nat.le_refl _, fun r hr => by cases hr⟩
  | k + 1 => putX_ok (cutK_ok ht k) _ _ (Int.le_refl 0) (by decide)
/-- The blocks that lie somewhere. -/
def eachX (t : List Int) : List Nat := (List.range 128).filter fun i => decide (t.getD i 0 ≠ 0)
def eachTo (t : List Int) : Nat → List Nat
  | 0 => []
  | k + 1 => if t.getD k 0 = 0 then eachTo t k else eachTo t k ++ [k]
theorem eachTo_eq (t : List Int) : ∀ k, eachTo t k = (List.range k).filter fun i => decide (t.getD i 0 ≠ 0)
  | 0 => rfl
  | k + 1 => by
    unfold eachTo
    rw [List.range_succ, List.filter_append, ← eachTo_eq t k]
    by_cases h : t.getD k 0 = 0
    · rw [if_pos h]; simp only [List.filter_cons, h]; simp
    · rw [if_neg h]; simp only [List.filter_cons, List.filter_nil]; rw [if_pos (by simpa using h)]
end Go.Proofs.Ytenmogokbelahaa
