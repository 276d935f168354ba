/- The plain law of layouts: no program in sight. -/
import Derived.Test.YtljegehfdmgcbaaMem
namespace Go.Proofs.Ytljegehfdmgcbaa
open Go Go.RowKit

/-- A layout: its form, key, and first blocks. -/
structure Lay where
  B : Int
  I : Int
  R : Int
  T : Int
  k0 : BitVec 64
  k1 : BitVec 64
  i : Int
  r : Int
  m : Int
  d : Int
deriving DecidableEq
def lcs (l : Lay) : List Value := [.int .i64 l.B, .int .i64 l.I, .int .i64 l.R, .int .i64 l.T, vw l.k0, vw l.k1, .int .i64 l.i, .int .i64 l.r, .int .i64 l.m, .int .i64 l.d]
def lv (l : Lay) : Value := .agg #[.int .i64 l.B, .int .i64 l.I, .int .i64 l.R, .int .i64 l.T, vw l.k0, vw l.k1, .int .i64 l.i, .int .i64 l.r, .int .i64 l.m, .int .i64 l.d]
def lay0 : Lay := ⟨0, 0, 0, 0, 0, 0, 0, 0, 0, 0⟩
/-- Which forms may be. -/
def OfOk (B I R T : Int) : Prop := (32 ≤ B ∧ B ≤ 2048) ∧ (1 ≤ T ∧ T ≤ 40) ∧ (4 ≤ I ∧ I ≤ 256 ∧ I % 4 = 0) ∧ (4 ≤ R ∧ R ≤ 1024 ∧ R % 4 = 0) ∧ 4 ≤ B - (9 + I / 4 + R / 4 + 1)
instance (B I R T : Int) : Decidable (OfOk B I R T) := by unfold OfOk; infer_instance
def ofL (B I R T : Int) (k0 k1 : BitVec 64) : Lay := if OfOk B I R T then ⟨B, I, R, T, k0, k1, 9, 9 + I / 4, 9 + I / 4 + R / 4, 9 + I / 4 + R / 4 + 1⟩ else lay0
def ofNo (B I R T : Int) : Int := if OfOk B I R T then 0 else 2
/-- Is a layout one of its form and key? -/
def RightL (l : Lay) : Prop := OfOk l.B l.I l.R l.T ∧ l.i = 9 ∧ l.r = 9 + l.I / 4 ∧ l.m = 9 + l.I / 4 + l.R / 4 ∧ l.d = 9 + l.I / 4 + l.R / 4 + 1
instance (l : Lay) : Decidable (RightL l) := by unfold RightL; infer_instance
theorem right_of {B I R T : Int} {k0 k1 : BitVec 64} (h : OfOk B I R T) : RightL (ofL B I R T k0 k1) := by
  unfold ofL
  rw [if_pos h]
  exact ⟨h, rfl, rfl, rfl, rfl⟩
theorem ofL_right {l : Lay} (h : RightL l) : ofL l.B l.I l.R l.T l.k0 l.k1 = l := by
  unfold ofL
  rw [if_pos h.1]
  obtain ⟨_, h1, h2, h3, h4⟩ := h
  cases l
  simp only at h1 h2 h3 h4
  subst h1 h2 h3 h4
  rfl

/-- The parts: kind, first block, how many, words of each, the first one's number (below 0: that of its block). -/
def pKind (k : Nat) : Int := (k : Int) + 1
def pFrom (l : Lay) (k : Nat) : Int := match k with | 0 => 0 | 1 => 1 | 2 => l.i | 3 => l.r | 4 => l.m | _ => l.d
def pMany (l : Lay) (k : Nat) : Int := match k with | 0 => 1 | 1 => 8 | 2 => l.I | 3 => l.R | 4 => 1 | _ => l.B - l.d
def pWide (k : Nat) : Int := match k with | 2 => 16 | 3 => 16 | _ => 64
def pFirst (k : Nat) : Int := match k with | 2 => 1 | 3 => 1 | 5 => -1 | _ => 0
def pAt (l : Lay) (k : Nat) (n : Int) : Int := pFrom l k * 64 + n * pWide k
def pNum (l : Lay) (k : Nat) (n : Int) : Int := if pFirst k < 0 then pFrom l k + n else pFirst k + n
/-- One part: its first word, its kind, its number. -/
abbrev Itm := Int × Int × Int
def pItem (l : Lay) (k : Nat) (n : Nat) : Itm := (pAt l k n, pKind k, pNum l k n)
def pItems (l : Lay) (k : Nat) : List Itm := (List.range (pMany l k).toNat).map (pItem l k)
def preL (l : Lay) (k : Nat) : Nat := ((List.range k).flatMap (pItems l)).length
def itemsL (l : Lay) : List Itm := if RightL l then (List.range 6).flatMap (pItems l) else []
theorem pItems_len (l : Lay) (k : Nat) : (pItems l k).length = (pMany l k).toNat := by simp [pItems]
theorem preL_succ (l : Lay) (k : Nat) : preL l (k + 1) = preL l k + (pMany l k).toNat := by
  unfold preL
  rw [List.range_succ, List.flatMap_append, List.length_append]
  simp [pItems_len]
theorem itemsL_len {l : Lay} (h : RightL l) : (itemsL l).length = preL l 6 := by unfold itemsL; rw [if_pos h]; rfl
theorem itemsL_get {l : Lay} (h : RightL l) {k n : Nat} (hk : k < 6) (hn : n < (pMany l k).toNat) : ∃ hl : preL l k + n < (itemsL l).length, (itemsL l)[preL l k + n] = pItem l k n := by
  have hs : List.range 6 = List.range k ++ k :: (List.range 6).drop (k + 1) := by
    have h1 : (List.range 6).take k = List.range k := by rw [List.take_range]; congr 1; omega
    have h2 := List.drop_eq_getElem_cons (l := List.range 6) (i := k) (by simpa using hk)
    rw [List.getElem_range] at h2
    rw [← h1]
    conv => lhs; rw [← List.take_append_drop k (List.range 6), h2]
  have hi : itemsL l = (List.range k).flatMap (pItems l) ++ (pItems l k ++ ((List.range 6).drop (k + 1)).flatMap (pItems l)) := by
    unfold itemsL
    rw [if_pos h]
    conv => lhs; rw [hs]
    rw [List.flatMap_append, List.flatMap_cons]
  have hl : preL l k + n < (itemsL l).length := by
    rw [hi, List.length_append, List.length_append, pItems_len]
    show ((List.range k).flatMap (pItems l)).length + n < _
    omega
  refine ⟨hl, ?_⟩
  have h2 : (itemsL l)[preL l k + n]? = some (pItem l k n) := by
    rw [hi]
    unfold preL
    rw [List.getElem?_append_right (Nat.le_add_right _ _), Nat.add_sub_cancel_left, List.getElem?_append_left (by rw [pItems_len]; exact hn)]
    simp [pItems, hn]
  exact (List.getElem?_eq_some_iff.1 h2).2
/-- What a word belongs to: the last part whose first word is not above it. -/
def lastI (word : Int) (its : List Itm) (x : Int × Int) : Int × Int := its.foldl (fun x it => if it.1 ≤ word then (it.2.1, it.2.2) else x) x
theorem lastI_snoc (word : Int) (its : List Itm) (it : Itm) (x : Int × Int) : lastI word (its ++ [it]) x = if it.1 ≤ word then (it.2.1, it.2.2) else lastI word its x := by
  unfold lastI
  rw [List.foldl_append]
  rfl
/-- The first word of one of a kind (2, 3, 4), by its number; an error. -/
def placeL (l : Lay) (k : Nat) (n : Int) : Int × Int :=
  if ¬ RightL l then (0, 2) else if pFirst k ≤ n ∧ n ≤ pFirst k + pMany l k - 1 then (pAt l k (n - pFirst k), 0) else (0, 4)
theorem right_bounds {l : Lay} (h : RightL l) : (32 ≤ l.B ∧ l.B ≤ 2048) ∧ (4 ≤ l.I ∧ l.I ≤ 256) ∧ (4 ≤ l.R ∧ l.R ≤ 1024) ∧ l.i = 9 ∧ (10 ≤ l.r ∧ l.r ≤ 73) ∧ (11 ≤ l.m ∧ l.m ≤ 329) ∧ l.d = l.m + 1 ∧ l.d ≤ l.B - 4 := by
  obtain ⟨⟨h1, h2, h3, h4, h5⟩, h6, h7, h8, h9⟩ := h
  omega
theorem pMany_nn {l : Lay} (h : RightL l) (k : Nat) : 0 ≤ pMany l k ∧ pMany l k ≤ 2048 := by
  have := right_bounds h
  unfold pMany
  split <;> omega
end Go.Proofs.Ytljegehfdmgcbaa
