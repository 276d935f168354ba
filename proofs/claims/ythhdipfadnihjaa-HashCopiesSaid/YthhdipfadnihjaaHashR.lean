/- The walks of the reference's hash. -/
import Derived.Test.YthhdipfadnihjaaHashLaw
import Derived.Test.YthhdipfadnihjaaWordsE
namespace Go.Proofs.Ythhdipfadnihjaa
open Go Go.RowKit

def aggV (vs : List (BitVec 64)) : Value := .agg #[vw (hget vs 0), vw (hget vs 1), vw (hget vs 2), vw (hget vs 3)]
/-- The round, word by word. -/
def rA (a b c d : BitVec 64) : BitVec 64 := addw (rotw (addw a b) 32) (xorw (rotw d 16) (addw c d))
def rB (a b c d : BitVec 64) : BitVec 64 := xorw (rotw (xorw (rotw b 13) (addw a b)) 17) (addw (addw c d) (xorw (rotw b 13) (addw a b)))
def rC (a b c d : BitVec 64) : BitVec 64 := rotw (addw (addw c d) (xorw (rotw b 13) (addw a b))) 32
def rD (a b c d : BitVec 64) : BitVec 64 := xorw (rotw (xorw (rotw d 16) (addw c d)) 21) (addw (rotw (addw a b) 32) (xorw (rotw d 16) (addw c d)))
theorem roundL_of (a b c d : BitVec 64) : roundL [a, b, c, d] = [rA a b c d, rB a b c d, rC a b c d, rD a b c d] := rfl

theorem hget4 (a b c d : BitVec 64) : hget [a, b, c, d] 0 = a ∧ hget [a, b, c, d] 1 = b ∧ hget [a, b, c, d] 2 = c ∧ hget [a, b, c, d] 3 = d := ⟨rfl, rfl, rfl, rfl⟩
def pow56 : BitVec 64 := 72057594037927936#64
def mulw (x y : BitVec 64) : BitVec 64 := x * y
theorem mul_w (x y : BitVec 64) : IntKind.u64.wrap ((x.toNat : Int) * (y.toNat : Int)) = ((mulw x y).toNat : Int) := by
  unfold mulw
  rw [wrap_u64, BitVec.toNat_mul]
  simp
/-- The last word, as the reference adds it up. -/
theorem last_word (left : List (BitVec 8)) (n : Nat) (h : left.length < 8) : wordOf (lastL left n) = addw (wordOf left) (mulw (BitVec.ofNat 64 (n % 256)) pow56) := by
  apply BitVec.eq_of_toNat_eq
  have hl := lastL_len left n (by omega)
  have e : lastL left n = (left ++ List.replicate (7 - left.length) 0#8) ++ [byteN n] := by
    unfold lastL
    rw [show 8 - left.length = (7 - left.length) + 1 by omega, List.replicate_succ', ← List.append_assoc]
    rw [List.set_append_right _ _ (by simp; omega)]
    have : 7 - (left ++ List.replicate (7 - left.length) 0#8).length = 0 := by simp; omega
    rw [this]; rfl
  have hz : ∀ (l : List (BitVec 8)) (m : Nat), wordN (l ++ List.replicate m 0#8) = wordN l := by
    intro l m
    induction l with
    | nil =>
      induction m with
      | zero => rfl
      | succ m ih =>
        simp only [List.nil_append] at ih ⊢
        rw [List.replicate_succ]
        show (0#8).toNat + 256 * wordN (List.replicate m 0#8) = 0
        rw [ih]; rfl
    | cons x l ih => simp only [List.cons_append, wordN, ih]
  have h7 : (left ++ List.replicate (7 - left.length) 0#8).length = 7 := by simp; omega
  rw [wordOf_toNat _ (by omega), e, wordN_snoc, hz, h7]
  have hw : wordN left < 256 ^ 7 := Nat.lt_of_lt_of_le (wordN_lt left) (Nat.pow_le_pow_right (by omega) (by omega))
  have hb : (byteN n).toNat = n % 256 := by simp [byteN]
  unfold addw mulw pow56
  rw [BitVec.toNat_add, BitVec.toNat_mul, wordOf_toNat left (by omega), BitVec.toNat_ofNat, hb]
  simp only [BitVec.toNat_ofNat]
  have : n % 256 < 256 := Nat.mod_lt _ (by omega)
  omega

theorem list_set4 {α : Type} (a b c d e f g i : α) : ((([a, b, c, d].set 0 e).set 1 f).set 2 g).set 3 i = [e, f, g, i] := rfl
theorem hset4 (vs : List (BitVec 64)) (hl : vs.length = 4) (us : List (BitVec 64)) (hu : us.length = 4) :
    (((vs.set 0 (hget us 0)).set 1 (hget us 1)).set 2 (hget us 2)).set 3 (hget us 3) = us :=
  (congrArg (fun l => (((l.set 0 (hget us 0)).set 1 (hget us 1)).set 2 (hget us 2)).set 3 (hget us 3)) (vs4 vs hl)).trans ((list_set4 _ _ _ _ _ _ _ _).trans (vs4 us hu).symm)
theorem Hd.set4 {W : World} {B : Nat} {t : TypeId} {vs : List (BitVec 64)} {rest : List Value} (h : Hd W B t vs rest) (hl : vs.length = 4) (us : List (BitVec 64)) (hu : us.length = 4) :
    Hd ((((W.setCell ⟨B, 0, none⟩ (vw (hget us 0))).setCell ⟨B, 1, none⟩ (vw (hget us 1))).setCell ⟨B, 2, none⟩ (vw (hget us 2))).setCell ⟨B, 3, none⟩ (vw (hget us 3))) B t us rest := by
  have h0 := h.set 0 (by omega) (hget us 0)
  have h1 := h0.set 1 (by rw [List.length_set]; omega) (hget us 1)
  have h2 := h1.set 2 (by rw [List.length_set, List.length_set]; omega) (hget us 2)
  have h3 := h2.set 3 (by rw [List.length_set, List.length_set, List.length_set]; omega) (hget us 3)
  have e := hset4 vs hl us hu
  generalize hq : (((vs.set 0 (hget us 0)).set 1 (hget us 1)).set 2 (hget us 2)).set 3 (hget us 3) = qs at h3 e
  subst e
  exact h3
theorem frn_set4 {X : Nat → Prop} {A W : World} {B : Nat} (h : Frn X A W) (hB : X B ∨ A.heap.size ≤ B) (a b c d : Value) :
    Frn X A ((((W.setCell ⟨B, 0, none⟩ a).setCell ⟨B, 1, none⟩ b).setCell ⟨B, 2, none⟩ c).setCell ⟨B, 3, none⟩ d) :=
  (((h.setCell ⟨B, 0, none⟩ hB _).setCell ⟨B, 1, none⟩ hB _).setCell ⟨B, 2, none⟩ hB _).setCell ⟨B, 3, none⟩ hB _

theorem initV_len (a b : BitVec 64) : (initV a b).length = 4 := rfl
attribute [local irreducible] takeV foldV roundsL finV outV wordOf lastL
/-- The reference's state behind so many words. -/
def refSt (a b : BitVec 64) (bs : List (BitVec 8)) (k : Nat) : List (BitVec 64) :=
  if k ≤ bs.length / 8 then foldV (initV a b) ((wholeW bs).take k) else takeV (stV a b bs) (wordOf (lastL (leftB bs) bs.length))
theorem refSt_len (a b : BitVec 64) (bs : List (BitVec 8)) (k : Nat) : (refSt a b bs k).length = 4 := by
  unfold refSt
  split
  · rw [foldV_len, initV_len]
  · rw [takeV_len, stV, foldV_len, initV_len]
/-- The word that comes at place k. -/
def refM (bs : List (BitVec 8)) (k : Nat) : BitVec 64 :=
  if k < bs.length / 8 then wordOf ((bs.drop (8 * k)).take 8) else addw (wordOf ((bs.drop (8 * k)).take 8)) (mulw (BitVec.ofNat 64 (bs.length % 256)) pow56)
theorem refSt_succ (a b : BitVec 64) (bs : List (BitVec 8)) (k : Nat) (h : k ≤ bs.length / 8) : refSt a b bs (k + 1) = takeV (refSt a b bs k) (refM bs k) := by
  by_cases hlt : k < bs.length / 8
  · unfold refSt refM
    rw [if_pos (by omega), if_pos h, if_pos hlt, foldV_take _ _ k (by rw [wholeW_len]; exact hlt), wholeW_get]
  · obtain rfl : k = bs.length / 8 := by omega
    unfold refSt refM
    rw [if_neg (by omega), if_pos (Nat.le_refl _), if_neg (by omega)]
    have hl := leftB_len bs
    have e : (wholeW bs).take (bs.length / 8) = wholeW bs := List.take_of_length_le (by rw [wholeW_len]; exact Nat.le_refl _)
    rw [e, last_word (leftB bs) bs.length (by omega)]
    have e2 : (bs.drop (8 * (bs.length / 8))).take 8 = leftB bs := List.take_of_length_le (by simp; omega)
    rw [e2, stV]
theorem refSt_end (a b : BitVec 64) (bs : List (BitVec 8)) : outV (finV (refSt a b bs (bs.length / 8 + 1))) = hashV a b bs := by
  unfold refSt hashV sumV
  rw [if_neg (by omega)]

end Go.Proofs.Ythhdipfadnihjaa
