/- The walks of the reference's hash. -/
import Derived.Test.YtandljkppgneoaaHashLaw
import Derived.Test.YtandljkppgneoaaWordsE
namespace Go.Proofs.Ytandljkppgneoaa
open Go Go.RowKit

set_option maxHeartbeats 400000 in
theorem refTurn_any (x : BitVec 64) (r : Nat) (hr : r < 64) (w : World) :
    Calls Try.prog 67 #[vw x, .int .u64 r] w fun e w' => e = .returned (vw (rotw x r)) ∧ w = w' := by
  have h2 := shl_w x r
  have h3 : (x.toNat : Int) / 2 ^ (64 - r) = ((shrw x (64 - r)).toNat : Int) := by simpa using shr_w x (64 - r)
  have h4 := bits_or_w (shlw x r) (shrw x (64 - r))
  have hb : (r : Int) < 64 := by omega
  have h6 : IntKind.u64.wrap (64 - (r : Int)) = ((64 - r : Nat) : Int) := by rw [wrap_u64]; omega
  go_enter Try.func67, Try.ntmps67
  go_wp2
  go_ret
  exact ⟨rfl, rfl⟩
theorem refTurn13 (x : BitVec 64) (w : World) : Calls Try.prog 67 #[vw x, .int .u64 13] w fun e w' => e = .returned (vw (rotw x 13)) ∧ w = w' := refTurn_any x 13 (by decide) w
theorem refTurn32 (x : BitVec 64) (w : World) : Calls Try.prog 67 #[vw x, .int .u64 32] w fun e w' => e = .returned (vw (rotw x 32)) ∧ w = w' := refTurn_any x 32 (by decide) w
theorem refTurn16 (x : BitVec 64) (w : World) : Calls Try.prog 67 #[vw x, .int .u64 16] w fun e w' => e = .returned (vw (rotw x 16)) ∧ w = w' := refTurn_any x 16 (by decide) w
theorem refTurn21 (x : BitVec 64) (w : World) : Calls Try.prog 67 #[vw x, .int .u64 21] w fun e w' => e = .returned (vw (rotw x 21)) ∧ w = w' := refTurn_any x 21 (by decide) w
theorem refTurn17 (x : BitVec 64) (w : World) : Calls Try.prog 67 #[vw x, .int .u64 17] w fun e w' => e = .returned (vw (rotw x 17)) ∧ w = w' := refTurn_any x 17 (by decide) w

def aggV (vs : List (BitVec 64)) : Value := .agg #[vw (hget vs 0), vw (hget vs 1), vw (hget vs 2), vw (hget vs 3)]
/-- The round, word by word. -/
def rA (a b c d : BitVec 64) : BitVec 64 := addw (rotw (addw a b) 32) (xorw (rotw d 16) (addw c d))
def rB (a b c d : BitVec 64) : BitVec 64 := xorw (rotw (xorw (rotw b 13) (addw a b)) 17) (addw (addw c d) (xorw (rotw b 13) (addw a b)))
def rC (a b c d : BitVec 64) : BitVec 64 := rotw (addw (addw c d) (xorw (rotw b 13) (addw a b))) 32
def rD (a b c d : BitVec 64) : BitVec 64 := xorw (rotw (xorw (rotw d 16) (addw c d)) 21) (addw (rotw (addw a b) 32) (xorw (rotw d 16) (addw c d)))
theorem roundL_of (a b c d : BitVec 64) : roundL [a, b, c, d] = [rA a b c d, rB a b c d, rC a b c d, rD a b c d] := rfl

set_option maxRecDepth 100000 in
set_option maxHeartbeats 1000000 in
theorem refRound_any (a b c d : BitVec 64) (w : World) :
    Calls Try.prog 50 #[.agg #[vw a, vw b, vw c, vw d]] w fun e w' => e = .returned (.agg #[vw (rA a b c d), vw (rB a b c d), vw (rC a b c d), vw (rD a b c d)]) ∧ Below w.heap.size w w' := by
  have a1 := add_w a b
  have x1 := bits_xor_w (rotw b 13) (addw a b)
  have a2 := add_w c d
  have x2 := bits_xor_w (rotw d 16) (addw c d)
  have a3 := add_w (rotw (addw a b) 32) (xorw (rotw d 16) (addw c d))
  have x3 := bits_xor_w (rotw (xorw (rotw d 16) (addw c d)) 21) (addw (rotw (addw a b) 32) (xorw (rotw d 16) (addw c d)))
  have a4 := add_w (addw c d) (xorw (rotw b 13) (addw a b))
  have x4 := bits_xor_w (rotw (xorw (rotw b 13) (addw a b)) 17) (addw (addw c d) (xorw (rotw b 13) (addw a b)))
  go_enter Try.func50, Try.ntmps50
  go_wp2_with fail
  go_quiet (fail)
  go_wp2_with fail
  refine (refTurn13 _ _).mono ?_
  rintro e w1 ⟨rfl, rfl⟩
  go_wp2_with fail
  refine (refTurn32 _ _).mono ?_
  rintro e w1 ⟨rfl, rfl⟩
  go_wp2_with fail
  refine (refTurn16 _ _).mono ?_
  rintro e w1 ⟨rfl, rfl⟩
  go_wp2_with fail
  refine (refTurn21 _ _).mono ?_
  rintro e w1 ⟨rfl, rfl⟩
  go_wp2_with fail
  refine (refTurn17 _ _).mono ?_
  rintro e w1 ⟨rfl, rfl⟩
  go_wp2_with fail
  refine (refTurn32 _ _).mono ?_
  rintro e w1 ⟨rfl, rfl⟩
  go_wp2_with fail
  refine bodyPost_ret (v := .agg #[.int .u64 ((addw (rotw (addw a b) 32) (xorw (rotw d 16) (addw c d))).toNat : Int), .int .u64 ((xorw (rotw (xorw (rotw b 13) (addw a b)) 17) (addw (addw c d) (xorw (rotw b 13) (addw a b)))).toNat : Int),
    vw (rotw (addw (addw c d) (xorw (rotw b 13) (addw a b))) 32), .int .u64 ((xorw (rotw (xorw (rotw d 16) (addw c d)) 21) (addw (rotw (addw a b) 32) (xorw (rotw d 16) (addw c d)))).toNat : Int)]) (by simp [results, Try.results50, go_sem]) rfl ⟨?_, ?_⟩
  · simp only [rA, rB, rC, rD]
  · have h := below_drewN (((Below.refl w.heap.size w).alloc (Nat.le_refl _) (Obj.cells #[vw a, vw b, vw c, vw d] 85)).alloc (by simp) (Obj.cells #[Value.int IntKind.u64 0, Value.int IntKind.u64 0, Value.int IntKind.u64 0, Value.int IntKind.u64 0] 85)) nq
    exact (((h.setCell (p := ⟨w.heap.size + 1, 0, none⟩) (Nat.le_succ _) _).setCell (p := ⟨w.heap.size + 1, 1, none⟩) (Nat.le_succ _) _).setCell (p := ⟨w.heap.size + 1, 2, none⟩) (Nat.le_succ _) _).setCell (p := ⟨w.heap.size + 1, 3, none⟩) (Nat.le_succ _) _
theorem hget4 (a b c d : BitVec 64) : hget [a, b, c, d] 0 = a ∧ hget [a, b, c, d] 1 = b ∧ hget [a, b, c, d] 2 = c ∧ hget [a, b, c, d] 3 = d := ⟨rfl, rfl, rfl, rfl⟩
theorem refRoundV (vs : List (BitVec 64)) (hl : vs.length = 4) (w : World) :
    Calls Try.prog 50 #[.agg #[vw (hget vs 0), vw (hget vs 1), vw (hget vs 2), vw (hget vs 3)]] w fun e w' =>
      e = .returned (.agg #[vw (hget (roundL vs) 0), vw (hget (roundL vs) 1), vw (hget (roundL vs) 2), vw (hget (roundL vs) 3)]) ∧ Below w.heap.size w w' := by
  refine (refRound_any _ _ _ _ w).mono ?_
  rintro e w' ⟨he, hb⟩
  refine ⟨?_, hb⟩
  rw [he]
  have h := roundL_of (hget vs 0) (hget vs 1) (hget vs 2) (hget vs 3)
  rw [← vs4 vs hl] at h
  rw [h]
  rfl

def pow56 : BitVec 64 := 72057594037927936#64
def mulw (x y : BitVec 64) : BitVec 64 := x * y
theorem mul_w (x y : BitVec 64) : IntKind.u64.wrap ((x.toNat : Int) * (y.toNat : Int)) = ((mulw x y).toNat : Int) := by
  unfold mulw
  rw [wrap_u64, BitVec.toNat_mul]
  simp
/-- The last word, as the reference adds it up. -/
theorem last_word (left : List (BitVec 8)) (n : Nat) (h : left.length < 8) : wordOf (lastL left n) = addw (wordOf left) (mulw (BitVec.ofNat 64 (n % 256)) pow56) := by
  apply BitVec.eq_of_toNat_eq
  have hl := lastL_len left n (by omega)
  have e : lastL left n = (left ++ List.replicate (7 - left.length) 0#8) ++ [byteN n] := by
    unfold lastL
    rw [show 8 - left.length = (7 - left.length) + 1 by omega, List.replicate_succ', ← List.append_assoc]
    rw [List.set_append_right _ _ (by simp; omega)]
    have : 7 - (left ++ List.replicate (7 - left.length) 0#8).length = 0 := by simp; omega
    rw [this]; rfl
  have hz : ∀ (l : List (BitVec 8)) (m : Nat), wordN (l ++ List.replicate m 0#8) = wordN l := by
    intro l m
    induction l with
    | nil =>
      induction m with
      | zero => rfl
      | succ m ih =>
        simp only [List.nil_append] at ih ⊢
        rw [List.replicate_succ]
        show (0#8).toNat + 256 * wordN (List.replicate m 0#8) = 0
        rw [ih]; rfl
    | cons x l ih => simp only [List.cons_append, wordN, ih]
  have h7 : (left ++ List.replicate (7 - left.length) 0#8).length = 7 := by simp; omega
  rw [wordOf_toNat _ (by omega), e, wordN_snoc, hz, h7]
  have hw : wordN left < 256 ^ 7 := Nat.lt_of_lt_of_le (wordN_lt left) (Nat.pow_le_pow_right (by omega) (by omega))
  have hb : (byteN n).toNat = n % 256 := by simp [byteN]
  unfold addw mulw pow56
  rw [BitVec.toNat_add, BitVec.toNat_mul, wordOf_toNat left (by omega), BitVec.toNat_ofNat, hb]
  simp only [BitVec.toNat_ofNat]
  have : n % 256 < 256 := Nat.mod_lt _ (by omega)
  omega

theorem list_set4 {α : Type} (a b c d e f g i : α) : ((([a, b, c, d].set 0 e).set 1 f).set 2 g).set 3 i = [e, f, g, i] := rfl
theorem hset4 (vs : List (BitVec 64)) (hl : vs.length = 4) (us : List (BitVec 64)) (hu : us.length = 4) :
    (((vs.set 0 (hget us 0)).set 1 (hget us 1)).set 2 (hget us 2)).set 3 (hget us 3) = us :=
  (congrArg (fun l => (((l.set 0 (hget us 0)).set 1 (hget us 1)).set 2 (hget us 2)).set 3 (hget us 3)) (vs4 vs hl)).trans ((list_set4 _ _ _ _ _ _ _ _).trans (vs4 us hu).symm)
theorem Hd.set4 {W : World} {B : Nat} {t : TypeId} {vs : List (BitVec 64)} {rest : List Value} (h : Hd W B t vs rest) (hl : vs.length = 4) (us : List (BitVec 64)) (hu : us.length = 4) :
    Hd ((((W.setCell ⟨B, 0, none⟩ (vw (hget us 0))).setCell ⟨B, 1, none⟩ (vw (hget us 1))).setCell ⟨B, 2, none⟩ (vw (hget us 2))).setCell ⟨B, 3, none⟩ (vw (hget us 3))) B t us rest := by
  have h0 := h.set 0 (by omega) (hget us 0)
  have h1 := h0.set 1 (by rw [List.length_set]; omega) (hget us 1)
  have h2 := h1.set 2 (by rw [List.length_set, List.length_set]; omega) (hget us 2)
  have h3 := h2.set 3 (by rw [List.length_set, List.length_set, List.length_set]; omega) (hget us 3)
  have e := hset4 vs hl us hu
  generalize hq : (((vs.set 0 (hget us 0)).set 1 (hget us 1)).set 2 (hget us 2)).set 3 (hget us 3) = qs at h3 e
  subst e
  exact h3
theorem frn_set4 {X : Nat → Prop} {A W : World} {B : Nat} (h : Frn X A W) (hB : X B ∨ A.heap.size ≤ B) (a b c d : Value) :
    Frn X A ((((W.setCell ⟨B, 0, none⟩ a).setCell ⟨B, 1, none⟩ b).setCell ⟨B, 2, none⟩ c).setCell ⟨B, 3, none⟩ d) :=
  (((h.setCell ⟨B, 0, none⟩ hB _).setCell ⟨B, 1, none⟩ hB _).setCell ⟨B, 2, none⟩ hB _).setCell ⟨B, 3, none⟩ hB _

theorem initV_len (a b : BitVec 64) : (initV a b).length = 4 := rfl
attribute [local irreducible] takeV foldV roundsL finV outV wordOf lastL
/-- The reference's state behind so many words. -/
def refSt (a b : BitVec 64) (bs : List (BitVec 8)) (k : Nat) : List (BitVec 64) :=
  if k ≤ bs.length / 8 then foldV (initV a b) ((wholeW bs).take k) else takeV (stV a b bs) (wordOf (lastL (leftB bs) bs.length))
theorem refSt_len (a b : BitVec 64) (bs : List (BitVec 8)) (k : Nat) : (refSt a b bs k).length = 4 := by
  unfold refSt
  split
  · rw [foldV_len, initV_len]
  · rw [takeV_len, stV, foldV_len, initV_len]
/-- The word that comes at place k. -/
def refM (bs : List (BitVec 8)) (k : Nat) : BitVec 64 :=
  if k < bs.length / 8 then wordOf ((bs.drop (8 * k)).take 8) else addw (wordOf ((bs.drop (8 * k)).take 8)) (mulw (BitVec.ofNat 64 (bs.length % 256)) pow56)
theorem refSt_succ (a b : BitVec 64) (bs : List (BitVec 8)) (k : Nat) (h : k ≤ bs.length / 8) : refSt a b bs (k + 1) = takeV (refSt a b bs k) (refM bs k) := by
  by_cases hlt : k < bs.length / 8
  · unfold refSt refM
    rw [if_pos (by omega), if_pos h, if_pos hlt, foldV_take _ _ k (by rw [wholeW_len]; exact hlt), wholeW_get]
  · obtain rfl : k = bs.length / 8 := by omega
    unfold refSt refM
    rw [if_neg (by omega), if_pos (Nat.le_refl _), if_neg (by omega)]
    have hl := leftB_len bs
    have e : (wholeW bs).take (bs.length / 8) = wholeW bs := List.take_of_length_le (by rw [wholeW_len]; exact Nat.le_refl _)
    rw [e, last_word (leftB bs) bs.length (by omega)]
    have e2 : (bs.drop (8 * (bs.length / 8))).take 8 = leftB bs := List.take_of_length_le (by simp; omega)
    rw [e2, stV]
theorem refSt_end (a b : BitVec 64) (bs : List (BitVec 8)) : outV (finV (refSt a b bs (bs.length / 8 + 1))) = hashV a b bs := by
  unfold refSt hashV sumV
  rw [if_neg (by omega)]

end Go.Proofs.Ytandljkppgneoaa
