/- The plain law of a map's words: no program in sight. -/
import Derived.Test.YtenmogokbelahaaExtLaw
import Derived.Test.YtenmogokbelahaaFieldLaw
namespace Go.Proofs.Ytenmogokbelahaa
open Go Go.RowKit

def wordN (x : Ext3) : Nat := x.1.toNat + x.2.1.toNat * 65536 + x.2.2.toNat * 1099511627776
def wordX (x : Ext3) : BitVec 64 := BitVec.ofNat 64 (wordN x)
def unX (w : BitVec 64) : Ext3 := ((fieldW w 0 16).toNat, (fieldW w 16 24).toNat, (fieldW w 40 16).toNat)
theorem wordN_lt {x : Ext3} (h : rightX x = true) : wordN x < 2 ^ 56 := by
  have := (right_iff x).1 h
  unfold wordN
  omega
theorem wordX_nat {x : Ext3} (h : rightX x = true) : (wordX x).toNat = wordN x := by
  have := wordN_lt h
  unfold wordX
  rw [BitVec.toNat_ofNat]
  omega
theorem field0 {w : BitVec 64} {a d : Nat} (h : a + d ≤ 64) (hw : w.toNat < 2 ^ a) : fieldW w a d = 0#64 := by
  apply BitVec.eq_of_toNat_eq
  rw [field_nat _ _ _ h, Nat.div_eq_of_lt hw]
  simp
theorem with0 {w v : BitVec 64} {a d : Nat} (h : a + d ≤ 64) (hv : v.toNat < 2 ^ d) (hw : w.toNat < 2 ^ a) : (withW w a d v).toNat = w.toNat + v.toNat * 2 ^ a := by
  rw [← with_ref w a d v h hv, field0 h hw]
  have h1 : v.toNat * 2 ^ a + 2 ^ a ≤ 2 ^ 64 := by
    have e : 2 ^ d * 2 ^ a ≤ 2 ^ 64 := by rw [← Nat.pow_add]; exact Nat.pow_le_pow_right (by decide) (by omega)
    have e2 : (v.toNat + 1) * 2 ^ a ≤ 2 ^ d * 2 ^ a := Nat.mul_le_mul_right _ hv
    rw [Nat.add_mul, Nat.one_mul] at e2
    omega
  rw [BitVec.zero_shiftLeft, BitVec.sub_zero, BitVec.toNat_add, BitVec.toNat_shiftLeft, Nat.shiftLeft_eq, Nat.mod_eq_of_lt (a := v.toNat * 2 ^ a) (by omega), Nat.mod_eq_of_lt (by omega)]
theorem num64 (n : Nat) (h : n < 2 ^ 32) : (BitVec.ofNat 64 n).toNat = n := by rw [BitVec.toNat_ofNat]; omega
/-- The three fields, one by one. -/
theorem with_word {x : Ext3} (h : rightX x = true) : (withW 0#64 0 16 (BitVec.ofNat 64 x.1.toNat)).toNat = x.1.toNat ∧ (withW (withW 0#64 0 16 (BitVec.ofNat 64 x.1.toNat)) 16 24 (BitVec.ofNat 64 x.2.1.toNat)).toNat = x.1.toNat + x.2.1.toNat * 65536 ∧
    withW (withW (withW 0#64 0 16 (BitVec.ofNat 64 x.1.toNat)) 16 24 (BitVec.ofNat 64 x.2.1.toNat)) 40 16 (BitVec.ofNat 64 x.2.2.toNat) = wordX x := by
  have hr := (right_iff x).1 h
  have n1 := num64 x.1.toNat (by omega)
  have n2 := num64 x.2.1.toNat (by omega)
  have n3 := num64 x.2.2.toNat (by omega)
  have a1 := with0 (w := 0#64) (v := BitVec.ofNat 64 x.1.toNat) (a := 0) (d := 16) (by decide) (by rw [n1]; omega) (by decide)
  rw [n1] at a1
  have b1 : (withW 0#64 0 16 (BitVec.ofNat 64 x.1.toNat)).toNat = x.1.toNat := by rw [a1]; simp
  have a2 := with0 (w := withW 0#64 0 16 (BitVec.ofNat 64 x.1.toNat)) (v := BitVec.ofNat 64 x.2.1.toNat) (a := 16) (d := 24) (by decide) (by rw [n2]; omega) (by rw [b1]; omega)
  rw [n2, b1] at a2
  have a3 := with0 (w := withW (withW 0#64 0 16 (BitVec.ofNat 64 x.1.toNat)) 16 24 (BitVec.ofNat 64 x.2.1.toNat)) (v := BitVec.ofNat 64 x.2.2.toNat) (a := 40) (d := 16) (by decide) (by rw [n3]; omega) (by rw [a2]; omega)
  rw [n3, a2] at a3
  refine ⟨b1, a2, BitVec.eq_of_toNat_eq ?_⟩
  rw [a3, wordX_nat h]
  rfl
theorem un_word {x : Ext3} (h : rightX x = true) : unX (wordX x) = x := by
  have hr := (right_iff x).1 h
  have hn := wordX_nat h
  obtain ⟨f, d, m⟩ := x
  simp only at hr
  unfold unX
  rw [field_nat _ _ _ (by decide), field_nat _ _ _ (by decide), field_nat _ _ _ (by decide), hn]
  unfold wordN
  simp only
  have e1 : ((f.toNat + d.toNat * 65536 + m.toNat * 1099511627776) / 2 ^ 0 % 2 ^ 16 : Nat) = f.toNat := by omega
  have e2 : ((f.toNat + d.toNat * 65536 + m.toNat * 1099511627776) / 2 ^ 16 % 2 ^ 24 : Nat) = d.toNat := by omega
  have e3 : ((f.toNat + d.toNat * 65536 + m.toNat * 1099511627776) / 2 ^ 40 % 2 ^ 16 : Nat) = m.toNat := by omega
  rw [e1, e2, e3, Int.toNat_of_nonneg (by omega), Int.toNat_of_nonneg (by omega), Int.toNat_of_nonneg (by omega)]
theorem word_ne {x : Ext3} (h : rightX x = true) : wordX x ≠ 0#64 := fun e => by
  have hr := (right_iff x).1 h
  have hn := wordX_nat h
  rw [e] at hn
  have : wordN x = 0 := hn.symm
  unfold wordN at this
  omega
def wordsX (l : List Ext3) : List (BitVec 64) := (List.range 10).map fun i => match l[i]? with | some x => wordX x | none => 0#64
theorem wordsX_len (l : List Ext3) : (wordsX l).length = 10 := by simp [wordsX]
/-- The extents of words. -/
def unL (w : List (BitVec 64)) : List Ext3 := (w.filter fun v => decide (v ≠ 0#64)).map unX
def readL (w : List (BitVec 64)) : List Ext3 × Int := if (ofX (unL w)).isSome = true ∧ wordsX (unL w) = w then (unL w, 0) else ([], 2)
theorem words_pad (l : List Ext3) (h : l.length ≤ 10) : wordsX l = l.map wordX ++ List.replicate (10 - l.length) 0#64 := by
  apply List.ext_getElem
  · simp [wordsX]; omega
  · intro i h1 h2
    rw [wordsX_len] at h1
    simp only [wordsX, List.getElem_map, List.getElem_range]
    by_cases hi : i < l.length
    · rw [List.getElem_append_left (by simpa using hi), List.getElem?_eq_getElem hi]
      simp
    · rw [List.getElem_append_right (by simpa using hi), List.getElem?_eq_none (by omega)]
      simp
theorem un_words {l : List Ext3} (h : l.length ≤ 10) (hr : ∀ x ∈ l, rightX x = true) : unL (wordsX l) = l := by
  unfold unL
  rw [words_pad l h, List.filter_append]
  have h1 : (l.map wordX).filter (fun v => decide (v ≠ 0#64)) = l.map wordX := by
    rw [List.filter_eq_self]
    intro v hv
    obtain ⟨x, hx, rfl⟩ := List.mem_map.1 hv
    simpa using word_ne (hr x hx)
  have h2 : (List.replicate (10 - l.length) 0#64).filter (fun v => decide (v ≠ 0#64)) = [] := by
    rw [List.filter_eq_nil_iff]
    intro v hv
    rw [List.eq_of_mem_replicate hv]
    simp
  rw [h1, h2, List.append_nil, List.map_map]
  apply List.ext_getElem
  · simp
  · intro i h1 h2
    simp only [List.getElem_map, Function.comp_apply]
    exact un_word (hr _ (List.getElem_mem _))
theorem read_words {l : List Ext3} {t : List Int} (h : ofX l = some t) : readL (wordsX l) = (l, 0) := by
  have ho := ofX_ok h
  unfold readL
  rw [un_words ho.2.2.1 ho.2.2.2, if_pos ⟨by rw [h]; rfl, rfl⟩]
end Go.Proofs.Ytenmogokbelahaa
