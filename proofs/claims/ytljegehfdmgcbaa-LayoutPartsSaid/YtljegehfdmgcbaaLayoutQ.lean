/- The plain law of devices: a super block tells its layout; where one of its words is another one, it is none. -/
import Derived.Test.YtljegehfdmgcbaaLayoutP
import Derived.Test.YtljegehfdmgcbaaSumLaw
namespace Go.Proofs.Ytljegehfdmgcbaa
open Go Go.RowKit

theorem xorw_self' (x y : BitVec 64) : (x = xorw x y) ↔ y = 0#64 := by
  unfold xorw
  constructor
  · intro h
    have h2 : x ^^^ x = x ^^^ (x ^^^ y) := congrArg (x ^^^ ·) h
    rw [← BitVec.xor_assoc, BitVec.xor_self, BitVec.zero_xor] at h2
    exact h2.symm
  · rintro rfl; simp
theorem ofw_toNat {n : Int} (h : 0 ≤ n) (h2 : n ≤ 9223372036854775807) : ((ofw n).toNat : Int) = n := by
  have := vw_ofw h h2
  unfold vw at this
  injection this
def devL (l : Lay) (m : Nat) : List (BitVec 64) := superL l ++ List.replicate m 0#64
theorem devL_len (l : Lay) (m : Nat) : (devL l m).length = 64 + m := by simp [devL, superL_len]
theorem wd_dev (l : Lay) (m : Nat) : wd (devL l m) 1 = ofw l.B ∧ wd (devL l m) 2 = ofw l.I ∧ wd (devL l m) 3 = ofw l.R ∧ wd (devL l m) 4 = ofw l.T ∧ wd (devL l m) 5 = l.k0 ∧ wd (devL l m) 6 = l.k1 := by
  refine ⟨?_, ?_, ?_, ?_, ?_, ?_⟩ <;> simp [wd, devL, superL, sealL, superW]
theorem rdLay_dev {l : Lay} (hr : RightL l) (m : Nat) : rdLay (devL l m) = l ∧ OfOk (wd (devL l m) 1).toNat (wd (devL l m) 2).toNat (wd (devL l m) 3).toNat (wd (devL l m) 4).toNat ∧ ((wd (devL l m) 1).toNat : Int) = l.B := by
  obtain ⟨h1, h2, h3, h4, h5, h6⟩ := wd_dev l m
  have hb := right_bounds hr
  have hT := hr.1.2.1
  have e1 := ofw_toNat (n := l.B) (by omega) (by omega)
  have e2 := ofw_toNat (n := l.I) (by omega) (by omega)
  have e3 := ofw_toNat (n := l.R) (by omega) (by omega)
  have e4 := ofw_toNat (n := l.T) (by omega) (by omega)
  unfold rdLay
  rw [h1, h2, h3, h4, h5, h6, e1, e2, e3, e4]
  exact ⟨ofL_right hr, hr.1, rfl⟩
theorem take_dev (l : Lay) (m : Nat) : (devL l m).take 64 = superL l := by
  unfold devL
  exact List.take_left' (superL_len l)
theorem read_dev {l : Lay} (hr : RightL l) {m : Nat} (hm : 64 * l.B - 64 = m) : readL (devL l m) = (l, 0) := by
  obtain ⟨h1, h2, h3⟩ := rdLay_dev hr m
  have hb := right_bounds hr
  have hok : RdOk (devL l m) := ⟨by rw [devL_len]; omega, h2, by rw [devL_len, h3]; push_cast; omega, by rw [h1, take_dev]⟩
  unfold readL
  rw [if_pos hok, h1]
theorem read_bent {l : Lay} (hr : RightL l) {m : Nat} (hm : 64 * l.B - 64 = m) (k : Nat) (hk : k < 64) (y z : BitVec 64) (hz : (devL l m)[k]? = some z) :
    readL ((devL l m).set k (xorw z y)) = if y = 0#64 then (l, 0) else (lay0, 230) := by
  have hkl : k < (devL l m).length := by rw [devL_len]; omega
  by_cases hy : y = 0#64
  · rw [if_pos hy, ← (xorw_self' z y).2 hy]
    have : (devL l m).set k z = devL l m := by
      rw [List.getElem?_eq_getElem hkl] at hz
      cases hz
      exact List.set_getElem_self hkl
    rw [this]
    exact read_dev hr hm
  · rw [if_neg hy]
    unfold readL
    refine if_neg ?_
    rintro ⟨_, _, _, h⟩
    generalize rdLay ((devL l m).set k (xorw z y)) = l2 at h
    rw [List.take_set, take_dev] at h
    have hzs : (superL l)[k]? = some z := by
      have : (devL l m)[k]? = (superL l)[k]? := by unfold devL; rw [List.getElem?_append_left (by rw [superL_len]; exact hk)]
      rw [← this]; exact hz
    have hl8 : ∀ l', (sealL (superW l')).length = 8 := fun l' => by simp [sealL, superW]
    by_cases h8 : k < 8
    · unfold superL at h hzs
      rw [List.set_append_left _ _ (by rw [hl8]; exact h8)] at h
      rw [List.getElem?_append_left (by rw [hl8]; exact h8)] at hzs
      have h' : sealL (superW l2) = (sealL (superW l)).set k (xorw z y) := by
        have h9 := congrArg (List.take 8) h
        rwa [List.take_left' (hl8 l2), List.take_left' (by rw [List.length_set]; exact hl8 l)] at h9
      have ho := openOk_turned (superW l) k (by rw [hl8]; exact h8) (xorw z y)
      rw [← h', openOk_seal] at ho
      have he := of_decide_eq_true ho.symm
      rw [List.getElem?_eq_getElem (by rw [hl8]; exact h8)] at hzs
      injection hzs with hzs
      rw [hzs] at he
      exact hy ((xorw_self' z y).1 he)
    · have h0 : ∀ l', (superL l')[k]? = some 0#64 := fun l' => by
        unfold superL
        rw [List.getElem?_append_right (by rw [hl8]; omega), List.getElem?_replicate, if_pos (by rw [hl8]; omega)]
      have h1 : (superL l2)[k]? = ((superL l).set k (xorw z y))[k]? := by rw [h]
      rw [h0 l2, List.getElem?_set_self (by rw [superL_len]; exact hk)] at h1
      rw [h0 l] at hzs
      injection hzs with hzs
      injection h1 with h1
      subst hzs
      exact hy (by simpa [xorw] using h1.symm)
end Go.Proofs.Ytljegehfdmgcbaa
