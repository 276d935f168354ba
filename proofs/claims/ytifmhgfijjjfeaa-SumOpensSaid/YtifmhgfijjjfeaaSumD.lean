/- The walks of the opening of sealed words. -/
import Derived.Test.YtifmhgfijjjfeaaSumC
import Derived.Deep.RegionHeld3
namespace Go.Proofs.Ytifmhgfijjjfeaa
open Go Go.RowKit

def openOk (xs : List (BitVec 64)) : Bool := match xs.getLast? with
  | none => false
  | some y => decide (wordsSum xs.dropLast = y)
def openL (xs : List (BitVec 64)) : List (BitVec 64) := if openOk xs then xs.dropLast else []
def openNo (xs : List (BitVec 64)) : Int := if openOk xs then 0 else 130
theorem openOk_snoc (ys : List (BitVec 64)) (y : BitVec 64) : openOk (ys ++ [y]) = decide (wordsSum ys = y) := by simp [openOk]

def RetOpen (xs : List (BitVec 64)) (w : World) (e : Ending) (w' : World) : Prop :=
  ∃ p cap, e = .returned (.tuple #[.slice p (openL xs).length cap, .int .i64 (openNo xs)]) ∧ RdL w'.heap.size w' p cap vw (openL xs) ∧ Below w.heap.size w w'

set_option maxRecDepth 100000 in
set_option maxHeartbeats 1000000 in
theorem open_any (p : Option Addr) (cap : Nat) (xs : List (BitVec 64)) (w : World) (hrd : RdL w.heap.size w p cap vw xs) (hx : xs.length ≤ 1000000) :
    Calls Try.prog 19 #[.slice p xs.length cap] w (RetOpen xs w) := by
  have hcap := hrd.1
  have hmax := hrd.2.1
  unfold maxLen at hmax
  rcases nil_or_snoc xs with rfl | ⟨ys, y, rfl⟩
  · go_enter Try.func19, Try.ntmps19
    go_wp2
    go_quiet (fail)
    go_wp2
    go_ret2
    exact ⟨none, 0, rfl, RdL.nil _ _ _, below_drewN (Below.refl _ w) _⟩
  · have hlen : (ys ++ [y]).length = ys.length + 1 := by simp
    obtain ⟨b, off, rfl, hb, hcx⟩ := hrd.at ys.length (by simp)
    have hcy : w.cell? ⟨b, off + ys.length, none⟩ = some (vw y) := by simpa using hcx
    have hfr : RdL w.heap.size w (some ⟨b, off, none⟩) ys.length vw ys := RdL.front hrd (Nat.le_refl _) (by omega)
    have HF := Lib.hid hfr
    clear hrd hcx hfr
    rw [hlen] at hcap hx ⊢
    clear hlen
    have h1 : (0 : Int) ≤ (ys.length : Int) := by omega
    have h2 : (ys.length : Int) < (ys.length : Int) + 1 := by omega
    have h3 : (ys.length : Int) ≤ (cap : Int) := by omega
    have h4 : ((ys.length : Int) < 0) = False := by simp
    go_enter Try.func19, Try.ntmps19
    go_wp2
    go_region_held3 (fun w' => w'.cell? ⟨b, off + ys.length, none⟩ = some (vw y)) (go_keep) (first
      | (go_at_call 24
         refine (words_any (some ⟨b, off, none⟩) ys.length ys w.drew (HF.out.below (Below.refl _ w).drew) (by omega)).mono ?_
         rintro e w1 ⟨rfl, hb1⟩
         have hcy1 : w1.cell? ⟨b, off + ys.length, none⟩ = some (vw y) := (hb1.cell (p := ⟨b, off + ys.length, none⟩) hb).trans hcy
         have HB := Lib.hid hb1
         clear hb1))
    have hBw : Below w.heap.size w w1 := ((Below.refl _ w).drew).trans HB.out
    have HBw := Lib.hid hBw
    have hs1 := hBw.size
    clear hBw HB
    by_cases he : wordsSum ys = y
    · have hne : (((wordsSum ys).toNat : Int) != (y.toNat : Int)) = false := by rw [he]; simp
      have HE := Lib.hid (show openOk (ys ++ [y]) = true by rw [openOk_snoc]; simp [he])
      clear he
      go_wp2_with fail
      refine (clone_any (some ⟨b, off, none⟩) ys.length ys _ ((HF.out.below HBw.out).wide hs1) (by omega)).mono ?_
      rintro e w2 ⟨v, rfl, hown, hb2⟩
      obtain ⟨p', cap', rfl, hr, _⟩ := rdl_of_owns hown
      clear hown
      go_wp2_with fail
      go_ret2
      refine ⟨p', cap', ?_, ?_, HBw.out.trans (hb2.mono hs1)⟩
      · simp [openL, openNo, HE.out]
      · simpa [openL, HE.out] using hr
    · have hne : (((wordsSum ys).toNat : Int) != (y.toNat : Int)) = true := by
        simp only [bne_iff_ne, ne_eq, Int.natCast_inj]
        exact fun h => he (BitVec.eq_of_toNat_eq h)
      have HE := Lib.hid (show openOk (ys ++ [y]) = false by rw [openOk_snoc]; simp [he])
      clear he
      go_wp2_with fail
      go_ret2
      refine ⟨none, 0, ?_, ?_, HBw.out⟩
      · simp [openL, openNo, HE.out]
      · simpa [openL, HE.out] using RdL.nil _ _ _

set_option maxRecDepth 100000 in
set_option maxHeartbeats 1000000 in
theorem refOpen_any (p : Option Addr) (cap : Nat) (xs : List (BitVec 64)) (w : World) (hrd : RdL w.heap.size w p cap vw xs) (hx : xs.length ≤ 1000000) :
    Calls Try.prog 20 #[.slice p xs.length cap] w (RetOpen xs w) := by
  have hcap := hrd.1
  have hmax := hrd.2.1
  unfold maxLen at hmax
  rcases nil_or_snoc xs with rfl | ⟨ys, y, rfl⟩
  · go_enter Try.func20, Try.ntmps20
    go_wp2
    go_quiet (fail)
    go_wp2
    go_ret2
    exact ⟨none, 0, rfl, RdL.nil _ _ _, below_drewN (Below.refl _ w) _⟩
  · have hlen : (ys ++ [y]).length = ys.length + 1 := by simp
    obtain ⟨b, off, rfl, hb, hcx⟩ := hrd.at ys.length (by simp)
    have hcy : w.cell? ⟨b, off + ys.length, none⟩ = some (vw y) := by simpa using hcx
    have hfr : RdL w.heap.size w (some ⟨b, off, none⟩) cap vw ys := RdL.front hrd (by omega) (Nat.le_refl _)
    have HF := Lib.hid hfr
    clear hrd hcx hfr
    rw [hlen] at hcap hx ⊢
    clear hlen
    have h1 : (0 : Int) ≤ (ys.length : Int) := by omega
    have h2 : (ys.length : Int) < (ys.length : Int) + 1 := by omega
    have h3 : (ys.length : Int) ≤ (cap : Int) := by omega
    have h4 : ((ys.length : Int) < 0) = False := by simp
    go_enter Try.func20, Try.ntmps20
    go_wp2
    go_region_held3 (fun w' => w'.cell? ⟨b, off + ys.length, none⟩ = some (vw y)) (go_keep) (first
      | (go_at_call 25
         refine (refWords_any (some ⟨b, off, none⟩) cap ys w.drew (HF.out.below (Below.refl _ w).drew) (by omega)).mono ?_
         rintro e w1 ⟨rfl, hb1⟩
         have hcy1 : w1.cell? ⟨b, off + ys.length, none⟩ = some (vw y) := (hb1.cell (p := ⟨b, off + ys.length, none⟩) hb).trans hcy
         have HB := Lib.hid hb1
         clear hb1))
    have hBw : Below w.heap.size w w1 := ((Below.refl _ w).drew).trans HB.out
    have HBw := Lib.hid hBw
    have hs1 := hBw.size
    clear hBw HB
    by_cases he : wordsSum ys = y
    · have hne : (((wordsSum ys).toNat : Int) != (y.toNat : Int)) = false := by rw [he]; simp
      have HE := Lib.hid (show openOk (ys ++ [y]) = true by rw [openOk_snoc]; simp [he])
      clear he
      go_wp2_with fail
      go_ret2
      refine ⟨some ⟨b, off, none⟩, cap, ?_, ?_, HBw.out⟩
      · simp [openL, openNo, HE.out]
      · simpa [openL, HE.out] using (HF.out.below HBw.out).wide hs1
    · have hne : (((wordsSum ys).toNat : Int) != (y.toNat : Int)) = true := by
        simp only [bne_iff_ne, ne_eq, Int.natCast_inj]
        exact fun h => he (BitVec.eq_of_toNat_eq h)
      have HE := Lib.hid (show openOk (ys ++ [y]) = false by rw [openOk_snoc]; simp [he])
      clear he
      go_wp2_with fail
      go_ret2
      refine ⟨none, 0, ?_, ?_, HBw.out⟩
      · simp [openL, openNo, HE.out]
      · simpa [openL, HE.out] using RdL.nil _ _ _

end Go.Proofs.Ytifmhgfijjjfeaa
