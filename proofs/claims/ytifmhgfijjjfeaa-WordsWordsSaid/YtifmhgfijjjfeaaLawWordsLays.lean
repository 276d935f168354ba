/- The walk of the law WordsLays. -/
import Derived.Test.YtifmhgfijjjfeaaWordsD
import Derived.Deep.RegionWith
namespace Go.Proofs.Ytifmhgfijjjfeaa
open Go Go.RowKit

theorem bytesL_cons (x : BitVec 64) (xs : List (BitVec 64)) : bytesL (x :: xs) = bytesOf x ++ bytesL xs := by simp [bytesL]
theorem bytesL_layL : ∀ (n : Nat) (bs : List (BitVec 8)), bs.length ≤ n → bytesL (layL bs) = bs ++ List.replicate (8 * ((bs.length + 7) / 8) - bs.length) 0#8 := by
  intro n
  induction n with
  | zero => intro bs h; obtain rfl : bs = [] := List.eq_nil_of_length_eq_zero (by omega); rfl
  | succ n ih =>
    intro bs h
    by_cases h8 : 8 ≤ bs.length
    · have e : bs = bs.take 8 ++ bs.drop 8 := (List.take_append_drop 8 bs).symm
      have hl : (bs.take 8).length = 8 := by simp; omega
      have hd : (bs.drop 8).length = bs.length - 8 := by simp
      have e1 : layL bs = wordOf (bs.take 8) :: layL (bs.drop 8) := by
        conv => lhs; rw [e]
        exact layL_append8 _ _ hl
      rw [e1, bytesL_cons, bytesOf_wordOf _ hl, ih _ (by omega), ← List.append_assoc, List.take_append_drop, hd]
      congr 2; omega
    · by_cases h0 : bs = []
      · subst h0; rfl
      · have hp : 0 < bs.length := List.length_pos_iff.2 h0
        have e1 : layL bs = [wordOf bs] := by
          apply List.ext_getElem
          · rw [layL_length]; simp; omega
          · intro i h1 h2
            have : i = 0 := by simpa using h2
            subst this
            simp only [layL, List.getElem_map, List.getElem_range, Nat.mul_zero, List.drop_zero, List.getElem_cons_zero]
            rw [List.take_of_length_le (by omega)]
        rw [e1, bytesL_cons, bytesOf_wordOf_short _ (by omega)]
        have : 8 * ((bs.length + 7) / 8) - bs.length = 8 - bs.length := by omega
        rw [this]
        simp [bytesL]
theorem takeOk_layL (bs : List (BitVec 8)) : takeOk (layL bs) (bs.length : Int) = true := by
  rw [takeOk_in _ _ (by rw [layL_length]; omega) (by rw [layL_length]; omega), bytesL_layL _ bs (Nat.le_refl _), List.drop_left]
  exact all_yes _ (by intro j hj; simp)
theorem takeL_layL (bs : List (BitVec 8)) : takeL (layL bs) (bs.length : Int) = bs := by
  unfold takeL
  rw [takeOk_layL, if_pos rfl, bytesL_layL _ bs (Nat.le_refl _)]
  simp
theorem takeNo_layL (bs : List (BitVec 8)) : takeNo (layL bs) (bs.length : Int) = 0 := by
  unfold takeNo
  rw [takeOk_layL, if_pos rfl]
theorem layTake (p : Option Addr) (cap : Nat) (bs : List (BitVec 8)) (w : World) (hrd : RdL w.heap.size w p cap vw (layL bs)) (hx : bs.length ≤ 2000) :
    Calls Try.prog 33 #[.slice p (layL bs).length cap, .int .i64 (bs.length : Int)] w fun e w' =>
      ∃ p cap, e = .returned (.tuple #[.slice p bs.length cap, .int .i64 0]) ∧ RdL w'.heap.size w' p cap vb bs ∧ Below w.heap.size w w' := by
  refine (takeIn_any p cap (layL bs) bs.length w hrd (by rw [layL_length]; omega) (by rw [layL_length]; omega) (by rw [layL_length]; omega)).mono ?_
  rintro e w' ⟨p2, c2, rfl, hr, hb⟩
  rw [takeL_layL] at hr
  exact ⟨p2, c2, by rw [takeL_layL, takeNo_layL], hr, hb⟩

set_option maxRecDepth 100000 in
set_option maxHeartbeats 4000000 in
theorem lawWordsLays (p : Option Addr) (cap : Nat) (xs : List (BitVec 8)) (w : World) (hrd : RdL w.heap.size w p cap vb xs) :
    Calls Try.prog 10 #[.slice p xs.length cap] w fun e w' => e = .returned (.bool true) ∧ Below w.heap.size w w' := by
  have hlen := hrd.len
  by_cases hx : 2000 < xs.length
  · clear hrd
    go_enter Try.func10, Try.ntmps10
    go_wp2_with fail
    refine (works1_any _).mono ?_
    rintro e w1 ⟨rfl, hb⟩
    go_wp2_with fail
    go_ret
    exact ⟨rfl, hb⟩
  · have HR := Lib.hid hrd
    have hA := Lib.hid ((At.start w).alloc (.cells #[] 5))
    have HS := Lib.hid (hA.out.rdl hrd)
    clear hrd
    go_enter Try.func10, Try.ntmps10
    go_wp2_with (
      at_builtin
      refine wpList_append0 rfl (.tmp 10) (.tmp 11) _ rfl elem_u8 vb w.heap.size xs _ rfl _ _ _ rfl (own_empty w _ _ _ (Nat.le_refl _)) HS.out (fun _ => rfl) ?_ ?_ ?_ ?_
      · omega
      · omega
      · simp
      intro v w1 hown hg _
      have HA1 := Lib.hid (hA.out.grown hg (by intro b hb; cases hb; exact Nat.le_refl _))
      obtain ⟨p1, c1, rfl, hr1, _⟩ := rdl_of_owns hown
      have HM1 := Lib.hid hr1
      clear hg hown hr1)
    refine (lay_any p1 c1 xs _ HM1.out (by omega)).mono ?_
    rintro e w2 ⟨v2, rfl, hown2, hb2⟩
    have HA2 := Lib.hid (HA1.out.below hb2)
    obtain ⟨p2, c2, rfl, hr2, _⟩ := rdl_of_owns hown2
    have HR2 := Lib.hid hr2
    clear hown2 hb2 hr2
    go_wp2_with fail
    refine (layTake p2 c2 xs _ HR2.out (by omega)).mono ?_
    rintro e w3 ⟨p3, c3, rfl, hr3, hb3⟩
    have HA3 := Lib.hid (HA2.out.below hb3)
    have HL3 := Lib.hid (HR2.out.on hb3)
    have HR3 := Lib.hid hr3
    clear hb3 hr3 HR2
    go_wp2_with fail
    refine (refLay_any p cap xs w3 (HA3.out.rdl HR.out) (by omega)).mono ?_
    rintro e w4 ⟨v4, rfl, hown4, hb4⟩
    have HA4 := Lib.hid (HA3.out.below hb4)
    have HL4 := Lib.hid (RdL.on (w := w3) HL3.out hb4)
    have HR4 := Lib.hid (RdL.on (w := w3) HR3.out hb4)
    obtain ⟨p4, c4, rfl, hr4, _⟩ := rdl_of_owns hown4
    have HS4 := Lib.hid hr4
    clear hown4 hb4 hr4
    go_wp2_with fail
    refine (same_any p2 p4 c2 c4 (layL xs) (layL xs) w4 HL4.out HS4.out).mono ?_
    rintro e w5 ⟨rfl, n5, rfl⟩
    have HA5 := Lib.hid (HA4.out.drewN n5)
    have hv1 := run_str (w := w4.drewN n5) HR4.out 23 5 9 Try.underlying23 Try.underlying5 Try.underlying9
    have hv2 := run_str (w := w4.drewN n5) (HA5.out.rdl HR.out) 23 5 9 Try.underlying23 Try.underlying5 Try.underlying9
    have hs5 := sameB_self (layL xs)
    go_wp2_with fail
    refine (num1_any _ _).mono ?_
    rintro e w6 ⟨rfl, rfl⟩
    go_wp2_with fail
    refine (works1_any _).mono ?_
    rintro e w7 ⟨rfl, hb7⟩
    have HA7 := Lib.hid (HA5.out.below hb7)
    clear hb7
    go_wp2_with fail
    go_ret
    exact ⟨rfl, HA7.out.1⟩

end Go.Proofs.Ytifmhgfijjjfeaa
