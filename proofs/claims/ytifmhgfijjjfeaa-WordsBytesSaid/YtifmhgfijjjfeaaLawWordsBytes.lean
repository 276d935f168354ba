/- The walk of the law WordsBytes. -/
import Derived.Test.YtifmhgfijjjfeaaWordsD
import Derived.Deep.RegionWith
namespace Go.Proofs.Ytifmhgfijjjfeaa
open Go Go.RowKit

theorem mod8 (xs : List (BitVec 64)) : (bytesL xs).length % 8 = 0 := by rw [bytesL_length]; omega

set_option maxRecDepth 100000 in
set_option maxHeartbeats 4000000 in
theorem lawWordsBytes (p : Option Addr) (cap : Nat) (xs : List (BitVec 64)) (w : World) (hrd : RdL w.heap.size w p cap vw xs) :
    Calls Try.prog 8 #[.slice p xs.length cap] w fun e w' => e = .returned (.bool true) ∧ Below w.heap.size w w' := by
  have hlen := hrd.len
  by_cases hx : 300 < xs.length
  · clear hrd
    go_enter Try.func8, Try.ntmps8
    go_wp2_with fail
    refine (works1_any _).mono ?_
    rintro e w1 ⟨rfl, hb⟩
    go_wp2_with fail
    go_ret
    exact ⟨rfl, hb⟩
  · have HR := Lib.hid hrd
    have hA := Lib.hid ((At.start w).alloc (.cells #[] 22))
    have HS := Lib.hid (hA.out.rdl hrd)
    clear hrd
    go_enter Try.func8, Try.ntmps8
    go_wp2_with (
      at_builtin
      refine wpList_append0 rfl (.tmp 10) (.tmp 11) _ rfl elem_u64' vw w.heap.size xs _ rfl _ _ _ rfl (own_empty w _ _ _ (Nat.le_refl _)) HS.out (fun _ => rfl) ?_ ?_ ?_ ?_
      · omega
      · omega
      · simp
      intro v w1 hown hg _
      have HA1 := Lib.hid (hA.out.grown hg (by intro b hb; cases hb; exact Nat.le_refl _))
      obtain ⟨p1, c1, rfl, hr1, _⟩ := rdl_of_owns hown
      have HM1 := Lib.hid hr1
      clear hg hown hr1)
    refine (bytes_any p1 c1 xs _ HM1.out (by omega)).mono ?_
    rintro e w2 ⟨v2, rfl, hown2, hb2⟩
    have HA2 := Lib.hid (HA1.out.below hb2)
    obtain ⟨p2, c2, rfl, hr2, _⟩ := rdl_of_owns hown2
    have HR2 := Lib.hid hr2
    have hbl := bytesL_length xs
    have HBL := Lib.hid hbl
    clear hown2 hb2 hr2 hbl
    go_wp2_with fail
    refine (wordsOk_any p2 c2 (bytesL xs) _ HR2.out (mod8 xs) (by rw [HBL.out]; omega)).mono ?_
    rintro e w3 ⟨v3, rfl, hown3, hb3⟩
    rw [layL_bytesL] at hown3
    have HA3 := Lib.hid (HA2.out.below hb3)
    have HR3 := Lib.hid (HR2.out.on hb3)
    obtain ⟨p3, c3, rfl, hr3, _⟩ := rdl_of_owns hown3
    have HS3 := Lib.hid hr3
    have hv1 := run_str (w := w3.drew) HR3.out 23 5 9 Try.underlying23 Try.underlying5 Try.underlying9
    clear hown3 hb3 hr3 HR2
    go_wp2_with fail
    go_region_with (first
      | (go_at_call 29
         refine (refBytes_any p cap xs w3.drew (HA3.out.drew.rdl HR.out) (by omega)).mono ?_
         rintro e w4 ⟨v4, rfl, hown4, hb4⟩
         have HA4 := Lib.hid (HA3.out.drew.below hb4)
         have hv2 := run_str (RdL.on (w := w3.drew) HR3.out hb4) 23 5 9 Try.underlying23 Try.underlying5 Try.underlying9
         have HS4 := Lib.hid (RdL.on (w := w3.drew) HS3.out hb4)
         obtain ⟨p4, c4, rfl, hr4, _⟩ := rdl_of_owns hown4
         have hv3 := run_str hr4 23 5 9 Try.underlying23 Try.underlying5 Try.underlying9
         clear hown4 hb4 hr4)
      | (go_at_call 21
         refine (same_any p3 p c3 cap xs xs w4 HS4.out (HA4.out.rdl HR.out)).mono ?_
         rintro e w5 ⟨rfl, n5, rfl⟩
         have HA5 := Lib.hid (HA4.out.drewN n5)
         have hs5 := sameB_self xs)
      | (go_at_call 30; refine (num1_any _ _).mono ?_; rintro e w6 ⟨rfl, rfl⟩)
      | (go_at_call 26
         refine (works1_any _).mono ?_
         rintro e w7 ⟨rfl, hb7⟩
         have HA7 := Lib.hid (HA5.out.below hb7)
         clear hb7))
    all_goals
      go_wp2_with fail
      go_ret
      exact ⟨rfl, HA7.out.1⟩

end Go.Proofs.Ytifmhgfijjjfeaa
