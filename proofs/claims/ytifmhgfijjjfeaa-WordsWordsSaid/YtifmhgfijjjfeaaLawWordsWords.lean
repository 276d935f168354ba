/- The walk of the law WordsWords. -/
import Derived.Test.YtifmhgfijjjfeaaLawWordsLays
namespace Go.Proofs.Ytifmhgfijjjfeaa
open Go Go.RowKit

theorem bytesL_layL8 (bs : List (BitVec 8)) (h : bs.length % 8 = 0) : bytesL (layL bs) = bs := by
  rw [bytesL_layL _ bs (Nat.le_refl _), show 8 * ((bs.length + 7) / 8) - bs.length = 0 by omega]
  simp

set_option maxRecDepth 100000 in
set_option maxHeartbeats 4000000 in
theorem lawWordsWords_big (p : Option Addr) (cap : Nat) (ys : List (BitVec 8)) (w : World) (hlen : ys.length ≤ 9223372036854775807) (hx : 2000 < ys.length) :
    Calls Try.prog 9 #[.slice p ys.length cap] w fun e w' => e = .returned (.bool true) ∧ Below w.heap.size w w' := by
  go_enter Try.func9, Try.ntmps9
  go_wp2_with fail
  refine (works1_any _).mono ?_
  rintro e w1 ⟨rfl, hb⟩
  go_wp2_with fail
  go_ret
  exact ⟨rfl, hb⟩

set_option maxRecDepth 100000 in
set_option maxHeartbeats 4000000 in
theorem lawWordsWords_bad (p : Option Addr) (cap : Nat) (ys : List (BitVec 8)) (w : World) (hrd : RdL w.heap.size w p cap vb ys) (hx : ¬ 2000 < ys.length) (h8 : ys.length % 8 ≠ 0) :
    Calls Try.prog 9 #[.slice p ys.length cap] w fun e w' => e = .returned (.bool true) ∧ Below w.heap.size w w' := by
  have hlen := hrd.len
  have HR := Lib.hid hrd
  have hA := Lib.hid ((At.start w).alloc (.cells #[] 5))
  have HS := Lib.hid (hA.out.rdl hrd)
  have h : (((ys.length : Int) % 8) != 0) = true := by simp; omega
  have H8 := Lib.hid h8
  clear hrd h8
  go_enter Try.func9, Try.ntmps9
  go_wp2_with (first
      | (at_builtin
         refine wpList_append0 rfl (.tmp 10) (.tmp 11) _ rfl elem_u8 vb w.heap.size ys _ rfl _ _ _ rfl (own_empty w _ _ _ (Nat.le_refl _)) HS.out (fun _ => rfl) ?_ ?_ ?_ ?_
         · omega
         · omega
         · simp
         intro v w1 hown hg _
         have HA1 := Lib.hid (hA.out.grown hg (by intro b hb; cases hb; exact Nat.le_refl _))
         have HO1 := Lib.hid hown
         clear hg hown)
      | (at_builtin
         refine wpList_append1 rfl (.tmp 12) (.tmp 13) _ rfl elem_u8 vb w.heap.size ys 77#8 _ rfl _ _ rfl (HO1.out.alloc _) 5 (Box.new w1 5 (vb 77#8)) rfl ?_ ?_ ?_ ?_
         · omega
         · omega
         · have := HA1.out.2; simp; omega
         intro v2 w2 hown hg _ _
         have HA2 := Lib.hid ((HA1.out.alloc _).grown hg (fun b hb => (HO1.out.lt b hb).1))
         obtain ⟨p2, c2, rfl, hr2, _⟩ := rdl_of_owns hown
         have HR2 := Lib.hid hr2
         have hc2 : ys.length + 1 ≤ c2 := by simpa using hr2.1
         have hm2 : c2 ≤ 9223372036854775807 := hr2.2.1
         clear hg hown hr2))
  have HM := Lib.hid (HR2.out.front (cap' := c2) (by omega) (Nat.le_refl _))
  refine (wordsBad_any p2 c2 ys _ H8.out (by omega)).mono ?_
  rintro e w3 ⟨rfl, rfl⟩
  have hv1 := run_str HM.out 23 5 9 Try.underlying23 Try.underlying5 Try.underlying9
  have hv2 := run_str (HA2.out.rdl HR.out) 23 5 9 Try.underlying23 Try.underlying5 Try.underlying9
  obtain ⟨b, off, rfl, hb, hcx⟩ := HR2.out.at ys.length (by simp)
  have hcx' : w2.cell? ⟨b, off + ys.length, none⟩ = some (vb 77#8) := by simpa using hcx
  have h77 : vb 77#8 = .int .u8 77 := rfl
  rw [h77] at hcx'
  clear hcx
  have hi1 : (0 : Int) ≤ (ys.length : Int) := by omega
  have hi2 : (ys.length : Int) < (ys.length : Int) + 1 := by omega
  go_wp2_with fail
  refine (num1_any _ _).mono ?_
  rintro e w6 ⟨rfl, rfl⟩
  go_wp2_with fail
  refine (works1_any _).mono ?_
  rintro e w9 ⟨rfl, hb9⟩
  have HA9 := Lib.hid (HA2.out.below hb9)
  go_wp2_with fail
  go_ret
  exact ⟨rfl, HA9.out.1⟩

set_option maxRecDepth 100000 in
set_option maxHeartbeats 4000000 in
theorem lawWordsWords_ok (p : Option Addr) (cap : Nat) (ys : List (BitVec 8)) (w : World) (hrd : RdL w.heap.size w p cap vb ys) (hx : ¬ 2000 < ys.length) (h8 : ys.length % 8 = 0) :
    Calls Try.prog 9 #[.slice p ys.length cap] w fun e w' => e = .returned (.bool true) ∧ Below w.heap.size w w' := by
  have hlen := hrd.len
  have HR := Lib.hid hrd
  have hA := Lib.hid ((At.start w).alloc (.cells #[] 5))
  have HS := Lib.hid (hA.out.rdl hrd)
  have h : (((ys.length : Int) % 8) != 0) = false := by simp; omega
  have H8 := Lib.hid h8
  clear hrd h8
  go_enter Try.func9, Try.ntmps9
  go_wp2_with (first
      | (at_builtin
         refine wpList_append0 rfl (.tmp 10) (.tmp 11) _ rfl elem_u8 vb w.heap.size ys _ rfl _ _ _ rfl (own_empty w _ _ _ (Nat.le_refl _)) HS.out (fun _ => rfl) ?_ ?_ ?_ ?_
         · omega
         · omega
         · simp
         intro v w1 hown hg _
         have HA1 := Lib.hid (hA.out.grown hg (by intro b hb; cases hb; exact Nat.le_refl _))
         have HO1 := Lib.hid hown
         clear hg hown)
      | (at_builtin
         refine wpList_append1 rfl (.tmp 12) (.tmp 13) _ rfl elem_u8 vb w.heap.size ys 77#8 _ rfl _ _ rfl (HO1.out.alloc _) 5 (Box.new w1 5 (vb 77#8)) rfl ?_ ?_ ?_ ?_
         · omega
         · omega
         · have := HA1.out.2; simp; omega
         intro v2 w2 hown hg _ _
         have HA2 := Lib.hid ((HA1.out.alloc _).grown hg (fun b hb => (HO1.out.lt b hb).1))
         obtain ⟨p2, c2, rfl, hr2, _⟩ := rdl_of_owns hown
         have HR2 := Lib.hid hr2
         have hc2 : ys.length + 1 ≤ c2 := by simpa using hr2.1
         have hm2 : c2 ≤ 9223372036854775807 := hr2.2.1
         clear hg hown hr2))
  have HM := Lib.hid (HR2.out.front (cap' := c2) (by omega) (Nat.le_refl _))
  refine (wordsOk_any p2 c2 ys _ HM.out H8.out (by omega)).mono ?_
  rintro e w3 ⟨v3, rfl, hown3, hb3⟩
  have HA3 := Lib.hid (HA2.out.below hb3)
  have HM3 := Lib.hid (HM.out.on hb3)
  have HR3 := Lib.hid (HR2.out.on hb3)
  obtain ⟨p3, c3, rfl, hr3, _⟩ := rdl_of_owns hown3
  have HL3 := Lib.hid hr3
  clear hb3 hown3 hr3 HM HR2
  have hv1 := run_str HM3.out 23 5 9 Try.underlying23 Try.underlying5 Try.underlying9
  have hv2 := run_str (HA3.out.rdl HR.out) 23 5 9 Try.underlying23 Try.underlying5 Try.underlying9
  obtain ⟨b, off, rfl, hb, hcx⟩ := HR3.out.at ys.length (by simp)
  have hcx' : w3.cell? ⟨b, off + ys.length, none⟩ = some (vb 77#8) := by simpa using hcx
  have h77 : vb 77#8 = .int .u8 77 := rfl
  rw [h77] at hcx'
  clear hcx
  have hi1 : (0 : Int) ≤ (ys.length : Int) := by omega
  have hi2 : (ys.length : Int) < (ys.length : Int) + 1 := by omega
  go_wp2_with fail
  clear hcx' hv1 hv2 hi1 hi2 HM3 HR3
  go_region_with (first
    | (go_at_call 31
       refine (refLay_any p cap ys w3.drew (HA3.out.drew.rdl HR.out) (by omega)).mono ?_
       rintro e w4 ⟨v4, rfl, hown4, hb4⟩
       have HA4 := Lib.hid (HA3.out.drew.below hb4)
       have HL4 := Lib.hid (RdL.on (w := w3.drew) HL3.out hb4)
       obtain ⟨p4, c4, rfl, hr4, _⟩ := rdl_of_owns hown4
       have HS4 := Lib.hid hr4
       clear hown4 hb4 hr4)
    | (go_at_call 21
       refine (same_any p3 p4 c3 c4 (layL ys) (layL ys) w4 HL4.out HS4.out).mono ?_
       rintro e w5 ⟨rfl, n5, rfl⟩
       have HA5 := Lib.hid (HA4.out.drewN n5)
       have HL5 := Lib.hid (RdL.on (w := w4) (a := w4.drewN n5) HL4.out (below_drewN (Below.refl _ _) n5))
       have hv4 := run_str (HA5.out.rdl HR.out) 23 5 9 Try.underlying23 Try.underlying5 Try.underlying9
       have hs5 := sameB_self (layL ys))
    | (go_at_call 30; refine (num1_any _ _).mono ?_; rintro e w6 ⟨rfl, rfl⟩)
    | (go_at_call 27
       refine (bytes_any p3 c3 (layL ys) (w4.drewN n5) HL5.out (by rw [layL_length]; omega)).mono ?_
       rintro e w6 ⟨v6, rfl, hown6, hb6⟩
       rw [bytesL_layL8 ys H8.out] at hown6
       have HA6 := Lib.hid (HA5.out.below hb6)
       obtain ⟨p6, c6, rfl, hr6, _⟩ := rdl_of_owns hown6
       have hv5 := run_str hr6 23 5 9 Try.underlying23 Try.underlying5 Try.underlying9
       have hv6 := run_str (HA6.out.rdl HR.out) 23 5 9 Try.underlying23 Try.underlying5 Try.underlying9
       clear hown6 hb6 hr6)
    | (go_at_call 26
       refine (works1_any _).mono ?_
       rintro e w7 ⟨rfl, hb7⟩
       have HA7 := Lib.hid (HA6.out.below hb7)
       clear hb7))
  all_goals
    go_wp2_with fail
    go_ret
    exact ⟨rfl, HA7.out.1⟩

end Go.Proofs.Ytifmhgfijjjfeaa
