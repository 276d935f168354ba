/- The walk of the law SumWords. -/
import Derived.Test.YtifmhgfijjjfeaaSumE
namespace Go.Proofs.Ytifmhgfijjjfeaa
open Go Go.RowKit

set_option maxRecDepth 100000 in
set_option maxHeartbeats 4000000 in
theorem lawSumWords (p : Option Addr) (cap : Nat) (xs : List (BitVec 64)) (w : World) (hrd : RdL w.heap.size w p cap vw xs) :
    Calls Try.prog 6 #[.slice p xs.length cap] w fun e w' => e = .returned (.bool true) ∧ Below w.heap.size w w' := by
  have hlen := hrd.len
  by_cases hx : 200 < xs.length
  · clear hrd
    go_enter Try.func6, Try.ntmps6
    go_wp2_with fail
    refine (works_any _).mono ?_
    rintro e w1 ⟨rfl, hb⟩
    go_wp2_with fail
    go_ret
    exact ⟨rfl, hb⟩
  · have HR := Lib.hid hrd
    have hA := Lib.hid ((At.start w).alloc (.cells #[] 22))
    have HS := Lib.hid (hA.out.rdl hrd)
    clear hrd
    go_enter Try.func6, Try.ntmps6
    go_wp2_with (first
      | (at_builtin
         refine wpList_append0 rfl (.tmp 9) (.tmp 10) _ rfl elem_u64 vw w.heap.size xs _ rfl _ _ _ rfl (own_empty w _ _ _ (Nat.le_refl _)) HS.out (fun _ => rfl) ?_ ?_ ?_ ?_
         · omega
         · omega
         · simp
         intro v w1 hown hg _
         have HA1 := Lib.hid (hA.out.grown hg (by intro b hb; cases hb; exact Nat.le_refl _))
         have HO1 := Lib.hid hown
         clear hg hown)
      | (at_builtin
         refine wpList_append1 rfl (.tmp 11) (.tmp 12) _ rfl elem_u64 vw w.heap.size xs 77#64 _ rfl _ _ rfl (HO1.out.alloc _) 22 (Box.new w1 22 (vw 77#64)) rfl ?_ ?_ ?_ ?_
         · omega
         · omega
         · have := HA1.out.2; simp; omega
         intro v2 w2 hown hg _ _
         have HA2 := Lib.hid ((HA1.out.alloc _).grown hg (fun b hb => (HO1.out.lt b hb).1))
         obtain ⟨p2, c2, rfl, hr2, _⟩ := rdl_of_owns hown
         have HR2 := Lib.hid hr2
         have hc2 : xs.length + 1 ≤ c2 := by simpa using hr2.1
         have hm2 : c2 ≤ 9223372036854775807 := hr2.2.1
         clear hg hown hr2))
    have HM := Lib.hid (HR2.out.front (cap' := c2) (by omega) (Nat.le_refl _))
    refine (seal_any p2 c2 xs _ HM.out (by omega)).mono ?_
    rintro e w3 ⟨v3, rfl, hown3, hb3⟩
    have HA3 := Lib.hid (HA2.out.below hb3)
    have HM3 := Lib.hid (HM.out.on hb3)
    have HR3 := Lib.hid (HR2.out.on hb3)
    obtain ⟨p3, c3, rfl, hr3, _⟩ := rdl_of_owns hown3
    have HS3 := Lib.hid hr3
    clear hown3 hb3 hr3 HM
    go_wp2_with fail
    refine (words_any p2 c2 xs _ HM3.out (by omega)).mono ?_
    rintro e w4 ⟨rfl, hb4⟩
    have HA4 := Lib.hid (HA3.out.below hb4)
    have HM4 := Lib.hid (HM3.out.on hb4)
    have HR4 := Lib.hid (HR3.out.on hb4)
    have HS4 := Lib.hid (HS3.out.on hb4)
    clear hb4 HM3 HR3 HS3 HR2
    go_wp2_with fail
    refine (refWords_any p cap xs _ (HA4.out.rdl HR.out) (by omega)).mono ?_
    rintro e w5 ⟨rfl, hb5⟩
    have HA5 := Lib.hid (HA4.out.below hb5)
    have HM5 := Lib.hid (HM4.out.on hb5)
    have HR5 := Lib.hid (HR4.out.on hb5)
    have HS5 := Lib.hid (HS4.out.on hb5)
    clear hb5 HM4 HR4 HS4
    go_wp2_with fail
    refine (refSeal_any p cap xs _ (HA5.out.rdl HR.out) (by omega)).mono ?_
    rintro e w6 ⟨v6, rfl, hown6, hb6⟩
    have HA6 := Lib.hid (HA5.out.below hb6)
    have HM6 := Lib.hid (HM5.out.on hb6)
    have HR6 := Lib.hid (HR5.out.on hb6)
    have HS6 := Lib.hid (HS5.out.on hb6)
    obtain ⟨p6, c6, rfl, hr6, _⟩ := rdl_of_owns hown6
    have HT6 := Lib.hid hr6
    clear hb6 HM5 HR5 HS5 hown6 hr6
    go_wp2_with fail
    refine (same_any p3 p6 c3 c6 _ _ _ HS6.out HT6.out).mono ?_
    rintro e w7 ⟨rfl, n7, rfl⟩
    have hs1 := sameB_self (sealL xs)
    have HA7 := Lib.hid (HA6.out.drewN n7)
    go_wp2_with fail
    refine (same_any p2 p c2 cap _ _ (w6.drewN n7) HM6.out (HA7.out.rdl HR.out)).mono ?_
    rintro e w8 ⟨rfl, n8, rfl⟩
    have hs2 := sameB_self xs
    obtain ⟨b, off, rfl, hb, hcx⟩ := HR6.out.at xs.length (by simp)
    have hcx' : w6.cell? ⟨b, off + xs.length, none⟩ = some (vw 77#64) := by simpa using hcx
    have h77 : vw 77#64 = .int .u64 77 := rfl
    rw [h77] at hcx'
    clear hcx
    have hi1 : (0 : Int) ≤ (xs.length : Int) := by omega
    have hi2 : (xs.length : Int) < (xs.length : Int) + 1 := by omega
    have HA8 := Lib.hid (HA7.out.drewN n8)
    go_wp2_with fail
    refine (works_any _).mono ?_
    rintro e w9 ⟨rfl, hb9⟩
    have HA9 := Lib.hid (HA8.out.below (by simpa using hb9))
    go_wp2_with fail
    go_ret
    exact ⟨rfl, HA9.out.1⟩

end Go.Proofs.Ytifmhgfijjjfeaa
