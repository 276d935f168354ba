/- The walk of the law SumSums. -/
import Derived.Test.YtifmhgfijjjfeaaSumE
import Derived.Test.YtifmhgfijjjfeaaStr
namespace Go.Proofs.Ytifmhgfijjjfeaa
open Go Go.RowKit

theorem refMore0 (p : Option Addr) (cap : Nat) (ys : List (BitVec 8)) (w : World) (hrd : RdL w.heap.size w p cap vb ys) :
    Calls Try.prog 16 #[.int .u64 0, .slice p ys.length cap] w fun e w' => e = .returned (vw (sumw ys)) ∧ w = w' := refMore_any 0#64 p cap ys w hrd

set_option maxRecDepth 100000 in
set_option maxHeartbeats 4000000 in
theorem lawSumSums (x : BitVec 64) (p : Option Addr) (cap : Nat) (ys : List (BitVec 8)) (w : World) (hrd : RdL w.heap.size w p cap vb ys) :
    Calls Try.prog 3 #[vw x, .slice p ys.length cap] w fun e w' => e = .returned (.bool true) ∧ Below w.heap.size w w' := by
  have hlen := hrd.len
  by_cases hx : 2000 < ys.length
  · clear hrd
    go_enter Try.func3, Try.ntmps3
    go_wp2_with fail
    refine (works_any _).mono ?_
    rintro e w1 ⟨rfl, hb⟩
    go_wp2_with fail
    go_ret
    exact ⟨rfl, hb⟩
  · have HR := Lib.hid hrd
    have hA := Lib.hid ((At.start w).alloc (.cells #[] 5))
    have HS := Lib.hid (hA.out.rdl hrd)
    clear hrd
    go_enter Try.func3, Try.ntmps3
    go_wp2_with (first
      | (at_builtin
         refine wpList_append0 rfl (.tmp 10) (.tmp 11) _ rfl elem_u8 vb w.heap.size ys _ rfl _ _ _ rfl (own_empty w _ _ _ (Nat.le_refl _)) HS.out (fun _ => rfl) ?_ ?_ ?_ ?_
         · omega
         · omega
         · simp
         intro v w1 hown hg _
         have HA1 := Lib.hid (hA.out.grown hg (by intro b hb; cases hb; exact Nat.le_refl _))
         have HO1 := Lib.hid hown
         clear hg hown)
      | (at_builtin
         refine wpList_append1 rfl (.tmp 12) (.tmp 13) _ rfl elem_u8 vb w.heap.size ys 77#8 _ rfl _ _ rfl (HO1.out.alloc _) 5 (Box.new w1 5 (vb 77#8)) rfl ?_ ?_ ?_ ?_
         · omega
         · omega
         · have := HA1.out.2; simp; omega
         intro v2 w2 hown hg _ _
         have HA2 := Lib.hid ((HA1.out.alloc _).grown hg (fun b hb => (HO1.out.lt b hb).1))
         obtain ⟨p2, c2, rfl, hr2, _⟩ := rdl_of_owns hown
         have HR2 := Lib.hid hr2
         have hc2 : ys.length + 1 ≤ c2 := by simpa using hr2.1
         have hm2 : c2 ≤ 9223372036854775807 := hr2.2.1
         clear hg hown hr2))
    have HM := Lib.hid (HR2.out.front (cap' := c2) (by omega) (Nat.le_refl _))
    refine (sum_any p2 c2 ys _ HM.out).mono ?_
    rintro e w3 ⟨rfl, hb3⟩
    have HA3 := Lib.hid (HA2.out.below hb3)
    have HM3 := Lib.hid (HM.out.on hb3)
    have HR3 := Lib.hid (HR2.out.on hb3)
    clear hb3 HM HR2
    go_wp2_with fail
    refine (refMore0 p cap ys _ (HA3.out.rdl HR.out)).mono ?_
    rintro e w4 ⟨rfl, rfl⟩
    go_wp2_with fail
    refine (more_any x p2 c2 ys _ HM3.out).mono ?_
    rintro e w4 ⟨rfl, hb4⟩
    have HA4 := Lib.hid (HA3.out.below hb4)
    have HM4 := Lib.hid (HM3.out.on hb4)
    have HR4 := Lib.hid (HR3.out.on hb4)
    clear hb4 HM3 HR3
    go_wp2_with fail
    refine (refMore_any x p cap ys _ (HA4.out.rdl HR.out)).mono ?_
    rintro e w5 ⟨rfl, rfl⟩
    have hv1 := run_str HM4.out 23 5 9 Try.underlying23 Try.underlying5 Try.underlying9
    have hv2 := run_str (HA4.out.rdl HR.out) 23 5 9 Try.underlying23 Try.underlying5 Try.underlying9
    obtain ⟨b, off, rfl, hb, hcx⟩ := HR4.out.at ys.length (by simp)
    have hcx' : w4.cell? ⟨b, off + ys.length, none⟩ = some (vb 77#8) := by simpa using hcx
    have h77 : vb 77#8 = .int .u8 77 := rfl
    rw [h77] at hcx'
    clear hcx
    have hi1 : (0 : Int) ≤ (ys.length : Int) := by omega
    have hi2 : (ys.length : Int) < (ys.length : Int) + 1 := by omega
    go_wp2_with fail
    refine (works_any _).mono ?_
    rintro e w9 ⟨rfl, hb9⟩
    have HA9 := Lib.hid (HA4.out.below hb9)
    go_wp2_with fail
    go_ret
    exact ⟨rfl, HA9.out.1⟩

end Go.Proofs.Ytifmhgfijjjfeaa
