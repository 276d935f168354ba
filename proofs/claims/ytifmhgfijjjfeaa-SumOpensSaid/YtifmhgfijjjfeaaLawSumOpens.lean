/- The walks of the laws SumOpens and SumMores. -/
import Derived.Test.YtifmhgfijjjfeaaSumE
import Derived.Test.YtifmhgfijjjfeaaSumLaw
namespace Go.Proofs.Ytifmhgfijjjfeaa
open Go Go.RowKit

theorem openL_len (xs : List (BitVec 64)) : (openL xs).length ≤ xs.length := by
  unfold openL; split <;> simp

set_option maxRecDepth 100000 in
set_option maxHeartbeats 4000000 in
theorem lawSumOpens (p : Option Addr) (cap : Nat) (xs : List (BitVec 64)) (r : Bool) (w : World) (hrd : RdL w.heap.size w p cap vw xs) :
    Calls Try.prog 4 #[.slice p xs.length cap, .bool r] w fun e w' => e = .returned (.bool true) ∧ Below w.heap.size w w' := by
  have hlen := hrd.len
  by_cases hx : 200 < xs.length
  · clear hrd
    go_enter Try.func4, Try.ntmps4
    go_wp2_with fail
    refine (works_any _).mono ?_
    rintro e w1 ⟨rfl, hb⟩
    go_wp2_with fail
    go_ret
    exact ⟨rfl, hb⟩
  · have HR := Lib.hid hrd
    have hA := Lib.hid ((At.start w).alloc (.cells #[] 22))
    have HS := Lib.hid (hA.out.rdl hrd)
    clear hrd
    cases r with
    | false =>
      go_enter Try.func4, Try.ntmps4
      go_wp2_with (
        at_builtin
        refine wpList_append0 rfl (.tmp 14) (.tmp 15) _ rfl elem_u64 vw w.heap.size xs _ rfl _ _ _ rfl (own_empty w _ _ _ (Nat.le_refl _)) HS.out (fun _ => rfl) ?_ ?_ ?_ ?_
        · omega
        · omega
        · simp
        intro v w1 hown hg _
        have HA1 := Lib.hid (hA.out.grown hg (by intro b hb; cases hb; exact Nat.le_refl _))
        obtain ⟨p1, c1, rfl, hr1, _⟩ := rdl_of_owns hown
        have HM1 := Lib.hid hr1
        clear hg hown hr1)
      refine (open_any p1 c1 xs _ HM1.out (by omega)).mono ?_
      rintro e w2 ⟨p2, c2, rfl, hr2, hb2⟩
      have HA2 := Lib.hid (HA1.out.below hb2)
      have HM2 := Lib.hid (HM1.out.on hb2)
      have HR2 := Lib.hid hr2
      clear hb2 hr2 HM1
      go_wp2_with fail
      refine (refOpen_any p1 c1 xs _ HM2.out (by omega)).mono ?_
      rintro e w3 ⟨p3, c3, rfl, hr3, hb3⟩
      have HA3 := Lib.hid (HA2.out.below hb3)
      have HR3 := Lib.hid (HR2.out.on hb3)
      have HS3 := Lib.hid hr3
      clear hb3 hr3 HR2
      go_wp2_with fail
      refine (same_any p2 p3 c2 c3 _ _ _ HR3.out HS3.out).mono ?_
      rintro e w4 ⟨rfl, n4, rfl⟩
      have hs1 := sameB_self (openL xs)
      have HA4 := Lib.hid (HA3.out.drewN n4)
      go_wp2_with fail
      refine (num_any _ _).mono ?_
      rintro e w5 ⟨rfl, rfl⟩
      go_wp2_with fail
      refine (works_any _).mono ?_
      rintro e w9 ⟨rfl, hb9⟩
      have HA9 := Lib.hid (HA4.out.below hb9)
      go_wp2_with fail
      go_ret
      exact ⟨rfl, HA9.out.1⟩
    | true =>
      have hsl : (sealL xs).length = xs.length + 1 := by simp [sealL]
      have HSL := Lib.hid hsl
      clear hsl
      go_enter Try.func4, Try.ntmps4
      go_wp2_with (
        at_builtin
        refine wpList_append0 rfl (.tmp 14) (.tmp 15) _ rfl elem_u64 vw w.heap.size xs _ rfl _ _ _ rfl (own_empty w _ _ _ (Nat.le_refl _)) HS.out (fun _ => rfl) ?_ ?_ ?_ ?_
        · omega
        · omega
        · simp
        intro v w1 hown hg _
        have HA1 := Lib.hid (hA.out.grown hg (by intro b hb; cases hb; exact Nat.le_refl _))
        clear hg hown)
      refine (refSeal_any p cap xs _ (HA1.out.rdl HR.out) (by omega)).mono ?_
      rintro e w1 ⟨v1, rfl, hown1, hb1⟩
      have HAs := Lib.hid (HA1.out.below hb1)
      obtain ⟨p1, c1, rfl, hr1, _⟩ := rdl_of_owns hown1
      have HM1 := Lib.hid hr1
      clear hown1 hb1 hr1
      go_wp2_with fail
      refine (open_any p1 c1 (sealL xs) _ HM1.out (by rw [HSL.out]; omega)).mono ?_
      rintro e w2 ⟨p2, c2, rfl, hr2, hb2⟩
      have HA2 := Lib.hid (HAs.out.below hb2)
      have HM2 := Lib.hid (HM1.out.on hb2)
      have HR2 := Lib.hid hr2
      clear hb2 hr2 HM1
      go_wp2_with fail
      refine (refOpen_any p1 c1 (sealL xs) _ HM2.out (by rw [HSL.out]; omega)).mono ?_
      rintro e w3 ⟨p3, c3, rfl, hr3, hb3⟩
      have HA3 := Lib.hid (HA2.out.below hb3)
      have HR3 := Lib.hid (HR2.out.on hb3)
      have HS3 := Lib.hid hr3
      clear hb3 hr3 HR2
      go_wp2_with fail
      refine (same_any p2 p3 c2 c3 _ _ _ HR3.out HS3.out).mono ?_
      rintro e w4 ⟨rfl, n4, rfl⟩
      have hs1 := sameB_self (openL (sealL xs))
      have HA4 := Lib.hid (HA3.out.drewN n4)
      go_wp2_with fail
      refine (num_any _ _).mono ?_
      rintro e w5 ⟨rfl, rfl⟩
      go_wp2_with fail
      refine (works_any _).mono ?_
      rintro e w9 ⟨rfl, hb9⟩
      have HA9 := Lib.hid (HA4.out.below hb9)
      go_wp2_with fail
      go_ret
      exact ⟨rfl, HA9.out.1⟩

set_option maxRecDepth 100000 in
set_option maxHeartbeats 4000000 in
theorem lawSumMores (p q : Option Addr) (cp cq : Nat) (xs ys : List (BitVec 8)) (w : World) (hrx : RdL w.heap.size w p cp vb xs) (hry : RdL w.heap.size w q cq vb ys) :
    Calls Try.prog 5 #[.slice p xs.length cp, .slice q ys.length cq] w fun e w' => e = .returned (.bool true) ∧ Below w.heap.size w w' := by
  have hlx := hrx.len
  have hly := hry.len
  have HX := Lib.hid hrx
  have HY := Lib.hid hry
  clear hrx hry
  by_cases hx : 1000 < xs.length
  · have hx' : decide ((1000 : Int) < (xs.length : Int)) = true := by simp; omega
    go_enter Try.func5, Try.ntmps5
    go_wp2_with fail
    refine (works_any _).mono ?_
    rintro e w1 ⟨rfl, hb⟩
    go_wp2_with fail
    go_ret
    exact ⟨rfl, hb⟩
  · by_cases hy : 1000 < ys.length
    · go_enter Try.func5, Try.ntmps5
      go_wp2_with fail
      refine (works_any _).mono ?_
      rintro e w1 ⟨rfl, hb⟩
      go_wp2_with fail
      go_ret
      exact ⟨rfl, hb⟩
    · go_enter Try.func5, Try.ntmps5
      go_wp2_with fail
      refine (sum_any p cp xs _ HX.out).mono ?_
      rintro e w1 ⟨rfl, hb1⟩
      have HA1 := Lib.hid ((At.start w).below hb1)
      clear hb1
      go_wp2_with fail
      refine (more_any (sumw xs) q cq ys _ (HA1.out.rdl HY.out)).mono ?_
      rintro e w2 ⟨rfl, hb2⟩
      have HA2 := Lib.hid (HA1.out.below hb2)
      clear hb2
      rw [more_sum]
      go_wp2_with (first
        | (at_builtin
           refine wpList_append0 rfl (.tmp 18) (.tmp 19) _ rfl elem_u8 vb w.heap.size xs _ rfl _ _ _ rfl (own_empty w2 _ _ _ HA2.out.2) ((HA2.out.alloc _).rdl HX.out) (fun _ => rfl) ?_ ?_ ?_ ?_
           · omega
           · omega
           · have := HA2.out.2; simp; omega
           intro v w3 hown hg _
           have HA3 := Lib.hid ((HA2.out.alloc _).grown hg (by intro b hb; cases hb; exact HA2.out.2))
           have HO3 := Lib.hid hown
           clear hg hown)
        | (at_builtin
           refine wpList_appendR rfl (.tmp 20) (.tmp 21) _ rfl elem_u8 vb w.heap.size xs ys _ rfl _ _ _ rfl HO3.out (HA3.out.rdl HY.out) (fun _ => rfl) ?_ ?_ ?_ ?_
           · omega
           · omega
           · exact HA3.out.2
           intro v2 w4 hown hg _
           have HA4 := Lib.hid (HA3.out.grown hg (fun b hb => (HO3.out.lt b hb).1))
           obtain ⟨p4, c4, rfl, hr4, _⟩ := rdl_of_owns hown
           have HR4 := Lib.hid hr4
           clear hg hown hr4))
      rw [← List.length_append]
      refine (sum_any p4 c4 (xs ++ ys) _ HR4.out).mono ?_
      rintro e w5 ⟨rfl, hb5⟩
      have HA5 := Lib.hid (HA4.out.below hb5)
      clear hb5
      go_wp2_with fail
      refine (works_any _).mono ?_
      rintro e w9 ⟨rfl, hb9⟩
      have HA9 := Lib.hid (HA5.out.below hb9)
      go_wp2_with fail
      go_ret
      exact ⟨rfl, HA9.out.1⟩

end Go.Proofs.Ytifmhgfijjjfeaa
