/- The walk of the law WordsTakes. -/
import Derived.Test.YtifmhgfijjjfeaaWordsD
namespace Go.Proofs.Ytifmhgfijjjfeaa
open Go Go.RowKit

theorem take_any (p : Option Addr) (cap : Nat) (xs : List (BitVec 64)) (n : Int) (w : World) (hrd : RdL w.heap.size w p cap vw xs) (hx : xs.length ≤ 1000000) :
    Calls Try.prog 33 #[.slice p xs.length cap, .int .i64 n] w (RetTake xs n w) := by
  by_cases hn : 0 ≤ n ∧ n ≤ 8 * xs.length ∧ (8 * (xs.length : Int) - 8 < n)
  · obtain ⟨h1, h2, h3⟩ := hn
    obtain ⟨k, rfl⟩ := Int.eq_ofNat_of_zero_le h1
    exact takeIn_any p cap xs k w hrd hx (by omega) (by omega)
  · exact takeOut_any p cap xs n w hx hn
theorem refTake_any (p : Option Addr) (cap : Nat) (xs : List (BitVec 64)) (n : Int) (w : World) (hrd : RdL w.heap.size w p cap vw xs) (hx : xs.length ≤ 1000000) :
    Calls Try.prog 34 #[.slice p xs.length cap, .int .i64 n] w (RetTake xs n w) := by
  by_cases hn : 0 ≤ n ∧ n ≤ 8 * xs.length ∧ (8 * (xs.length : Int) - 8 < n)
  · obtain ⟨h1, h2, h3⟩ := hn
    obtain ⟨k, rfl⟩ := Int.eq_ofNat_of_zero_le h1
    exact refTakeIn_any p cap xs k w hrd hx (by omega) (by omega)
  · exact refTakeOut_any p cap xs n w hx hn

set_option maxRecDepth 100000 in
set_option maxHeartbeats 4000000 in
theorem lawWordsTakes (p : Option Addr) (cap : Nat) (xs : List (BitVec 64)) (n : Int) (w : World) (hrd : RdL w.heap.size w p cap vw xs) :
    Calls Try.prog 11 #[.slice p xs.length cap, .int .i64 n] w fun e w' => e = .returned (.bool true) ∧ Below w.heap.size w w' := by
  have hlen := hrd.len
  by_cases hx : 200 < xs.length
  · clear hrd
    go_enter Try.func11, Try.ntmps11
    go_wp2_with fail
    refine (works1_any _).mono ?_
    rintro e w1 ⟨rfl, hb⟩
    go_wp2_with fail
    go_ret
    exact ⟨rfl, hb⟩
  · have HR := Lib.hid hrd
    have hA := Lib.hid ((At.start w).alloc (.cells #[] 22))
    have HS := Lib.hid (hA.out.rdl hrd)
    clear hrd
    go_enter Try.func11, Try.ntmps11
    go_wp2_with (
      at_builtin
      refine wpList_append0 rfl (.tmp 14) (.tmp 15) _ rfl elem_u64' vw w.heap.size xs _ rfl _ _ _ rfl (own_empty w _ _ _ (Nat.le_refl _)) HS.out (fun _ => rfl) ?_ ?_ ?_ ?_
      · omega
      · omega
      · simp
      intro v w1 hown hg _
      have HA1 := Lib.hid (hA.out.grown hg (by intro b hb; cases hb; exact Nat.le_refl _))
      obtain ⟨p1, c1, rfl, hr1, _⟩ := rdl_of_owns hown
      have HM1 := Lib.hid hr1
      clear hg hown hr1)
    refine (take_any p1 c1 xs n _ HM1.out (by omega)).mono ?_
    rintro e w2 ⟨p2, c2, rfl, hr2, hb2⟩
    have HA2 := Lib.hid (HA1.out.below hb2)
    have HR2 := Lib.hid hr2
    clear hb2 hr2
    go_wp2_with fail
    refine (refTake_any p cap xs n _ (HA2.out.rdl HR.out) (by omega)).mono ?_
    rintro e w3 ⟨p3, c3, rfl, hr3, hb3⟩
    have HA3 := Lib.hid (HA2.out.below hb3)
    have hv1 := run_str (HR2.out.on hb3) 23 5 9 Try.underlying23 Try.underlying5 Try.underlying9
    have hv2 := run_str hr3 23 5 9 Try.underlying23 Try.underlying5 Try.underlying9
    clear hb3 hr3 HR2
    generalize takeL xs n = tl at hv1 hv2 ⊢
    generalize takeNo xs n = no at hv1 hv2 ⊢
    go_wp2_with fail
    refine (num1_any _ _).mono ?_
    rintro e w6 ⟨rfl, rfl⟩
    go_wp2_with fail
    refine (works1_any _).mono ?_
    rintro e w7 ⟨rfl, hb7⟩
    have HA7 := Lib.hid (HA3.out.below hb7)
    clear hb7
    go_wp2_with fail
    go_ret
    exact ⟨rfl, HA7.out.1⟩

end Go.Proofs.Ytifmhgfijjjfeaa
