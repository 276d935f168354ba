/- The walks of ScanHolds' own functions: holds, between. -/
import Derived.Test.YtenmogokbelahaaSlotH
namespace Go.Proofs.Ytenmogokbelahaa
open Go Go.RowKit

set_option maxRecDepth 100000 in
set_option maxHeartbeats 4000000 in
theorem holds_any (p1 : Option Addr) (c1 : Nat) (l1 : List Pr) (p2 : Option Addr) (c2 : Nat) (l2 : List Pr) (key : BitVec 64) (f : BitVec 64 × Bool) (w : World) (h1 : RdS w.heap.size w p1 c1 2 pc l1) (h2 : RdS w.heap.size w p2 c2 2 pc l2) (hl1 : l1.length ≤ 100000) (hl2 : l2.length ≤ 100000) (hok : HoldOk (pairP l1 key) (pairP l2 key) f) :
    Calls Try.prog 29 #[.slice p1 l1.length c1, .slice p2 l2.length c2, vw key, vw f.1, .bool f.2] w fun e w' => e = .returned (.bool true) ∧ w = w' := by
  have HP1 := Lib.hid (pair_any p1 c1 l1 key w h1 hl1)
  have HP2 := Lib.hid (pair_any p2 c2 l2 key w h2 hl2)
  clear h1 h2
  obtain ⟨was, hw⟩ : ∃ x, pairP l1 key = x := ⟨_, rfl⟩
  obtain ⟨will, hw2⟩ : ∃ x, pairP l2 key = x := ⟨_, rfl⟩
  rw [hw] at HP1 hok
  rw [hw2] at HP2 hok
  obtain ⟨a, ab⟩ := was
  obtain ⟨b, bb⟩ := will
  obtain ⟨f1, f2⟩ := f
  obtain ⟨A, hA⟩ : ∃ V : Int, (a.toNat : Int) = V := ⟨_, rfl⟩
  obtain ⟨B, hB⟩ : ∃ V : Int, (b.toNat : Int) = V := ⟨_, rfl⟩
  obtain ⟨F, hF⟩ : ∃ V : Int, (f1.toNat : Int) = V := ⟨_, rfl⟩
  have ea : vw a = .int .u64 A := by rw [vwi, hA]
  have eb : vw b = .int .u64 B := by rw [vwi, hB]
  have ef : vw f1 = .int .u64 F := by rw [vwi, hF]
  obtain ⟨k1, k2⟩ := hok
  simp only at k1 k2 HP1 HP2
  show Calls _ _ #[_, _, _, vw f1, .bool f2] _ _
  rw [ea] at HP1
  rw [eb] at HP2
  rw [ef]
  have q1 : f1 = a ↔ F = A := by rw [← hA, ← hF, word_eq]
  have q2 : f1 = b ↔ F = B := by rw [← hB, ← hF, word_eq]
  have q3 : f1 = 0#64 ↔ F = 0 := by rw [← hF, word_eq0]
  clear hw hw2 hA hB hF ea eb ef hl1 hl2
  cases f2 with
  | false =>
    obtain ⟨h0, hn⟩ := k2 rfl
    obtain rfl := q3.1 h0
    have hn' : (ab && bb) = false := by cases ab <;> cases bb <;> simp_all
    clear k1 k2 q1 q2 q3 h0 hn
    have HN := Lib.hid hn'
    clear hn'
    go_enter Try.func29, Try.ntmps29
    go_wp2_with fail
    refine HP1.out.mono ?_
    rintro e w' ⟨rfl, rfl⟩
    go_wp2_with fail
    refine HP2.out.mono ?_
    rintro e w' ⟨rfl, rfl⟩
    cases ab with
    | false =>
      go_wp2_with fail
      go_ret
      exact ⟨rfl, rfl⟩
    | true =>
      obtain rfl : bb = false := HN.out
      go_wp2_with fail
      go_ret
      exact ⟨rfl, rfl⟩
  | true =>
    have hk := k1 rfl
    rw [q1, q2] at hk
    clear k1 k2 q1 q2 q3
    have HK := Lib.hid hk
    clear hk
    go_enter Try.func29, Try.ntmps29
    go_wp2_with fail
    refine HP1.out.mono ?_
    rintro e w' ⟨rfl, rfl⟩
    go_wp2_with fail
    refine HP2.out.mono ?_
    rintro e w' ⟨rfl, rfl⟩
    by_cases h : ab = true ∧ F = A
    · obtain ⟨rfl, rfl⟩ := h
      go_wp2_with fail
      go_ret
      exact ⟨rfl, rfl⟩
    · obtain ⟨hb, hfb⟩ : bb = true ∧ F = B := HK.out.resolve_left h
      subst hb
      subst hfb
      cases ab with
      | false =>
        clear h
        go_wp2_with fail
        go_ret
        exact ⟨rfl, rfl⟩
      | true =>
        have hne : (F == A) = false := beq_eq_false_iff_ne.2 (fun e => h ⟨rfl, e⟩)
        clear h
        go_wp2_with fail
        go_ret
        exact ⟨rfl, rfl⟩
end Go.Proofs.Ytenmogokbelahaa
