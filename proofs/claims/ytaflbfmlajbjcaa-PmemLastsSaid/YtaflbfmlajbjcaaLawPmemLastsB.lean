/- The law PmemLasts: behind a crash each line has one of the contents that it had since it was surely lasting. -/
import Derived.Test.YtaflbfmlajbjcaaLawPmemLasts
namespace Go.Proofs.Ytaflbfmlajbjcaa
open Go Go.RowKit

set_option maxRecDepth 100000 in
set_option maxHeartbeats 8000000 in
theorem lawPmemLasts (p0 p1 p2 : Option Addr) (c0 c1 c2 : Nat) (l : List (BitVec 64)) (sc : List ActA) (pk : List (BitVec 8)) (W : World) (hr0 : RdL W.heap.size W p0 c0 vw l) (hr1 : RdS W.heap.size W p1 c1 3 ac sc) (hr2 : RdL W.heap.size W p2 c2 vb pk) :
    Calls Try.prog 4 #[.slice p0 l.length c0, .slice p1 sc.length c1, .slice p2 pk.length c2] W fun e w' => e = .returned (.bool true) ∧ Below W.heap.size W w' := by
  by_cases hg : (8 ≤ l.length ∧ l.length ≤ 32 ∧ l.length % 8 = 0) ∧ sc.length ≤ 60 ∧ pk.length ≤ 10
  · exact lasts_good p0 p1 p2 c0 c1 c2 l sc pk W hr0 hr1 hr2 hg.1.1 hg.1.2.1 hg.1.2.2 hg.2.1 hg.2.2
  clear hr0 hr1 hr2
  obtain ⟨n, hn⟩ : ∃ n, l.length = n := ⟨_, rfl⟩
  obtain ⟨K, hK⟩ : ∃ K, sc.length = K := ⟨_, rfl⟩
  obtain ⟨Q, hQ⟩ : ∃ Q, pk.length = Q := ⟨_, rfl⟩
  rw [hn, hK, hQ] at hg
  rw [hn, hK, hQ]
  clear hn hK hQ
  by_cases h32 : 32 < n
  · have d1 : decide (32 < (n : Int)) = true := decide_eq_true (by omega)
    clear h32 hg
    go_enter Try.func4, Try.ntmps4
    go_wp2_with fail
    refine (works7_any _).mono ?_
    rintro e w' ⟨rfl, hb⟩
    have HB := Lib.hid hb
    clear hb
    go_wp2_with fail
    go_ret
    exact ⟨rfl, HB.out⟩
  · have d1 : decide (32 < (n : Int)) = false := decide_eq_false (by omega)
    by_cases hr : 8 ≤ n ∧ n ≤ 131072 ∧ n % 8 = 0
    · have HR := Lib.hid (right7_yes n W hr)
      by_cases h60 : 60 < K
      · have d2 : decide (60 < (K : Int)) = true := decide_eq_true (by omega)
        clear h32 hr h60 hg
        go_enter Try.func4, Try.ntmps4
        go_wp2_with fail
        refine HR.out.mono ?_
        rintro e w' ⟨rfl, rfl⟩
        go_wp2_with fail
        refine (works7_any _).mono ?_
        rintro e w' ⟨rfl, hb⟩
        have HB := Lib.hid hb
        clear hb
        go_wp2_with fail
        go_ret
        exact ⟨rfl, HB.out⟩
      · have d2 : decide (60 < (K : Int)) = false := decide_eq_false (by omega)
        have d3 : decide (10 < (Q : Int)) = true := decide_eq_true (by omega)
        clear h32 hr h60 hg
        go_enter Try.func4, Try.ntmps4
        go_wp2_with fail
        refine HR.out.mono ?_
        rintro e w' ⟨rfl, rfl⟩
        go_wp2_with fail
        refine (works7_any _).mono ?_
        rintro e w' ⟨rfl, hb⟩
        have HB := Lib.hid hb
        clear hb
        go_wp2_with fail
        go_ret
        exact ⟨rfl, HB.out⟩
    · have HR := Lib.hid (right7_no n W hr)
      clear h32 hr hg
      go_enter Try.func4, Try.ntmps4
      go_wp2_with fail
      refine HR.out.mono ?_
      rintro e w' ⟨rfl, rfl⟩
      go_wp2_with fail
      refine (works7_any _).mono ?_
      rintro e w' ⟨rfl, hb⟩
      have HB := Lib.hid hb
      clear hb
      go_wp2_with fail
      go_ret
      exact ⟨rfl, HB.out⟩
theorem lawPmemLasts_of {α : Type} {enc : α → List Value} (p0 : Option Addr) (c0 : Nat) (l : List (BitVec 64)) (p1 : Option Addr) (c1 : Nat) (ys : List α) (p2 : Option Addr) (c2 : Nat) (pk : List (BitVec 8)) (W : World) (hr0 : RdL W.heap.size W p0 c0 vw l) (hr1 : RdS W.heap.size W p1 c1 3 enc ys) (hr2 : RdL W.heap.size W p2 c2 vb pk) (f : α → ActA) (hf : ∀ y, enc y = ac (f y)) :
    Calls Try.prog 4 #[.slice p0 l.length c0, .slice p1 ys.length c1, .slice p2 pk.length c2] W fun e w' => e = .returned (.bool true) ∧ Below W.heap.size W w' := by
  have := lawPmemLasts p0 p1 p2 c0 c1 c2 l (ys.map f) pk W hr0 (hr1.mapE f hf) hr2
  rwa [List.length_map] at this
end Go.Proofs.Ytaflbfmlajbjcaa
