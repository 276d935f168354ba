/- What the laws of plans need of a memory, ahead of all else: none, the words that may be, rows of another encoding. -/
import Derived.Test.YtaflbfmlajbjcaaPmemM
namespace Go.Proofs.Ytaflbfmlajbjcaa
open Go Go.RowKit
attribute [local go_sem] Oper.semAt_some

theorem below_allocR (W : World) (o : Obj) : Below W.heap.size W (W.alloc o) := (Below.refl _ _).alloc (Nat.le_refl _) _
set_option maxRecDepth 100000 in
set_option maxHeartbeats 2000000 in
theorem noneN_no (W : World) : Calls Try.prog 53 #[.pointer none] W fun e w' => e = .returned (.bool true) ∧ W = w' := by
  go_enter Try.func53, Try.ntmps53
  go_wp2_with fail
  go_ret
  exact ⟨rfl, rfl⟩
set_option maxRecDepth 100000 in
set_option maxHeartbeats 2000000 in
theorem lenN_no (W : World) : Calls Try.prog 32 #[.pointer none] W fun e w' => e = .returned (.int .i64 0) ∧ W = w' := by
  have HN := Lib.hid (noneN_no W)
  go_enter Try.func32, Try.ntmps32
  go_wp2_with fail
  refine HN.out.mono ?_
  rintro e w' ⟨rfl, rfl⟩
  go_wp2_with fail
  go_ret
  exact ⟨rfl, rfl⟩
theorem RdS.mapR {α β : Type} {B : Nat} {w : World} {p : Option Addr} {cap c : Nat} {enc : α → List Value} {enc' : β → List Value} {ys : List α} (h : RdS B w p cap c enc ys) (f : α → β) (he : ∀ y, enc y = enc' (f y)) : RdS B w p cap c enc' (ys.map f) := by
  obtain ⟨h1, h2, h3⟩ := h
  refine ⟨by simpa using h1, h2, h3.imp id ?_⟩
  rintro ⟨b, off, hp, hb, hc⟩
  refine ⟨b, off, hp, hb, fun i hi j v hv => ?_⟩
  have hi2 : i < ys.length := by simpa using hi
  refine hc i hi2 j v ?_
  rw [he]
  simpa using hv
set_option maxHeartbeats 1000000 in
theorem right8_any (n : Int) (w : World) : Calls Try.prog 11 #[.int .i64 n] w fun e w' => e = .returned (.bool (decide (8 ≤ n ∧ n ≤ 131072 ∧ n % 8 = 0))) ∧ w = w' := by
  by_cases h1 : 8 ≤ n
  · by_cases h2 : n ≤ 131072
    · obtain ⟨r, hr⟩ : ∃ r, n % 8 = r := ⟨_, rfl⟩
      have e : decide (8 ≤ n ∧ n ≤ 131072 ∧ n % 8 = 0) = (r == 0) := by
        rw [hr]
        by_cases h3 : r = 0
        · subst h3; exact decide_eq_true ⟨h1, h2, rfl⟩
        · rw [decide_eq_false (fun h => h3 h.2.2)]; exact (beq_eq_false_iff_ne.2 h3).symm
      have hw : n.tmod 8 = r := by rw [Int.tmod_eq_emod_of_nonneg (by omega), hr]
      rw [e]
      clear e
      go_enter Try.func11, Try.ntmps11
      go_wp2_with fail
      go_ret
      exact ⟨rfl, rfl⟩
    · have e : decide (8 ≤ n ∧ n ≤ 131072 ∧ n % 8 = 0) = false := decide_eq_false (fun h => h2 h.2.1)
      have d2 : decide (n ≤ 131072) = false := decide_eq_false h2
      rw [e]
      clear e
      go_enter Try.func11, Try.ntmps11
      go_wp2_with fail
      go_ret
      exact ⟨rfl, rfl⟩
  · have e : decide (8 ≤ n ∧ n ≤ 131072 ∧ n % 8 = 0) = false := decide_eq_false (fun h => h1 h.1)
    have d1 : decide (8 ≤ n) = false := decide_eq_false h1
    rw [e]
    clear e
    go_enter Try.func11, Try.ntmps11
    go_wp2_with fail
    go_ret
    exact ⟨rfl, rfl⟩
theorem right8_yes (n : Nat) (w : World) (h : 8 ≤ n ∧ n ≤ 131072 ∧ n % 8 = 0) : Calls Try.prog 11 #[.int .i64 n] w fun e w' => e = .returned (.bool true) ∧ w = w' := by
  have := right8_any (n : Int) w
  rwa [decide_eq_true (by omega)] at this
theorem right8_no (n : Nat) (w : World) (h : ¬ (8 ≤ n ∧ n ≤ 131072 ∧ n % 8 = 0)) : Calls Try.prog 11 #[.int .i64 n] w fun e w' => e = .returned (.bool false) ∧ w = w' := by
  have := right8_any (n : Int) w
  rwa [decide_eq_false (by omega)] at this
end Go.Proofs.Ytaflbfmlajbjcaa
