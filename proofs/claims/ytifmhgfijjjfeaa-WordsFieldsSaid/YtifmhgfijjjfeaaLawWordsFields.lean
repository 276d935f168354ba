/- The walk of the law WordsFields. -/
import Derived.Test.YtifmhgfijjjfeaaWordsE
import Derived.Test.YtifmhgfijjjfeaaWordsD
namespace Go.Proofs.Ytifmhgfijjjfeaa
open Go Go.RowKit

theorem right_nat (a d : Int) (h : rightV a d = true) : ∃ m n : Nat, a = m ∧ d = n ∧ 1 ≤ n ∧ m + n ≤ 64 := by
  have h' : 0 ≤ a ∧ a ≤ 63 ∧ 1 ≤ d ∧ d ≤ 64 - a := by simpa [rightV, rightB] using h
  obtain ⟨m, rfl⟩ := Int.eq_ofNat_of_zero_le h'.1
  obtain ⟨n, rfl⟩ := Int.eq_ofNat_of_zero_le (show 0 ≤ d by omega)
  exact ⟨m, n, rfl, rfl, by omega, by omega⟩

set_option maxRecDepth 100000 in
set_option maxHeartbeats 4000000 in
theorem lawWordsFields_out (x : BitVec 64) (a d : Int) (v : BitVec 64) (w : World) (h : rightV a d = false) :
    Calls Try.prog 12 #[vw x, .agg #[.int .i64 a, .int .i64 d], vw v] w fun e w' => e = .returned (.bool true) ∧ Below w.heap.size w w' := by
  have hc0 : (w.alloc (.cells #[.int .i64 a, .int .i64 d] 54)).cell? ⟨w.heap.size, 0, none⟩ = some (.int .i64 a) := by rw [World.cell?_alloc_new]; rfl
  have hc1 : (w.alloc (.cells #[.int .i64 a, .int .i64 d] 54)).cell? ⟨w.heap.size, 1, none⟩ = some (.int .i64 d) := by rw [World.cell?_alloc_new]; rfl
  have HA := Lib.hid ((At.start w).alloc (.cells #[.int .i64 a, .int .i64 d] 54))
  have H := Lib.hid h
  clear h
  go_enter Try.func12, Try.ntmps12
  go_wp2_with fail
  refine (fieldOut_any x a d _ H.out).mono ?_
  rintro e w1 ⟨rfl, rfl⟩
  go_wp2_with fail
  refine (withOut_any x v a d _ H.out).mono ?_
  rintro e w1 ⟨rfl, rfl⟩
  go_wp2_with fail
  refine (right_any a d _).mono ?_
  rintro e w1 ⟨rfl, rfl⟩
  rw [H.out]
  go_wp2_with fail
  refine (num1_any _ _).mono ?_
  rintro e w1 ⟨rfl, rfl⟩
  go_wp2_with fail
  refine (num1_any _ _).mono ?_
  rintro e w1 ⟨rfl, rfl⟩
  go_wp2_with fail
  refine (works1_any _).mono ?_
  rintro e w7 ⟨rfl, hb7⟩
  have HA7 := Lib.hid (HA.out.below hb7)
  clear hb7
  go_wp2_with fail
  go_ret
  exact ⟨rfl, HA7.out.1⟩

set_option maxRecDepth 100000 in
set_option maxHeartbeats 4000000 in
theorem lawWordsFields_big (x : BitVec 64) (a d : Nat) (v : BitVec 64) (w : World) (h1 : 1 ≤ d) (h2 : a + d ≤ 64) (h : holdsV d v = false) :
    Calls Try.prog 12 #[vw x, .agg #[.int .i64 a, .int .i64 d], vw v] w fun e w' => e = .returned (.bool true) ∧ Below w.heap.size w w' := by
  have hc0 : (w.alloc (.cells #[.int .i64 a, .int .i64 d] 54)).cell? ⟨w.heap.size, 0, none⟩ = some (.int .i64 a) := by rw [World.cell?_alloc_new]; rfl
  have hc1 : (w.alloc (.cells #[.int .i64 a, .int .i64 d] 54)).cell? ⟨w.heap.size, 1, none⟩ = some (.int .i64 d) := by rw [World.cell?_alloc_new]; rfl
  have HA := Lib.hid ((At.start w).alloc (.cells #[.int .i64 a, .int .i64 d] 54))
  have H := Lib.hid h
  have HR := Lib.hid (show rightV (a : Int) (d : Int) = true by simp [rightV, rightB]; omega)
  clear h
  go_enter Try.func12, Try.ntmps12
  go_wp2_with fail
  refine (fieldIn_any x a d _ h1 h2).mono ?_
  rintro e w1 ⟨rfl, rfl⟩
  go_wp2_with fail
  refine (withBig_any x v a d _ h1 h2 (holds_ge d v H.out)).mono ?_
  rintro e w1 ⟨rfl, rfl⟩
  go_wp2_with fail
  refine (right_any a d _).mono ?_
  rintro e w1 ⟨rfl, rfl⟩
  rw [HR.out]
  go_wp2_with fail
  refine (refField_any x a d _ h1 h2).mono ?_
  rintro e w1 ⟨rfl, rfl⟩
  go_wp2_with fail
  refine (num1_any _ _).mono ?_
  rintro e w1 ⟨rfl, rfl⟩
  go_wp2_with fail
  refine (holds_any d v _ (by omega)).mono ?_
  rintro e w1 ⟨rfl, rfl⟩
  rw [H.out]
  go_wp2_with fail
  refine (num1_any _ _).mono ?_
  rintro e w1 ⟨rfl, rfl⟩
  go_wp2_with fail
  refine (works1_any _).mono ?_
  rintro e w7 ⟨rfl, hb7⟩
  have HA7 := Lib.hid (HA.out.below hb7)
  clear hb7
  go_wp2_with fail
  go_ret
  exact ⟨rfl, HA7.out.1⟩

set_option maxRecDepth 100000 in
set_option maxHeartbeats 4000000 in
theorem lawWordsFields_in (x : BitVec 64) (a d : Nat) (v : BitVec 64) (w : World) (h1 : 1 ≤ d) (h2 : a + d ≤ 64) (h : holdsV d v = true) :
    Calls Try.prog 12 #[vw x, .agg #[.int .i64 a, .int .i64 d], vw v] w fun e w' => e = .returned (.bool true) ∧ Below w.heap.size w w' := by
  have hc0 : (w.alloc (.cells #[.int .i64 a, .int .i64 d] 54)).cell? ⟨w.heap.size, 0, none⟩ = some (.int .i64 a) := by rw [World.cell?_alloc_new]; rfl
  have hc1 : (w.alloc (.cells #[.int .i64 a, .int .i64 d] 54)).cell? ⟨w.heap.size, 1, none⟩ = some (.int .i64 d) := by rw [World.cell?_alloc_new]; rfl
  have HA := Lib.hid ((At.start w).alloc (.cells #[.int .i64 a, .int .i64 d] 54))
  have H := Lib.hid h
  have HR := Lib.hid (show rightV (a : Int) (d : Int) = true by simp [rightV, rightB]; omega)
  clear h
  go_enter Try.func12, Try.ntmps12
  go_wp2_with fail
  refine (fieldIn_any x a d _ h1 h2).mono ?_
  rintro e w1 ⟨rfl, rfl⟩
  go_wp2_with fail
  refine (withIn_any x v a d _ h1 h2 (holds_lt d v H.out)).mono ?_
  rintro e w1 ⟨rfl, n, rfl⟩
  have HA1 := Lib.hid (HA.out.drewN n)
  have hd0 : ((w.alloc (.cells #[.int .i64 a, .int .i64 d] 54)).drewN n).cell? ⟨w.heap.size, 0, none⟩ = some (.int .i64 a) := hc0
  have hd1 : ((w.alloc (.cells #[.int .i64 a, .int .i64 d] 54)).drewN n).cell? ⟨w.heap.size, 1, none⟩ = some (.int .i64 d) := hc1
  go_wp2_with fail
  refine (right_any a d _).mono ?_
  rintro e w1 ⟨rfl, rfl⟩
  rw [HR.out]
  go_wp2_with fail
  refine (refField_any x a d _ h1 h2).mono ?_
  rintro e w1 ⟨rfl, rfl⟩
  go_wp2_with fail
  refine (num1_any _ _).mono ?_
  rintro e w1 ⟨rfl, rfl⟩
  go_wp2_with fail
  refine (holds_any d v _ (by omega)).mono ?_
  rintro e w1 ⟨rfl, rfl⟩
  rw [H.out]
  go_wp2_with fail
  refine (refWith_any x v a d _ h1 h2 (holds_lt d v H.out)).mono ?_
  rintro e w1 ⟨rfl, rfl⟩
  go_wp2_with fail
  refine (num1_any _ _).mono ?_
  rintro e w1 ⟨rfl, rfl⟩
  go_wp2_with fail
  refine (works1_any _).mono ?_
  rintro e w7 ⟨rfl, hb7⟩
  have HA7 := Lib.hid (HA1.out.below hb7)
  clear hb7
  go_wp2_with fail
  go_ret
  exact ⟨rfl, HA7.out.1⟩

theorem lawWordsFields (x : BitVec 64) (a d : Int) (v : BitVec 64) (w : World) :
    Calls Try.prog 12 #[vw x, .agg #[.int .i64 a, .int .i64 d], vw v] w fun e w' => e = .returned (.bool true) ∧ Below w.heap.size w w' := by
  cases hr : rightV a d
  · exact lawWordsFields_out x a d v w hr
  · obtain ⟨m, n, rfl, rfl, h1, h2⟩ := right_nat a d hr
    cases hh : holdsV n v
    · exact lawWordsFields_big x m n v w h1 h2 hh
    · exact lawWordsFields_in x m n v w h1 h2 hh

end Go.Proofs.Ytifmhgfijjjfeaa
