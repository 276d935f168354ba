/- The walk of the law WordsPuts. -/
import Derived.Test.YtifmhgfijjjfeaaLawWordsFields
namespace Go.Proofs.Ytifmhgfijjjfeaa
open Go Go.RowKit

/-- What this law's calls hand back. -/
def PutsEnd (w : World) (e : Ending) (w' : World) : Prop := e = .returned (.bool true) ∧ Below w.heap.size w w'
theorem puts_start (w : World) (a d b e : Int) (n : Nat) : At w.heap.size w (((w.alloc (.cells #[.int .i64 a, .int .i64 d] 54)).alloc (.cells #[.int .i64 b, .int .i64 e] 54)).drewN n) :=
  (((At.start w).alloc _).alloc _).drewN _

set_option maxRecDepth 100000 in
set_option maxHeartbeats 4000000 in
theorem lawWordsPuts_out1 (x : BitVec 64) (a d : Int) (v : BitVec 64) (b e : Int) (w : World) (h : rightV a d = false) :
    Calls Try.prog 13 #[vw x, .agg #[.int .i64 a, .int .i64 d], vw v, .agg #[.int .i64 b, .int .i64 e]] w (PutsEnd w) := by
  have H := Lib.hid h
  clear h
  go_enter Try.func13, Try.ntmps13
  go_wp2_with fail
  go_quiet (fail)
  go_wp2_with fail
  go_quiet (fail)
  go_wp2_with fail
  refine (right_any a d _).mono ?_
  rintro en w1 ⟨rfl, rfl⟩
  rw [H.out]
  go_wp2_with fail
  refine (works1_any _).mono ?_
  rintro en w7 ⟨rfl, hb7⟩
  have HA7 := Lib.hid ((puts_start w _ _ _ _ _).below hb7)
  clear hb7
  go_wp2_with fail
  go_ret
  exact ⟨rfl, HA7.out.1⟩

set_option maxRecDepth 100000 in
set_option maxHeartbeats 4000000 in
theorem lawWordsPuts_out2 (x : BitVec 64) (a d : Int) (v : BitVec 64) (b e : Int) (w : World) (h : rightV a d = true) (h' : rightV b e = false) :
    Calls Try.prog 13 #[vw x, .agg #[.int .i64 a, .int .i64 d], vw v, .agg #[.int .i64 b, .int .i64 e]] w (PutsEnd w) := by
  have H := Lib.hid h
  have H' := Lib.hid h'
  clear h h'
  go_enter Try.func13, Try.ntmps13
  go_wp2_with fail
  go_quiet (fail)
  go_wp2_with fail
  go_quiet (fail)
  go_wp2_with fail
  refine (right_any a d _).mono ?_
  rintro en w1 ⟨rfl, rfl⟩
  rw [H.out]
  go_wp2_with fail
  refine (right_any b e _).mono ?_
  rintro en w1 ⟨rfl, rfl⟩
  rw [H'.out]
  go_wp2_with fail
  refine (works1_any _).mono ?_
  rintro en w7 ⟨rfl, hb7⟩
  have HA7 := Lib.hid ((puts_start w _ _ _ _ _).below hb7)
  clear hb7
  go_wp2_with fail
  go_ret
  exact ⟨rfl, HA7.out.1⟩

set_option maxRecDepth 100000 in
set_option maxHeartbeats 4000000 in
theorem lawWordsPuts_big (x : BitVec 64) (a d : Nat) (v : BitVec 64) (b e : Nat) (w : World) (h1 : 1 ≤ d) (h2 : a + d ≤ 64) (h3 : 1 ≤ e) (h4 : b + e ≤ 64) (h : holdsV d v = false) :
    Calls Try.prog 13 #[vw x, .agg #[.int .i64 a, .int .i64 d], vw v, .agg #[.int .i64 b, .int .i64 e]] w (PutsEnd w) := by
  have H := Lib.hid h
  have HR := Lib.hid (show rightV (a : Int) (d : Int) = true by simp [rightV, rightB]; omega)
  have HR' := Lib.hid (show rightV (b : Int) (e : Int) = true by simp [rightV, rightB]; omega)
  clear h
  go_enter Try.func13, Try.ntmps13
  go_wp2_with fail
  go_quiet (fail)
  go_wp2_with fail
  go_quiet (fail)
  go_wp2_with fail
  refine (right_any a d _).mono ?_
  rintro en w1 ⟨rfl, rfl⟩
  rw [HR.out]
  go_wp2_with fail
  refine (right_any b e _).mono ?_
  rintro en w1 ⟨rfl, rfl⟩
  rw [HR'.out]
  go_wp2_with fail
  refine (holds_any d v _ (by omega)).mono ?_
  rintro en w1 ⟨rfl, rfl⟩
  rw [H.out]
  go_wp2_with fail
  refine (works1_any _).mono ?_
  rintro en w7 ⟨rfl, hb7⟩
  have HA7 := Lib.hid ((puts_start w _ _ _ _ _).below hb7)
  clear hb7
  go_wp2_with fail
  go_ret
  exact ⟨rfl, HA7.out.1⟩

set_option maxRecDepth 100000 in
set_option maxHeartbeats 4000000 in
theorem lawWordsPuts_meet (x : BitVec 64) (a d : Nat) (v : BitVec 64) (b e : Nat) (w : World) (h1 : 1 ≤ d) (h2 : a + d ≤ 64) (h3 : 1 ≤ e) (h4 : b + e ≤ 64) (h : holdsV d v = true) (hm1 : a < b + e) (hm2 : b < a + d) :
    Calls Try.prog 13 #[vw x, .agg #[.int .i64 a, .int .i64 d], vw v, .agg #[.int .i64 b, .int .i64 e]] w (PutsEnd w) := by
  have H := Lib.hid h
  have HR := Lib.hid (show rightV (a : Int) (d : Int) = true by simp [rightV, rightB]; omega)
  have HR' := Lib.hid (show rightV (b : Int) (e : Int) = true by simp [rightV, rightB]; omega)
  clear h
  go_enter Try.func13, Try.ntmps13
  go_wp2_with fail
  go_quiet (fail)
  go_wp2_with fail
  go_quiet (fail)
  go_wp2_with fail
  refine (right_any a d _).mono ?_
  rintro en w1 ⟨rfl, rfl⟩
  rw [HR.out]
  go_wp2_with fail
  refine (right_any b e _).mono ?_
  rintro en w1 ⟨rfl, rfl⟩
  rw [HR'.out]
  go_wp2_with fail
  refine (holds_any d v _ (by omega)).mono ?_
  rintro en w1 ⟨rfl, rfl⟩
  rw [H.out]
  go_wp2_with fail
  refine (works1_any _).mono ?_
  rintro en w7 ⟨rfl, hb7⟩
  have HA7 := Lib.hid ((puts_start w _ _ _ _ _).below hb7)
  clear hb7
  go_wp2_with fail
  go_ret
  exact ⟨rfl, HA7.out.1⟩

set_option maxRecDepth 100000 in
set_option maxHeartbeats 4000000 in
theorem lawWordsPuts_r (x : BitVec 64) (a d : Nat) (v : BitVec 64) (b e : Nat) (w : World) (h1 : 1 ≤ d) (h2 : a + d ≤ 64) (h3 : 1 ≤ e) (h4 : b + e ≤ 64) (h : holdsV d v = true) (hm1 : b + e ≤ a) :
    Calls Try.prog 13 #[vw x, .agg #[.int .i64 a, .int .i64 d], vw v, .agg #[.int .i64 b, .int .i64 e]] w (PutsEnd w) := by
  have H := Lib.hid h
  have HR := Lib.hid (show rightV (a : Int) (d : Int) = true by simp [rightV, rightB]; omega)
  have HR' := Lib.hid (show rightV (b : Int) (e : Int) = true by simp [rightV, rightB]; omega)
  clear h
  have HD := Lib.hid (show a + d ≤ b ∨ b + e ≤ a by omega)
  go_enter Try.func13, Try.ntmps13
  go_wp2_with fail
  go_quiet (fail)
  go_wp2_with fail
  go_quiet (fail)
  go_wp2_with fail
  refine (right_any a d _).mono ?_
  rintro en w1 ⟨rfl, rfl⟩
  rw [HR.out]
  go_wp2_with fail
  refine (right_any b e _).mono ?_
  rintro en w1 ⟨rfl, rfl⟩
  rw [HR'.out]
  go_wp2_with fail
  refine (holds_any d v _ (by omega)).mono ?_
  rintro en w1 ⟨rfl, rfl⟩
  rw [H.out]
  go_wp2_with fail
  refine (withIn_any x v a d _ h1 h2 (holds_lt d v H.out)).mono ?_
  rintro en w1 ⟨rfl, n5, rfl⟩
  go_wp2_with fail
  refine (fieldIn_any (withW x a d v) a d _ h1 h2).mono ?_
  rintro en w1 ⟨rfl, rfl⟩
  go_wp2_with fail
  refine (fieldIn_any (withW x a d v) b e _ h3 h4).mono ?_
  rintro en w1 ⟨rfl, rfl⟩
  go_wp2_with fail
  refine (fieldIn_any x b e _ h3 h4).mono ?_
  rintro en w1 ⟨rfl, rfl⟩
  go_wp2_with fail
  refine (fieldIn_any x a d _ h1 h2).mono ?_
  rintro en w1 ⟨rfl, rfl⟩
  go_wp2_with fail
  refine (withIn_any (withW x a d v) (fieldW x a d) a d _ h1 h2 (field_lt x a d h2)).mono ?_
  rintro en w1 ⟨rfl, n6, rfl⟩
  rw [field_with x a d v h2 (holds_lt d v H.out), field_other x a d b e v h2 h4 (holds_lt d v H.out) HD.out, with_back x a d v h2 (holds_lt d v H.out)]
  go_wp2_with fail
  refine (num1_any _ _).mono ?_
  rintro en w1 ⟨rfl, rfl⟩
  go_wp2_with fail
  refine (num1_any _ _).mono ?_
  rintro en w1 ⟨rfl, rfl⟩
  go_wp2_with fail
  refine (num1_any _ _).mono ?_
  rintro en w1 ⟨rfl, rfl⟩
  go_wp2_with fail
  refine (num1_any _ _).mono ?_
  rintro en w1 ⟨rfl, rfl⟩
  go_wp2_with fail
  refine (num1_any _ _).mono ?_
  rintro en w1 ⟨rfl, rfl⟩
  go_wp2_with fail
  refine (num1_any _ _).mono ?_
  rintro en w1 ⟨rfl, rfl⟩
  go_wp2_with fail
  refine (works1_any _).mono ?_
  rintro en w7 ⟨rfl, hb7⟩
  have HA7 := Lib.hid ((puts_start w _ _ _ _ _).below hb7)
  clear hb7
  go_wp2_with fail
  go_ret
  exact ⟨rfl, HA7.out.1⟩

set_option maxRecDepth 100000 in
set_option maxHeartbeats 4000000 in
theorem lawWordsPuts_l (x : BitVec 64) (a d : Nat) (v : BitVec 64) (b e : Nat) (w : World) (h1 : 1 ≤ d) (h2 : a + d ≤ 64) (h3 : 1 ≤ e) (h4 : b + e ≤ 64) (h : holdsV d v = true) (hm1 : a + d ≤ b) :
    Calls Try.prog 13 #[vw x, .agg #[.int .i64 a, .int .i64 d], vw v, .agg #[.int .i64 b, .int .i64 e]] w (PutsEnd w) := by
  have H := Lib.hid h
  have HR := Lib.hid (show rightV (a : Int) (d : Int) = true by simp [rightV, rightB]; omega)
  have HR' := Lib.hid (show rightV (b : Int) (e : Int) = true by simp [rightV, rightB]; omega)
  clear h
  have HD := Lib.hid (show a + d ≤ b ∨ b + e ≤ a by omega)
  go_enter Try.func13, Try.ntmps13
  go_wp2_with fail
  go_quiet (fail)
  go_wp2_with fail
  go_quiet (fail)
  go_wp2_with fail
  refine (right_any a d _).mono ?_
  rintro en w1 ⟨rfl, rfl⟩
  rw [HR.out]
  go_wp2_with fail
  refine (right_any b e _).mono ?_
  rintro en w1 ⟨rfl, rfl⟩
  rw [HR'.out]
  go_wp2_with fail
  refine (holds_any d v _ (by omega)).mono ?_
  rintro en w1 ⟨rfl, rfl⟩
  rw [H.out]
  go_wp2_with fail
  refine (withIn_any x v a d _ h1 h2 (holds_lt d v H.out)).mono ?_
  rintro en w1 ⟨rfl, n5, rfl⟩
  go_wp2_with fail
  refine (fieldIn_any (withW x a d v) a d _ h1 h2).mono ?_
  rintro en w1 ⟨rfl, rfl⟩
  go_wp2_with fail
  refine (fieldIn_any (withW x a d v) b e _ h3 h4).mono ?_
  rintro en w1 ⟨rfl, rfl⟩
  go_wp2_with fail
  refine (fieldIn_any x b e _ h3 h4).mono ?_
  rintro en w1 ⟨rfl, rfl⟩
  go_wp2_with fail
  refine (fieldIn_any x a d _ h1 h2).mono ?_
  rintro en w1 ⟨rfl, rfl⟩
  go_wp2_with fail
  refine (withIn_any (withW x a d v) (fieldW x a d) a d _ h1 h2 (field_lt x a d h2)).mono ?_
  rintro en w1 ⟨rfl, n6, rfl⟩
  rw [field_with x a d v h2 (holds_lt d v H.out), field_other x a d b e v h2 h4 (holds_lt d v H.out) HD.out, with_back x a d v h2 (holds_lt d v H.out)]
  go_wp2_with fail
  refine (num1_any _ _).mono ?_
  rintro en w1 ⟨rfl, rfl⟩
  go_wp2_with fail
  refine (num1_any _ _).mono ?_
  rintro en w1 ⟨rfl, rfl⟩
  go_wp2_with fail
  refine (num1_any _ _).mono ?_
  rintro en w1 ⟨rfl, rfl⟩
  go_wp2_with fail
  refine (num1_any _ _).mono ?_
  rintro en w1 ⟨rfl, rfl⟩
  go_wp2_with fail
  refine (num1_any _ _).mono ?_
  rintro en w1 ⟨rfl, rfl⟩
  go_wp2_with fail
  refine (num1_any _ _).mono ?_
  rintro en w1 ⟨rfl, rfl⟩
  go_wp2_with fail
  refine (works1_any _).mono ?_
  rintro en w7 ⟨rfl, hb7⟩
  have HA7 := Lib.hid ((puts_start w _ _ _ _ _).below hb7)
  clear hb7
  go_wp2_with fail
  go_ret
  exact ⟨rfl, HA7.out.1⟩

theorem lawWordsPuts (x : BitVec 64) (a d : Int) (v : BitVec 64) (b e : Int) (w : World) :
    Calls Try.prog 13 #[vw x, .agg #[.int .i64 a, .int .i64 d], vw v, .agg #[.int .i64 b, .int .i64 e]] w (PutsEnd w) := by
  cases hr : rightV a d
  · exact lawWordsPuts_out1 x a d v b e w hr
  · cases hr' : rightV b e
    · exact lawWordsPuts_out2 x a d v b e w hr hr'
    · obtain ⟨m, n, rfl, rfl, h1, h2⟩ := right_nat a d hr
      obtain ⟨k, j, rfl, rfl, h3, h4⟩ := right_nat b e hr'
      cases hh : holdsV n v
      · exact lawWordsPuts_big x m n v k j w h1 h2 h3 h4 hh
      · by_cases c1 : m < k + j
        · by_cases c2 : k < m + n
          · exact lawWordsPuts_meet x m n v k j w h1 h2 h3 h4 hh c1 c2
          · exact lawWordsPuts_l x m n v k j w h1 h2 h3 h4 hh (by omega)
        · exact lawWordsPuts_r x m n v k j w h1 h2 h3 h4 hh (by omega)

end Go.Proofs.Ytifmhgfijjjfeaa
