/- What the law of plans calls: may an act be, is it there, an act done by its calls. -/
import Derived.Test.YtaflbfmlajbjcaaRunB
namespace Go.Proofs.Ytaflbfmlajbjcaa
open Go Go.RowKit

set_option maxRecDepth 100000 in
set_option maxHeartbeats 4000000 in
theorem chk1 (a v : Int) (W : World) :
    Calls Try.prog 73 #[.agg #[.int .i64 1, .int .i64 a, .int .u64 v]] W fun e w' => e = .returned (.bool (decide (0 ≤ a))) ∧ Below W.heap.size W w' := by
  obtain ⟨B, hB⟩ : ∃ B, decide (0 ≤ a) = B := ⟨_, rfl⟩
  rw [hB]
  go_enter Try.func73, Try.ntmps73
  go_wp2_with fail
  go_ret
  exact ⟨rfl, below_allocR W _⟩
set_option maxRecDepth 100000 in
set_option maxHeartbeats 4000000 in
theorem chk2y (a v : Int) (W : World) (h : 0 ≤ a) :
    Calls Try.prog 73 #[.agg #[.int .i64 2, .int .i64 a, .int .u64 v]] W fun e w' => e = .returned (.bool (v == 0)) ∧ Below W.heap.size W w' := by
  have d1 : decide (0 ≤ a) = true := decide_eq_true h
  obtain ⟨B, hB⟩ : ∃ B, (v == 0) = B := ⟨_, rfl⟩
  rw [hB]
  clear h
  go_enter Try.func73, Try.ntmps73
  go_wp2_with fail
  go_ret
  exact ⟨rfl, below_allocR W _⟩
set_option maxRecDepth 100000 in
set_option maxHeartbeats 4000000 in
theorem chk2n (a v : Int) (W : World) (h : ¬ 0 ≤ a) :
    Calls Try.prog 73 #[.agg #[.int .i64 2, .int .i64 a, .int .u64 v]] W fun e w' => e = .returned (.bool false) ∧ Below W.heap.size W w' := by
  have d1 : decide (0 ≤ a) = false := decide_eq_false h
  clear h
  go_enter Try.func73, Try.ntmps73
  go_wp2_with fail
  go_ret
  exact ⟨rfl, below_allocR W _⟩
set_option maxRecDepth 100000 in
set_option maxHeartbeats 4000000 in
theorem chk3y (a v : Int) (W : World) (h : a = 0) :
    Calls Try.prog 73 #[.agg #[.int .i64 3, .int .i64 a, .int .u64 v]] W fun e w' => e = .returned (.bool (v == 0)) ∧ Below W.heap.size W w' := by
  subst h
  obtain ⟨B, hB⟩ : ∃ B, (v == 0) = B := ⟨_, rfl⟩
  rw [hB]
  go_enter Try.func73, Try.ntmps73
  go_wp2_with fail
  go_ret
  exact ⟨rfl, below_allocR W _⟩
set_option maxRecDepth 100000 in
set_option maxHeartbeats 4000000 in
theorem chk3n (a v : Int) (W : World) (h : ¬ a = 0) :
    Calls Try.prog 73 #[.agg #[.int .i64 3, .int .i64 a, .int .u64 v]] W fun e w' => e = .returned (.bool false) ∧ Below W.heap.size W w' := by
  have d1 : (a == 0) = false := beq_eq_false_iff_ne.2 h
  clear h
  go_enter Try.func73, Try.ntmps73
  go_wp2_with fail
  go_ret
  exact ⟨rfl, below_allocR W _⟩
set_option maxRecDepth 100000 in
set_option maxHeartbeats 4000000 in
theorem chk0 (k : Int) (a v : Int) (W : World) (h1 : ¬ k = 1) (h2 : ¬ k = 2) (h3 : ¬ k = 3) :
    Calls Try.prog 73 #[.agg #[.int .i64 k, .int .i64 a, .int .u64 v]] W fun e w' => e = .returned (.bool false) ∧ Below W.heap.size W w' := by
  have d1 : (k == 1) = false := beq_eq_false_iff_ne.2 h1
  have d2 : (k == 2) = false := beq_eq_false_iff_ne.2 h2
  have d3 : (k == 3) = false := beq_eq_false_iff_ne.2 h3
  clear h1 h2 h3
  go_enter Try.func73, Try.ntmps73
  go_wp2_with fail
  go_ret
  exact ⟨rfl, below_allocR W _⟩
theorem chk_any (x : Act3) (W : World) : Calls Try.prog 73 #[av3 x] W fun e w' => e = .returned (.bool (rightA x)) ∧ Below W.heap.size W w' := by
  obtain ⟨k, a, V⟩ := x
  have hv : (V = 0#64) ↔ ((V.toNat : Int) = 0) := ⟨fun h => by rw [h]; rfl, fun h => BitVec.eq_of_toNat_eq (by rw [Int.natCast_eq_zero.1 h]; rfl)⟩
  have hvb : decide (V = 0#64) = ((V.toNat : Int) == 0) := by
    by_cases e : V = 0#64
    · rw [decide_eq_true e, beq_iff_eq.2 (hv.1 e)]
    · rw [decide_eq_false e, beq_eq_false_iff_ne.2 (fun h => e (hv.2 h))]
  unfold av3 vw
  by_cases h1 : k = 1
  · subst h1
    have := chk1 a (V.toNat : Int) W
    have e : rightA (1, a, V) = decide (0 ≤ a) := by simp [rightA]
    rw [e]; exact this
  by_cases h2 : k = 2
  · subst h2
    by_cases ha : 0 ≤ a
    · have := chk2y a (V.toNat : Int) W ha
      have e : rightA (2, a, V) = ((V.toNat : Int) == 0) := by rw [← hvb]; simp [rightA, ha]
      rw [e]; exact this
    · have := chk2n a (V.toNat : Int) W ha
      have e : rightA (2, a, V) = false := by simp [rightA, ha]
      rw [e]; exact this
  by_cases h3 : k = 3
  · subst h3
    by_cases ha : a = 0
    · have := chk3y a (V.toNat : Int) W ha
      have e : rightA (3, a, V) = ((V.toNat : Int) == 0) := by rw [← hvb]; simp [rightA, ha]
      rw [e]; exact this
    · have := chk3n a (V.toNat : Int) W ha
      have e : rightA (3, a, V) = false := by simp [rightA, ha]
      rw [e]; exact this
  have := chk0 k a (V.toNat : Int) W h1 h2 h3
  have e : rightA (k, a, V) = false := by simp [rightA, h1, h2, h3]
  rw [e]; exact this
set_option maxRecDepth 100000 in
set_option maxHeartbeats 4000000 in
theorem rightLn (k : Int) (a v : Int) (n : Nat) (hn : n ≤ 20000) (W : World) (hck : ∀ U, Calls Try.prog 73 #[.agg #[.int .i64 k, .int .i64 a, .int .u64 v]] U fun e w' => e = .returned (.bool false) ∧ Below U.heap.size U w') :
    Calls Try.prog 37 #[.agg #[.int .i64 k, .int .i64 a, .int .u64 v], .int .i64 ((8 * n : Nat) : Int)] W fun e w' => e = .returned (.bool false) ∧ Below W.heap.size W w' := by
  have HCK := Lib.hid hck
  clear hck
  obtain ⟨A, hA⟩ : ∃ A, 8 * n = A := ⟨_, rfl⟩
  rw [hA]
  clear hA hn
  have hb0 := below_allocR W (.cells #[.int .i64 k, .int .i64 a, .int .u64 v] 79)
  go_enter Try.func37, Try.ntmps37
  go_wp2_with fail
  refine (HCK.out _).mono ?_
  rintro e w1 ⟨rfl, hb1⟩
  have HB := Lib.hid (hb0.trans (hb1.mono hb0.size))
  have hy := y_new W k a v 79
  have e0 := (hb1.cell (p := ⟨W.heap.size, 0, none⟩) (by simp)).trans hy.c0
  have e1 := (hb1.cell (p := ⟨W.heap.size, 1, none⟩) (by simp)).trans hy.c1
  clear hb0 hb1 hy
  go_wp2_with fail
  go_ret
  exact ⟨rfl, HB.out⟩
set_option maxRecDepth 100000 in
set_option maxHeartbeats 4000000 in
theorem rightL1 (a v : Int) (n : Nat) (hn : n ≤ 20000) (W : World) (hck : ∀ U, Calls Try.prog 73 #[.agg #[.int .i64 1, .int .i64 a, .int .u64 v]] U fun e w' => e = .returned (.bool true) ∧ Below U.heap.size U w') (h : a < ((8 * n : Nat) : Int)) :
    Calls Try.prog 37 #[.agg #[.int .i64 1, .int .i64 a, .int .u64 v], .int .i64 ((8 * n : Nat) : Int)] W fun e w' => e = .returned (.bool true) ∧ Below W.heap.size W w' := by
  have HCK := Lib.hid hck
  clear hck
  obtain ⟨A, hA⟩ : ∃ A, 8 * n = A := ⟨_, rfl⟩
  rw [hA]
  rw [hA] at h
  have d1 : decide (a < (A : Int)) = true := decide_eq_true h
  clear hA hn h
  have hb0 := below_allocR W (.cells #[.int .i64 1, .int .i64 a, .int .u64 v] 79)
  go_enter Try.func37, Try.ntmps37
  go_wp2_with fail
  refine (HCK.out _).mono ?_
  rintro e w1 ⟨rfl, hb1⟩
  have HB := Lib.hid (hb0.trans (hb1.mono hb0.size))
  have hy := y_new W 1 a v 79
  have e0 := (hb1.cell (p := ⟨W.heap.size, 0, none⟩) (by simp)).trans hy.c0
  have e1 := (hb1.cell (p := ⟨W.heap.size, 1, none⟩) (by simp)).trans hy.c1
  clear hb0 hb1 hy
  go_wp2_with fail
  go_ret
  exact ⟨rfl, HB.out⟩
set_option maxRecDepth 100000 in
set_option maxHeartbeats 4000000 in
theorem rightL1n (a v : Int) (n : Nat) (hn : n ≤ 20000) (W : World) (hck : ∀ U, Calls Try.prog 73 #[.agg #[.int .i64 1, .int .i64 a, .int .u64 v]] U fun e w' => e = .returned (.bool true) ∧ Below U.heap.size U w') (h : ¬ a < ((8 * n : Nat) : Int)) :
    Calls Try.prog 37 #[.agg #[.int .i64 1, .int .i64 a, .int .u64 v], .int .i64 ((8 * n : Nat) : Int)] W fun e w' => e = .returned (.bool false) ∧ Below W.heap.size W w' := by
  have HCK := Lib.hid hck
  clear hck
  obtain ⟨A, hA⟩ : ∃ A, 8 * n = A := ⟨_, rfl⟩
  rw [hA]
  rw [hA] at h
  have d1 : decide (a < (A : Int)) = false := decide_eq_false h
  clear hA hn h
  have hb0 := below_allocR W (.cells #[.int .i64 1, .int .i64 a, .int .u64 v] 79)
  go_enter Try.func37, Try.ntmps37
  go_wp2_with fail
  refine (HCK.out _).mono ?_
  rintro e w1 ⟨rfl, hb1⟩
  have HB := Lib.hid (hb0.trans (hb1.mono hb0.size))
  have hy := y_new W 1 a v 79
  have e0 := (hb1.cell (p := ⟨W.heap.size, 0, none⟩) (by simp)).trans hy.c0
  have e1 := (hb1.cell (p := ⟨W.heap.size, 1, none⟩) (by simp)).trans hy.c1
  clear hb0 hb1 hy
  go_wp2_with fail
  go_ret
  exact ⟨rfl, HB.out⟩
set_option maxRecDepth 100000 in
set_option maxHeartbeats 4000000 in
theorem rightL2 (a v : Int) (n : Nat) (hn : n ≤ 20000) (W : World) (hck : ∀ U, Calls Try.prog 73 #[.agg #[.int .i64 2, .int .i64 a, .int .u64 v]] U fun e w' => e = .returned (.bool true) ∧ Below U.heap.size U w') (h : a < (n : Int)) :
    Calls Try.prog 37 #[.agg #[.int .i64 2, .int .i64 a, .int .u64 v], .int .i64 ((8 * n : Nat) : Int)] W fun e w' => e = .returned (.bool true) ∧ Below W.heap.size W w' := by
  have HCK := Lib.hid hck
  clear hck
  obtain ⟨A, hA⟩ : ∃ A, 8 * n = A := ⟨_, rfl⟩
  rw [hA]
  have hq1 : (A : Int).tdiv 8 = (n : Int) := by rw [Int.tdiv_eq_ediv_of_nonneg (by omega)]; omega
  have hq2 : (A : Int) / 8 = (n : Int) := by omega
  have hq3 : IntKind.i64.wrap (n : Int) = (n : Int) := by rw [IntKind.wrap_i64]; omega
  have d1 : decide (a < (n : Int)) = true := decide_eq_true h
  clear hA hn h
  have hb0 := below_allocR W (.cells #[.int .i64 2, .int .i64 a, .int .u64 v] 79)
  go_enter Try.func37, Try.ntmps37
  go_wp2_with fail
  refine (HCK.out _).mono ?_
  rintro e w1 ⟨rfl, hb1⟩
  have HB := Lib.hid (hb0.trans (hb1.mono hb0.size))
  have hy := y_new W 2 a v 79
  have e0 := (hb1.cell (p := ⟨W.heap.size, 0, none⟩) (by simp)).trans hy.c0
  have e1 := (hb1.cell (p := ⟨W.heap.size, 1, none⟩) (by simp)).trans hy.c1
  clear hb0 hb1 hy
  go_wp2_with fail
  go_ret
  exact ⟨rfl, HB.out⟩
set_option maxRecDepth 100000 in
set_option maxHeartbeats 4000000 in
theorem rightL2n (a v : Int) (n : Nat) (hn : n ≤ 20000) (W : World) (hck : ∀ U, Calls Try.prog 73 #[.agg #[.int .i64 2, .int .i64 a, .int .u64 v]] U fun e w' => e = .returned (.bool true) ∧ Below U.heap.size U w') (h : ¬ a < (n : Int)) :
    Calls Try.prog 37 #[.agg #[.int .i64 2, .int .i64 a, .int .u64 v], .int .i64 ((8 * n : Nat) : Int)] W fun e w' => e = .returned (.bool false) ∧ Below W.heap.size W w' := by
  have HCK := Lib.hid hck
  clear hck
  obtain ⟨A, hA⟩ : ∃ A, 8 * n = A := ⟨_, rfl⟩
  rw [hA]
  have hq1 : (A : Int).tdiv 8 = (n : Int) := by rw [Int.tdiv_eq_ediv_of_nonneg (by omega)]; omega
  have hq2 : (A : Int) / 8 = (n : Int) := by omega
  have hq3 : IntKind.i64.wrap (n : Int) = (n : Int) := by rw [IntKind.wrap_i64]; omega
  have d1 : decide (a < (n : Int)) = false := decide_eq_false h
  clear hA hn h
  have hb0 := below_allocR W (.cells #[.int .i64 2, .int .i64 a, .int .u64 v] 79)
  go_enter Try.func37, Try.ntmps37
  go_wp2_with fail
  refine (HCK.out _).mono ?_
  rintro e w1 ⟨rfl, hb1⟩
  have HB := Lib.hid (hb0.trans (hb1.mono hb0.size))
  have hy := y_new W 2 a v 79
  have e0 := (hb1.cell (p := ⟨W.heap.size, 0, none⟩) (by simp)).trans hy.c0
  have e1 := (hb1.cell (p := ⟨W.heap.size, 1, none⟩) (by simp)).trans hy.c1
  clear hb0 hb1 hy
  go_wp2_with fail
  go_ret
  exact ⟨rfl, HB.out⟩
set_option maxRecDepth 100000 in
set_option maxHeartbeats 4000000 in
theorem rightL3 (a v : Int) (n : Nat) (hn : n ≤ 20000) (W : World) (hck : ∀ U, Calls Try.prog 73 #[.agg #[.int .i64 3, .int .i64 a, .int .u64 v]] U fun e w' => e = .returned (.bool true) ∧ Below U.heap.size U w') :
    Calls Try.prog 37 #[.agg #[.int .i64 3, .int .i64 a, .int .u64 v], .int .i64 ((8 * n : Nat) : Int)] W fun e w' => e = .returned (.bool true) ∧ Below W.heap.size W w' := by
  have HCK := Lib.hid hck
  clear hck
  obtain ⟨A, hA⟩ : ∃ A, 8 * n = A := ⟨_, rfl⟩
  rw [hA]
  clear hA hn
  have hb0 := below_allocR W (.cells #[.int .i64 3, .int .i64 a, .int .u64 v] 79)
  go_enter Try.func37, Try.ntmps37
  go_wp2_with fail
  refine (HCK.out _).mono ?_
  rintro e w1 ⟨rfl, hb1⟩
  have HB := Lib.hid (hb0.trans (hb1.mono hb0.size))
  have hy := y_new W 3 a v 79
  have e0 := (hb1.cell (p := ⟨W.heap.size, 0, none⟩) (by simp)).trans hy.c0
  have e1 := (hb1.cell (p := ⟨W.heap.size, 1, none⟩) (by simp)).trans hy.c1
  clear hb0 hb1 hy
  go_wp2_with fail
  go_ret
  exact ⟨rfl, HB.out⟩
theorem rightL_any (x : Act3) (n : Nat) (hn : n ≤ 20000) (W : World) : Calls Try.prog 37 #[av3 x, .int .i64 ((8 * n : Nat) : Int)] W fun e w' => e = .returned (.bool (fineA n x)) ∧ Below W.heap.size W w' := by
  have hck := chk_any x
  obtain ⟨k, a, V⟩ := x
  unfold av3 vw at *
  unfold fineA
  by_cases hr : rightA (k, a, V) = true
  · rw [hr] at hck
    rw [hr, Bool.true_and]
    unfold thereA
    by_cases h1 : k = 1
    · subst h1
      by_cases ha : a < ((8 * n : Nat) : Int)
      · simp only [if_pos, decide_eq_true ha]; exact rightL1 a _ n hn W hck ha
      · simp only [if_pos, decide_eq_false ha]; exact rightL1n a _ n hn W hck ha
    by_cases h2 : k = 2
    · subst h2
      by_cases ha : a < (n : Int)
      · simp only [decide_eq_true ha]; exact rightL2 a _ n hn W hck ha
      · simp only [decide_eq_false ha]; exact rightL2n a _ n hn W hck ha
    by_cases h3 : k = 3
    · subst h3
      exact rightL3 a _ n hn W hck
    simp [rightA, h1, h2, h3] at hr
  · rw [Bool.not_eq_true] at hr
    rw [hr] at hck
    rw [hr, Bool.false_and]
    exact rightLn k a _ n hn W hck
set_option maxRecDepth 100000 in
set_option maxHeartbeats 4000000 in
theorem done1 {O : Nat} {m : Mem} {N : Nat → Prop} (i : Nat) (V : BitVec 64) (W : World) (h : MAt W O m N) (hN : ∀ x, N x → x < W.heap.size) (hi : i < 8 * m.length) :
    Calls Try.prog 40 #[.pointer (some ⟨O, 0, none⟩), .agg #[.int .i64 1, .int .i64 i, vw V]] W fun e w' => e = .returned (.bool true) ∧ MAt w' O (m.store i V) N ∧ Frn N W w' := by
  have HC : Hid (∀ U, Below W.heap.size W U → Calls Try.prog 20 #[.pointer (some ⟨O, 0, none⟩), .int .i64 i, vw V] U fun e w' => e = .returned (.int .i64 0) ∧ MAt w' O (m.store i V) N ∧ Frn N U w') := Lib.hid (fun U hb => store_any i V U (h.below hb) hi)
  have hl := below_allocR W (.cells #[.int .i64 1, .int .i64 i, vw V] 79)
  have HL := Lib.hid hl
  clear h hN hl hi
  go_enter Try.func40, Try.ntmps40
  go_wp2_with fail
  refine (HC.out _ HL.out).mono ?_
  rintro e w1 ⟨rfl, hm, hf⟩
  have H1 := Lib.hid (And.intro hm hf)
  clear hm hf
  go_wp2_with fail
  refine (num08_any _ _).mono ?_
  rintro e w2 ⟨rfl, rfl⟩
  go_wp2_with fail
  go_ret
  exact ⟨rfl, H1.out.1, (Frn.of_below HL.out).trans H1.out.2⟩
set_option maxRecDepth 100000 in
set_option maxHeartbeats 4000000 in
theorem done2 {O : Nat} {m : Mem} {N : Nat → Prop} (i : Nat) (v : Int) (W : World) (h : MAt W O m N) (hN : ∀ x, N x → x < W.heap.size) (hi : i < m.length) :
    Calls Try.prog 40 #[.pointer (some ⟨O, 0, none⟩), .agg #[.int .i64 2, .int .i64 i, .int .u64 v]] W fun e w' => e = .returned (.bool true) ∧ MAt w' O (m.flush i) N ∧ Frn N W w' := by
  have HC : Hid (∀ U, Below W.heap.size W U → Calls Try.prog 21 #[.pointer (some ⟨O, 0, none⟩), .int .i64 i] U fun e w' => e = .returned (.int .i64 0) ∧ MAt w' O (m.flush i) N ∧ Frn N U w') := Lib.hid (fun U hb => flush_any i U (h.below hb) (fun x hx => Nat.lt_of_lt_of_le (hN x hx) hb.size) hi)
  have hl := below_allocR W (.cells #[.int .i64 2, .int .i64 i, .int .u64 v] 79)
  have HL := Lib.hid hl
  clear h hN hl hi
  go_enter Try.func40, Try.ntmps40
  go_wp2_with fail
  refine (HC.out _ HL.out).mono ?_
  rintro e w1 ⟨rfl, hm, hf⟩
  have H1 := Lib.hid (And.intro hm hf)
  clear hm hf
  go_wp2_with fail
  refine (num08_any _ _).mono ?_
  rintro e w2 ⟨rfl, rfl⟩
  go_wp2_with fail
  go_ret
  exact ⟨rfl, H1.out.1, (Frn.of_below HL.out).trans H1.out.2⟩
set_option maxRecDepth 100000 in
set_option maxHeartbeats 4000000 in
theorem done3 {O : Nat} {m : Mem} {N : Nat → Prop} (a v : Int) (W : World) (h : MAt W O m N) (hN : ∀ x, N x → x < W.heap.size) :
    Calls Try.prog 40 #[.pointer (some ⟨O, 0, none⟩), .agg #[.int .i64 3, .int .i64 a, .int .u64 v]] W fun e w' => e = .returned (.bool true) ∧ MAt w' O (m.fence) N ∧ Frn N W w' := by
  have HC : Hid (∀ U, Below W.heap.size W U → Calls Try.prog 22 #[.pointer (some ⟨O, 0, none⟩)] U fun e w' => e = .returned (.int .i64 0) ∧ MAt w' O (m.fence) N ∧ Frn N U w') := Lib.hid (fun U hb => fence_any U (h.below hb) (fun x hx => Nat.lt_of_lt_of_le (hN x hx) hb.size))
  have hl := below_allocR W (.cells #[.int .i64 3, .int .i64 a, .int .u64 v] 79)
  have HL := Lib.hid hl
  clear h hN hl
  go_enter Try.func40, Try.ntmps40
  go_wp2_with fail
  refine (HC.out _ HL.out).mono ?_
  rintro e w1 ⟨rfl, hm, hf⟩
  have H1 := Lib.hid (And.intro hm hf)
  clear hm hf
  go_wp2_with fail
  refine (num08_any _ _).mono ?_
  rintro e w2 ⟨rfl, rfl⟩
  go_wp2_with fail
  go_ret
  exact ⟨rfl, H1.out.1, (Frn.of_below HL.out).trans H1.out.2⟩
theorem done_any {O : Nat} {m : Mem} {N : Nat → Prop} (x : Act3) (W : World) (h : MAt W O m N) (hN : ∀ x, N x → x < W.heap.size) (hx : fineA m.length x = true) :
    Calls Try.prog 40 #[.pointer (some ⟨O, 0, none⟩), av3 x] W fun e w' => e = .returned (.bool true) ∧ MAt w' O (doA m x) N ∧ Frn N W w' := by
  obtain ⟨k, a, V⟩ := x
  have hk3 : k = 1 ∨ k = 2 ∨ k = 3 := by simp only [fineA, rightA, Bool.and_eq_true, Bool.or_eq_true, decide_eq_true_eq] at hx; omega
  unfold av3
  rcases hk3 with rfl | rfl | rfl
  · simp [fineA, rightA, thereA] at hx
    obtain ⟨i, rfl⟩ : ∃ i : Nat, a = i := ⟨a.toNat, by omega⟩
    exact done1 i V W h hN (by omega)
  · simp [fineA, rightA, thereA] at hx
    obtain ⟨i, rfl⟩ : ∃ i : Nat, a = i := ⟨a.toNat, by omega⟩
    exact done2 i _ W h hN (by omega)
  · exact done3 a _ W h hN
end Go.Proofs.Ytaflbfmlajbjcaa
