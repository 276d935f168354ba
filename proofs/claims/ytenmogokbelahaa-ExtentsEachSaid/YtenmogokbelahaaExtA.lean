/- The walks of extents: right, ContainsFunc and Equal at extents, the reference's Right. -/
import Derived.Test.YtenmogokbelahaaExtLaw
import Derived.Test.YtenmogokbelahaaLatchA
import Derived.Deep.Cut
namespace Go.Proofs.Ytenmogokbelahaa
open Go Go.RowKit

theorem below_allocX (W : World) (o : Obj) : Below W.heap.size W (W.alloc o) := (Below.refl _ _).alloc (Nat.le_refl _) _
/-- An extent's block: three cells. -/
structure XCells (w : World) (X : Nat) (o : Nat) (f d m : Int) : Prop where
  c0 : w.cell? ⟨X, o, none⟩ = some (.int .i64 f)
  c1 : w.cell? ⟨X, o + 1, none⟩ = some (.int .i64 d)
  c2 : w.cell? ⟨X, o + 2, none⟩ = some (.int .i64 m)
  lt : X < w.heap.size
theorem XCells.new (w : World) (f d m : Int) (t : TypeId) : XCells (w.alloc (.cells #[.int .i64 f, .int .i64 d, .int .i64 m] t)) w.heap.size 0 f d m := by
  refine ⟨?_, ?_, ?_, by simp⟩ <;> (rw [World.cell?, World.alloc_heap_new]; rfl)
theorem XCells.below {w w' : World} {X o : Nat} {f d m : Int} (h : XCells w X o f d m) (hb : Below w.heap.size w w') : XCells w' X o f d m :=
  ⟨(hb.cell (p := ⟨X, o, none⟩) h.lt).trans h.c0, (hb.cell (p := ⟨X, o + 1, none⟩) h.lt).trans h.c1, (hb.cell (p := ⟨X, o + 2, none⟩) h.lt).trans h.c2, Nat.lt_of_lt_of_le h.lt hb.size⟩
theorem RdS.rowsX {B : Nat} {w : World} {p : Option Addr} {cap : Nat} {ys : List Ext3} (h : RdS B w p cap 3 xc ys) (hB : B ≤ w.heap.size) (i : Nat) (hi : i < ys.length) :
    ∃ b off, p = some ⟨b, off, none⟩ ∧ b < B ∧ XCells w b (off + i * 3) ys[i].1 ys[i].2.1 ys[i].2.2 := by
  obtain ⟨h1, h2, h3⟩ := h
  rcases h3 with h3 | ⟨b, off, rfl, hb, hc⟩
  · omega
  · exact ⟨b, off, rfl, hb, hc i hi 0 _ rfl, by rw [Nat.add_assoc]; exact hc i hi 1 _ rfl, by rw [Nat.add_assoc]; exact hc i hi 2 _ rfl, Nat.lt_of_lt_of_le hb hB⟩
def r1X (f m : Int) : Bool := decide (0 ≤ f ∧ f < 128 ∧ 1 ≤ m ∧ m ≤ 128 - f)
def r2X (d m : Int) : Bool := decide (1 ≤ d ∧ d < 2048 ∧ m ≤ 2048 - d)
theorem rightX_eq (f d m : Int) : rightX (f, d, m) = (r1X f m && r2X d m) := rfl
set_option maxRecDepth 100000 in
set_option maxHeartbeats 4000000 in
theorem right1X_any {X : Nat} {d : Int} (f m : Int) (W : World) (h : XCells W X 0 f d m) :
    Calls Try.prog 96 #[.pointer (some ⟨X, 0, none⟩)] W fun e w' => e = .returned (.bool (r1X f m)) ∧ W = w' := by
  have c0 := h.c0
  have c2 := h.c2
  clear h
  rw [Nat.zero_add] at c2
  by_cases a1 : 0 ≤ f
  · have da1 : decide (0 ≤ f) = true := decide_eq_true a1
    by_cases a2 : f < 128
    · have da2 : decide (f < 128) = true := decide_eq_true a2
      have hw : IntKind.i64.wrap (128 - f) = 128 - f := by rw [IntKind.wrap_i64]; omega
      by_cases a3 : 1 ≤ m
      · have da3 : decide (1 ≤ m) = true := decide_eq_true a3
        by_cases a4 : m ≤ 128 - f
        · have da4 : decide (m ≤ 128 - f) = true := decide_eq_true a4
          have e : r1X f m = true := decide_eq_true ⟨a1, a2, a3, a4⟩
          rw [e]
          clear e a1 a2 a3 a4
          go_enter Try.func96, Try.ntmps96
          go_wp2_with fail
          go_ret
          exact ⟨rfl, rfl⟩
        · have da4 : decide (m ≤ 128 - f) = false := decide_eq_false a4
          have e : r1X f m = false := decide_eq_false (fun h => a4 h.2.2.2)
          rw [e]
          clear e a1 a2 a3 a4
          go_enter Try.func96, Try.ntmps96
          go_wp2_with fail
          go_ret
          exact ⟨rfl, rfl⟩
      · have da3 : decide (1 ≤ m) = false := decide_eq_false a3
        have e : r1X f m = false := decide_eq_false (fun h => a3 h.2.2.1)
        rw [e]
        clear e a1 a2 a3
        go_enter Try.func96, Try.ntmps96
        go_wp2_with fail
        go_ret
        exact ⟨rfl, rfl⟩
    · have da2 : decide (f < 128) = false := decide_eq_false a2
      have e : r1X f m = false := decide_eq_false (fun h => a2 h.2.1)
      rw [e]
      clear e a1 a2
      go_enter Try.func96, Try.ntmps96
      go_wp2_with fail
      go_ret
      exact ⟨rfl, rfl⟩
  · have da1 : decide (0 ≤ f) = false := decide_eq_false a1
    have e : r1X f m = false := decide_eq_false (fun h => a1 h.1)
    rw [e]
    clear e a1
    go_enter Try.func96, Try.ntmps96
    go_wp2_with fail
    go_ret
    exact ⟨rfl, rfl⟩
set_option maxRecDepth 100000 in
set_option maxHeartbeats 4000000 in
theorem right2X_any {X : Nat} {f : Int} (d m : Int) (W : World) (h : XCells W X 0 f d m) :
    Calls Try.prog 97 #[.pointer (some ⟨X, 0, none⟩)] W fun e w' => e = .returned (.bool (r2X d m)) ∧ W = w' := by
  have c1 := h.c1
  have c2 := h.c2
  clear h
  rw [Nat.zero_add] at c1 c2
  by_cases b1 : 1 ≤ d
  · have db1 : decide (1 ≤ d) = true := decide_eq_true b1
    by_cases b2 : d < 2048
    · have db2 : decide (d < 2048) = true := decide_eq_true b2
      have hw2 : IntKind.i64.wrap (2048 - d) = 2048 - d := by rw [IntKind.wrap_i64]; omega
      by_cases b3 : m ≤ 2048 - d
      · have db3 : decide (m ≤ 2048 - d) = true := decide_eq_true b3
        have e : r2X d m = true := decide_eq_true ⟨b1, b2, b3⟩
        rw [e]
        clear e b1 b2 b3
        go_enter Try.func97, Try.ntmps97
        go_wp2_with fail
        go_ret
        exact ⟨rfl, rfl⟩
      · have db3 : decide (m ≤ 2048 - d) = false := decide_eq_false b3
        have e : r2X d m = false := decide_eq_false (fun h => b3 h.2.2)
        rw [e]
        clear e b1 b2 b3
        go_enter Try.func97, Try.ntmps97
        go_wp2_with fail
        go_ret
        exact ⟨rfl, rfl⟩
    · have db2 : decide (d < 2048) = false := decide_eq_false b2
      have e : r2X d m = false := decide_eq_false (fun h => b2 h.2.1)
      rw [e]
      clear e b1 b2
      go_enter Try.func97, Try.ntmps97
      go_wp2_with fail
      go_ret
      exact ⟨rfl, rfl⟩
  · have db1 : decide (1 ≤ d) = false := decide_eq_false b1
    have e : r2X d m = false := decide_eq_false (fun h => b1 h.1)
    rw [e]
    clear e b1
    go_enter Try.func97, Try.ntmps97
    go_wp2_with fail
    go_ret
    exact ⟨rfl, rfl⟩
set_option maxRecDepth 100000 in
set_option maxHeartbeats 8000000 in
theorem refRightX_any (f d m : Int) (W : World) :
    Calls Try.prog 80 #[.agg #[.int .i64 f, .int .i64 d, .int .i64 m]] W fun e w' => e = .returned (.bool (rightX (f, d, m))) ∧ Below W.heap.size W w' := by
  by_cases a1 : 0 ≤ f
  · have da1 : decide (0 ≤ f) = true := decide_eq_true a1
    by_cases a2 : f < 128
    · have da2 : decide (f < 128) = true := decide_eq_true a2
      have hw : IntKind.i64.wrap (128 - f) = 128 - f := by rw [IntKind.wrap_i64]; omega
      by_cases a3 : 1 ≤ m
      · have da3 : decide (1 ≤ m) = true := decide_eq_true a3
        by_cases a4 : m ≤ 128 - f
        · have da4 : decide (m ≤ 128 - f) = true := decide_eq_true a4
          by_cases b1 : 1 ≤ d
          · have db1 : decide (1 ≤ d) = true := decide_eq_true b1
            by_cases b2 : d < 2048
            · have db2 : decide (d < 2048) = true := decide_eq_true b2
              have hw2 : IntKind.i64.wrap (2048 - d) = 2048 - d := by rw [IntKind.wrap_i64]; omega
              by_cases b3 : m ≤ 2048 - d
              · have db3 : decide (m ≤ 2048 - d) = true := decide_eq_true b3
                have e : rightX (f, d, m) = true := (right_iff _).2 ⟨a1, a3, by show f + m ≤ 128; omega, b1, by show d + m ≤ 2048; omega⟩
                rw [e]
                clear e a1 a2 a3 a4 b1 b2 b3
                go_enter Try.func80, Try.ntmps80
                go_wp2_with fail
                go_ret
                exact ⟨rfl, below_allocX W _⟩
              · have db3 : decide (m ≤ 2048 - d) = false := decide_eq_false b3
                have e : rightX (f, d, m) = false := Bool.eq_false_iff.2 (fun h => by have h := (right_iff _).1 h; simp only at h; omega)
                rw [e]
                clear e a1 a2 a3 a4 b1 b2 b3
                go_enter Try.func80, Try.ntmps80
                go_wp2_with fail
                go_ret
                exact ⟨rfl, below_allocX W _⟩
            · have db2 : decide (d < 2048) = false := decide_eq_false b2
              have e : rightX (f, d, m) = false := Bool.eq_false_iff.2 (fun h => by have h := (right_iff _).1 h; simp only at h; omega)
              rw [e]
              clear e a1 a2 a3 a4 b1 b2
              go_enter Try.func80, Try.ntmps80
              go_wp2_with fail
              go_ret
              exact ⟨rfl, below_allocX W _⟩
          · have db1 : decide (1 ≤ d) = false := decide_eq_false b1
            have e : rightX (f, d, m) = false := Bool.eq_false_iff.2 (fun h => by have h := (right_iff _).1 h; simp only at h; omega)
            rw [e]
            clear e a1 a2 a3 a4 b1
            go_enter Try.func80, Try.ntmps80
            go_wp2_with fail
            go_ret
            exact ⟨rfl, below_allocX W _⟩
        · have da4 : decide (m ≤ 128 - f) = false := decide_eq_false a4
          have e : rightX (f, d, m) = false := Bool.eq_false_iff.2 (fun h => by have h := (right_iff _).1 h; simp only at h; omega)
          rw [e]
          clear e a1 a2 a3 a4
          go_enter Try.func80, Try.ntmps80
          go_wp2_with fail
          go_ret
          exact ⟨rfl, below_allocX W _⟩
      · have da3 : decide (1 ≤ m) = false := decide_eq_false a3
        have e : rightX (f, d, m) = false := Bool.eq_false_iff.2 (fun h => by have h := (right_iff _).1 h; simp only at h; omega)
        rw [e]
        clear e a1 a2 a3
        go_enter Try.func80, Try.ntmps80
        go_wp2_with fail
        go_ret
        exact ⟨rfl, below_allocX W _⟩
    · have da2 : decide (f < 128) = false := decide_eq_false a2
      have e : rightX (f, d, m) = false := Bool.eq_false_iff.2 (fun h => by have h := (right_iff _).1 h; simp only at h; omega)
      rw [e]
      clear e a1 a2
      go_enter Try.func80, Try.ntmps80
      go_wp2_with fail
      go_ret
      exact ⟨rfl, below_allocX W _⟩
  · have da1 : decide (0 ≤ f) = false := decide_eq_false a1
    have e : rightX (f, d, m) = false := Bool.eq_false_iff.2 (fun h => by have h := (right_iff _).1 h; simp only at h; omega)
    rw [e]
    clear e a1
    go_enter Try.func80, Try.ntmps80
    go_wp2_with fail
    go_ret
    exact ⟨rfl, below_allocX W _⟩
set_option maxRecDepth 100000 in
set_option maxHeartbeats 8000000 in
theorem rightX_any (f d m : Int) (W : World) :
    Calls Try.prog 75 #[.agg #[.int .i64 f, .int .i64 d, .int .i64 m]] W fun e w' => e = .returned (.bool (rightX (f, d, m))) ∧ Below W.heap.size W w' := by
  rw [rightX_eq]
  by_cases h1 : r1X f m = true
  · by_cases h2 : r2X d m = true
    · rw [h1, h2, Bool.true_and]
      obtain ⟨w1, hw1⟩ : ∃ w1, W.alloc (.cells #[.int .i64 f, .int .i64 d, .int .i64 m] 81) = w1 := ⟨_, rfl⟩
      obtain ⟨X, hX⟩ : ∃ X, W.heap.size = X := ⟨_, rfl⟩
      have hxc := XCells.new W f d m 81
      rw [hw1, hX] at hxc
      have hb1 : Below W.heap.size W w1 := by rw [← hw1]; exact below_allocX W _
      have HX := Lib.hid (And.intro hw1 (And.intro hX (And.intro hxc hb1)))
      have HR1 : Hid (∀ V, Below w1.heap.size w1 V → Calls Try.prog 96 #[.pointer (some ⟨X, 0, none⟩)] V fun e w' => e = .returned (.bool true) ∧ V = w') := Lib.hid (fun V hV => by have h9 := right1X_any f m V (hxc.below hV); rwa [h1] at h9)
      have HR2 : Hid (∀ V, Below w1.heap.size w1 V → Calls Try.prog 97 #[.pointer (some ⟨X, 0, none⟩)] V fun e w' => e = .returned (.bool true) ∧ V = w') := Lib.hid (fun V hV => by have h9 := right2X_any d m V (hxc.below hV); rwa [h2] at h9)
      clear hw1 hX hxc hb1 h1 h2
      have HEN1 := enters_of (P := Try.prog) Try.func96 (by kernel_rfl) rfl
      have HEN2 := enters_of (P := Try.prog) Try.func97 (by kernel_rfl) rfl
      go_enter Try.func75, Try.ntmps75
      go_upto_region 1 with fail
      rw [HX.out.1, HX.out.2.1]
      go_wp2_with fail
      refine wp_loop_rounds 3 ?_
      rw [rounds_succ]
      go_wp2_with fail
      refine (HR1.out _ (below_allocX w1 _)).mono ?_
      rintro e w2 ⟨rfl, rfl⟩
      go_wp2_with fail
      rw [rounds_succ]
      go_wp2_with fail
      refine (HR2.out _ (below_allocX w1 _)).mono ?_
      rintro e w3 ⟨rfl, rfl⟩
      go_wp2_with fail
      rw [rounds_succ]
      go_wp2_with fail
      go_ret
      exact ⟨rfl, HX.out.2.2.2.trans ((below_allocX w1 _).mono HX.out.2.2.2.size)⟩
    · rw [Bool.not_eq_true] at h2
      rw [h1, h2, Bool.true_and]
      obtain ⟨w1, hw1⟩ : ∃ w1, W.alloc (.cells #[.int .i64 f, .int .i64 d, .int .i64 m] 81) = w1 := ⟨_, rfl⟩
      obtain ⟨X, hX⟩ : ∃ X, W.heap.size = X := ⟨_, rfl⟩
      have hxc := XCells.new W f d m 81
      rw [hw1, hX] at hxc
      have hb1 : Below W.heap.size W w1 := by rw [← hw1]; exact below_allocX W _
      have HX := Lib.hid (And.intro hw1 (And.intro hX (And.intro hxc hb1)))
      have HR1 : Hid (∀ V, Below w1.heap.size w1 V → Calls Try.prog 96 #[.pointer (some ⟨X, 0, none⟩)] V fun e w' => e = .returned (.bool true) ∧ V = w') := Lib.hid (fun V hV => by have h9 := right1X_any f m V (hxc.below hV); rwa [h1] at h9)
      have HR2 : Hid (∀ V, Below w1.heap.size w1 V → Calls Try.prog 97 #[.pointer (some ⟨X, 0, none⟩)] V fun e w' => e = .returned (.bool false) ∧ V = w') := Lib.hid (fun V hV => by have h9 := right2X_any d m V (hxc.below hV); rwa [h2] at h9)
      clear hw1 hX hxc hb1 h1 h2
      have HEN1 := enters_of (P := Try.prog) Try.func96 (by kernel_rfl) rfl
      have HEN2 := enters_of (P := Try.prog) Try.func97 (by kernel_rfl) rfl
      go_enter Try.func75, Try.ntmps75
      go_upto_region 1 with fail
      rw [HX.out.1, HX.out.2.1]
      go_wp2_with fail
      refine wp_loop_rounds 3 ?_
      rw [rounds_succ]
      go_wp2_with fail
      refine (HR1.out _ (below_allocX w1 _)).mono ?_
      rintro e w2 ⟨rfl, rfl⟩
      go_wp2_with fail
      rw [rounds_succ]
      go_wp2_with fail
      refine (HR2.out _ (below_allocX w1 _)).mono ?_
      rintro e w3 ⟨rfl, rfl⟩
      go_wp2_with fail
      go_ret
      exact ⟨rfl, HX.out.2.2.2.trans ((below_allocX w1 _).mono HX.out.2.2.2.size)⟩
  · rw [Bool.not_eq_true] at h1
    rw [h1, Bool.false_and]
    obtain ⟨w1, hw1⟩ : ∃ w1, W.alloc (.cells #[.int .i64 f, .int .i64 d, .int .i64 m] 81) = w1 := ⟨_, rfl⟩
    obtain ⟨X, hX⟩ : ∃ X, W.heap.size = X := ⟨_, rfl⟩
    have hxc := XCells.new W f d m 81
    rw [hw1, hX] at hxc
    have hb1 : Below W.heap.size W w1 := by rw [← hw1]; exact below_allocX W _
    have HX := Lib.hid (And.intro hw1 (And.intro hX (And.intro hxc hb1)))
    have HR1 : Hid (∀ V, Below w1.heap.size w1 V → Calls Try.prog 96 #[.pointer (some ⟨X, 0, none⟩)] V fun e w' => e = .returned (.bool false) ∧ V = w') := Lib.hid (fun V hV => by have h9 := right1X_any f m V (hxc.below hV); rwa [h1] at h9)
    clear hw1 hX hxc hb1 h1
    have HEN1 := enters_of (P := Try.prog) Try.func96 (by kernel_rfl) rfl
    have HEN2 := enters_of (P := Try.prog) Try.func97 (by kernel_rfl) rfl
    go_enter Try.func75, Try.ntmps75
    go_upto_region 1 with fail
    rw [HX.out.1, HX.out.2.1]
    go_wp2_with fail
    refine wp_loop_rounds 3 ?_
    rw [rounds_succ]
    go_wp2_with fail
    refine (HR1.out _ (below_allocX w1 _)).mono ?_
    rintro e w2 ⟨rfl, rfl⟩
    go_wp2_with fail
    go_ret
    exact ⟨rfl, HX.out.2.2.2.trans ((below_allocX w1 _).mono HX.out.2.2.2.size)⟩
end Go.Proofs.Ytenmogokbelahaa
