/- The walks of the memory: open. -/
import Derived.Test.YtaflbfmlajbjcaaPmemE
import Derived.ChangeKeysEq
namespace Go.Proofs.Ytaflbfmlajbjcaa
open Go Go.RowKit

theorem vec_eq (a b : V8) : a = b ↔ a[0] = b[0] ∧ a[1] = b[1] ∧ a[2] = b[2] ∧ a[3] = b[3] ∧ a[4] = b[4] ∧ a[5] = b[5] ∧ a[6] = b[6] ∧ a[7] = b[7] := by
  constructor
  · rintro rfl; simp
  · rintro ⟨h0, h1, h2, h3, h4, h5, h6, h7⟩
    apply Vector.ext
    intro i hi
    have : i = 0 ∨ i = 1 ∨ i = 2 ∨ i = 3 ∨ i = 4 ∨ i = 5 ∨ i = 6 ∨ i = 7 := by omega
    rcases this with rfl | rfl | rfl | rfl | rfl | rfl | rfl | rfl <;> assumption
theorem word_beq (a b : BitVec 64) : ((a.toNat : Int) == (b.toNat : Int)) = decide (a = b) := by
  by_cases h : a = b
  · subst h; simp
  · rw [decide_eq_false h]
    exact beq_eq_false_iff_ne.2 (fun e => h (BitVec.eq_of_toNat_eq (by omega)))
theorem eq_lineD (d : Nat) (a b : V8) (w : World) : (Op.equalIn (d + 1 + 1) 96 (lineV a) (lineV b)).run Try.prog w = .ok (decide (a = b)) w := by
  obtain ⟨i, hi⟩ := Option.isSome_iff_exists.1 (show (Try.prog.info? 36).isSome = true by kernel_rfl)
  have hc : Try.prog.cellsOf 36 = 1 := by kernel_rfl
  have hu : Try.prog.underlying 36 = some (.int .u64) := by kernel_rfl
  have hp : ∀ (cs : Array Value) (off : Nat) (v : Value) (w : World), cs[off]? = some v → (part 36 cs off).run Try.prog w = .ok v w := by
    intro cs off v w h
    have hagg : (isAgg 36).run Try.prog w = .ok false w := by
      unfold isAgg
      rw [Sem.run_bind, run_underlying hu w]
      rfl
    simp [part, Sem.run_bind, hagg, h, Result.andThen]
  have hq : ∀ (x y : BitVec 64) (w : World), (Op.equalIn (d + 1) 36 (vw x) (vw y)).run Try.prog w = .ok (decide (x = y)) w := by
    intro x y w
    rw [run_equalIn_int w d _ _ _ _ _ hu, word_beq]
  rw [lineV_lit, lineV_lit, run_equalIn_array (n := 8) (e := 36) w (d + 1) _ _ (by kernel_rfl) hi, hc]
  have hr : List.range 8 = [0, 1, 2, 3, 4, 5, 6, 7] := rfl
  rw [hr]
  have step : ∀ (xs ys : Array Value) (k : Nat) (x y : BitVec 64) (is : List Nat), xs[k]? = some (vw x) → ys[k]? = some (vw y) → ∀ r, (Op.eqItems (d + 1) 36 1 xs ys is).run Try.prog w = .ok r w → (Op.eqItems (d + 1) 36 1 xs ys (k :: is)).run Try.prog w = .ok (decide (x = y) && r) w := by
    intro xs ys k x y is h1 h2 r h3
    simp only [Op.eqItems, Sem.run_bind, hp xs (k * 1) _ _ (by rw [Nat.mul_one]; exact h1), hp ys (k * 1) _ _ (by rw [Nat.mul_one]; exact h2), hq, Result.andThen_ok]
    by_cases hxy : x = y
    · simp [hxy, h3]
    · simp [hxy]
  obtain ⟨XS, hXS⟩ : ∃ XS : Array Value, #[vw a[0], vw a[1], vw a[2], vw a[3], vw a[4], vw a[5], vw a[6], vw a[7]] = XS := ⟨_, rfl⟩
  obtain ⟨YS, hYS⟩ : ∃ YS : Array Value, #[vw b[0], vw b[1], vw b[2], vw b[3], vw b[4], vw b[5], vw b[6], vw b[7]] = YS := ⟨_, rfl⟩
  have x0 : XS[0]? = some (vw a[0]) := by rw [← hXS]; rfl
  have y0 : YS[0]? = some (vw b[0]) := by rw [← hYS]; rfl
  have x1 : XS[1]? = some (vw a[1]) := by rw [← hXS]; rfl
  have y1 : YS[1]? = some (vw b[1]) := by rw [← hYS]; rfl
  have x2 : XS[2]? = some (vw a[2]) := by rw [← hXS]; rfl
  have y2 : YS[2]? = some (vw b[2]) := by rw [← hYS]; rfl
  have x3 : XS[3]? = some (vw a[3]) := by rw [← hXS]; rfl
  have y3 : YS[3]? = some (vw b[3]) := by rw [← hYS]; rfl
  have x4 : XS[4]? = some (vw a[4]) := by rw [← hXS]; rfl
  have y4 : YS[4]? = some (vw b[4]) := by rw [← hYS]; rfl
  have x5 : XS[5]? = some (vw a[5]) := by rw [← hXS]; rfl
  have y5 : YS[5]? = some (vw b[5]) := by rw [← hYS]; rfl
  have x6 : XS[6]? = some (vw a[6]) := by rw [← hXS]; rfl
  have y6 : YS[6]? = some (vw b[6]) := by rw [← hYS]; rfl
  have x7 : XS[7]? = some (vw a[7]) := by rw [← hXS]; rfl
  have y7 : YS[7]? = some (vw b[7]) := by rw [← hYS]; rfl
  rw [hXS, hYS]
  clear hXS hYS hr
  have z : (Op.eqItems (d + 1) 36 1 XS YS []).run Try.prog w = .ok true w := by simp [Op.eqItems]
  have z := step XS YS 7 a[7] b[7] [] x7 y7 _ z
  have z := step XS YS 6 a[6] b[6] [7] x6 y6 _ z
  have z := step XS YS 5 a[5] b[5] [6, 7] x5 y5 _ z
  have z := step XS YS 4 a[4] b[4] [5, 6, 7] x4 y4 _ z
  have z := step XS YS 3 a[3] b[3] [4, 5, 6, 7] x3 y3 _ z
  have z := step XS YS 2 a[2] b[2] [3, 4, 5, 6, 7] x2 y2 _ z
  have z := step XS YS 1 a[1] b[1] [2, 3, 4, 5, 6, 7] x1 y1 _ z
  have z := step XS YS 0 a[0] b[0] [1, 2, 3, 4, 5, 6, 7] x0 y0 _ z
  rw [z]
  refine congrArg (fun r => Result.ok r w) (Bool.eq_iff_iff.2 ?_)
  have hv := vec_eq a b
  simp only [Bool.and_eq_true, decide_eq_true_eq, and_true]
  exact hv.symm
theorem eq_line (a b : V8) (w : World) : (Op.equalIn 10000 96 (lineV a) (lineV b)).run Try.prog w = .ok (decide (a = b)) w := eq_lineD 9998 a b w
theorem zero_line (w : World) : (zeroValue 96).run Try.prog w = .ok (lineV zero8) w := by
  obtain ⟨i, hi⟩ := Option.isSome_iff_exists.1 (show (Try.prog.info? 96).isSome = true by kernel_rfl)
  have h0 : (Try.prog.info? 96).map (·.zero) = some (some (lineV zero8)) := by kernel_rfl
  have hz : i.zero = some (lineV zero8) := by rw [hi] at h0; simpa using h0
  simp [zeroValue, typeInfo, hi, hz]
end Go.Proofs.Ytaflbfmlajbjcaa
