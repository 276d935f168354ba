/- Arrays of ten words: loads and comparisons as a whole. -/
import Derived.Test.YtenmogokbelahaaExtO
import Derived.ChangeKeysEq
import Derived.BigQuiet
namespace Go.Proofs.Ytenmogokbelahaa
open Go Go.RowKit

theorem word_beqT (a b : BitVec 64) : ((a.toNat : Int) == (b.toNat : Int)) = decide (a = b) := by
  by_cases h : a = b
  · subst h; simp
  · rw [decide_eq_false h]
    exact beq_eq_false_iff_ne.2 (fun e => h (BitVec.eq_of_toNat_eq (by omega)))
theorem eq_twD (d : Nat) (a b : List (BitVec 64)) (ha : a.length = 10) (hb : b.length = 10) (w : World) : (Op.equalIn (d + 1 + 1) 101 (.agg (tw a).toArray) (.agg (tw b).toArray)).run Try.prog w = .ok (decide (a = b)) w := by
  obtain ⟨i, hi⟩ := Option.isSome_iff_exists.1 (show (Try.prog.info? 23).isSome = true by kernel_rfl)
  have hc : Try.prog.cellsOf 23 = 1 := by kernel_rfl
  have hu : Try.prog.underlying 23 = some (.int .u64) := by kernel_rfl
  have hp : ∀ (cs : Array Value) (off : Nat) (v : Value) (w : World), cs[off]? = some v → (part 23 cs off).run Try.prog w = .ok v w := by
    intro cs off v w h
    have hagg : (isAgg 23).run Try.prog w = .ok false w := by
      unfold isAgg
      rw [Sem.run_bind, run_underlying hu w]
      rfl
    simp [part, Sem.run_bind, hagg, h, Result.andThen]
  have hq : ∀ (x y : BitVec 64) (w : World), (Op.equalIn (d + 1) 23 (vw x) (vw y)).run Try.prog w = .ok (decide (x = y)) w := by
    intro x y w
    unfold vw
    rw [run_equalIn_int w d _ _ _ _ _ hu, word_beqT]
  rw [run_equalIn_array (n := 10) (e := 23) w (d + 1) _ _ (by kernel_rfl) hi, hc]
  have step : ∀ (xs ys : Array Value) (k : Nat) (x y : BitVec 64) (is : List Nat), xs[k]? = some (vw x) → ys[k]? = some (vw y) → ∀ r, (Op.eqItems (d + 1) 23 1 xs ys is).run Try.prog w = .ok r w → (Op.eqItems (d + 1) 23 1 xs ys (k :: is)).run Try.prog w = .ok (decide (x = y) && r) w := by
    intro xs ys k x y is h1 h2 r h3
    simp only [Op.eqItems, Sem.run_bind, hp xs (k * 1) _ _ (by rw [Nat.mul_one]; exact h1), hp ys (k * 1) _ _ (by rw [Nat.mul_one]; exact h2), hq, Result.andThen_ok]
    by_cases hxy : x = y
    · simp [hxy, h3]
    · simp [hxy]
  have all : ∀ m k, k + m = 10 → (Op.eqItems (d + 1) 23 1 (tw a).toArray (tw b).toArray (List.range' k m)).run Try.prog w = .ok (decide (a.drop k = b.drop k)) w := by
    intro m
    induction m with
    | zero =>
      intro k hk
      have h1 : a.drop k = b.drop k := by rw [List.drop_eq_nil_of_le (by omega), List.drop_eq_nil_of_le (by omega)]
      rw [decide_eq_true h1]
      simp [Op.eqItems]
    | succ m ih =>
      intro k hk
      have hka : k < a.length := by omega
      have hkb : k < b.length := by omega
      rw [List.range'_succ, step _ _ k a[k] b[k] _ (by simp [tw, hka]) (by simp [tw, hkb]) _ (ih (k + 1) (by omega))]
      have e : a.drop k = b.drop k ↔ a[k] = b[k] ∧ a.drop (k + 1) = b.drop (k + 1) := by
        rw [List.drop_eq_getElem_cons hka, List.drop_eq_getElem_cons hkb]
        exact List.cons_eq_cons
      refine congrArg (fun r => Result.ok r w) ?_
      rw [Bool.eq_iff_iff]
      simp only [Bool.and_eq_true, decide_eq_true_eq]
      exact e.symm
  rw [List.range_eq_range', all 10 0 rfl]
  simp
theorem eq_tw (a b : List (BitVec 64)) (ha : a.length = 10) (hb : b.length = 10) (w : World) : (Op.equalIn 10000 101 (.agg (tw a).toArray) (.agg (tw b).toArray)).run Try.prog w = .ok (decide (a = b)) w := eq_twD 9998 a b ha hb w
theorem run_neq_tw {a b : List (BitVec 64)} {r : Bool} (ha : a.length = 10) (hb : b.length = 10) (h : decide (a ≠ b) = r) (x y : Operand) (w : World) :
    (do eqGuard .neq 101 x y (.agg (tw a).toArray) (.agg (tw b).toArray); binOp .neq 101 (.agg (tw a).toArray) (.agg (tw b).toArray) : Sem Value).run Try.prog w = .ok (.bool r) w := by
  have hg : Try.prog.eqGuardType Try.prog.depth 101 = false := by kernel_rfl
  have he : (Op.equal 101 (.agg (tw a).toArray) (.agg (tw b).toArray)).run Try.prog w = .ok (decide (a = b)) w := eq_tw a b ha hb w
  have h1 : (eqGuard .neq 101 x y (.agg (tw a).toArray) (.agg (tw b).toArray)).run Try.prog w = .ok () w := by
    simp [eqGuard, Sem.run_bind, hg, go_sem]
  have h2 : (binOp .neq 101 (.agg (tw a).toArray) (.agg (tw b).toArray)).run Try.prog w = .ok (.bool r) w := by
    have : binOp .neq 101 (.agg (tw a).toArray) (.agg (tw b).toArray) = (do pure (.bool (!(← Op.equal 101 (.agg (tw a).toArray) (.agg (tw b).toArray)))) : Sem Value) := rfl
    rw [this]
    simp [he, Result.andThen, ← h]
  simp [Sem.run_bind, h1, h2, Result.andThen]
/-- The comparison, behind a guard that says yes. -/
theorem wpList_neq_tw {ops : Array Oper} {rest : List Oper} {o : Oper} {a : Act} {w : World} {Q : Exit → Act → World → Prop} (hw : Region.wanted o (yielded ops a.tmps) = true) (x y : Operand) {ty : TypeId} (ho : o.op = .binOp .neq 101 x y ty) {u v : List (BitVec 64)} {r : Bool}
    (hx : a.eval x = .agg (tw u).toArray) (hy : a.eval y = .agg (tw v).toArray) (hu : u.length = 10) (hv : v.length = 10) (hr : decide (u ≠ v) = r)
    (h : wpList Try.prog ops Q rest (a.put o.dst (.bool r)) w) : wpList Try.prog ops Q (o :: rest) a w :=
  BigFrame.wpList_want hw fun K hK => by
    have hl := run_neq_tw hu hv hr x y w
    unfold Oper.wp execOp
    simp only [Sem.run_bind] at hl
    simp only [ho, hx, hy, Sem.run_bind, hl, Sem.run_pure, Result.andThen_ok]
    exact hK _ _ h
/-- A load as a whole, behind a guard that says yes. -/
theorem wpList_load_midW {P : Program} {ops : Array Oper} {rest : List Oper} {op : Oper} {a : Act} {w : World} {Q : Exit → Act → World → Prop} (hw : Region.wanted op (yielded ops a.tmps) = true) (ty : TypeId) (x : Operand) (ho : op.op = .load ty x)
    (b o : Nat) (hx : a.eval x = .pointer (some ⟨b, o, none⟩)) (cs : List Value) (d : TypeDesc) (hc : w.rangeAt b o cs)
    (hu : P.underlying ty = some d) (hd : d.isRow = true) (hi : (P.info? ty).map (·.size) = some cs.length)
    (h : wpList P ops Q rest (a.put op.dst (.agg cs.toArray)) w) : wpList P ops Q (op :: rest) a w :=
  BigFrame.wpList_want hw fun _ hK => wp_load_mid ty x ho b o hx cs d hc hu hd hi (hK _ _ h)
end Go.Proofs.Ytenmogokbelahaa
