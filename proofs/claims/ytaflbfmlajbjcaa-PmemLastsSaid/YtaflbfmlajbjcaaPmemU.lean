/- The walks of the reference's memory: Of, Fence, Open. -/
import Derived.Test.YtaflbfmlajbjcaaPmemT
namespace Go.Proofs.Ytaflbfmlajbjcaa
open Go Go.RowKit Go.BigFrame

theorem eq_v8D (d : Nat) (a b : V8) (w : World) : (Op.equalIn (d + 1 + 1) 70 (lineV a) (lineV b)).run Try.prog w = .ok (decide (a = b)) w := by
  obtain ⟨i, hi⟩ := Option.isSome_iff_exists.1 (show (Try.prog.info? 36).isSome = true by kernel_rfl)
  have hc : Try.prog.cellsOf 36 = 1 := by kernel_rfl
  have hu : Try.prog.underlying 36 = some (.int .u64) := by kernel_rfl
  have hp : ∀ (cs : Array Value) (off : Nat) (v : Value) (w : World), cs[off]? = some v → (part 36 cs off).run Try.prog w = .ok v w := by
    intro cs off v w h
    have hagg : (isAgg 36).run Try.prog w = .ok false w := by
      unfold isAgg
      rw [Sem.run_bind, run_underlying hu w]
      rfl
    simp [part, Sem.run_bind, hagg, h, Result.andThen]
  have hq : ∀ (x y : BitVec 64) (w : World), (Op.equalIn (d + 1) 36 (vw x) (vw y)).run Try.prog w = .ok (decide (x = y)) w := by
    intro x y w
    rw [run_equalIn_int w d _ _ _ _ _ hu, word_beq]
  rw [lineV_lit, lineV_lit, run_equalIn_array (n := 8) (e := 36) w (d + 1) _ _ (by kernel_rfl) hi, hc]
  have hr : List.range 8 = [0, 1, 2, 3, 4, 5, 6, 7] := rfl
  rw [hr]
  have step : ∀ (xs ys : Array Value) (k : Nat) (x y : BitVec 64) (is : List Nat), xs[k]? = some (vw x) → ys[k]? = some (vw y) → ∀ r, (Op.eqItems (d + 1) 36 1 xs ys is).run Try.prog w = .ok r w → (Op.eqItems (d + 1) 36 1 xs ys (k :: is)).run Try.prog w = .ok (decide (x = y) && r) w := by
    intro xs ys k x y is h1 h2 r h3
    simp only [Op.eqItems, Sem.run_bind, hp xs (k * 1) _ _ (by rw [Nat.mul_one]; exact h1), hp ys (k * 1) _ _ (by rw [Nat.mul_one]; exact h2), hq, Result.andThen_ok]
    by_cases hxy : x = y
    · simp [hxy, h3]
    · simp [hxy]
  obtain ⟨XS, hXS⟩ : ∃ XS : Array Value, #[vw a[0], vw a[1], vw a[2], vw a[3], vw a[4], vw a[5], vw a[6], vw a[7]] = XS := ⟨_, rfl⟩
  obtain ⟨YS, hYS⟩ : ∃ YS : Array Value, #[vw b[0], vw b[1], vw b[2], vw b[3], vw b[4], vw b[5], vw b[6], vw b[7]] = YS := ⟨_, rfl⟩
  have x0 : XS[0]? = some (vw a[0]) := by rw [← hXS]; rfl
  have y0 : YS[0]? = some (vw b[0]) := by rw [← hYS]; rfl
  have x1 : XS[1]? = some (vw a[1]) := by rw [← hXS]; rfl
  have y1 : YS[1]? = some (vw b[1]) := by rw [← hYS]; rfl
  have x2 : XS[2]? = some (vw a[2]) := by rw [← hXS]; rfl
  have y2 : YS[2]? = some (vw b[2]) := by rw [← hYS]; rfl
  have x3 : XS[3]? = some (vw a[3]) := by rw [← hXS]; rfl
  have y3 : YS[3]? = some (vw b[3]) := by rw [← hYS]; rfl
  have x4 : XS[4]? = some (vw a[4]) := by rw [← hXS]; rfl
  have y4 : YS[4]? = some (vw b[4]) := by rw [← hYS]; rfl
  have x5 : XS[5]? = some (vw a[5]) := by rw [← hXS]; rfl
  have y5 : YS[5]? = some (vw b[5]) := by rw [← hYS]; rfl
  have x6 : XS[6]? = some (vw a[6]) := by rw [← hXS]; rfl
  have y6 : YS[6]? = some (vw b[6]) := by rw [← hYS]; rfl
  have x7 : XS[7]? = some (vw a[7]) := by rw [← hXS]; rfl
  have y7 : YS[7]? = some (vw b[7]) := by rw [← hYS]; rfl
  rw [hXS, hYS]
  clear hXS hYS hr
  have z : (Op.eqItems (d + 1) 36 1 XS YS []).run Try.prog w = .ok true w := by simp [Op.eqItems]
  have z := step XS YS 7 a[7] b[7] [] x7 y7 _ z
  have z := step XS YS 6 a[6] b[6] [7] x6 y6 _ z
  have z := step XS YS 5 a[5] b[5] [6, 7] x5 y5 _ z
  have z := step XS YS 4 a[4] b[4] [5, 6, 7] x4 y4 _ z
  have z := step XS YS 3 a[3] b[3] [4, 5, 6, 7] x3 y3 _ z
  have z := step XS YS 2 a[2] b[2] [3, 4, 5, 6, 7] x2 y2 _ z
  have z := step XS YS 1 a[1] b[1] [2, 3, 4, 5, 6, 7] x1 y1 _ z
  have z := step XS YS 0 a[0] b[0] [1, 2, 3, 4, 5, 6, 7] x0 y0 _ z
  rw [z]
  refine congrArg (fun r => Result.ok r w) (Bool.eq_iff_iff.2 ?_)
  have hv := vec_eq a b
  simp only [Bool.and_eq_true, decide_eq_true_eq, and_true]
  exact hv.symm
theorem run_neq_v8 {a b : V8} {r : Bool} (h : decide (a ≠ b) = r) (x y : Operand) (w : World) :
    (do eqGuard .neq 70 x y (lineV a) (lineV b); binOp .neq 70 (lineV a) (lineV b) : Sem Value).run Try.prog w = .ok (.bool r) w := by
  have hg : Try.prog.eqGuardType Try.prog.depth 70 = false := by kernel_rfl
  have he : (Op.equal 70 (lineV a) (lineV b)).run Try.prog w = .ok (decide (a = b)) w := eq_v8D 9998 a b w
  have h1 : (eqGuard .neq 70 x y (lineV a) (lineV b)).run Try.prog w = .ok () w := by
    unfold lineV
    simp [eqGuard, Sem.run_bind, hg, go_sem]
  have h2 : (binOp .neq 70 (lineV a) (lineV b)).run Try.prog w = .ok (.bool r) w := by
    have : binOp .neq 70 (lineV a) (lineV b) = (do pure (.bool (!(← Op.equal 70 (lineV a) (lineV b)))) : Sem Value) := by
      unfold lineV
      rfl
    rw [this]
    simp [he, Result.andThen, ← h]
  simp [Sem.run_bind, h1, h2, Result.andThen]
section
variable {ops : Array Oper} {Q : Act → Prop} {a : Act} {o : Oper} {rest : List Oper} {w : World} {K : Act → Prop}
theorem quiet_load_row {ty : TypeId} {n : Nat} (hT : RowT ty n) (x : Operand) (ho : o.op = .load ty x) {g f : Nat} {cs : List Value} (hl : cs.length = n) (hx : a.eval x = .pointer (some ⟨g, f, none⟩)) (hc : w.rangeAt g f cs)
    (h : K (a.put o.dst (.agg cs.toArray))) : o.quiet Try.prog a (fun w' => ∃ n, w' = w.drewN n) K :=
  ⟨.agg cs.toArray, fun w' hw' => by
    obtain ⟨n, rfl⟩ := hw'
    obtain ⟨⟨d, hu, hd⟩, hs⟩ := hT
    have hl := run_loadAt_mid (P := Try.prog) (w.drewN n) g f ty cs d hc hu hd (by rw [hl]; exact hs)
    unfold Oper.quietAt execOp
    simp only [ho, hx, Sem.run_bind, hl, Sem.run_pure, Result.andThen_ok]
    exact ⟨rfl, rfl⟩, h⟩
theorem quiet_neq_v8 (x y : Operand) {ty : TypeId} (ho : o.op = .binOp .neq 70 x y ty) {u v : V8} {r : Bool} (hx : a.eval x = lineV u) (hy : a.eval y = lineV v) (hr : decide (u ≠ v) = r)
    (h : K (a.put o.dst (.bool r))) : o.quiet Try.prog a (fun w' => ∃ n, w' = w.drewN n) K :=
  ⟨.bool r, fun w' hw' => by
    have hl := run_neq_v8 hr x y w'
    unfold Oper.quietAt execOp
    simp only [Sem.run_bind] at hl
    simp only [ho, hx, hy, Sem.run_bind, hl, Sem.run_pure, Result.andThen_ok]
    exact ⟨rfl, rfl⟩, h⟩
end
/-- What the reference's Of has done behind so many words. -/
def lineP (l : List (BitVec 64)) (i k : Nat) : V8 := Vector.ofFn (fun j : Fin 8 => if 8 * k + j < i then l.getD (8 * k + j) 0#64 else 0#64)
def ofP (l : List (BitVec 64)) (i : Nat) : Mem := (List.range (l.length / 8)).map (fun k => ⟨lineP l i k, lineP l i k, none⟩)
theorem ofP_len (l : List (BitVec 64)) (i : Nat) : (ofP l i).length = l.length / 8 := by simp [ofP]
theorem ofP_get (l : List (BitVec 64)) (i k : Nat) (h : k < (ofP l i).length) : (ofP l i)[k] = ⟨lineP l i k, lineP l i k, none⟩ := by simp [ofP]
theorem ofP_zero (l : List (BitVec 64)) : ofP l 0 = List.replicate (l.length / 8) zeroLn := by
  apply List.ext_getElem
  · simp [ofP]
  · intro i h1 h2
    rw [ofP_get, List.getElem_replicate]
    have : lineP l 0 i = zero8 := by
      apply Vector.ext
      intro j hj
      simp [lineP, zero8]
    rw [this]; rfl
theorem ofP_all (l : List (BitVec 64)) (h : l.length % 8 = 0) : ofP l l.length = Mem.of (linesOf l) := by
  apply List.ext_getElem
  · simp [ofP, Mem.of, linesOf]
  · intro i h1 h2
    have hi : i < l.length / 8 := by rw [ofP_len] at h1; exact h1
    have : lineP l l.length i = lineAt l i := by
      apply Vector.ext
      intro j hj
      simp only [lineP, lineAt, Vector.getElem_ofFn]
      rw [if_pos (by omega)]
    simp [ofP, Mem.of, linesOf, this]
theorem lineP_succ (l : List (BitVec 64)) (i : Nat) (hi : i < l.length) (k : Nat) : lineP l (i + 1) k = if i / 8 = k then (lineP l i k).setIfInBounds (i % 8) (l[i]) else lineP l i k := by
  by_cases hk : i / 8 = k
  · rw [if_pos hk]
    apply Vector.ext
    intro j hj
    rw [Vector.getElem_setIfInBounds]
    simp only [lineP, Vector.getElem_ofFn]
    by_cases hj2 : i % 8 = j
    · have e : 8 * k + j = i := by omega
      rw [if_pos hj2, e, if_pos (by omega), List.getD_eq_getElem?_getD, List.getElem?_eq_getElem hi]
      rfl
    · rw [if_neg hj2]
      by_cases h8 : 8 * k + j < i
      · rw [if_pos h8, if_pos (by omega)]
      · rw [if_neg h8, if_neg (by omega)]
  · rw [if_neg hk]
    apply Vector.ext
    intro j hj
    simp only [lineP, Vector.getElem_ofFn]
    by_cases h8 : 8 * k + j < i
    · rw [if_pos h8, if_pos (by omega)]
    · rw [if_neg h8, if_neg (by omega)]
theorem ofP_succ (l : List (BitVec 64)) (i : Nat) (hi : i < l.length) : ofP l (i + 1) = (ofP l i).set (i / 8) ⟨(lineP l i (i / 8)).setIfInBounds (i % 8) l[i], (lineP l i (i / 8)).setIfInBounds (i % 8) l[i], none⟩ := by
  apply List.ext_getElem
  · simp [ofP]
  · intro k h1 h2
    rw [ofP_get, List.getElem_set, ofP_get, lineP_succ l i hi]
    by_cases hk : i / 8 = k
    · subst hk; rw [if_pos rfl, if_pos rfl]
    · rw [if_neg hk, if_neg hk]
theorem lc_lasts (x : Ln) (j : Nat) (hj : j < 8) (v : BitVec 64) : lc { x with lasts := x.lasts.setIfInBounds j v } = (lc x).set (8 + j) (vw v) := by
  unfold lc
  simp only [ec_set]
  rw [List.set_append_right _ _ (by rw [ec_len]; omega), ec_len, Nat.add_sub_cancel_left, List.set_append_left _ _ (by rw [ec_len]; exact hj)]
theorem made_lines (k : Nat) (hk : k ≤ 20000) (w : World) : (Instr.makeSlice 31 (.int .i64 (k : Int)) (.int .i64 (k : Int))).run Try.prog w =
    .ok (.slice (some ⟨w.heap.size, 0, none⟩) k k) (w.alloc (.cells ((List.replicate k zeroLn).flatMap lc).toArray 72)) := by
  obtain ⟨i0, hi0, hz0, hz1, hz2⟩ := info_parts elem_ln.info
  have h := run_makeSlice (P := Try.prog) (w := w) 31 72 i0 (lnV zeroLn) elem_ln.under hi0 hz0 .i64 .i64 (k : Int) (k : Int) (by omega) (by omega) (by rw [hz1]; simp; omega) (by rw [hz2]; simp; omega) (by omega)
  rw [hz1] at h
  have e : madeCells (lnV zeroLn).cells ((k : Int).toNat * 25) = ((List.replicate k zeroLn).flatMap lc).toArray := by
    apply Array.ext
    · simp [madeCells, flat_len lc_len]
    · intro i h1 h2
      have hi : i < k * 25 := by simpa [madeCells] using h1
      have h3 := flat_get lc_len (List.replicate k zeroLn) (i / 25) (by simp; omega) (i % 25) (Nat.mod_lt _ (by decide))
      rw [List.getElem_replicate, show i / 25 * 25 + i % 25 = i by omega] at h3
      have h4 : (((List.replicate k zeroLn).flatMap lc).toArray)[i]'h2 = (lc zeroLn)[i % 25]'(by rw [lc_len]; exact Nat.mod_lt _ (by decide)) := by
        rw [List.getElem_toArray]
        have h5 : i < ((List.replicate k zeroLn).flatMap lc).length := by simpa using h2
        rw [List.getElem?_eq_getElem h5, List.getElem?_eq_getElem (by rw [lc_len]; exact Nat.mod_lt _ (by decide))] at h3
        exact Option.some.inj h3
      rw [h4]
      have h6 : i % 25 < (lc zeroLn).length := by rw [lc_len]; exact Nat.mod_lt _ (by decide)
      simp [madeCells, lnV, Value.cells, lc_len, List.getElem?_eq_getElem h6]
  rw [e] at h
  simpa using h
set_option maxRecDepth 100000 in
set_option maxHeartbeats 4000000 in
theorem of7_any (pl : Option Addr) (capl : Nat) (l : List (BitVec 64)) (w : World) (hrd : RdL w.heap.size w pl capl vw l) (hm : l.length % 8 = 0) (hn : l.length ≤ 1000) :
    Calls Try.prog 14 #[.slice pl l.length capl] w fun e w' => ∃ p' c', e = .returned (.slice p' (Mem.of (linesOf l)).length c') ∧ OwnR w' p' c' (Mem.of (linesOf l)) ∧ (∀ b, inP p' c' b → w.heap.size ≤ b) ∧ Below w.heap.size w w' := by
  obtain ⟨n, hn8⟩ : ∃ n, l.length / 8 = n := ⟨_, rfl⟩
  have hmk := made_lines n (by omega)
  obtain ⟨wa, hwa⟩ : ∃ wa, w.alloc (.cells ((List.replicate n zeroLn).flatMap lc).toArray 72) = wa := ⟨_, rfl⟩
  have hba : Below w.heap.size w wa := by rw [← hwa]; exact (Below.refl _ _).alloc (Nat.le_refl _) _
  have hga : wa.heap[w.heap.size]? = some (.cells ((ofP l 0).flatMap lc).toArray 72 (0, 0)) := by rw [ofP_zero, hn8, ← hwa]; exact World.alloc_heap_new _ _
  have hown : OwnR wa (some ⟨w.heap.size, 0, none⟩) n (ofP l 0) := by
    have := OwnG.block (e := 72) lc_len hga (by rw [ofP_len]; unfold maxLen; omega)
    rwa [ofP_len, hn8] at this
  have hq : (l.length : Int).tdiv 8 = (n : Int) := by rw [Int.tdiv_eq_ediv_of_nonneg (by omega)]; omega
  have hq2 : (l.length : Int) / 8 = (n : Int) := by omega
  have hqw : IntKind.i64.wrap (n : Int) = (n : Int) := by rw [IntKind.wrap_i64]; omega
  have HRD := Lib.hid hrd
  have HM := Lib.hid (And.intro hm hn8)
  have HAL := Lib.hid (show (ofP l l.length) = Mem.of (linesOf l) from ofP_all l hm)
  have HLN := Lib.hid (show (Mem.of (linesOf l)).length = n by rw [of_len, linesOf_len, hn8])
  have HW := Lib.hid (And.intro hown hba)
  have hln : (l.length : Int) ≤ 1000 := by omega
  rw [HLN.out]
  clear hba hga hown hrd hm
  go_enter Try.func14, Try.ntmps14
  go_wp2_with fail
  clear hmk hwa
  go_loopw [4] (fun i wr => ∃ k : Nat, k ≤ l.length ∧ i = .int .i64 k ∧ OwnR wr (some ⟨w.heap.size, 0, none⟩) n (ofP l k) ∧ Below w.heap.size w wr) (fun i _ => l.length - (intOf i).toNat)
  case atStart => exact ⟨0, Nat.zero_le _, rfl, HW.out⟩
  case round =>
    obtain ⟨i, hi, rfl, ho, hb⟩ := hrel
    by_cases hlt : i < l.length
    · have hlt' : (i : Int) < (l.length : Int) := by omega
      have hil : i / 8 < n := by have := HM.out; omega
      obtain ⟨bl, ol, rfl, hbl, hsc⟩ := HRD.out.at i hlt
      obtain ⟨v, hv⟩ : ∃ v, l[i] = v := ⟨_, rfl⟩
      obtain ⟨Wd, hWd⟩ : ∃ Wd, wr.drew = Wd := ⟨_, rfl⟩
      have HWD := Lib.hid hWd
      have hbd : Below w.heap.size w Wd := by rw [← hWd]; exact hb.drew
      have hsrc : Wd.cell? ⟨bl, ol + i, none⟩ = some (vw v) := by rw [← hv]; exact (hbd.cell (p := ⟨bl, ol + i, none⟩) hbl).trans hsc
      have hol : i / 8 < (ofP l i).length := by rw [ofP_len, HM.out.2]; exact hil
      have hnn : 0 < n := by omega
      have ho2 : OwnR Wd (some ⟨w.heap.size, 0, none⟩) n (ofP l i) := by rw [← hWd]; exact OwnG.keep ho fun _ _ => rfl
      obtain ⟨hr, ht⟩ := own_ln ho2 hnn (i / 8) hol
      rw [ofP_get, Nat.zero_add] at hr
      rw [Nat.zero_add] at ht
      obtain ⟨x, hx⟩ : ∃ x, lineP l i (i / 8) = x := ⟨_, rfl⟩
      rw [hx] at hr
      obtain ⟨J, hJ⟩ : ∃ J, i % 8 = J := ⟨_, rfl⟩
      obtain ⟨I, hI⟩ : ∃ I, i / 8 = I := ⟨_, rfl⟩
      rw [hI] at hr ht hol hil
      have hJ8 : J < 8 := by omega
      have n0 : Wd.cell? ⟨w.heap.size, I * 25 + J, none⟩ = some (vw x[J]) := (range_ln.1 hr).1 J (vw x[J]) (by simp [ec, hJ8])
      have f0 : Wd.frozen? ⟨w.heap.size, I * 25 + J, none⟩ = false := (ht J (by omega)).2
      -- the first store
      have ho3 : OwnR (Wd.setCell ⟨w.heap.size, I * 25 + J, none⟩ (vw v)) (some ⟨w.heap.size, 0, none⟩) n ((ofP l i).set I ⟨x.setIfInBounds J v, x, none⟩) := by
        unfold OwnR OwnG
        rw [flat_set lc_len (by decide) (ofP l i) I hol ⟨x.setIfInBounds J v, x, none⟩ J (by omega) (vw v) (by
          rw [ofP_get]
          subst hI
          rw [hx]
          exact lc_now ⟨x, x, none⟩ J hJ8 v), List.length_set]
        have := OwnO.set ho2 (I * 25 + J) (vw v)
        rwa [Nat.zero_add] at this
      obtain ⟨W1, hW1⟩ : ∃ W1, Wd.setCell ⟨w.heap.size, I * 25 + J, none⟩ (vw v) = W1 := ⟨_, rfl⟩
      rw [hW1] at ho3
      have hol3 : I < ((ofP l i).set I ⟨x.setIfInBounds J v, x, none⟩).length := by rw [List.length_set]; exact hol
      obtain ⟨hr3, ht3⟩ := own_ln ho3 hnn I hol3
      rw [List.getElem_set_self, Nat.zero_add] at hr3
      rw [Nat.zero_add] at ht3
      have n1 : W1.cell? ⟨w.heap.size, I * 25 + 8 + J, none⟩ = some (vw x[J]) := (range_ln.1 hr3).2.1 J (vw x[J]) (by simp [ec, hJ8])
      have f1 : W1.frozen? ⟨w.heap.size, I * 25 + 8 + J, none⟩ = false := by
        have := (ht3 (8 + J) (by omega)).2
        rwa [← Nat.add_assoc] at this
      have ho4 : OwnR (W1.setCell ⟨w.heap.size, I * 25 + 8 + J, none⟩ (vw v)) (some ⟨w.heap.size, 0, none⟩) n (ofP l (i + 1)) := by
        rw [ofP_succ l i hlt, hI, hJ, hv]
        rw [hI] at hx
        rw [hx]
        have e : ((ofP l i).set I ⟨x.setIfInBounds J v, x, none⟩).set I ⟨x.setIfInBounds J v, x.setIfInBounds J v, none⟩ = (ofP l i).set I ⟨x.setIfInBounds J v, x.setIfInBounds J v, none⟩ := by simp
        rw [← e]
        unfold OwnR OwnG
        rw [flat_set lc_len (by decide) _ I hol3 ⟨x.setIfInBounds J v, x.setIfInBounds J v, none⟩ (8 + J) (by omega) (vw v) (by
          rw [List.getElem_set_self]
          exact lc_lasts ⟨x.setIfInBounds J v, x, none⟩ J hJ8 v), List.length_set]
        have e2 : 0 + (I * 25 + (8 + J)) = I * 25 + 8 + J := by omega
        have := OwnO.set ho3 (I * 25 + (8 + J)) (vw v)
        rw [e2] at this
        exact this
      have hb4 : Below w.heap.size w (W1.setCell ⟨w.heap.size, I * 25 + 8 + J, none⟩ (vw v)) := by
        rw [← hW1]
        exact (hbd.setCell (p := ⟨w.heap.size, I * 25 + J, none⟩) (Nat.le_refl _) _).setCell (p := ⟨w.heap.size, I * 25 + 8 + J, none⟩) (Nat.le_refl _) _
      have HS1 := Lib.hid (And.intro hW1 (And.intro ho4 hb4))
      have hq1 : (i : Int).tdiv 8 = (I : Int) := by rw [Int.tdiv_eq_ediv_of_nonneg (by omega)]; omega
      have hq3 : (i : Int) / 8 = (I : Int) := by omega
      have hr1 : (i : Int).tmod 8 = (J : Int) := by rw [Int.tmod_eq_emod_of_nonneg (by omega)]; omega
      have hr2 : (i : Int) % 8 = (J : Int) := by omega
      have hw1 : IntKind.i64.wrap (I : Int) = (I : Int) := by rw [IntKind.wrap_i64]; omega
      have hw2 : IntKind.i64.wrap (J : Int) = (J : Int) := by rw [IntKind.wrap_i64]; omega
      have hIn : (I : Int) < (n : Int) := by omega
      have hJn : (J : Int) < 8 := by omega
      obtain ⟨u, hu⟩ : ∃ u, x[J] = u := ⟨_, rfl⟩
      rw [hu] at n0 n1
      have HI := Lib.hid (And.intro hI hJ)
      clear hr ht hol hil hJ8 ho ho2 ho3 hol3 hr3 ht3 ho4 hb4 hx hW1 hb hbd hWd hsc hv hu hI hJ hnn
      go_wp2_with fail
      refine wp_region_noPanic ?_
      refine wp_region_F 21 (fun w' => w'.cell? ⟨bl, ol + i, none⟩ = some (vw v)) (by kernel_rfl) ?_ (fun hHeld => ?_)
      · rw [HWD.out]; exact hsrc
      rw [HWD.out] at hHeld ⊢
      refine' wpAnyF_takeT (i := 0) (v := _) rfl (by kernel_rfl) (by kernel_rfl) (by kernel_rfl) (by rfl) (fun _ _ _ h => h) (Or.inl ⟨by rfl, ?hy⟩) (fun _ => hHeld) _
      case hy => (intro w0 hSw; (try dsimp only at hSw); simp only [List.getElem_toArray, List.getElem_cons_zero]; go_simp; first | done | with_reducible rfl)
      simp only [Act.put, List.getElem_toArray, List.getElem_cons_zero, List.setIfInBounds_toArray, List.set_cons_zero, List.set_cons_succ]
      refine' wpAnyF_takeT (i := 1) (v := _) rfl (by kernel_rfl) (by kernel_rfl) (by kernel_rfl) (by rfl) (fun _ _ _ h => h) (Or.inl ⟨by rfl, ?hy⟩) (fun _ => hHeld) _
      case hy => (intro w0 hSw; (try dsimp only at hSw); simp only [List.getElem_toArray, List.getElem_cons_zero, List.getElem_cons_succ]; go_simp; first | done | with_reducible rfl)
      simp only [Act.put, List.getElem_toArray, List.getElem_cons_zero, List.getElem_cons_succ, List.setIfInBounds_toArray, List.set_cons_zero, List.set_cons_succ]
      refine' wpAnyF_takeT (i := 2) (v := _) rfl (by kernel_rfl) (by kernel_rfl) (by kernel_rfl) (by rfl) (fun _ _ _ h => h) (Or.inl ⟨by rfl, ?hy⟩) (fun _ => hHeld) _
      case hy => (intro w0 hSw; (try dsimp only at hSw); simp only [List.getElem_toArray, List.getElem_cons_zero, List.getElem_cons_succ]; go_simp; first | done | with_reducible rfl)
      simp only [Act.put, List.getElem_toArray, List.getElem_cons_zero, List.getElem_cons_succ, List.setIfInBounds_toArray, List.set_cons_zero, List.set_cons_succ]
      refine' wpAnyF_takeT (i := 3) (v := _) rfl (by kernel_rfl) (by kernel_rfl) (by kernel_rfl) (by rfl) (fun _ _ _ h => h) (Or.inl ⟨by rfl, ?hy⟩) (fun _ => hHeld) _
      case hy => (intro w0 hSw; (try dsimp only at hSw); simp only [List.getElem_toArray, List.getElem_cons_zero, List.getElem_cons_succ]; go_simp; first | done | with_reducible rfl)
      simp only [Act.put, List.getElem_toArray, List.getElem_cons_zero, List.getElem_cons_succ, List.setIfInBounds_toArray, List.set_cons_zero, List.set_cons_succ]
      refine' wpAnyF_takeT (i := 4) (v := _) rfl (by kernel_rfl) (by kernel_rfl) (by kernel_rfl) (by rfl) (fun _ _ _ h => h) (Or.inl ⟨by rfl, ?hy⟩) (fun _ => hHeld) _
      case hy => (intro w0 hSw; (try dsimp only at hSw); simp only [List.getElem_toArray, List.getElem_cons_zero, List.getElem_cons_succ]; go_simp; first | done | with_reducible rfl)
      simp only [Act.put, List.getElem_toArray, List.getElem_cons_zero, List.getElem_cons_succ, List.setIfInBounds_toArray, List.set_cons_zero, List.set_cons_succ]
      refine' wpAnyF_takeT (i := 5) (v := _) rfl (by kernel_rfl) (by kernel_rfl) (by kernel_rfl) (by rfl) (fun _ _ _ h => h) (Or.inl ⟨by rfl, ?hy⟩) (fun _ => hHeld) _
      case hy => (intro w0 hSw; (try dsimp only at hSw); simp only [List.getElem_toArray, List.getElem_cons_zero, List.getElem_cons_succ]; go_simp; first | done | with_reducible rfl)
      simp only [Act.put, List.getElem_toArray, List.getElem_cons_zero, List.getElem_cons_succ, List.setIfInBounds_toArray, List.set_cons_zero, List.set_cons_succ]
      refine' wpAnyF_takeT (i := 6) (v := _) rfl (by kernel_rfl) (by kernel_rfl) (by kernel_rfl) (by rfl) (fun _ _ _ h => h) (Or.inl ⟨by rfl, ?hy⟩) (fun _ => hHeld) _
      case hy => (intro w0 hSw; (try dsimp only at hSw); simp only [List.getElem_toArray, List.getElem_cons_zero, List.getElem_cons_succ]; go_simp; first | done | with_reducible rfl)
      simp only [Act.put, List.getElem_toArray, List.getElem_cons_zero, List.getElem_cons_succ, List.setIfInBounds_toArray, List.set_cons_zero, List.set_cons_succ]
      refine' wpAnyF_takeT (i := 7) (v := _) rfl (by kernel_rfl) (by kernel_rfl) (by kernel_rfl) (by rfl) (fun _ _ _ h => h) (Or.inl ⟨by rfl, ?hy⟩) (fun _ => hHeld) _
      case hy => (intro w0 hSw; (try dsimp only at hSw); simp only [List.getElem_toArray, List.getElem_cons_zero, List.getElem_cons_succ]; go_simp; first | done | with_reducible rfl)
      simp only [Act.put, List.getElem_toArray, List.getElem_cons_zero, List.getElem_cons_succ, List.setIfInBounds_toArray, List.set_cons_zero, List.set_cons_succ]
      refine' wpAnyF_takeT (i := 8) (v := _) rfl (by kernel_rfl) (by kernel_rfl) (by kernel_rfl) (by rfl) (fun _ _ _ h => h) (Or.inl ⟨by rfl, ?hy⟩) (fun _ => hHeld) _
      case hy => (intro w0 hSw; (try dsimp only at hSw); simp only [List.getElem_toArray, List.getElem_cons_zero, List.getElem_cons_succ]; go_simp; first | done | with_reducible rfl)
      simp only [Act.put, List.getElem_toArray, List.getElem_cons_zero, List.getElem_cons_succ, List.setIfInBounds_toArray, List.set_cons_zero, List.set_cons_succ]
      refine' wpAnyF_takeT (i := 9) (v := _) rfl (by kernel_rfl) (by kernel_rfl) (by kernel_rfl) (by rfl) (fun _ _ _ h => h) (Or.inl ⟨by rfl, ?hy⟩) (fun _ => hHeld) _
      case hy => (intro w0 hSw; (try dsimp only at hSw); simp only [List.getElem_toArray, List.getElem_cons_zero, List.getElem_cons_succ]; go_simp; first | done | with_reducible rfl)
      simp only [Act.put, List.getElem_toArray, List.getElem_cons_zero, List.getElem_cons_succ, List.setIfInBounds_toArray, List.set_cons_zero, List.set_cons_succ]
      refine' wpAnyF_takeT (i := 10) (v := _) rfl (by kernel_rfl) (by kernel_rfl) (by kernel_rfl) (by rfl) (fun _ _ _ h => h) (Or.inl ⟨by rfl, ?hy⟩) (fun _ => hHeld) _
      case hy => (intro w0 hSw; (try dsimp only at hSw); simp only [List.getElem_toArray, List.getElem_cons_zero, List.getElem_cons_succ]; go_simp; first | done | with_reducible rfl)
      simp only [Act.put, List.getElem_toArray, List.getElem_cons_zero, List.getElem_cons_succ, List.setIfInBounds_toArray, List.set_cons_zero, List.set_cons_succ]
      refine' wpAnyF_takeT (i := 11) (v := _) rfl (by kernel_rfl) (by kernel_rfl) (by kernel_rfl) (by rfl) (fun _ _ _ h => h) (Or.inl ⟨by rfl, ?hy⟩) (fun _ => hHeld) _
      case hy => (intro w0 hSw; (try dsimp only at hSw); simp only [List.getElem_toArray, List.getElem_cons_zero, List.getElem_cons_succ]; go_simp; first | done | with_reducible rfl)
      simp only [Act.put, List.getElem_toArray, List.getElem_cons_zero, List.getElem_cons_succ, List.setIfInBounds_toArray, List.set_cons_zero, List.set_cons_succ]
      refine' wpAnyF_takeT (i := 12) (v := _) rfl (by kernel_rfl) (by kernel_rfl) (by kernel_rfl) (by rfl) (fun _ _ _ h => h) (Or.inl ⟨by rfl, ?hy⟩) (fun _ => hHeld) _
      case hy => (intro w0 hSw; (try dsimp only at hSw); simp only [List.getElem_toArray, List.getElem_cons_zero, List.getElem_cons_succ]; go_simp; first | done | with_reducible rfl)
      simp only [Act.put, List.getElem_toArray, List.getElem_cons_zero, List.getElem_cons_succ, List.setIfInBounds_toArray, List.set_cons_zero, List.set_cons_succ]
      refine' wpAnyF_take (i := 13) (v := _) rfl (by kernel_rfl) (by kernel_rfl) (by kernel_rfl) (by kernel_rfl) (by rfl) (by kernel_rfl) (fun _ _ _ h => h) (Or.inl ⟨by rfl, ?hy⟩) hHeld _
      case hy => (intro w0 hSw; (try dsimp only at hSw); simp only [List.getElem_toArray, List.getElem_cons_zero, List.getElem_cons_succ]; go_simp; first | done | with_reducible rfl)
      simp only [Act.put, List.getElem_toArray, List.getElem_cons_zero, List.getElem_cons_succ, List.setIfInBounds_toArray, List.set_cons_zero, List.set_cons_succ]
      refine' wpAnyF_takeT (i := 14) (v := _) rfl (by kernel_rfl) (by kernel_rfl) (by kernel_rfl) (by rfl) (fun _ _ _ h => h) (Or.inl ⟨by rfl, ?hy⟩) (fun _ => hHeld) _
      case hy => (intro w0 hSw; (try dsimp only at hSw); simp only [List.getElem_toArray, List.getElem_cons_zero, List.getElem_cons_succ]; go_simp; first | done | with_reducible rfl)
      simp only [Act.put, List.getElem_toArray, List.getElem_cons_zero, List.getElem_cons_succ, List.setIfInBounds_toArray, List.set_cons_zero, List.set_cons_succ]
      refine' wpAnyF_takeT (i := 15) (v := _) rfl (by kernel_rfl) (by kernel_rfl) (by kernel_rfl) (by rfl) (fun _ _ _ h => h) (Or.inl ⟨by rfl, ?hy⟩) (fun _ => hHeld) _
      case hy => (intro w0 hSw; (try dsimp only at hSw); simp only [List.getElem_toArray, List.getElem_cons_zero, List.getElem_cons_succ]; go_simp; first | done | with_reducible rfl)
      simp only [Act.put, List.getElem_toArray, List.getElem_cons_zero, List.getElem_cons_succ, List.setIfInBounds_toArray, List.set_cons_zero, List.set_cons_succ]
      refine' wpAnyF_takeT (i := 16) (v := _) rfl (by kernel_rfl) (by kernel_rfl) (by kernel_rfl) (by rfl) (fun _ _ _ h => h) (Or.inl ⟨by rfl, ?hy⟩) (fun _ => hHeld) _
      case hy => (intro w0 hSw; (try dsimp only at hSw); simp only [List.getElem_toArray, List.getElem_cons_zero, List.getElem_cons_succ]; go_simp; first | done | with_reducible rfl)
      simp only [Act.put, List.getElem_toArray, List.getElem_cons_zero, List.getElem_cons_succ, List.setIfInBounds_toArray, List.set_cons_zero, List.set_cons_succ]
      refine' wpAnyF_take (i := 17) (v := _) rfl (by kernel_rfl) (by kernel_rfl) (by kernel_rfl) (by kernel_rfl) (by rfl) (by kernel_rfl) (fun _ _ _ h => h) (Or.inl ⟨by rfl, ?hy⟩) hHeld _
      case hy => (intro w0 hSw; (try dsimp only at hSw); simp only [List.getElem_toArray, List.getElem_cons_zero, List.getElem_cons_succ]; go_simp; first | done | with_reducible rfl)
      simp only [Act.put, List.getElem_toArray, List.getElem_cons_zero, List.getElem_cons_succ, List.setIfInBounds_toArray, List.set_cons_zero, List.set_cons_succ]
      refine' wpAnyF_takeT (i := 18) (v := _) rfl (by kernel_rfl) (by kernel_rfl) (by kernel_rfl) (by rfl) (fun _ _ _ h => h) (Or.inl ⟨by rfl, ?hy⟩) (fun _ => hHeld) _
      case hy => (intro w0 hSw; (try dsimp only at hSw); simp only [List.getElem_toArray, List.getElem_cons_zero, List.getElem_cons_succ]; go_simp; first | done | with_reducible rfl)
      simp only [Act.put, List.getElem_toArray, List.getElem_cons_zero, List.getElem_cons_succ, List.setIfInBounds_toArray, List.set_cons_zero, List.set_cons_succ]
      refine' wpAnyF_takeT (i := 19) (v := _) rfl (by kernel_rfl) (by kernel_rfl) (by kernel_rfl) (by rfl) (fun _ _ _ h => h) (Or.inl ⟨by rfl, ?hy⟩) (fun _ => hHeld) _
      case hy => (intro w0 hSw; (try dsimp only at hSw); simp only [List.getElem_toArray, List.getElem_cons_zero, List.getElem_cons_succ]; go_simp; first | done | with_reducible rfl)
      simp only [Act.put, List.getElem_toArray, List.getElem_cons_zero, List.getElem_cons_succ, List.setIfInBounds_toArray, List.set_cons_zero, List.set_cons_succ]
      refine' wpAnyF_takeT (i := 20) (v := _) rfl (by kernel_rfl) (by kernel_rfl) (by kernel_rfl) (by rfl) (fun _ _ _ h => h) (Or.inl ⟨by rfl, ?hy⟩) (fun _ => hHeld) _
      case hy => (intro w0 hSw; (try dsimp only at hSw); simp only [List.getElem_toArray, List.getElem_cons_zero, List.getElem_cons_succ]; go_simp; first | done | with_reducible rfl)
      simp only [Act.put, List.getElem_toArray, List.getElem_cons_zero, List.getElem_cons_succ, List.setIfInBounds_toArray, List.set_cons_zero, List.set_cons_succ]
      refine' wpAnyF_takeT (i := 22) (v := _) rfl (by kernel_rfl) (by kernel_rfl) (by kernel_rfl) (by rfl) (fun _ _ _ h => h) (Or.inl ⟨by rfl, ?hy⟩) (fun _ => hHeld) _
      case hy => (intro w0 hSw; (try dsimp only at hSw); simp only [List.getElem_toArray, List.getElem_cons_zero, List.getElem_cons_succ]; go_simp; first | done | with_reducible rfl)
      simp only [Act.put, List.getElem_toArray, List.getElem_cons_zero, List.getElem_cons_succ, List.setIfInBounds_toArray, List.set_cons_zero, List.set_cons_succ]
      refine' wpAnyF_takeT (i := 23) (v := _) rfl (by kernel_rfl) (by kernel_rfl) (by kernel_rfl) (by rfl) (fun _ _ _ h => h) (Or.inl ⟨by rfl, ?hy⟩) (fun _ => hHeld) _
      case hy => (intro w0 hSw; (try dsimp only at hSw); simp only [List.getElem_toArray, List.getElem_cons_zero, List.getElem_cons_succ]; go_simp; first | done | with_reducible rfl)
      simp only [Act.put, List.getElem_toArray, List.getElem_cons_zero, List.getElem_cons_succ, List.setIfInBounds_toArray, List.set_cons_zero, List.set_cons_succ]
      refine wpAnyF_one (i := 21) (by kernel_rfl) rfl (fun K hK => ?_)
      go_simp
      refine hK.out _ _ (fun h => Bool.noConfusion (h.symm.trans (by kernel_rfl : _ = true))) ?_
      clear hK K
      try simp only [Act.put, List.getElem_toArray, List.getElem_cons_zero, List.getElem_cons_succ, List.setIfInBounds_toArray, List.set_cons_zero, List.set_cons_succ]
      rw [HS1.out.1]
      clear hHeld n0 f0
      refine wpAnyF_one (i := 24) (by kernel_rfl) rfl (fun K hK => ?_)
      go_simp
      refine hK.out _ _ (fun h => Bool.noConfusion (h.symm.trans (by kernel_rfl : _ = true))) ?_
      clear hK K
      try simp only [Act.put, List.getElem_toArray, List.getElem_cons_zero, List.getElem_cons_succ, List.setIfInBounds_toArray, List.set_cons_zero, List.set_cons_succ]
      refine wpAnyF_one (i := 25) (by kernel_rfl) rfl (fun K hK => ?_)
      go_simp
      refine hK.out _ _ (fun h => Bool.noConfusion (h.symm.trans (by kernel_rfl : _ = true))) ?_
      clear hK K
      try simp only [Act.put, List.getElem_toArray, List.getElem_cons_zero, List.getElem_cons_succ, List.setIfInBounds_toArray, List.set_cons_zero, List.set_cons_succ]
      refine wpAnyF_done (by kernel_rfl) ?_ _
      refine NoPanic.normal ?_
      go_wp2_with fail
      go_roundw
      case rel => exact ⟨i + 1, hlt, by go_num, HS1.out.2⟩
      case measure => simp [intOf]; omega
    · obtain rfl : i = l.length := by omega
      have hnl : ¬ (l.length : Int) < (l.length : Int) := by omega
      rw [HAL.out] at ho
      have HO := Lib.hid (And.intro ho hb)
      clear ho hb
      go_wp2_with fail
      go_ret
      exact ⟨_, _, rfl, HO.out.1, by rintro b ⟨a, ha, rfl, -⟩; cases ha; exact Nat.le_refl _, HO.out.2⟩
end Go.Proofs.Ytaflbfmlajbjcaa
