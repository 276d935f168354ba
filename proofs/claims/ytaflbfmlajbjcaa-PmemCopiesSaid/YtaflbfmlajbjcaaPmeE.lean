/- Lines of the reference, compared. -/
import Derived.Test.YtaflbfmlajbjcaaPmeD
import Derived.Laws.StructEq
namespace Go.Proofs.Ytaflbfmlajbjcaa
open Go Go.RowKit Go.BigFrame

def eqLn (x y : Ln) : Bool := decide (x.now = y.now) && (decide (x.lasts = y.lasts) && (decide (x.q.getD zero8 = y.q.getD zero8) && (x.q.isSome == y.q.isSome)))
theorem eqLn_iff (x y : Ln) : eqLn x y = true ↔ x = y := by
  unfold eqLn
  simp only [Bool.and_eq_true, decide_eq_true_eq, beq_iff_eq]
  constructor
  · rintro ⟨h1, h2, h3, h4⟩
    cases x with
    | mk a b q =>
      cases y with
      | mk a' b' q' =>
        simp only at h1 h2 h3 h4
        subst h1
        subst h2
        cases q <;> cases q' <;> simp_all
  · rintro rfl
    exact ⟨rfl, rfl, rfl, rfl⟩
theorem part_row {w : World} (cs : Array Value) (off : Nat) : (part 70 cs off).run Try.prog w = .ok (.agg (cs.extract off (off + 8))) w := by
  have hu : Try.prog.underlying 70 = some (.array 8 36) := by kernel_rfl
  obtain ⟨i, hi⟩ := Option.isSome_iff_exists.1 (show (Try.prog.info? 70).isSome = true by kernel_rfl)
  have hs : i.size = 8 := by
    have h : (Try.prog.info? 70).map (·.size) = some 8 := by kernel_rfl
    rw [hi] at h
    simpa using h
  have hagg : (isAgg 70).run Try.prog w = .ok true w := by
    unfold isAgg
    rw [Sem.run_bind, run_underlying hu w]
    rfl
  simp [part, Sem.run_bind, hagg, sizeOf, typeInfo, hi, hs, Result.andThen]
theorem ext_lc (x : Ln) : (lc x).toArray.extract 0 (0 + 8) = (ec x.now).toArray ∧ (lc x).toArray.extract 8 (8 + 8) = (ec x.lasts).toArray ∧ (lc x).toArray.extract 16 (16 + 8) = (ec (x.q.getD zero8)).toArray ∧ (lc x).toArray[24]? = some (.bool x.q.isSome) := by
  unfold lc
  simp only [ec_lit]
  refine ⟨rfl, rfl, rfl, rfl⟩
set_option maxRecDepth 100000 in
theorem eq_lnD (d : Nat) (x y : Ln) (w : World) : (Op.equalIn (d + 1 + 1 + 1) 72 (lnV x) (lnV y)).run Try.prog w = .ok (eqLn x y) w := by
  unfold lnV
  rw [run_equalIn_struct w (d + 1 + 1) 72 _ _ (by kernel_rfl) (by kernel_rfl)]
  have hf : (Try.prog.fieldsOf 72).toList.map (fun f => (f.name != "_", f.type, f.offset)) = [(true, 70, 0), (true, 70, 8), (true, 70, 16), (true, 4, 24)] := by kernel_rfl
  obtain ⟨fs, hfs⟩ : ∃ fs, (Try.prog.fieldsOf 72).toList = fs := ⟨_, rfl⟩
  rw [hfs] at hf ⊢
  match fs, hf with
  | [f0, f1, f2, f3], hf =>
    simp only [List.map_cons, List.map_nil, List.cons.injEq, Prod.mk.injEq, and_true, bne_iff_ne] at hf
    obtain ⟨⟨n0, t0, o0⟩, ⟨n1, t1, o1⟩, ⟨n2, t2, o2⟩, ⟨n3, t3, o3⟩⟩ := hf
    obtain ⟨a0, a1, a2, a3⟩ := ext_lc x
    obtain ⟨b0, b1, b2, b3⟩ := ext_lc y
    have hq : ∀ (u v : V8) (w : World), (Op.equalIn (d + 1 + 1) 70 (.agg (ec u).toArray) (.agg (ec v).toArray)).run Try.prog w = .ok (decide (u = v)) w := fun u v w => eq_v8D d u v w
    have hb : (isAgg 4).run Try.prog w = .ok false w := by
      have hu : Try.prog.underlying 4 = some .bool := by kernel_rfl
      unfold isAgg
      rw [Sem.run_bind, run_underlying hu w]
      rfl
    have hp : ∀ (cs : Array Value) (v : Value), cs[24]? = some v → (part 4 cs 24).run Try.prog w = .ok v w := fun cs v h => by
      simp [part, Sem.run_bind, hb, h, Result.andThen]
    have he : ∀ (p q : Bool), (Op.equalIn (d + 1 + 1) 4 (.bool p) (.bool q)).run Try.prog w = .ok (p == q) w := fun p q => by
      have hu : Try.prog.underlying 4 = some .bool := by kernel_rfl
      simp [Op.equalIn, Sem.run_bind, run_underlying hu, Result.andThen]
    unfold eqLn
    simp only [Op.eqFields, n0, n1, n2, n3, ne_eq, not_false_eq_true, if_true, t0, o0, t1, o1, t2, o2, t3, o3, Sem.run_bind, part_row, Result.andThen_ok, a0, b0, a1, b1, a2, b2, hq, hp _ _ a3, hp _ _ b3, he]
    by_cases h0 : x.now = y.now
    · by_cases h1 : x.lasts = y.lasts
      · by_cases h2 : x.q.getD zero8 = y.q.getD zero8
        · cases h3 : (x.q.isSome == y.q.isSome) <;> simp [h0, h1, h2, h3, part_row, a1, b1, a2, b2, hq, hp _ _ a3, hp _ _ b3, he, Result.andThen_ok]
        · simp [h0, h1, h2, part_row, a1, b1, a2, b2, hq, hp _ _ a3, hp _ _ b3, he, Result.andThen_ok]
      · simp [h0, h1, part_row, a1, b1, a2, b2, hq, hp _ _ a3, hp _ _ b3, he, Result.andThen_ok]
    · simp [h0, Sem.run_pure]
theorem run_eql_ln {a b : Ln} {r : Bool} (h : eqLn a b = r) (x y : Operand) (w : World) :
    (do eqGuard .eql 72 x y (lnV a) (lnV b); binOp .eql 72 (lnV a) (lnV b) : Sem Value).run Try.prog w = .ok (.bool r) w := by
  have hg : Try.prog.eqGuardType Try.prog.depth 72 = false := by kernel_rfl
  have he : (Op.equal 72 (lnV a) (lnV b)).run Try.prog w = .ok (eqLn a b) w := eq_lnD 9997 a b w
  have h1 : (eqGuard .eql 72 x y (lnV a) (lnV b)).run Try.prog w = .ok () w := by
    unfold lnV
    simp [eqGuard, Sem.run_bind, hg, go_sem]
  have h2 : (binOp .eql 72 (lnV a) (lnV b)).run Try.prog w = .ok (.bool r) w := by
    have : binOp .eql 72 (lnV a) (lnV b) = (do pure (.bool (← Op.equal 72 (lnV a) (lnV b))) : Sem Value) := by
      unfold lnV
      rfl
    rw [this]
    simp [he, Result.andThen, ← h]
  simp [Sem.run_bind, h1, h2, Result.andThen]
theorem yields_eql_ln {ops : Array Oper} {o : Oper} {a : Act} (hw : Region.wanted o (yielded ops a.tmps) = true) (x y : Operand) {ty : TypeId} (ho : o.op = .binOp .eql 72 x y ty) {u v : Ln} {r : Bool} (hx : a.eval x = lnV u) (hy : a.eval y = lnV v) (hr : eqLn u v = r) :
    YieldsIf Try.prog ops (fun _ => True) o (.bool r) a :=
  .inl ⟨hw, fun w _ => by
    have hl := run_eql_ln hr x y w
    unfold execOp
    simp only [Sem.run_bind] at hl
    simp only [ho, hx, hy, Sem.run_bind, hl, Sem.run_pure, Result.andThen_ok]⟩
/-- Which stores and flushes turn nothing. -/
theorem store_same (m : Mem) (i : Nat) (v : BitVec 64) (h : i / 8 < m.length) : m.store i v = m ↔ m[i / 8].now[i % 8]'(Nat.mod_lt _ (by decide)) = v := by
  rw [store_set m i v h]
  constructor
  · intro e
    have h1 : (m.set (i / 8) { m[i / 8] with now := m[i / 8].now.setIfInBounds (i % 8) v })[i / 8]'(by simpa using h) = m[i / 8] := by simp only [e]
    rw [List.getElem_set_self] at h1
    have h2 : (m[i / 8].now.setIfInBounds (i % 8) v)[i % 8]'(Nat.mod_lt _ (by decide)) = m[i / 8].now[i % 8]'(Nat.mod_lt _ (by decide)) := by
      have := congrArg Ln.now h1
      simp only at this
      simp only [this]
    rw [Vector.getElem_setIfInBounds] at h2
    rw [if_pos rfl] at h2
    exact h2.symm
  · intro e
    have h1 : m[i / 8].now.setIfInBounds (i % 8) v = m[i / 8].now := by
      apply Vector.ext
      intro j hj
      rw [Vector.getElem_setIfInBounds]
      by_cases hij : i % 8 = j
      · subst hij; rw [if_pos rfl, e]
      · rw [if_neg hij]
    rw [h1]
    exact List.set_getElem_self h
theorem flush_same (m : Mem) (i : Nat) (h : i < m.length) : m.flush i = m ↔ (m.flush i)[i]'(by rw [flush_len]; exact h) = m[i] := by
  constructor
  · intro e
    simp only [e]
  · intro e
    have hs := flush_set m i h
    have h1 : (m.flush i)[i]'(by rw [flush_len]; exact h) = { m[i] with q := some m[i].now } := by simp only [hs, List.getElem_set_self]
    rw [h1] at e
    rw [hs, e]
    exact List.set_getElem_self h
end Go.Proofs.Ytaflbfmlajbjcaa
