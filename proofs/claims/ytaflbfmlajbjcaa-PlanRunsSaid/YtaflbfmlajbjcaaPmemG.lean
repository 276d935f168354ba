/- The walks of the memory: open. -/
import Derived.Test.YtaflbfmlajbjcaaPmemF
import Derived.BigQuiet
namespace Go.Proofs.Ytaflbfmlajbjcaa
open Go Go.RowKit Go.BigFrame

theorem run_neq_line {a b : V8} {r : Bool} (h : decide (a ≠ b) = r) (x y : Operand) (w : World) :
    (do eqGuard .neq 96 x y (lineV a) (lineV b); binOp .neq 96 (lineV a) (lineV b) : Sem Value).run Try.prog w = .ok (.bool r) w := by
  have hg : Try.prog.eqGuardType Try.prog.depth 96 = false := by kernel_rfl
  have he : (Op.equal 96 (lineV a) (lineV b)).run Try.prog w = .ok (decide (a = b)) w := eq_line a b w
  have h1 : (eqGuard .neq 96 x y (lineV a) (lineV b)).run Try.prog w = .ok () w := by
    unfold lineV
    simp [eqGuard, Sem.run_bind, hg, go_sem]
  have h2 : (binOp .neq 96 (lineV a) (lineV b)).run Try.prog w = .ok (.bool r) w := by
    have : binOp .neq 96 (lineV a) (lineV b) = (do pure (.bool (!(← Op.equal 96 (lineV a) (lineV b)))) : Sem Value) := by
      unfold lineV
      rfl
    rw [this]
    simp [he, Result.andThen, ← h]
  simp [Sem.run_bind, h1, h2, Result.andThen]
section
variable {ops : Array Oper} {Q : Act → Prop} {a : Act} {o : Oper} {rest : List Oper} {w : World} {K : Act → Prop}
theorem quiet_load_line (x : Operand) (ho : o.op = .load 96 x) {g f : Nat} {v : V8} (hx : a.eval x = .pointer (some ⟨g, f, none⟩)) (hc : w.rangeAt g f (ec v))
    (h : K (a.put o.dst (lineV v))) : o.quiet Try.prog a (fun w' => ∃ n, w' = w.drewN n) K :=
  ⟨lineV v, fun w' hw' => by
    obtain ⟨n, rfl⟩ := hw'
    have hl := load_line (w := w.drewN n) (g := g) (o := f) (v := v) hc
    unfold Oper.quietAt execOp
    simp only [ho, hx, Sem.run_bind, hl, Sem.run_pure, Result.andThen_ok]
    exact ⟨rfl, rfl⟩, h⟩
theorem quiet_neq_line (x y : Operand) {ty : TypeId} (ho : o.op = .binOp .neq 96 x y ty) {u v : V8} {r : Bool} (hx : a.eval x = lineV u) (hy : a.eval y = lineV v) (hr : decide (u ≠ v) = r)
    (h : K (a.put o.dst (.bool r))) : o.quiet Try.prog a (fun w' => ∃ n, w' = w.drewN n) K :=
  ⟨.bool r, fun w' hw' => by
    have hl := run_neq_line hr x y w'
    unfold Oper.quietAt execOp
    simp only [Sem.run_bind] at hl
    simp only [ho, hx, hy, Sem.run_bind, hl, Sem.run_pure, Result.andThen_ok]
    exact ⟨rfl, rfl⟩, h⟩
end
/-- A line is laid into a new variable. -/
theorem new_line (W : World) (z : V8) : ∃ WA WB, W.alloc (.cells #[Value.int .u64 0, Value.int .u64 0, Value.int .u64 0, Value.int .u64 0, Value.int .u64 0, Value.int .u64 0, Value.int .u64 0, Value.int .u64 0] 96) = WA ∧
    (storeCells ⟨W.heap.size, 0, none⟩ (ec z)).run Try.prog WA = .ok () WB ∧ Below W.heap.size W WB ∧ WB.rangeAt W.heap.size 0 (ec z) ∧ WB.heap.size = W.heap.size + 1 ∧ WB.there W.heap.size 0 8 := by
  obtain ⟨WA, hWA⟩ : ∃ WA, W.alloc (.cells #[Value.int .u64 0, Value.int .u64 0, Value.int .u64 0, Value.int .u64 0, Value.int .u64 0, Value.int .u64 0, Value.int .u64 0, Value.int .u64 0] 96) = WA := ⟨_, rfl⟩
  have hbA : Below W.heap.size W WA := by rw [← hWA]; exact (Below.refl _ _).alloc (Nat.le_refl _) _
  have hxA : WA.heap[W.heap.size]? = some (.cells #[Value.int .u64 0, Value.int .u64 0, Value.int .u64 0, Value.int .u64 0, Value.int .u64 0, Value.int .u64 0, Value.int .u64 0, Value.int .u64 0] 96 (0, 0)) := by rw [← hWA]; exact World.alloc_heap_new _ _
  have hth : WA.there W.heap.size 0 8 := fun j hj => by
    have : j = 0 ∨ j = 1 ∨ j = 2 ∨ j = 3 ∨ j = 4 ∨ j = 5 ∨ j = 6 ∨ j = 7 := by omega
    rcases this with rfl | rfl | rfl | rfl | rfl | rfl | rfl | rfl <;> exact ⟨by simp [World.cell?, hxA], by simp [World.frozen?, hxA]⟩
  refine ⟨WA, WA.setCells W.heap.size 0 (ec z), hWA, ?_, ?_, World.rangeAt_setCells_same _ _ _ _ (by rw [ec_len]; exact hth), ?_, World.there_setCells hth _ _ _⟩
  · exact run_storeCells_cells W.heap.size 0 (ec z) 0 WA (fun j hj => by simpa using (hth j (by rw [ec_len] at hj; exact hj)).1) (fun j hj => by simpa using (hth j (by rw [ec_len] at hj; exact hj)).2) (ec_one z)
  · have hfB : Frn (fun y => y = W.heap.size) WA (WA.setCells W.heap.size 0 (ec z)) := setCells_frn _ _ _
    exact ⟨hfB.os.trans hbA.os, hfB.tape.trans hbA.tape, hfB.output.trans hbA.output, Nat.le_trans hbA.size hfB.size, fun y hy => (hfB.block y (Nat.lt_of_lt_of_le hy hbA.size) (by omega)).trans (hbA.block y hy)⟩
  · rw [setCells_size, ← hWA]; simp
theorem rangeAt_below {W W' : World} {g o : Nat} {v : List Value} (h : W.rangeAt g o v) (hb : Below W.heap.size W W') (hg : g < W.heap.size) : W'.rangeAt g o v :=
  fun j u hu => (hb.cell (p := ⟨g, o + j, none⟩) hg).trans (h j u hu)
set_option maxRecDepth 100000 in
set_option maxHeartbeats 8000000 in
theorem open_any {O : Nat} {m : Mem} {N : Nat → Prop} (i : Nat) (W : World) (h : MAt W O m N) (hi : i < m.length) :
    Calls Try.prog 54 #[.pointer (some ⟨O, 0, none⟩), .int .i64 i] W fun e w' => e = .returned (.bool m[i].open) ∧ Below W.heap.size W w' := by
  obtain ⟨p1, c1, p2, c2, b, n, hr⟩ := h
  obtain ⟨g, o, g2, o2, rfl, rfl⟩ := hr.ptrs
  obtain ⟨a0, a1, a2⟩ := hr.cells
  have hin : (i : Int) < (n : Int) := by have := hr.len; omega
  have h1 := (own_line hr.ls hr.caps.1 i (by rw [nows_len]; exact hi)).1
  have h2 := (own_line hr.ll hr.caps.2.1 i (by rw [lst_len]; exact hi)).1
  rw [nows_get] at h1
  rw [lst_get] at h2
  have hop : m[i].open = (decide (m[i].now ≠ m[i].lasts) || (match m[i].q with | some v => decide (v ≠ m[i].lasts) | none => false)) := rfl
  obtain ⟨es, clk, hq, hf⟩ := hr.q
  have hlook := q_look (P := Try.prog) (T := 62) (K := 3) (E := 96) (by kernel_rfl) (by kernel_rfl) hq i zero_line
  rw [hf i, qf_get m i hi] at hlook
  rw [hop]
  obtain ⟨a, ha⟩ : ∃ a, m[i].now = a := ⟨_, rfl⟩
  obtain ⟨l, hl⟩ : ∃ a, m[i].lasts = a := ⟨_, rfl⟩
  obtain ⟨q, hqq⟩ : ∃ a, m[i].q = a := ⟨_, rfl⟩
  rw [ha] at h1
  rw [hl] at h2
  rw [hqq] at hlook
  rw [ha, hl, hqq]
  have hO := hr.lt
  have hg1 : g < W.heap.size := hr.ls.lt ⟨_, rfl, rfl, hr.caps.1⟩
  have hg2 : g2 < W.heap.size := hr.ll.lt ⟨_, rfl, rfl, hr.caps.2.1⟩
  obtain ⟨z, hz⟩ : ∃ z, q.getD zero8 = z := ⟨_, rfl⟩
  rw [hz] at hlook
  obtain ⟨WA, WB, hWA, hsc, hb, hzr, hsz, hth⟩ := new_line W z
  have hlen8 : (ec z).length = 8 := ec_len _
  have x0 := (hb.cell (p := ⟨O, 0, none⟩) hO).trans a0
  have x1 := (hb.cell (p := ⟨O, 1, none⟩) hO).trans a1
  have HR := Lib.hid (And.intro (rangeAt_below h1 hb hg1) (And.intro (rangeAt_below h2 hb hg2) (And.intro hzr hb)))
  unfold lineV at hlook
  clear hr hop hq hf ha hl hqq hi h1 h2 hO hg1 hg2 hb hzr hsz hth a1
  by_cases hal : a = l
  · rw [decide_eq_false (fun h => h hal), Bool.false_or]
    have HNE := Lib.hid (decide_eq_false (fun h : a ≠ l => h hal))
    cases q with
    | none =>
      clear hz
      go_enter Try.func54, Try.ntmps54
      go_wp2_with fail
      refine wp_region_quiet_lit (by kernel_rfl) (by kernel_rfl) ?_
      iterate 6 (go_big_quiet_step (fail))
      refine wpQuiet_want (by rfl) (fun K hK => ?_)
      refine quiet_load_line (.tmp 21) rfl rfl HR.out.1 ?_
      refine hK _ ?_
      clear hK K
      simp only [Act.put, List.setIfInBounds_toArray, List.set_cons_zero, List.set_cons_succ]
      iterate 6 (go_big_quiet_step (fail))
      refine wpQuiet_want (by rfl) (fun K hK => ?_)
      refine quiet_load_line (.tmp 28) rfl rfl HR.out.2.1 ?_
      refine hK _ ?_
      clear hK K
      simp only [Act.put, List.setIfInBounds_toArray, List.set_cons_zero, List.set_cons_succ]
      refine wpQuiet_want (by rfl) (fun K hK => ?_)
      refine quiet_neq_line (.tmp 22) (.tmp 29) rfl rfl rfl HNE.out ?_
      refine hK _ ?_
      clear hK K
      simp only [Act.put, List.setIfInBounds_toArray, List.set_cons_zero, List.set_cons_succ]
      iterate 15 (go_big_quiet_step (fail))
      repeat (go_big_quiet_step (fail))
      refine wpQuiet_nil ?_
      rintro _ ⟨nq, rfl⟩
      go_wp2_with fail
      go_ret
      exact ⟨rfl, below_drewN HR.out.2.2.2 _⟩
    | some v =>
      obtain rfl : v = z := by simpa using hz
      obtain ⟨r, hr⟩ : ∃ r, decide (v ≠ l) = r := ⟨_, rfl⟩
      have HZE := Lib.hid hr
      show Calls _ _ _ _ fun e w' => e = Ending.returned (.bool (decide (v ≠ l))) ∧ _
      rw [hr]
      clear hr hz
      go_enter Try.func54, Try.ntmps54
      go_wp2_with fail
      refine wp_region_quiet_lit (by kernel_rfl) (by kernel_rfl) ?_
      iterate 6 (go_big_quiet_step (fail))
      refine wpQuiet_want (by rfl) (fun K hK => ?_)
      refine quiet_load_line (.tmp 21) rfl rfl HR.out.1 ?_
      refine hK _ ?_
      clear hK K
      simp only [Act.put, List.setIfInBounds_toArray, List.set_cons_zero, List.set_cons_succ]
      iterate 6 (go_big_quiet_step (fail))
      refine wpQuiet_want (by rfl) (fun K hK => ?_)
      refine quiet_load_line (.tmp 28) rfl rfl HR.out.2.1 ?_
      refine hK _ ?_
      clear hK K
      simp only [Act.put, List.setIfInBounds_toArray, List.set_cons_zero, List.set_cons_succ]
      refine wpQuiet_want (by rfl) (fun K hK => ?_)
      refine quiet_neq_line (.tmp 22) (.tmp 29) rfl rfl rfl HNE.out ?_
      refine hK _ ?_
      clear hK K
      simp only [Act.put, List.setIfInBounds_toArray, List.set_cons_zero, List.set_cons_succ]
      iterate 3 (go_big_quiet_step (fail))
      refine wpQuiet_want (by rfl) (fun K hK => ?_)
      refine quiet_load_line (.tmp 5) rfl rfl HR.out.2.2.1 ?_
      refine hK _ ?_
      clear hK K
      simp only [Act.put, List.setIfInBounds_toArray, List.set_cons_zero, List.set_cons_succ]
      iterate 6 (go_big_quiet_step (fail))
      refine wpQuiet_want (by rfl) (fun K hK => ?_)
      refine quiet_load_line (.tmp 40) rfl rfl HR.out.2.1 ?_
      refine hK _ ?_
      clear hK K
      simp only [Act.put, List.setIfInBounds_toArray, List.set_cons_zero, List.set_cons_succ]
      refine wpQuiet_want (by rfl) (fun K hK => ?_)
      refine quiet_neq_line (.tmp 34) (.tmp 41) rfl rfl rfl HZE.out ?_
      refine hK _ ?_
      clear hK K
      simp only [Act.put, List.setIfInBounds_toArray, List.set_cons_zero, List.set_cons_succ]
      iterate 2 (go_big_quiet_step (fail))
      repeat (go_big_quiet_step (fail))
      refine wpQuiet_nil ?_
      rintro _ ⟨nq, rfl⟩
      go_wp2_with fail
      go_ret
      exact ⟨rfl, below_drewN HR.out.2.2.2 _⟩
  · rw [decide_eq_true hal, Bool.true_or]
    have HNE := Lib.hid (decide_eq_true (show a ≠ l from hal))
    go_enter Try.func54, Try.ntmps54
    go_wp2_with fail
    refine wp_region_quiet_lit (by kernel_rfl) (by kernel_rfl) ?_
    iterate 6 (go_big_quiet_step (fail))
    refine wpQuiet_want (by rfl) (fun K hK => ?_)
    refine quiet_load_line (.tmp 21) rfl rfl HR.out.1 ?_
    refine hK _ ?_
    clear hK K
    simp only [Act.put, List.setIfInBounds_toArray, List.set_cons_zero, List.set_cons_succ]
    iterate 6 (go_big_quiet_step (fail))
    refine wpQuiet_want (by rfl) (fun K hK => ?_)
    refine quiet_load_line (.tmp 28) rfl rfl HR.out.2.1 ?_
    refine hK _ ?_
    clear hK K
    simp only [Act.put, List.setIfInBounds_toArray, List.set_cons_zero, List.set_cons_succ]
    refine wpQuiet_want (by rfl) (fun K hK => ?_)
    refine quiet_neq_line (.tmp 22) (.tmp 29) rfl rfl rfl HNE.out ?_
    refine hK _ ?_
    clear hK K
    simp only [Act.put, List.setIfInBounds_toArray, List.set_cons_zero, List.set_cons_succ]
    repeat (go_big_quiet_step (fail))
    refine wpQuiet_nil ?_
    rintro _ ⟨nq, rfl⟩
    go_wp2_with fail
    go_ret
    exact ⟨rfl, below_drewN HR.out.2.2.2 _⟩
end Go.Proofs.Ytaflbfmlajbjcaa
