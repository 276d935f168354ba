/- The walks of the memory: Clone at lines, takes. -/
import Derived.Test.YtaflbfmlajbjcaaPmemH
import Derived.Laws.EntriesVeiled
namespace Go.Proofs.Ytaflbfmlajbjcaa
open Go Go.RowKit

set_option maxHeartbeats 1000000 in
theorem cloneL_any (p : Option Addr) (cap : Nat) (xs : List V8) (w : World) (hrd : RdS w.heap.size w p cap 8 ec xs) (h0 : 0 < xs.length) (hx : xs.length ≤ 100000) :
    Calls Try.prog 46 #[.slice p xs.length cap] w fun e w' => ∃ p' c', e = .returned (.slice p' xs.length c') ∧ OwnL w' p' c' xs ∧ (∀ b, inP p' c' b → w.heap.size ≤ b) ∧ Below w.heap.size w w' := by
  have hnil := fun (w : World) (a : Option Addr) (n c : Nat) => Lib.run_eql_slice_nil (P := Try.prog) w 61 96 a n c 0 0 (by kernel_rfl)
  have HRD := Lib.hid (hrd.keep (w' := w.alloc (.cells #[] 96)) (fun b hb => ((Below.refl _ w).alloc (Nat.le_refl _) (.cells #[] 96)).block b (hrd.inlt hb)))
  obtain ⟨x, rfl⟩ : ∃ x, p = some x := by
    rcases hrd.2.2 with h | ⟨b, o, rfl, -⟩
    · have := hrd.1; omega
    · exact ⟨_, rfl⟩
  clear hrd
  go_enter Try.func46, Try.ntmps46
  go_wp2_with (at_builtin; refine wpList_copyG rfl (.tmp 5) (.tmp 6) _ rfl elem_line (by decide) ec_len ec_one w.heap.size _ rfl (own_empty w w.heap.size 96 8 (Nat.le_refl _)) (some x) cap xs w.heap.size rfl HRD.out (by omega) (by simp) ?_
               intro pc cc wc hown hpc hg)
  go_ret
  exact ⟨pc, cc, rfl, hown, hpc, below_grown ((Below.refl _ w).alloc (Nat.le_refl _) _) hg (by simp) (by intro b hb; cases hb; exact Nat.le_refl _)⟩
/-- A line at a plain region: its load; its store into a new variable. -/
theorem list_load_line {w : World} {ops : Array Oper} {rest : List Oper} {op : Oper} {a : Act} {Q : Exit → Act → World → Prop} (hgd : op.guard = none) (x : Operand) (ho : op.op = .load 96 x)
    {g o : Nat} (hx : a.eval x = .pointer (some ⟨g, o, none⟩)) {v : V8} (hc : w.rangeAt g o (ec v)) (h : wpList Try.prog ops Q rest (a.put op.dst (.agg (ec v).toArray)) w) : wpList Try.prog ops Q (op :: rest) a w :=
  wpList_load_mid hgd 96 x ho g o hx (ec v) (.array 8 36) hc (by kernel_rfl) rfl (by rw [ec_len]; kernel_rfl) h
theorem list_store_line {w : World} {ops : Array Oper} {rest : List Oper} {op : Oper} {a : Act} {Q : Exit → Act → World → Prop} (hgd : op.guard = none) (x y : Operand) (ho : op.op = .store 96 x y)
    {g o : Nat} (hx : a.eval x = .pointer (some ⟨g, o, none⟩)) {v : V8} (hy : a.eval y = .agg (ec v).toArray) (ht : w.there g o 8) (h : wpList Try.prog ops Q rest (a.put op.dst undef) (w.setCells g o (ec v))) : wpList Try.prog ops Q (op :: rest) a w :=
  wpList_store_mid hgd 96 x y ho g o (ec v).toArray hx hy (by rw [List.size_toArray, ec_len]; exact ht) (by rw [List.size_toArray, ec_len]; kernel_rfl) (all_oneCell_toArray (ec_one v)) h
/-- A new variable of zeros. -/
theorem new_var (W : World) : ∃ WA, W.alloc (.cells #[Value.int .u64 0, Value.int .u64 0, Value.int .u64 0, Value.int .u64 0, Value.int .u64 0, Value.int .u64 0, Value.int .u64 0, Value.int .u64 0] 96) = WA ∧
    Below W.heap.size W WA ∧ WA.heap.size = W.heap.size + 1 ∧ WA.there W.heap.size 0 8 := by
  obtain ⟨WA, hWA⟩ : ∃ WA, W.alloc (.cells #[Value.int .u64 0, Value.int .u64 0, Value.int .u64 0, Value.int .u64 0, Value.int .u64 0, Value.int .u64 0, Value.int .u64 0, Value.int .u64 0] 96) = WA := ⟨_, rfl⟩
  have hxA : WA.heap[W.heap.size]? = some (.cells #[Value.int .u64 0, Value.int .u64 0, Value.int .u64 0, Value.int .u64 0, Value.int .u64 0, Value.int .u64 0, Value.int .u64 0, Value.int .u64 0] 96 (0, 0)) := by rw [← hWA]; exact World.alloc_heap_new _ _
  refine ⟨WA, hWA, by rw [← hWA]; exact (Below.refl _ _).alloc (Nat.le_refl _) _, by rw [← hWA]; simp, fun j hj => ?_⟩
  have : j = 0 ∨ j = 1 ∨ j = 2 ∨ j = 3 ∨ j = 4 ∨ j = 5 ∨ j = 6 ∨ j = 7 := by omega
  rcases this with rfl | rfl | rfl | rfl | rfl | rfl | rfl | rfl <;> exact ⟨by simp [World.cell?, hxA], by simp [World.frozen?, hxA]⟩
theorem below_setCells {n g o : Nat} {vs : List Value} {a w : World} (h : Below n a w) (hg : n ≤ g) : Below n a (w.setCells g o vs) := by
  have hf : Frn (fun y => y = g) w (w.setCells g o vs) := setCells_frn _ _ _
  by_cases hn : n ≤ w.heap.size
  · exact ⟨hf.os.trans h.os, hf.tape.trans h.tape, hf.output.trans h.output, Nat.le_trans h.size hf.size, fun y hy => (hf.block y (by omega) (by omega)).trans (h.block y hy)⟩
  · refine ⟨hf.os.trans h.os, hf.tape.trans h.tape, hf.output.trans h.output, Nat.le_trans h.size hf.size, fun y hy => ?_⟩
    by_cases hy2 : y < w.heap.size
    · exact (hf.block y hy2 (by omega)).trans (h.block y hy)
    · rw [Array.getElem?_eq_none (by rw [setCells_size]; omega), ← h.block y hy, Array.getElem?_eq_none (by omega)]
set_option maxRecDepth 100000 in
set_option maxHeartbeats 4000000 in
theorem takes1_any {O B : Nat} {m : Mem} {N : Nat → Prop} (i : Nat) (W : World) (h : MAt W O m N) (hi : i < m.length) (hB : W.cell? ⟨B, 0, none⟩ = some (.pointer (some ⟨O, 0, none⟩))) (hBl : B < W.heap.size) :
    Calls Try.prog 82 #[.int .i64 i, .pointer (some ⟨B, 0, none⟩)] W fun e w' => e = .returned (lineV m[i].lasts) ∧ Below W.heap.size W w' := by
  obtain ⟨p1, c1, p2, c2, b, n, hr⟩ := h
  obtain ⟨g, o, g2, o2, rfl, rfl⟩ := hr.ptrs
  have hin : (i : Int) < (n : Int) := by have := hr.len; omega
  obtain ⟨a0, a1, a2⟩ := hr.cells
  have hrg := (own_line hr.ll hr.caps.2.1 i (by rw [lst_len]; exact hi)).1
  rw [lst_get] at hrg
  obtain ⟨v, hv⟩ : ∃ v, m[i].lasts = v := ⟨_, rfl⟩
  rw [hv] at hrg ⊢
  obtain ⟨WA, hWA, hbA, hsz, hth⟩ := new_var W
  have x0 := (hbA.cell (p := ⟨B, 0, none⟩) hBl).trans hB
  have x1 := (hbA.cell (p := ⟨O, 1, none⟩) hr.lt).trans a1
  have HR := Lib.hid (And.intro (rangeAt_below hrg hbA (hr.ll.lt ⟨_, rfl, rfl, hr.caps.2.1⟩)) hth)
  obtain ⟨WB, hWB⟩ : ∃ WB, WA.setCells W.heap.size 0 (ec v) = WB := ⟨_, rfl⟩
  have hzr : WB.rangeAt W.heap.size 0 (ec v) := by rw [← hWB]; exact World.rangeAt_setCells_same _ _ _ _ (by rw [ec_len]; exact hth)
  have HB := Lib.hid (show Below W.heap.size W WB by rw [← hWB]; exact below_setCells hbA (Nat.le_refl _))
  have hld := load_line hzr
  have hres : (loadVar 96 ⟨W.heap.size, 0, none⟩).run Try.prog WB = .ok (lineV v) WB := by simpa [Instr.loadAt, Instr.sureAddr, Sem.run_bind] using hld
  have HL := Lib.hid (And.intro hres hWB)
  clear hr a0 a1 a2 hrg hv hbA hzr hsz hth hi hB hBl hld hres hWB
  go_enter Try.func82, Try.ntmps82
  go_wp2_with (first
    | (refine list_load_line rfl (.tmp 9) rfl rfl HR.out.1 ?_)
    | (refine list_store_line rfl (.tmp 3) (.tmp 10) rfl rfl rfl HR.out.2 ?_; rw [HL.out.2]))
  refine bodyPost_ret (results_cell1 rfl _ _ rfl HL.out.1) rfl ?_
  exact ⟨rfl, HB.out⟩
set_option maxRecDepth 100000 in
set_option maxHeartbeats 4000000 in
theorem takes3_any {O B : Nat} {m : Mem} {N : Nat → Prop} (i : Nat) (W : World) (h : MAt W O m N) (hi : i < m.length) (hB : W.cell? ⟨B, 0, none⟩ = some (.pointer (some ⟨O, 0, none⟩))) (hBl : B < W.heap.size) :
    Calls Try.prog 84 #[.int .i64 i, .pointer (some ⟨B, 0, none⟩)] W fun e w' => e = .returned (lineV m[i].now) ∧ Below W.heap.size W w' := by
  obtain ⟨p1, c1, p2, c2, b, n, hr⟩ := h
  obtain ⟨g, o, g2, o2, rfl, rfl⟩ := hr.ptrs
  have hin : (i : Int) < (n : Int) := by have := hr.len; omega
  obtain ⟨a0, a1, a2⟩ := hr.cells
  have hrg := (own_line hr.ls hr.caps.1 i (by rw [nows_len]; exact hi)).1
  rw [nows_get] at hrg
  obtain ⟨v, hv⟩ : ∃ v, m[i].now = v := ⟨_, rfl⟩
  rw [hv] at hrg ⊢
  obtain ⟨WA, hWA, hbA, hsz, hth⟩ := new_var W
  have x0 := (hbA.cell (p := ⟨B, 0, none⟩) hBl).trans hB
  have x1 := (hbA.cell (p := ⟨O, 0, none⟩) hr.lt).trans a0
  have HR := Lib.hid (And.intro (rangeAt_below hrg hbA (hr.ls.lt ⟨_, rfl, rfl, hr.caps.1⟩)) hth)
  obtain ⟨WB, hWB⟩ : ∃ WB, WA.setCells W.heap.size 0 (ec v) = WB := ⟨_, rfl⟩
  have hzr : WB.rangeAt W.heap.size 0 (ec v) := by rw [← hWB]; exact World.rangeAt_setCells_same _ _ _ _ (by rw [ec_len]; exact hth)
  have HB := Lib.hid (show Below W.heap.size W WB by rw [← hWB]; exact below_setCells hbA (Nat.le_refl _))
  have hld := load_line hzr
  have hres : (loadVar 96 ⟨W.heap.size, 0, none⟩).run Try.prog WB = .ok (lineV v) WB := by simpa [Instr.loadAt, Instr.sureAddr, Sem.run_bind] using hld
  have HL := Lib.hid (And.intro hres hWB)
  clear hr a0 a1 a2 hrg hv hbA hzr hsz hth hi hB hBl hld hres hWB
  go_enter Try.func84, Try.ntmps84
  go_wp2_with (first
    | (refine list_load_line rfl (.tmp 9) rfl rfl HR.out.1 ?_)
    | (refine list_store_line rfl (.tmp 3) (.tmp 10) rfl rfl rfl HR.out.2 ?_; rw [HL.out.2]))
  refine bodyPost_ret (results_cell1 rfl _ _ rfl HL.out.1) rfl ?_
  exact ⟨rfl, HB.out⟩
set_option maxRecDepth 100000 in
set_option maxHeartbeats 4000000 in
theorem takes2_any {O B : Nat} {m : Mem} {N : Nat → Prop} (i : Nat) (W : World) (h : MAt W O m N) (hi : i < m.length) (hB : W.cell? ⟨B, 0, none⟩ = some (.pointer (some ⟨O, 0, none⟩))) (hBl : B < W.heap.size) :
    Calls Try.prog 83 #[.int .i64 i, .pointer (some ⟨B, 0, none⟩)] W fun e w' => e = .returned (lineV (m[i].q.getD m[i].lasts)) ∧ Below W.heap.size W w' := by
  obtain ⟨p1, c1, p2, c2, b, n, hr⟩ := h
  obtain ⟨g, o, g2, o2, rfl, rfl⟩ := hr.ptrs
  have hin : (i : Int) < (n : Int) := by have := hr.len; omega
  have hrg := (own_line hr.ll hr.caps.2.1 i (by rw [lst_len]; exact hi)).1
  rw [lst_get] at hrg
  obtain ⟨v, hv⟩ : ∃ v, m[i].lasts = v := ⟨_, rfl⟩
  obtain ⟨q, hqq⟩ : ∃ q, m[i].q = q := ⟨_, rfl⟩
  rw [hv] at hrg ⊢
  rw [hqq]
  obtain ⟨WA, hWA, hbA, hszA, hthA⟩ := new_var W
  have hrA : MRaw WA O (some ⟨g, o, none⟩) c1 (some ⟨g2, o2, none⟩) c2 b n m N := hr.keep (fun x _ hl => hbA.block x hl)
  obtain ⟨es, clk, hq, hf⟩ := hrA.q
  have hlook := q_look (P := Try.prog) (T := 62) (K := 3) (E := 96) (by kernel_rfl) (by kernel_rfl) hq i zero_line
  rw [hf i, qf_get m i hi, hqq] at hlook
  obtain ⟨z, hz⟩ : ∃ z, q.getD zero8 = z := ⟨_, rfl⟩
  rw [hz] at hlook
  obtain ⟨WB, hWB, hbB, hszB, hthB⟩ := new_var WA
  rw [hszA] at hthB
  obtain ⟨WC, hWC⟩ : ∃ WC, WB.setCells (W.heap.size + 1) 0 (ec z) = WC := ⟨_, rfl⟩
  have hzr : WC.rangeAt (W.heap.size + 1) 0 (ec z) := by rw [← hWC]; exact World.rangeAt_setCells_same _ _ _ _ (by rw [ec_len]; exact hthB)
  have hbC : Below W.heap.size W WC := by rw [← hWC]; exact below_setCells (hbA.trans (hbB.mono hbA.size)) (Nat.le_succ _)
  have hthC : WC.there W.heap.size 0 8 := by
    rw [← hWC]
    refine World.there_setCells (fun j hj => ?_) _ _ _
    have h1 : WB.heap[W.heap.size]? = WA.heap[W.heap.size]? := hbB.block _ (by omega)
    exact ⟨by rw [World.cell?_of_block (w := WA) (a := ⟨W.heap.size, 0 + j, none⟩) h1]; exact (hthA j hj).1, by have h2 := (hthA j hj).2; unfold World.frozen? at h2 ⊢; rw [h1]; exact h2⟩
  obtain ⟨r, hr2⟩ : ∃ r, q.getD v = r := ⟨_, rfl⟩
  rw [hr2]
  obtain ⟨WD, hWD⟩ : ∃ WD, WC.setCells W.heap.size 0 (ec r) = WD := ⟨_, rfl⟩
  have hrD : WD.rangeAt W.heap.size 0 (ec r) := by rw [← hWD]; exact World.rangeAt_setCells_same _ _ _ _ (by rw [ec_len]; exact hthC)
  have HB := Lib.hid (show Below W.heap.size W WD by rw [← hWD]; exact below_setCells hbC (Nat.le_refl _))
  have hld := load_line hrD
  have hres : (loadVar 96 ⟨W.heap.size, 0, none⟩).run Try.prog WD = .ok (lineV r) WD := by simpa [Instr.loadAt, Instr.sureAddr, Sem.run_bind] using hld
  have HR := Lib.hid (And.intro (rangeAt_below hrg hbC (hr.ll.lt ⟨_, rfl, rfl, hr.caps.2.1⟩)) (And.intro hzr (And.intro hthB hthC)))
  have HL := Lib.hid (And.intro hres (And.intro hWC hWD))
  have x0 := (hbA.cell (p := ⟨B, 0, none⟩) hBl).trans hB
  have x1 := hrA.cells.2.2
  have y0 := (hbC.cell (p := ⟨B, 0, none⟩) hBl).trans hB
  have y1 := (hbC.cell (p := ⟨O, 1, none⟩) hr.lt).trans hr.cells.2.1
  have hsz2 : WA.heap.size = W.heap.size + 1 := hszA
  unfold lineV at hlook
  clear hr hrA hv hbA hszA hthA hq hf hqq hbB hszB hthB hzr hbC hthC hrD hld hres hWC hWD hrg hi hB hBl
  cases q with
  | none =>
    obtain rfl : v = r := hr2
    clear hz
    go_enter Try.func83, Try.ntmps83
    go_wp2_with (first
      | (refine list_store_line rfl (.tmp 4) (.tmp 13) rfl rfl rfl HR.out.2.2.1 ?_; rw [HL.out.2.1])
      | (refine list_load_line rfl (.tmp 22) rfl rfl HR.out.1 ?_)
      | (refine list_store_line rfl (.tmp 3) (.tmp 23) rfl rfl rfl HR.out.2.2.2 ?_; rw [HL.out.2.2]))
    refine bodyPost_ret (results_cell1 rfl _ _ rfl HL.out.1) rfl ?_
    exact ⟨rfl, HB.out⟩
  | some y =>
    obtain rfl : y = r := hr2
    obtain rfl : y = z := hz
    go_enter Try.func83, Try.ntmps83
    go_wp2_with (first
      | (refine list_store_line rfl (.tmp 4) (.tmp 13) rfl rfl rfl HR.out.2.2.1 ?_; rw [HL.out.2.1])
      | (refine list_load_line rfl (.tmp 4) rfl rfl HR.out.2.1 ?_)
      | (refine list_store_line rfl (.tmp 3) (.tmp 16) rfl rfl rfl HR.out.2.2.2 ?_; rw [HL.out.2.2]))
    refine bodyPost_ret (results_cell1 rfl _ _ rfl HL.out.1) rfl ?_
    exact ⟨rfl, HB.out⟩
set_option maxRecDepth 100000 in
set_option maxHeartbeats 4000000 in
theorem takes_any {O : Nat} (W : World) :
    Calls Try.prog 62 #[.pointer (some ⟨O, 0, none⟩)] W fun e w' => e = .returned (.agg #[.func (.func 82) #[] #[.pointer (some ⟨W.heap.size, 0, none⟩)], .func (.func 83) #[] #[.pointer (some ⟨W.heap.size, 0, none⟩)], .func (.func 84) #[] #[.pointer (some ⟨W.heap.size, 0, none⟩)]]) ∧ Below W.heap.size W w' ∧ Box w' W.heap.size 26 (.pointer (some ⟨O, 0, none⟩)) := by
  go_enter Try.func62, Try.ntmps62
  go_wp2_with fail
  refine bodyPost_ret (results_cell1 rfl _ _ rfl (v := .agg #[.func (.func 82) #[] #[.pointer (some ⟨W.heap.size, 0, none⟩)], .func (.func 83) #[] #[.pointer (some ⟨W.heap.size, 0, none⟩)], .func (.func 84) #[] #[.pointer (some ⟨W.heap.size, 0, none⟩)]]) (by simp [go_sem])) rfl ?_
  exact ⟨rfl, ((Below.refl _ W).alloc (Nat.le_refl _) _).alloc (by simp) _, (Box.new W 26 _).alloc _⟩
end Go.Proofs.Ytaflbfmlajbjcaa
