/- The walks of the reference's reader. -/
import Derived.Test.YtenmogokbelahaaScanI
namespace Go.Proofs.Ytenmogokbelahaa
open Go Go.RowKit

theorem sets10 {V : World} {O : Nat} {t : TypeId} {c0 c1 c2 c3 c4 c5 c6 c7 c8 c9 : Value} (h : V.heap[O]? = some (.cells #[c0, c1, c2, c3, c4, c5, c6, c7, c8, c9] t (0, 0))) (x0 x1 x2 x3 x4 x5 x6 x7 x8 x9 : Value) :
    ∃ W, ((((((((((V.setCell ⟨O, 0, none⟩ x0).setCell ⟨O, 1, none⟩ x1).setCell ⟨O, 2, none⟩ x2).setCell ⟨O, 3, none⟩ x3).setCell ⟨O, 4, none⟩ x4).setCell ⟨O, 5, none⟩ x5).setCell ⟨O, 6, none⟩ x6).setCell ⟨O, 7, none⟩ x7).setCell ⟨O, 8, none⟩ x8).setCell ⟨O, 9, none⟩ x9) = W ∧ W.heap[O]? = some (.cells #[x0, x1, x2, x3, x4, x5, x6, x7, x8, x9] t (0, 0)) ∧ (∀ b, b ≠ O → W.heap[b]? = V.heap[b]?) ∧ (∀ n w, n ≤ O → Below n w V → Below n w W) := by
  have step : ∀ (V : World) (i : Nat) (cs ds : Array Value) (u : Value), V.heap[O]? = some (.cells cs t (0, 0)) → cs.setIfInBounds i u = ds →
      (V.setCell ⟨O, i, none⟩ u).heap[O]? = some (.cells ds t (0, 0)) ∧ (∀ b, b ≠ O → (V.setCell ⟨O, i, none⟩ u).heap[b]? = V.heap[b]?) ∧ (∀ n w, n ≤ O → Below n w V → Below n w (V.setCell ⟨O, i, none⟩ u)) := by
    rintro V i cs ds u h rfl
    exact ⟨heap_setCell_same V O i _ _ u h, fun b hb => heap_setCell_other _ ⟨O, i, none⟩ b _ hb, fun n w hn hb => hb.setCell hn _⟩
  obtain ⟨a0, b0, e0⟩ := step _ 0 _ #[x0, c1, c2, c3, c4, c5, c6, c7, c8, c9] x0 h rfl
  obtain ⟨a1, b1, e1⟩ := step _ 1 _ #[x0, x1, c2, c3, c4, c5, c6, c7, c8, c9] x1 a0 rfl
  obtain ⟨a2, b2, e2⟩ := step _ 2 _ #[x0, x1, x2, c3, c4, c5, c6, c7, c8, c9] x2 a1 rfl
  obtain ⟨a3, b3, e3⟩ := step _ 3 _ #[x0, x1, x2, x3, c4, c5, c6, c7, c8, c9] x3 a2 rfl
  obtain ⟨a4, b4, e4⟩ := step _ 4 _ #[x0, x1, x2, x3, x4, c5, c6, c7, c8, c9] x4 a3 rfl
  obtain ⟨a5, b5, e5⟩ := step _ 5 _ #[x0, x1, x2, x3, x4, x5, c6, c7, c8, c9] x5 a4 rfl
  obtain ⟨a6, b6, e6⟩ := step _ 6 _ #[x0, x1, x2, x3, x4, x5, x6, c7, c8, c9] x6 a5 rfl
  obtain ⟨a7, b7, e7⟩ := step _ 7 _ #[x0, x1, x2, x3, x4, x5, x6, x7, c8, c9] x7 a6 rfl
  obtain ⟨a8, b8, e8⟩ := step _ 8 _ #[x0, x1, x2, x3, x4, x5, x6, x7, x8, c9] x8 a7 rfl
  obtain ⟨a9, b9, e9⟩ := step _ 9 _ #[x0, x1, x2, x3, x4, x5, x6, x7, x8, x9] x9 a8 rfl
  exact ⟨_, rfl, a9, fun b hb => (b9 b hb).trans ((b8 b hb).trans ((b7 b hb).trans ((b6 b hb).trans ((b5 b hb).trans ((b4 b hb).trans ((b3 b hb).trans ((b2 b hb).trans ((b1 b hb).trans (b0 b hb))))))))), fun n w hn hb => e9 n w hn (e8 n w hn (e7 n w hn (e6 n w hn (e5 n w hn (e4 n w hn (e3 n w hn (e2 n w hn (e1 n w hn (e0 n w hn hb)))))))))⟩
theorem cells10 {V : World} {O : Nat} {t : TypeId} {c0 c1 c2 c3 c4 c5 c6 c7 c8 c9 : Value} (h : V.heap[O]? = some (.cells #[c0, c1, c2, c3, c4, c5, c6, c7, c8, c9] t (0, 0))) :
    V.cell? ⟨O, 0, none⟩ = some c0 ∧ V.cell? ⟨O, 1, none⟩ = some c1 ∧ V.cell? ⟨O, 2, none⟩ = some c2 ∧ V.cell? ⟨O, 3, none⟩ = some c3 ∧ V.cell? ⟨O, 4, none⟩ = some c4 ∧ V.cell? ⟨O, 5, none⟩ = some c5 ∧ V.cell? ⟨O, 6, none⟩ = some c6 ∧ V.cell? ⟨O, 7, none⟩ = some c7 ∧ V.cell? ⟨O, 8, none⟩ = some c8 ∧ V.cell? ⟨O, 9, none⟩ = some c9 ∧ ∀ k, V.frozen? ⟨O, k, none⟩ = false := by
  refine ⟨?_, ?_, ?_, ?_, ?_, ?_, ?_, ?_, ?_, ?_, fun k => ?_⟩ <;> simp [World.cell?, World.frozen?, h]

/-- The reference's reader, as cells and as a value. -/
def rdC (r : Rd) : Array Value := #[.int .i64 r.way, .int .i64 r.slots, .int .i64 r.slot, .int .i64 r.step, vw r.key, vw r.ptr, vw r.ahead, .bool r.done, .bool r.is, .int .i64 r.loads]
def rdV (r : Rd) : Value := .agg (rdC r)
theorem rd_load {W : World} {O : Nat} {r : Rd} (h : W.heap[O]? = some (.cells (rdC r) 29 (0, 0))) : (loadVar 29 ⟨O, 0, none⟩).run Try.prog W = .ok (rdV r) W := by
  unfold rdC at h
  obtain ⟨c0, c1, c2, c3, c4, c5, c6, c7, c8, c9, -⟩ := cells10 h
  simp [go_sem, rdV, rdC, c0, c1, c2, c3, c4, c5, c6, c7, c8, c9]
/-- The end of a function whose result stands in the newest block. -/
theorem rd_end {fn : Func} {p : Tmp} {tmps : Array Value} {w : World} {o : Obj} {r : Rd} (h : fn.results = #[.cell p 29]) (hp : tmps.getD p undef = .pointer (some ⟨w.heap.size + 1, 0, none⟩)) :
    bodyPost Try.prog fn (fun e w' => e = .returned (rdV r) ∧ Below w.heap.size w w') .ret { tmps := tmps, defers := [] } ((w.alloc o).alloc (.cells (rdC r) 29)) := by
  have e : (w.alloc o).heap.size = w.heap.size + 1 := by simp
  have hh := World.alloc_heap_new (w.alloc o) (.cells (rdC r) 29)
  rw [e] at hh
  exact bodyPost_ret (results_cell1 h _ _ hp (rd_load hh)) rfl ⟨rfl, ((Below.refl _ _).alloc (Nat.le_refl _) _).alloc (by simp) _⟩
/-- The end of a function whose result was called for. -/
theorem rd_end2 {fn : Func} {p : Tmp} {tmps : Array Value} {w W : World} {r : Rd} (h : fn.results = #[.cell p 29]) (hp : tmps.getD p undef = .pointer (some ⟨w.heap.size + 1, 0, none⟩))
    (hh : W.heap[w.heap.size + 1]? = some (.cells (rdC r) 29 (0, 0))) (hb : Below w.heap.size w W) :
    bodyPost Try.prog fn (fun e w' => e = .returned (rdV r) ∧ Below w.heap.size w w') .ret { tmps := tmps, defers := [] } W :=
  bodyPost_ret (results_cell1 h _ _ hp (rd_load hh)) rfl ⟨rfl, hb⟩
def zero10 : Array Value := #[.int .i64 0, .int .i64 0, .int .i64 0, .int .i64 0, .int .u64 0, .int .u64 0, .int .u64 0, .bool false, .bool false, .int .i64 0]
set_option maxRecDepth 100000 in
set_option maxHeartbeats 4000000 in
theorem goes1 {slots : Nat} {key : BitVec 64} {slot : Int} {step : Nat} {ptr ahead : BitVec 64} {done is : Bool} {loads : Nat} (w : World) (h1 : -1 ≤ slot) (h2 : slot ≤ 28) :
    Calls Try.prog 61 #[rdV (Rd.mk 1 slots key slot step ptr ahead done is loads)] w fun e w' => e = .returned (rdV (Rd.mk 1 slots key (slot + 1) 0 ptr ahead (decide ((slots : Int) ≤ slot + 1)) is loads)) ∧ Below w.heap.size w w' := by
  obtain ⟨vr, hvr⟩ : ∃ vr, rdV (Rd.mk 1 slots key (slot + 1) 0 ptr ahead (decide ((slots : Int) ≤ slot + 1)) is loads) = vr := ⟨_, rfl⟩
  rw [hvr]
  have HV := Lib.hid hvr
  clear hvr
  unfold rdV rdC
  simp only
  go_enter Try.func61, Try.ntmps61
  go_wp2_with fail
  rw [← HV.out]
  exact rd_end rfl rfl
set_option maxRecDepth 100000 in
set_option maxHeartbeats 4000000 in
theorem goes2 {slots : Nat} {key : BitVec 64} {slot : Int} {step : Nat} {ptr ahead : BitVec 64} {done is : Bool} {loads : Nat} (w : World) (h1 : -1 ≤ slot) (h2 : slot ≤ 28) :
    Calls Try.prog 61 #[rdV (Rd.mk 2 slots key slot step ptr ahead done is loads)] w fun e w' => e = .returned (rdV (Rd.mk 2 slots key (slot - 1) 0 ptr ahead (decide (slot - 1 < 0)) is loads)) ∧ Below w.heap.size w w' := by
  obtain ⟨vr, hvr⟩ : ∃ vr, rdV (Rd.mk 2 slots key (slot - 1) 0 ptr ahead (decide (slot - 1 < 0)) is loads) = vr := ⟨_, rfl⟩
  rw [hvr]
  have HV := Lib.hid hvr
  clear hvr
  unfold rdV rdC
  simp only
  go_enter Try.func61, Try.ntmps61
  go_wp2_with fail
  rw [← HV.out]
  exact rd_end rfl rfl
theorem refGoes_any (r : Rd) (w : World) (hw : r.way = 1 ∨ r.way = 2) (h1 : -1 ≤ r.slot) (h2 : r.slot ≤ 28) :
    Calls Try.prog 61 #[rdV r] w fun e w' => e = .returned (rdV r.goes) ∧ Below w.heap.size w w' := by
  obtain ⟨way, slots, key, slot, step, ptr, ahead, done, is, loads⟩ := r
  rcases hw with hw | hw
  · obtain rfl : way = 1 := hw
    exact goes1 w h1 h2
  · obtain rfl : way = 2 := hw
    exact goes2 w h1 h2
set_option maxRecDepth 100000 in
set_option maxHeartbeats 4000000 in
theorem endedF1 {slots : Nat} {key : BitVec 64} {slot : Int} {step : Nat} {ptr ahead : BitVec 64} {done is : Bool} {loads : Nat} (w : World) (hn : ¬ ptr = 0#64) (hm : ¬ ptr = ahead) :
    Calls Try.prog 60 #[rdV (Rd.mk 1 slots key slot step ptr ahead done is loads), .bool true] w fun e w' => e = .returned (rdV (Rd.mk 1 slots key slot step ptr ahead true true loads)) ∧ Below w.heap.size w w' := by
  obtain ⟨vr, hvr⟩ : ∃ vr, rdV (Rd.mk 1 slots key slot step ptr ahead true true loads) = vr := ⟨_, rfl⟩
  rw [hvr]
  have HV := Lib.hid hvr
  clear hvr
  unfold rdV rdC
  simp only
  obtain ⟨P, hP⟩ : ∃ V : Int, (ptr.toNat : Int) = V := ⟨_, rfl⟩
  have eP : vw ptr = .int .u64 P := by rw [← hP]
  obtain ⟨Q, hQ⟩ : ∃ V : Int, (ahead.toNat : Int) = V := ⟨_, rfl⟩
  have eQ : vw ahead = .int .u64 Q := by rw [← hQ]
  have hn1 : (P != 0) = true := bne_iff_ne.2 (fun h => hn (word_eq0.1 (hP.trans h)))
  have hn2 : ¬ P = 0 := fun h => hn (word_eq0.1 (hP.trans h))
  have hn3 : (P == 0) = false := beq_eq_false_iff_ne.2 hn2
  have hm1 : (P != Q) = true := bne_iff_ne.2 (fun h => hm (word_eq.1 ((hP.trans h).trans hQ.symm)))
  have hm2 : ¬ P = Q := fun h => hm (word_eq.1 ((hP.trans h).trans hQ.symm))
  have hm3 : (P == Q) = false := beq_eq_false_iff_ne.2 hm2
  have HE_P := Lib.hid eP
  have HE_Q := Lib.hid eQ
  rw [eP, eQ]
  clear hP eP hQ eQ
  go_enter Try.func60, Try.ntmps60
  go_wp2_with fail
  rw [← HV.out]
  rw [← HE_P.out, ← HE_Q.out]
  exact rd_end rfl rfl
set_option maxRecDepth 100000 in
set_option maxHeartbeats 4000000 in
theorem endedF2 {slots : Nat} {key : BitVec 64} {slot : Int} {step : Nat} {ptr ahead : BitVec 64} {done is : Bool} {loads : Nat} (w : World) (hn : ¬ ptr = 0#64) (hm : ¬ ptr = ahead) :
    Calls Try.prog 60 #[rdV (Rd.mk 2 slots key slot step ptr ahead done is loads), .bool true] w fun e w' => e = .returned (rdV (Rd.mk 2 slots key slot step ptr ahead true true loads)) ∧ Below w.heap.size w w' := by
  obtain ⟨vr, hvr⟩ : ∃ vr, rdV (Rd.mk 2 slots key slot step ptr ahead true true loads) = vr := ⟨_, rfl⟩
  rw [hvr]
  have HV := Lib.hid hvr
  clear hvr
  unfold rdV rdC
  simp only
  obtain ⟨P, hP⟩ : ∃ V : Int, (ptr.toNat : Int) = V := ⟨_, rfl⟩
  have eP : vw ptr = .int .u64 P := by rw [← hP]
  obtain ⟨Q, hQ⟩ : ∃ V : Int, (ahead.toNat : Int) = V := ⟨_, rfl⟩
  have eQ : vw ahead = .int .u64 Q := by rw [← hQ]
  have hn1 : (P != 0) = true := bne_iff_ne.2 (fun h => hn (word_eq0.1 (hP.trans h)))
  have hn2 : ¬ P = 0 := fun h => hn (word_eq0.1 (hP.trans h))
  have hn3 : (P == 0) = false := beq_eq_false_iff_ne.2 hn2
  have hm1 : (P != Q) = true := bne_iff_ne.2 (fun h => hm (word_eq.1 ((hP.trans h).trans hQ.symm)))
  have hm2 : ¬ P = Q := fun h => hm (word_eq.1 ((hP.trans h).trans hQ.symm))
  have hm3 : (P == Q) = false := beq_eq_false_iff_ne.2 hm2
  have HE_P := Lib.hid eP
  have HE_Q := Lib.hid eQ
  rw [eP, eQ]
  clear hP eP hQ eQ
  go_enter Try.func60, Try.ntmps60
  go_wp2_with fail
  rw [← HV.out]
  rw [← HE_P.out, ← HE_Q.out]
  exact rd_end rfl rfl
set_option maxRecDepth 100000 in
set_option maxHeartbeats 4000000 in
theorem endedZ_true {slots : Nat} {key : BitVec 64} {slot : Int} {step : Nat} {ahead : BitVec 64} {done is : Bool} {loads : Nat} (w : World) :
    Calls Try.prog 60 #[rdV (Rd.mk 1 slots key slot step 0#64 ahead done is loads), .bool true] w fun e w' => e = .returned (rdV (Rd.mk 1 slots key slot step 0#64 ahead true is loads)) ∧ Below w.heap.size w w' := by
  obtain ⟨vr, hvr⟩ : ∃ vr, rdV (Rd.mk 1 slots key slot step 0#64 ahead true is loads) = vr := ⟨_, rfl⟩
  rw [hvr]
  have HV := Lib.hid hvr
  clear hvr
  unfold rdV rdC
  simp only
  have e0 : vw 0#64 = .int .u64 0 := rfl
  rw [e0]
  clear e0
  go_enter Try.func60, Try.ntmps60
  go_wp2_with fail
  rw [← HV.out]
  exact rd_end rfl rfl
set_option maxRecDepth 100000 in
set_option maxHeartbeats 4000000 in
theorem endedZ_false {slots : Nat} {key : BitVec 64} {slot : Int} {step : Nat} {ahead : BitVec 64} {done is : Bool} {loads : Nat} (w : World) :
    Calls Try.prog 60 #[rdV (Rd.mk 1 slots key slot step 0#64 ahead done is loads), .bool false] w fun e w' => e = .returned (rdV (Rd.mk 1 slots key slot step 0#64 ahead true is loads)) ∧ Below w.heap.size w w' := by
  obtain ⟨vr, hvr⟩ : ∃ vr, rdV (Rd.mk 1 slots key slot step 0#64 ahead true is loads) = vr := ⟨_, rfl⟩
  rw [hvr]
  have HV := Lib.hid hvr
  clear hvr
  unfold rdV rdC
  simp only
  have e0 : vw 0#64 = .int .u64 0 := rfl
  rw [e0]
  clear e0
  go_enter Try.func60, Try.ntmps60
  go_wp2_with fail
  rw [← HV.out]
  exact rd_end rfl rfl
set_option maxRecDepth 100000 in
set_option maxHeartbeats 4000000 in
theorem endedO1f {slots : Nat} {key : BitVec 64} {slot : Int} {step : Nat} {ptr ahead : BitVec 64} {done is : Bool} {loads : Nat} (w : World) (h1 : -1 ≤ slot) (h2 : slot ≤ 28) (hn : ¬ ptr = 0#64) :
    Calls Try.prog 60 #[rdV (Rd.mk 1 slots key slot step ptr ahead done is loads), .bool false] w fun e w' => e = .returned (rdV (Rd.mk 1 slots key slot step ptr ahead done is loads).goes) ∧ Below w.heap.size w w' := by
  obtain ⟨vr, hvr⟩ : ∃ vr, rdV (Rd.mk 1 slots key slot step ptr ahead done is loads).goes = vr := ⟨_, rfl⟩
  rw [hvr]
  have HV := Lib.hid hvr
  clear hvr
  unfold rdV rdC
  simp only
  have HG := Lib.hid (fun W => refGoes_any (Rd.mk 1 slots key slot step ptr ahead done is loads) W (.inl rfl) h1 h2)
  obtain ⟨rr, hrr⟩ : ∃ rr, (Rd.mk 1 slots key slot step ptr ahead done is loads).goes = rr := ⟨_, rfl⟩
  rw [hrr] at HG HV
  clear hrr
  unfold rdV rdC at HG
  simp only at HG
  obtain ⟨P, hP⟩ : ∃ V : Int, (ptr.toNat : Int) = V := ⟨_, rfl⟩
  have eP : vw ptr = .int .u64 P := by rw [← hP]
  have hn1 : (P != 0) = true := bne_iff_ne.2 (fun h => hn (word_eq0.1 (hP.trans h)))
  have hn2 : ¬ P = 0 := fun h => hn (word_eq0.1 (hP.trans h))
  have hn3 : (P == 0) = false := beq_eq_false_iff_ne.2 hn2
  have HE_P := Lib.hid eP
  try rw [eP] at HG
  try rw [eP]
  clear hP eP
  obtain ⟨W2, hW2⟩ : ∃ W2, (w.alloc (.cells #[.int .i64 1, .int .i64 slots, .int .i64 slot, .int .i64 step, vw key, .int .u64 P, vw ahead, .bool done, .bool is, .int .i64 loads] 29)).alloc (.cells zero10 29) = W2 := ⟨_, rfl⟩
  have hz2 : W2.heap.size = w.heap.size + 2 := by rw [← hW2]; simp
  have hb2 : Below w.heap.size w W2 := by rw [← hW2]; exact ((Below.refl _ _).alloc (Nat.le_refl _) _).alloc (by simp) _
  have hr2 : W2.heap[w.heap.size + 1]? = some (.cells zero10 29 (0, 0)) := by
    have hh := World.alloc_heap_new (w.alloc (.cells #[.int .i64 1, .int .i64 slots, .int .i64 slot, .int .i64 step, vw key, .int .u64 P, vw ahead, .bool done, .bool is, .int .i64 loads] 29)) (.cells zero10 29)
    rw [World.size_alloc] at hh
    rw [← hW2]; exact hh
  have HW2 := Lib.hid (And.intro hW2 (And.intro hz2 (And.intro hb2 hr2)))
  clear hz2 hb2 hr2 hW2
  unfold zero10 at HW2
  go_enter Try.func60, Try.ntmps60
  go_wp2_with fail
  rw [HW2.out.1]
  refine (HG.out W2).mono ?_
  rintro e w3 ⟨rfl, hb3⟩
  have hr3 := (hb3.block (w.heap.size + 1) (by rw [HW2.out.2.1]; omega)).trans HW2.out.2.2.2
  obtain ⟨c0, c1, c2, c3, c4, c5, c6, c7, c8, c9, hf⟩ := cells10 hr3
  have f0 := hf 0
  have f1 := hf 1
  have f2 := hf 2
  have f3 := hf 3
  have f4 := hf 4
  have f5 := hf 5
  have f6 := hf 6
  have f7 := hf 7
  have f8 := hf 8
  have f9 := hf 9
  have HR3 := Lib.hid (And.intro hr3 (HW2.out.2.2.1.trans (hb3.mono (by rw [HW2.out.2.1]; omega))))
  clear hf hr3 hb3
  go_wp2_with fail
  rw [← HV.out]
  obtain ⟨W, hW, h1, -, h3⟩ := sets10 HR3.out.1 (.int .i64 rr.way) (.int .i64 rr.slots) (.int .i64 rr.slot) (.int .i64 rr.step) (vw rr.key) (vw rr.ptr) (vw rr.ahead) (.bool rr.done) (.bool rr.is) (.int .i64 rr.loads)
  rw [hW]
  exact rd_end2 rfl rfl h1 (h3 _ _ (by omega) HR3.out.2)
set_option maxRecDepth 100000 in
set_option maxHeartbeats 4000000 in
theorem endedO1t {slots : Nat} {key : BitVec 64} {slot : Int} {step : Nat} {ptr ahead : BitVec 64} {done is : Bool} {loads : Nat} (w : World) (h1 : -1 ≤ slot) (h2 : slot ≤ 28) (hn : ¬ ptr = 0#64) :
    Calls Try.prog 60 #[rdV (Rd.mk 1 slots key slot step ptr ptr done is loads), .bool true] w fun e w' => e = .returned (rdV (Rd.mk 1 slots key slot step ptr ptr done is loads).goes) ∧ Below w.heap.size w w' := by
  obtain ⟨vr, hvr⟩ : ∃ vr, rdV (Rd.mk 1 slots key slot step ptr ptr done is loads).goes = vr := ⟨_, rfl⟩
  rw [hvr]
  have HV := Lib.hid hvr
  clear hvr
  unfold rdV rdC
  simp only
  have HG := Lib.hid (fun W => refGoes_any (Rd.mk 1 slots key slot step ptr ptr done is loads) W (.inl rfl) h1 h2)
  obtain ⟨rr, hrr⟩ : ∃ rr, (Rd.mk 1 slots key slot step ptr ptr done is loads).goes = rr := ⟨_, rfl⟩
  rw [hrr] at HG HV
  clear hrr
  unfold rdV rdC at HG
  simp only at HG
  obtain ⟨P, hP⟩ : ∃ V : Int, (ptr.toNat : Int) = V := ⟨_, rfl⟩
  have eP : vw ptr = .int .u64 P := by rw [← hP]
  have hn1 : (P != 0) = true := bne_iff_ne.2 (fun h => hn (word_eq0.1 (hP.trans h)))
  have hn2 : ¬ P = 0 := fun h => hn (word_eq0.1 (hP.trans h))
  have hn3 : (P == 0) = false := beq_eq_false_iff_ne.2 hn2
  have HE_P := Lib.hid eP
  try rw [eP] at HG
  try rw [eP]
  clear hP eP
  obtain ⟨W2, hW2⟩ : ∃ W2, (w.alloc (.cells #[.int .i64 1, .int .i64 slots, .int .i64 slot, .int .i64 step, vw key, .int .u64 P, .int .u64 P, .bool done, .bool is, .int .i64 loads] 29)).alloc (.cells zero10 29) = W2 := ⟨_, rfl⟩
  have hz2 : W2.heap.size = w.heap.size + 2 := by rw [← hW2]; simp
  have hb2 : Below w.heap.size w W2 := by rw [← hW2]; exact ((Below.refl _ _).alloc (Nat.le_refl _) _).alloc (by simp) _
  have hr2 : W2.heap[w.heap.size + 1]? = some (.cells zero10 29 (0, 0)) := by
    have hh := World.alloc_heap_new (w.alloc (.cells #[.int .i64 1, .int .i64 slots, .int .i64 slot, .int .i64 step, vw key, .int .u64 P, .int .u64 P, .bool done, .bool is, .int .i64 loads] 29)) (.cells zero10 29)
    rw [World.size_alloc] at hh
    rw [← hW2]; exact hh
  have HW2 := Lib.hid (And.intro hW2 (And.intro hz2 (And.intro hb2 hr2)))
  clear hz2 hb2 hr2 hW2
  unfold zero10 at HW2
  go_enter Try.func60, Try.ntmps60
  go_wp2_with fail
  rw [HW2.out.1]
  refine (HG.out W2).mono ?_
  rintro e w3 ⟨rfl, hb3⟩
  have hr3 := (hb3.block (w.heap.size + 1) (by rw [HW2.out.2.1]; omega)).trans HW2.out.2.2.2
  obtain ⟨c0, c1, c2, c3, c4, c5, c6, c7, c8, c9, hf⟩ := cells10 hr3
  have f0 := hf 0
  have f1 := hf 1
  have f2 := hf 2
  have f3 := hf 3
  have f4 := hf 4
  have f5 := hf 5
  have f6 := hf 6
  have f7 := hf 7
  have f8 := hf 8
  have f9 := hf 9
  have HR3 := Lib.hid (And.intro hr3 (HW2.out.2.2.1.trans (hb3.mono (by rw [HW2.out.2.1]; omega))))
  clear hf hr3 hb3
  go_wp2_with fail
  rw [← HV.out]
  obtain ⟨W, hW, h1, -, h3⟩ := sets10 HR3.out.1 (.int .i64 rr.way) (.int .i64 rr.slots) (.int .i64 rr.slot) (.int .i64 rr.step) (vw rr.key) (vw rr.ptr) (vw rr.ahead) (.bool rr.done) (.bool rr.is) (.int .i64 rr.loads)
  rw [hW]
  exact rd_end2 rfl rfl h1 (h3 _ _ (by omega) HR3.out.2)
set_option maxRecDepth 100000 in
set_option maxHeartbeats 4000000 in
theorem endedO2f {slots : Nat} {key : BitVec 64} {slot : Int} {step : Nat} {ptr ahead : BitVec 64} {done is : Bool} {loads : Nat} (w : World) (h1 : -1 ≤ slot) (h2 : slot ≤ 28) :
    Calls Try.prog 60 #[rdV (Rd.mk 2 slots key slot step ptr ahead done is loads), .bool false] w fun e w' => e = .returned (rdV (Rd.mk 2 slots key slot step ptr ahead done is loads).goes) ∧ Below w.heap.size w w' := by
  obtain ⟨vr, hvr⟩ : ∃ vr, rdV (Rd.mk 2 slots key slot step ptr ahead done is loads).goes = vr := ⟨_, rfl⟩
  rw [hvr]
  have HV := Lib.hid hvr
  clear hvr
  unfold rdV rdC
  simp only
  have HG := Lib.hid (fun W => refGoes_any (Rd.mk 2 slots key slot step ptr ahead done is loads) W (.inr rfl) h1 h2)
  obtain ⟨rr, hrr⟩ : ∃ rr, (Rd.mk 2 slots key slot step ptr ahead done is loads).goes = rr := ⟨_, rfl⟩
  rw [hrr] at HG HV
  clear hrr
  unfold rdV rdC at HG
  simp only at HG
  obtain ⟨W2, hW2⟩ : ∃ W2, (w.alloc (.cells #[.int .i64 2, .int .i64 slots, .int .i64 slot, .int .i64 step, vw key, vw ptr, vw ahead, .bool done, .bool is, .int .i64 loads] 29)).alloc (.cells zero10 29) = W2 := ⟨_, rfl⟩
  have hz2 : W2.heap.size = w.heap.size + 2 := by rw [← hW2]; simp
  have hb2 : Below w.heap.size w W2 := by rw [← hW2]; exact ((Below.refl _ _).alloc (Nat.le_refl _) _).alloc (by simp) _
  have hr2 : W2.heap[w.heap.size + 1]? = some (.cells zero10 29 (0, 0)) := by
    have hh := World.alloc_heap_new (w.alloc (.cells #[.int .i64 2, .int .i64 slots, .int .i64 slot, .int .i64 step, vw key, vw ptr, vw ahead, .bool done, .bool is, .int .i64 loads] 29)) (.cells zero10 29)
    rw [World.size_alloc] at hh
    rw [← hW2]; exact hh
  have HW2 := Lib.hid (And.intro hW2 (And.intro hz2 (And.intro hb2 hr2)))
  clear hz2 hb2 hr2 hW2
  unfold zero10 at HW2
  go_enter Try.func60, Try.ntmps60
  go_wp2_with fail
  rw [HW2.out.1]
  refine (HG.out W2).mono ?_
  rintro e w3 ⟨rfl, hb3⟩
  have hr3 := (hb3.block (w.heap.size + 1) (by rw [HW2.out.2.1]; omega)).trans HW2.out.2.2.2
  obtain ⟨c0, c1, c2, c3, c4, c5, c6, c7, c8, c9, hf⟩ := cells10 hr3
  have f0 := hf 0
  have f1 := hf 1
  have f2 := hf 2
  have f3 := hf 3
  have f4 := hf 4
  have f5 := hf 5
  have f6 := hf 6
  have f7 := hf 7
  have f8 := hf 8
  have f9 := hf 9
  have HR3 := Lib.hid (And.intro hr3 (HW2.out.2.2.1.trans (hb3.mono (by rw [HW2.out.2.1]; omega))))
  clear hf hr3 hb3
  go_wp2_with fail
  rw [← HV.out]
  obtain ⟨W, hW, h1, -, h3⟩ := sets10 HR3.out.1 (.int .i64 rr.way) (.int .i64 rr.slots) (.int .i64 rr.slot) (.int .i64 rr.step) (vw rr.key) (vw rr.ptr) (vw rr.ahead) (.bool rr.done) (.bool rr.is) (.int .i64 rr.loads)
  rw [hW]
  exact rd_end2 rfl rfl h1 (h3 _ _ (by omega) HR3.out.2)
set_option maxRecDepth 100000 in
set_option maxHeartbeats 4000000 in
theorem endedO2z {slots : Nat} {key : BitVec 64} {slot : Int} {step : Nat} {ptr ahead : BitVec 64} {done is : Bool} {loads : Nat} (w : World) (h1 : -1 ≤ slot) (h2 : slot ≤ 28) :
    Calls Try.prog 60 #[rdV (Rd.mk 2 slots key slot step 0#64 ahead done is loads), .bool true] w fun e w' => e = .returned (rdV (Rd.mk 2 slots key slot step 0#64 ahead done is loads).goes) ∧ Below w.heap.size w w' := by
  obtain ⟨vr, hvr⟩ : ∃ vr, rdV (Rd.mk 2 slots key slot step 0#64 ahead done is loads).goes = vr := ⟨_, rfl⟩
  rw [hvr]
  have HV := Lib.hid hvr
  clear hvr
  unfold rdV rdC
  simp only
  have HG := Lib.hid (fun W => refGoes_any (Rd.mk 2 slots key slot step 0#64 ahead done is loads) W (.inr rfl) h1 h2)
  obtain ⟨rr, hrr⟩ : ∃ rr, (Rd.mk 2 slots key slot step 0#64 ahead done is loads).goes = rr := ⟨_, rfl⟩
  rw [hrr] at HG HV
  clear hrr
  unfold rdV rdC at HG
  simp only at HG
  have e0 : vw 0#64 = .int .u64 0 := rfl
  rw [e0] at HG ⊢
  clear e0
  obtain ⟨W2, hW2⟩ : ∃ W2, (w.alloc (.cells #[.int .i64 2, .int .i64 slots, .int .i64 slot, .int .i64 step, vw key, .int .u64 0, vw ahead, .bool done, .bool is, .int .i64 loads] 29)).alloc (.cells zero10 29) = W2 := ⟨_, rfl⟩
  have hz2 : W2.heap.size = w.heap.size + 2 := by rw [← hW2]; simp
  have hb2 : Below w.heap.size w W2 := by rw [← hW2]; exact ((Below.refl _ _).alloc (Nat.le_refl _) _).alloc (by simp) _
  have hr2 : W2.heap[w.heap.size + 1]? = some (.cells zero10 29 (0, 0)) := by
    have hh := World.alloc_heap_new (w.alloc (.cells #[.int .i64 2, .int .i64 slots, .int .i64 slot, .int .i64 step, vw key, .int .u64 0, vw ahead, .bool done, .bool is, .int .i64 loads] 29)) (.cells zero10 29)
    rw [World.size_alloc] at hh
    rw [← hW2]; exact hh
  have HW2 := Lib.hid (And.intro hW2 (And.intro hz2 (And.intro hb2 hr2)))
  clear hz2 hb2 hr2 hW2
  unfold zero10 at HW2
  go_enter Try.func60, Try.ntmps60
  go_wp2_with fail
  rw [HW2.out.1]
  refine (HG.out W2).mono ?_
  rintro e w3 ⟨rfl, hb3⟩
  have hr3 := (hb3.block (w.heap.size + 1) (by rw [HW2.out.2.1]; omega)).trans HW2.out.2.2.2
  obtain ⟨c0, c1, c2, c3, c4, c5, c6, c7, c8, c9, hf⟩ := cells10 hr3
  have f0 := hf 0
  have f1 := hf 1
  have f2 := hf 2
  have f3 := hf 3
  have f4 := hf 4
  have f5 := hf 5
  have f6 := hf 6
  have f7 := hf 7
  have f8 := hf 8
  have f9 := hf 9
  have HR3 := Lib.hid (And.intro hr3 (HW2.out.2.2.1.trans (hb3.mono (by rw [HW2.out.2.1]; omega))))
  clear hf hr3 hb3
  go_wp2_with fail
  rw [← HV.out]
  obtain ⟨W, hW, h1, -, h3⟩ := sets10 HR3.out.1 (.int .i64 rr.way) (.int .i64 rr.slots) (.int .i64 rr.slot) (.int .i64 rr.step) (vw rr.key) (vw rr.ptr) (vw rr.ahead) (.bool rr.done) (.bool rr.is) (.int .i64 rr.loads)
  rw [hW]
  exact rd_end2 rfl rfl h1 (h3 _ _ (by omega) HR3.out.2)
set_option maxRecDepth 100000 in
set_option maxHeartbeats 4000000 in
theorem endedO2t {slots : Nat} {key : BitVec 64} {slot : Int} {step : Nat} {ptr ahead : BitVec 64} {done is : Bool} {loads : Nat} (w : World) (h1 : -1 ≤ slot) (h2 : slot ≤ 28) (hn : ¬ ptr = 0#64) :
    Calls Try.prog 60 #[rdV (Rd.mk 2 slots key slot step ptr ptr done is loads), .bool true] w fun e w' => e = .returned (rdV (Rd.mk 2 slots key slot step ptr ptr done is loads).goes) ∧ Below w.heap.size w w' := by
  obtain ⟨vr, hvr⟩ : ∃ vr, rdV (Rd.mk 2 slots key slot step ptr ptr done is loads).goes = vr := ⟨_, rfl⟩
  rw [hvr]
  have HV := Lib.hid hvr
  clear hvr
  unfold rdV rdC
  simp only
  have HG := Lib.hid (fun W => refGoes_any (Rd.mk 2 slots key slot step ptr ptr done is loads) W (.inr rfl) h1 h2)
  obtain ⟨rr, hrr⟩ : ∃ rr, (Rd.mk 2 slots key slot step ptr ptr done is loads).goes = rr := ⟨_, rfl⟩
  rw [hrr] at HG HV
  clear hrr
  unfold rdV rdC at HG
  simp only at HG
  obtain ⟨P, hP⟩ : ∃ V : Int, (ptr.toNat : Int) = V := ⟨_, rfl⟩
  have eP : vw ptr = .int .u64 P := by rw [← hP]
  have hn1 : (P != 0) = true := bne_iff_ne.2 (fun h => hn (word_eq0.1 (hP.trans h)))
  have hn2 : ¬ P = 0 := fun h => hn (word_eq0.1 (hP.trans h))
  have hn3 : (P == 0) = false := beq_eq_false_iff_ne.2 hn2
  have HE_P := Lib.hid eP
  try rw [eP] at HG
  try rw [eP]
  clear hP eP
  obtain ⟨W2, hW2⟩ : ∃ W2, (w.alloc (.cells #[.int .i64 2, .int .i64 slots, .int .i64 slot, .int .i64 step, vw key, .int .u64 P, .int .u64 P, .bool done, .bool is, .int .i64 loads] 29)).alloc (.cells zero10 29) = W2 := ⟨_, rfl⟩
  have hz2 : W2.heap.size = w.heap.size + 2 := by rw [← hW2]; simp
  have hb2 : Below w.heap.size w W2 := by rw [← hW2]; exact ((Below.refl _ _).alloc (Nat.le_refl _) _).alloc (by simp) _
  have hr2 : W2.heap[w.heap.size + 1]? = some (.cells zero10 29 (0, 0)) := by
    have hh := World.alloc_heap_new (w.alloc (.cells #[.int .i64 2, .int .i64 slots, .int .i64 slot, .int .i64 step, vw key, .int .u64 P, .int .u64 P, .bool done, .bool is, .int .i64 loads] 29)) (.cells zero10 29)
    rw [World.size_alloc] at hh
    rw [← hW2]; exact hh
  have HW2 := Lib.hid (And.intro hW2 (And.intro hz2 (And.intro hb2 hr2)))
  clear hz2 hb2 hr2 hW2
  unfold zero10 at HW2
  go_enter Try.func60, Try.ntmps60
  go_wp2_with fail
  rw [HW2.out.1]
  refine (HG.out W2).mono ?_
  rintro e w3 ⟨rfl, hb3⟩
  have hr3 := (hb3.block (w.heap.size + 1) (by rw [HW2.out.2.1]; omega)).trans HW2.out.2.2.2
  obtain ⟨c0, c1, c2, c3, c4, c5, c6, c7, c8, c9, hf⟩ := cells10 hr3
  have f0 := hf 0
  have f1 := hf 1
  have f2 := hf 2
  have f3 := hf 3
  have f4 := hf 4
  have f5 := hf 5
  have f6 := hf 6
  have f7 := hf 7
  have f8 := hf 8
  have f9 := hf 9
  have HR3 := Lib.hid (And.intro hr3 (HW2.out.2.2.1.trans (hb3.mono (by rw [HW2.out.2.1]; omega))))
  clear hf hr3 hb3
  go_wp2_with fail
  rw [← HV.out]
  obtain ⟨W, hW, h1, -, h3⟩ := sets10 HR3.out.1 (.int .i64 rr.way) (.int .i64 rr.slots) (.int .i64 rr.slot) (.int .i64 rr.step) (vw rr.key) (vw rr.ptr) (vw rr.ahead) (.bool rr.done) (.bool rr.is) (.int .i64 rr.loads)
  rw [hW]
  exact rd_end2 rfl rfl h1 (h3 _ _ (by omega) HR3.out.2)
theorem refEnded_any (r : Rd) (same : Bool) (w : World) (hw : r.way = 1 ∨ r.way = 2) (h1 : -1 ≤ r.slot) (h2 : r.slot ≤ 28) :
    Calls Try.prog 60 #[rdV r, .bool same] w fun e w' => e = .returned (rdV (r.ended same)) ∧ Below w.heap.size w w' := by
  obtain ⟨way, slots, key, slot, step, ptr, ahead, done, is, loads⟩ := r
  simp only at hw h1 h2
  have eF : ∀ way, same = true → ¬ ptr = 0#64 → ¬ ptr = ahead → (Rd.mk way slots key slot step ptr ahead done is loads).ended same = Rd.mk way slots key slot step ptr ahead true true loads := fun way h1 h2 h3 => by
    unfold Rd.ended; rw [if_pos ⟨h1, h2, h3⟩]
  have eO : ∀ way, ¬ (same = true ∧ ¬ ptr = 0#64 ∧ ¬ ptr = ahead) → (Rd.mk way slots key slot step ptr ahead done is loads).ended same = if way = 1 ∧ ptr = 0#64 then Rd.mk way slots key slot step ptr ahead true is loads else (Rd.mk way slots key slot step ptr ahead done is loads).goes := fun way h => by
    unfold Rd.ended; rw [if_neg h]
  by_cases hp : ptr = 0#64
  · rcases hw with rfl | rfl
    · rw [eO 1 (fun h => h.2.1 hp), if_pos ⟨rfl, hp⟩]
      subst hp
      cases same
      · exact endedZ_false w
      · exact endedZ_true w
    · rw [eO 2 (fun h => h.2.1 hp), if_neg (fun h => absurd h.1 (by decide))]
      subst hp
      cases same
      · exact endedO2f w h1 h2
      · exact endedO2z (ptr := 0#64) w h1 h2
  · cases same
    · rw [eO way (fun h => Bool.noConfusion h.1), if_neg (fun h => hp h.2)]
      rcases hw with rfl | rfl
      · exact endedO1f w h1 h2 hp
      · exact endedO2f w h1 h2
    · by_cases ha : ptr = ahead
      · rw [eO way (fun h => h.2.2 ha), if_neg (fun h => hp h.2)]
        subst ha
        rcases hw with rfl | rfl
        · exact endedO1t (ahead := ptr) w h1 h2 hp
        · exact endedO2t (ahead := ptr) w h1 h2 hp
      · rw [eF way rfl hp ha]
        rcases hw with rfl | rfl
        · exact endedF1 w hp ha
        · exact endedF2 w hp ha
set_option maxRecDepth 100000 in
set_option maxHeartbeats 4000000 in
theorem give10e {slots : Nat} {slot : Int} {ptr ahead : BitVec 64} {is : Bool} {loads : Nat} (v : BitVec 64) (w : World) (hl : loads ≤ 1000) :
    Calls Try.prog 20 #[rdV (Rd.mk 1 slots v slot 0 ptr ahead false is loads), vw v] w fun e w' => e = .returned (rdV (Rd.mk 1 slots v slot 1 ptr ahead false is (loads + 1))) ∧ Below w.heap.size w w' := by
  obtain ⟨vr, hvr⟩ : ∃ vr, rdV (Rd.mk 1 slots v slot 1 ptr ahead false is (loads + 1)) = vr := ⟨_, rfl⟩
  rw [hvr]
  have HV := Lib.hid hvr
  clear hvr
  unfold rdV rdC
  simp only
  have hwl : IntKind.i64.wrap ((loads : Int) + 1) = (loads : Int) + 1 := by rw [IntKind.wrap_i64]; omega
  have hcl : ((loads + 1 : Nat) : Int) = (loads : Int) + 1 := by omega
  obtain ⟨V, hV⟩ : ∃ V : Int, (v.toNat : Int) = V := ⟨_, rfl⟩
  have eV : vw v = .int .u64 V := by rw [← hV]
  have HE_V := Lib.hid eV
  rw [eV]
  clear hV eV
  go_enter Try.func20, Try.ntmps20
  go_wp2_with fail
  rw [← HV.out]
  rw [← HE_V.out]
  exact rd_end rfl rfl
set_option maxRecDepth 100000 in
set_option maxHeartbeats 4000000 in
theorem give10n {slots : Nat} {key : BitVec 64} {slot : Int} {ptr ahead : BitVec 64} {is : Bool} {loads : Nat} (v : BitVec 64) (w : World) (hl : loads ≤ 1000) (hn : ¬ v = key) :
    Calls Try.prog 20 #[rdV (Rd.mk 1 slots key slot 0 ptr ahead false is loads), vw v] w fun e w' => e = .returned (rdV (Rd.mk 1 slots key slot 4 ptr ahead false is (loads + 1))) ∧ Below w.heap.size w w' := by
  obtain ⟨vr, hvr⟩ : ∃ vr, rdV (Rd.mk 1 slots key slot 4 ptr ahead false is (loads + 1)) = vr := ⟨_, rfl⟩
  rw [hvr]
  have HV := Lib.hid hvr
  clear hvr
  unfold rdV rdC
  simp only
  have hwl : IntKind.i64.wrap ((loads : Int) + 1) = (loads : Int) + 1 := by rw [IntKind.wrap_i64]; omega
  have hcl : ((loads + 1 : Nat) : Int) = (loads : Int) + 1 := by omega
  obtain ⟨V, hV⟩ : ∃ V : Int, (v.toNat : Int) = V := ⟨_, rfl⟩
  have eV : vw v = .int .u64 V := by rw [← hV]
  obtain ⟨K, hK⟩ : ∃ V : Int, (key.toNat : Int) = V := ⟨_, rfl⟩
  have eK : vw key = .int .u64 K := by rw [← hK]
  have hn1 : (V != K) = true := bne_iff_ne.2 (fun h => hn (word_eq.1 ((hV.trans h).trans hK.symm)))
  have hn2 : ¬ V = K := fun h => hn (word_eq.1 ((hV.trans h).trans hK.symm))
  have hn3 : (V == K) = false := beq_eq_false_iff_ne.2 hn2
  have HE_V := Lib.hid eV
  have HE_K := Lib.hid eK
  rw [eV, eK]
  clear hV eV hK eK
  go_enter Try.func20, Try.ntmps20
  go_wp2_with fail
  rw [← HV.out]
  rw [← HE_V.out, ← HE_K.out]
  exact rd_end rfl rfl
set_option maxRecDepth 100000 in
set_option maxHeartbeats 4000000 in
theorem give11 {slots : Nat} {key : BitVec 64} {slot : Int} {ptr ahead : BitVec 64} {is : Bool} {loads : Nat} (v : BitVec 64) (w : World) (hl : loads ≤ 1000) :
    Calls Try.prog 20 #[rdV (Rd.mk 1 slots key slot 1 ptr ahead false is loads), vw v] w fun e w' => e = .returned (rdV (Rd.mk 1 slots key slot 2 ptr v false is (loads + 1))) ∧ Below w.heap.size w w' := by
  obtain ⟨vr, hvr⟩ : ∃ vr, rdV (Rd.mk 1 slots key slot 2 ptr v false is (loads + 1)) = vr := ⟨_, rfl⟩
  rw [hvr]
  have HV := Lib.hid hvr
  clear hvr
  unfold rdV rdC
  simp only
  have hwl : IntKind.i64.wrap ((loads : Int) + 1) = (loads : Int) + 1 := by rw [IntKind.wrap_i64]; omega
  have hcl : ((loads + 1 : Nat) : Int) = (loads : Int) + 1 := by omega
  go_enter Try.func20, Try.ntmps20
  go_wp2_with fail
  rw [← HV.out]
  exact rd_end rfl rfl
set_option maxRecDepth 100000 in
set_option maxHeartbeats 4000000 in
theorem give12 {slots : Nat} {key : BitVec 64} {slot : Int} {ptr ahead : BitVec 64} {is : Bool} {loads : Nat} (v : BitVec 64) (w : World) (hl : loads ≤ 1000) :
    Calls Try.prog 20 #[rdV (Rd.mk 1 slots key slot 2 ptr ahead false is loads), vw v] w fun e w' => e = .returned (rdV (Rd.mk 1 slots key slot 3 v ahead false is (loads + 1))) ∧ Below w.heap.size w w' := by
  obtain ⟨vr, hvr⟩ : ∃ vr, rdV (Rd.mk 1 slots key slot 3 v ahead false is (loads + 1)) = vr := ⟨_, rfl⟩
  rw [hvr]
  have HV := Lib.hid hvr
  clear hvr
  unfold rdV rdC
  simp only
  have hwl : IntKind.i64.wrap ((loads : Int) + 1) = (loads : Int) + 1 := by rw [IntKind.wrap_i64]; omega
  have hcl : ((loads + 1 : Nat) : Int) = (loads : Int) + 1 := by omega
  go_enter Try.func20, Try.ntmps20
  go_wp2_with fail
  rw [← HV.out]
  exact rd_end rfl rfl
set_option maxRecDepth 100000 in
set_option maxHeartbeats 4000000 in
theorem give20e {slots : Nat} {slot : Int} {ptr ahead : BitVec 64} {is : Bool} {loads : Nat} (v : BitVec 64) (w : World) (hl : loads ≤ 1000) :
    Calls Try.prog 20 #[rdV (Rd.mk 2 slots v slot 0 ptr ahead false is loads), vw v] w fun e w' => e = .returned (rdV (Rd.mk 2 slots v slot 1 ptr ahead false is (loads + 1))) ∧ Below w.heap.size w w' := by
  obtain ⟨vr, hvr⟩ : ∃ vr, rdV (Rd.mk 2 slots v slot 1 ptr ahead false is (loads + 1)) = vr := ⟨_, rfl⟩
  rw [hvr]
  have HV := Lib.hid hvr
  clear hvr
  unfold rdV rdC
  simp only
  have hwl : IntKind.i64.wrap ((loads : Int) + 1) = (loads : Int) + 1 := by rw [IntKind.wrap_i64]; omega
  have hcl : ((loads + 1 : Nat) : Int) = (loads : Int) + 1 := by omega
  obtain ⟨V, hV⟩ : ∃ V : Int, (v.toNat : Int) = V := ⟨_, rfl⟩
  have eV : vw v = .int .u64 V := by rw [← hV]
  have HE_V := Lib.hid eV
  rw [eV]
  clear hV eV
  go_enter Try.func20, Try.ntmps20
  go_wp2_with fail
  rw [← HV.out]
  rw [← HE_V.out]
  exact rd_end rfl rfl
set_option maxRecDepth 100000 in
set_option maxHeartbeats 4000000 in
theorem give21n {slots : Nat} {key : BitVec 64} {slot : Int} {ptr ahead : BitVec 64} {is : Bool} {loads : Nat} (v : BitVec 64) (w : World) (hl : loads ≤ 1000) (hn : ¬ v = 0#64) :
    Calls Try.prog 20 #[rdV (Rd.mk 2 slots key slot 1 ptr ahead false is loads), vw v] w fun e w' => e = .returned (rdV (Rd.mk 2 slots key slot 2 v ahead false is (loads + 1))) ∧ Below w.heap.size w w' := by
  obtain ⟨vr, hvr⟩ : ∃ vr, rdV (Rd.mk 2 slots key slot 2 v ahead false is (loads + 1)) = vr := ⟨_, rfl⟩
  rw [hvr]
  have HV := Lib.hid hvr
  clear hvr
  unfold rdV rdC
  simp only
  have hwl : IntKind.i64.wrap ((loads : Int) + 1) = (loads : Int) + 1 := by rw [IntKind.wrap_i64]; omega
  have hcl : ((loads + 1 : Nat) : Int) = (loads : Int) + 1 := by omega
  obtain ⟨V, hV⟩ : ∃ V : Int, (v.toNat : Int) = V := ⟨_, rfl⟩
  have eV : vw v = .int .u64 V := by rw [← hV]
  have hn1 : (V != 0) = true := bne_iff_ne.2 (fun h => hn (word_eq0.1 (hV.trans h)))
  have hn2 : ¬ V = 0 := fun h => hn (word_eq0.1 (hV.trans h))
  have hn3 : (V == 0) = false := beq_eq_false_iff_ne.2 hn2
  have HE_V := Lib.hid eV
  rw [eV]
  clear hV eV
  go_enter Try.func20, Try.ntmps20
  go_wp2_with fail
  rw [← HV.out]
  rw [← HE_V.out]
  exact rd_end rfl rfl
set_option maxRecDepth 100000 in
set_option maxHeartbeats 4000000 in
theorem give22 {slots : Nat} {key : BitVec 64} {slot : Int} {ptr ahead : BitVec 64} {is : Bool} {loads : Nat} (v : BitVec 64) (w : World) (hl : loads ≤ 1000) :
    Calls Try.prog 20 #[rdV (Rd.mk 2 slots key slot 2 ptr ahead false is loads), vw v] w fun e w' => e = .returned (rdV (Rd.mk 2 slots key slot 3 ptr v false is (loads + 1))) ∧ Below w.heap.size w w' := by
  obtain ⟨vr, hvr⟩ : ∃ vr, rdV (Rd.mk 2 slots key slot 3 ptr v false is (loads + 1)) = vr := ⟨_, rfl⟩
  rw [hvr]
  have HV := Lib.hid hvr
  clear hvr
  unfold rdV rdC
  simp only
  have hwl : IntKind.i64.wrap ((loads : Int) + 1) = (loads : Int) + 1 := by rw [IntKind.wrap_i64]; omega
  have hcl : ((loads + 1 : Nat) : Int) = (loads : Int) + 1 := by omega
  go_enter Try.func20, Try.ntmps20
  go_wp2_with fail
  rw [← HV.out]
  exact rd_end rfl rfl
set_option maxRecDepth 100000 in
set_option maxHeartbeats 4000000 in
theorem give13e {slots : Nat} {slot : Int} {ptr ahead : BitVec 64} {is : Bool} {loads : Nat} (v : BitVec 64) (w : World) (hl : loads ≤ 1000) (h1 : -1 ≤ slot) (h2 : slot ≤ 28) :
    Calls Try.prog 20 #[rdV (Rd.mk 1 slots v slot 3 ptr ahead false is loads), vw v] w fun e w' => e = .returned (rdV ((Rd.mk 1 slots v slot 3 ptr ahead false is (loads + 1)).ended true)) ∧ Below w.heap.size w w' := by
  obtain ⟨vr, hvr⟩ : ∃ vr, rdV ((Rd.mk 1 slots v slot 3 ptr ahead false is (loads + 1)).ended true) = vr := ⟨_, rfl⟩
  rw [hvr]
  have HV := Lib.hid hvr
  clear hvr
  unfold rdV rdC
  simp only
  have hwl : IntKind.i64.wrap ((loads : Int) + 1) = (loads : Int) + 1 := by rw [IntKind.wrap_i64]; omega
  have hcl : ((loads + 1 : Nat) : Int) = (loads : Int) + 1 := by omega
  have HG := Lib.hid (fun W => refEnded_any (Rd.mk 1 slots v slot 3 ptr ahead false is (loads + 1)) true W (.inl rfl) h1 h2)
  obtain ⟨rr, hrr⟩ : ∃ rr, (Rd.mk 1 slots v slot 3 ptr ahead false is (loads + 1)).ended true = rr := ⟨_, rfl⟩
  rw [hrr] at HG HV
  clear hrr
  unfold rdV rdC at HG
  simp only at HG
  rw [hcl] at HG
  clear hcl
  obtain ⟨V, hV⟩ : ∃ V : Int, (v.toNat : Int) = V := ⟨_, rfl⟩
  have eV : vw v = .int .u64 V := by rw [← hV]
  have HE_V := Lib.hid eV
  try rw [eV] at HG
  try rw [eV]
  clear hV eV
  obtain ⟨W2, hW2⟩ : ∃ W2, (w.alloc (.cells #[.int .i64 1, .int .i64 slots, .int .i64 slot, .int .i64 3, .int .u64 V, vw ptr, vw ahead, .bool false, .bool is, .int .i64 ((loads : Int) + 1)] 29)).alloc (.cells zero10 29) = W2 := ⟨_, rfl⟩
  have hz2 : W2.heap.size = w.heap.size + 2 := by rw [← hW2]; simp
  have hb2 : Below w.heap.size w W2 := by rw [← hW2]; exact ((Below.refl _ _).alloc (Nat.le_refl _) _).alloc (by simp) _
  have hr2 : W2.heap[w.heap.size + 1]? = some (.cells zero10 29 (0, 0)) := by
    have hh := World.alloc_heap_new (w.alloc (.cells #[.int .i64 1, .int .i64 slots, .int .i64 slot, .int .i64 3, .int .u64 V, vw ptr, vw ahead, .bool false, .bool is, .int .i64 ((loads : Int) + 1)] 29)) (.cells zero10 29)
    rw [World.size_alloc] at hh
    rw [← hW2]; exact hh
  have HW2 := Lib.hid (And.intro hW2 (And.intro hz2 (And.intro hb2 hr2)))
  clear hz2 hb2 hr2 hW2
  unfold zero10 at HW2
  go_enter Try.func20, Try.ntmps20
  go_wp2_with fail
  rw [HW2.out.1]
  refine (HG.out W2).mono ?_
  rintro e w3 ⟨rfl, hb3⟩
  have hr3 := (hb3.block (w.heap.size + 1) (by rw [HW2.out.2.1]; omega)).trans HW2.out.2.2.2
  obtain ⟨c0, c1, c2, c3, c4, c5, c6, c7, c8, c9, hf⟩ := cells10 hr3
  have f0 := hf 0
  have f1 := hf 1
  have f2 := hf 2
  have f3 := hf 3
  have f4 := hf 4
  have f5 := hf 5
  have f6 := hf 6
  have f7 := hf 7
  have f8 := hf 8
  have f9 := hf 9
  have HR3 := Lib.hid (And.intro hr3 (HW2.out.2.2.1.trans (hb3.mono (by rw [HW2.out.2.1]; omega))))
  clear hf hr3 hb3
  go_wp2_with fail
  rw [← HV.out]
  obtain ⟨W, hW, h1, -, h3⟩ := sets10 HR3.out.1 (.int .i64 rr.way) (.int .i64 rr.slots) (.int .i64 rr.slot) (.int .i64 rr.step) (vw rr.key) (vw rr.ptr) (vw rr.ahead) (.bool rr.done) (.bool rr.is) (.int .i64 rr.loads)
  rw [hW]
  exact rd_end2 rfl rfl h1 (h3 _ _ (by omega) HR3.out.2)
set_option maxRecDepth 100000 in
set_option maxHeartbeats 4000000 in
theorem give13n {slots : Nat} {key : BitVec 64} {slot : Int} {ptr ahead : BitVec 64} {is : Bool} {loads : Nat} (v : BitVec 64) (w : World) (hl : loads ≤ 1000) (h1 : -1 ≤ slot) (h2 : slot ≤ 28) (hn : ¬ v = key) :
    Calls Try.prog 20 #[rdV (Rd.mk 1 slots key slot 3 ptr ahead false is loads), vw v] w fun e w' => e = .returned (rdV ((Rd.mk 1 slots key slot 3 ptr ahead false is (loads + 1)).ended false)) ∧ Below w.heap.size w w' := by
  obtain ⟨vr, hvr⟩ : ∃ vr, rdV ((Rd.mk 1 slots key slot 3 ptr ahead false is (loads + 1)).ended false) = vr := ⟨_, rfl⟩
  rw [hvr]
  have HV := Lib.hid hvr
  clear hvr
  unfold rdV rdC
  simp only
  have hwl : IntKind.i64.wrap ((loads : Int) + 1) = (loads : Int) + 1 := by rw [IntKind.wrap_i64]; omega
  have hcl : ((loads + 1 : Nat) : Int) = (loads : Int) + 1 := by omega
  have HG := Lib.hid (fun W => refEnded_any (Rd.mk 1 slots key slot 3 ptr ahead false is (loads + 1)) false W (.inl rfl) h1 h2)
  obtain ⟨rr, hrr⟩ : ∃ rr, (Rd.mk 1 slots key slot 3 ptr ahead false is (loads + 1)).ended false = rr := ⟨_, rfl⟩
  rw [hrr] at HG HV
  clear hrr
  unfold rdV rdC at HG
  simp only at HG
  rw [hcl] at HG
  clear hcl
  obtain ⟨V, hV⟩ : ∃ V : Int, (v.toNat : Int) = V := ⟨_, rfl⟩
  have eV : vw v = .int .u64 V := by rw [← hV]
  obtain ⟨K, hK⟩ : ∃ V : Int, (key.toNat : Int) = V := ⟨_, rfl⟩
  have eK : vw key = .int .u64 K := by rw [← hK]
  have hn1 : (V != K) = true := bne_iff_ne.2 (fun h => hn (word_eq.1 ((hV.trans h).trans hK.symm)))
  have hn2 : ¬ V = K := fun h => hn (word_eq.1 ((hV.trans h).trans hK.symm))
  have hn3 : (V == K) = false := beq_eq_false_iff_ne.2 hn2
  have HE_V := Lib.hid eV
  have HE_K := Lib.hid eK
  try rw [eV] at HG
  try rw [eV]
  try rw [eK] at HG
  try rw [eK]
  clear hV eV hK eK
  obtain ⟨W2, hW2⟩ : ∃ W2, (w.alloc (.cells #[.int .i64 1, .int .i64 slots, .int .i64 slot, .int .i64 3, .int .u64 K, vw ptr, vw ahead, .bool false, .bool is, .int .i64 ((loads : Int) + 1)] 29)).alloc (.cells zero10 29) = W2 := ⟨_, rfl⟩
  have hz2 : W2.heap.size = w.heap.size + 2 := by rw [← hW2]; simp
  have hb2 : Below w.heap.size w W2 := by rw [← hW2]; exact ((Below.refl _ _).alloc (Nat.le_refl _) _).alloc (by simp) _
  have hr2 : W2.heap[w.heap.size + 1]? = some (.cells zero10 29 (0, 0)) := by
    have hh := World.alloc_heap_new (w.alloc (.cells #[.int .i64 1, .int .i64 slots, .int .i64 slot, .int .i64 3, .int .u64 K, vw ptr, vw ahead, .bool false, .bool is, .int .i64 ((loads : Int) + 1)] 29)) (.cells zero10 29)
    rw [World.size_alloc] at hh
    rw [← hW2]; exact hh
  have HW2 := Lib.hid (And.intro hW2 (And.intro hz2 (And.intro hb2 hr2)))
  clear hz2 hb2 hr2 hW2
  unfold zero10 at HW2
  go_enter Try.func20, Try.ntmps20
  go_wp2_with fail
  rw [HW2.out.1]
  refine (HG.out W2).mono ?_
  rintro e w3 ⟨rfl, hb3⟩
  have hr3 := (hb3.block (w.heap.size + 1) (by rw [HW2.out.2.1]; omega)).trans HW2.out.2.2.2
  obtain ⟨c0, c1, c2, c3, c4, c5, c6, c7, c8, c9, hf⟩ := cells10 hr3
  have f0 := hf 0
  have f1 := hf 1
  have f2 := hf 2
  have f3 := hf 3
  have f4 := hf 4
  have f5 := hf 5
  have f6 := hf 6
  have f7 := hf 7
  have f8 := hf 8
  have f9 := hf 9
  have HR3 := Lib.hid (And.intro hr3 (HW2.out.2.2.1.trans (hb3.mono (by rw [HW2.out.2.1]; omega))))
  clear hf hr3 hb3
  go_wp2_with fail
  rw [← HV.out]
  obtain ⟨W, hW, h1, -, h3⟩ := sets10 HR3.out.1 (.int .i64 rr.way) (.int .i64 rr.slots) (.int .i64 rr.slot) (.int .i64 rr.step) (vw rr.key) (vw rr.ptr) (vw rr.ahead) (.bool rr.done) (.bool rr.is) (.int .i64 rr.loads)
  rw [hW]
  exact rd_end2 rfl rfl h1 (h3 _ _ (by omega) HR3.out.2)
set_option maxRecDepth 100000 in
set_option maxHeartbeats 4000000 in
theorem give23e {slots : Nat} {slot : Int} {ptr ahead : BitVec 64} {is : Bool} {loads : Nat} (v : BitVec 64) (w : World) (hl : loads ≤ 1000) (h1 : -1 ≤ slot) (h2 : slot ≤ 28) :
    Calls Try.prog 20 #[rdV (Rd.mk 2 slots v slot 3 ptr ahead false is loads), vw v] w fun e w' => e = .returned (rdV ((Rd.mk 2 slots v slot 3 ptr ahead false is (loads + 1)).ended true)) ∧ Below w.heap.size w w' := by
  obtain ⟨vr, hvr⟩ : ∃ vr, rdV ((Rd.mk 2 slots v slot 3 ptr ahead false is (loads + 1)).ended true) = vr := ⟨_, rfl⟩
  rw [hvr]
  have HV := Lib.hid hvr
  clear hvr
  unfold rdV rdC
  simp only
  have hwl : IntKind.i64.wrap ((loads : Int) + 1) = (loads : Int) + 1 := by rw [IntKind.wrap_i64]; omega
  have hcl : ((loads + 1 : Nat) : Int) = (loads : Int) + 1 := by omega
  have HG := Lib.hid (fun W => refEnded_any (Rd.mk 2 slots v slot 3 ptr ahead false is (loads + 1)) true W (.inr rfl) h1 h2)
  obtain ⟨rr, hrr⟩ : ∃ rr, (Rd.mk 2 slots v slot 3 ptr ahead false is (loads + 1)).ended true = rr := ⟨_, rfl⟩
  rw [hrr] at HG HV
  clear hrr
  unfold rdV rdC at HG
  simp only at HG
  rw [hcl] at HG
  clear hcl
  obtain ⟨V, hV⟩ : ∃ V : Int, (v.toNat : Int) = V := ⟨_, rfl⟩
  have eV : vw v = .int .u64 V := by rw [← hV]
  have HE_V := Lib.hid eV
  try rw [eV] at HG
  try rw [eV]
  clear hV eV
  obtain ⟨W2, hW2⟩ : ∃ W2, (w.alloc (.cells #[.int .i64 2, .int .i64 slots, .int .i64 slot, .int .i64 3, .int .u64 V, vw ptr, vw ahead, .bool false, .bool is, .int .i64 ((loads : Int) + 1)] 29)).alloc (.cells zero10 29) = W2 := ⟨_, rfl⟩
  have hz2 : W2.heap.size = w.heap.size + 2 := by rw [← hW2]; simp
  have hb2 : Below w.heap.size w W2 := by rw [← hW2]; exact ((Below.refl _ _).alloc (Nat.le_refl _) _).alloc (by simp) _
  have hr2 : W2.heap[w.heap.size + 1]? = some (.cells zero10 29 (0, 0)) := by
    have hh := World.alloc_heap_new (w.alloc (.cells #[.int .i64 2, .int .i64 slots, .int .i64 slot, .int .i64 3, .int .u64 V, vw ptr, vw ahead, .bool false, .bool is, .int .i64 ((loads : Int) + 1)] 29)) (.cells zero10 29)
    rw [World.size_alloc] at hh
    rw [← hW2]; exact hh
  have HW2 := Lib.hid (And.intro hW2 (And.intro hz2 (And.intro hb2 hr2)))
  clear hz2 hb2 hr2 hW2
  unfold zero10 at HW2
  go_enter Try.func20, Try.ntmps20
  go_wp2_with fail
  rw [HW2.out.1]
  refine (HG.out W2).mono ?_
  rintro e w3 ⟨rfl, hb3⟩
  have hr3 := (hb3.block (w.heap.size + 1) (by rw [HW2.out.2.1]; omega)).trans HW2.out.2.2.2
  obtain ⟨c0, c1, c2, c3, c4, c5, c6, c7, c8, c9, hf⟩ := cells10 hr3
  have f0 := hf 0
  have f1 := hf 1
  have f2 := hf 2
  have f3 := hf 3
  have f4 := hf 4
  have f5 := hf 5
  have f6 := hf 6
  have f7 := hf 7
  have f8 := hf 8
  have f9 := hf 9
  have HR3 := Lib.hid (And.intro hr3 (HW2.out.2.2.1.trans (hb3.mono (by rw [HW2.out.2.1]; omega))))
  clear hf hr3 hb3
  go_wp2_with fail
  rw [← HV.out]
  obtain ⟨W, hW, h1, -, h3⟩ := sets10 HR3.out.1 (.int .i64 rr.way) (.int .i64 rr.slots) (.int .i64 rr.slot) (.int .i64 rr.step) (vw rr.key) (vw rr.ptr) (vw rr.ahead) (.bool rr.done) (.bool rr.is) (.int .i64 rr.loads)
  rw [hW]
  exact rd_end2 rfl rfl h1 (h3 _ _ (by omega) HR3.out.2)
set_option maxRecDepth 100000 in
set_option maxHeartbeats 4000000 in
theorem give23n {slots : Nat} {key : BitVec 64} {slot : Int} {ptr ahead : BitVec 64} {is : Bool} {loads : Nat} (v : BitVec 64) (w : World) (hl : loads ≤ 1000) (h1 : -1 ≤ slot) (h2 : slot ≤ 28) (hn : ¬ v = key) :
    Calls Try.prog 20 #[rdV (Rd.mk 2 slots key slot 3 ptr ahead false is loads), vw v] w fun e w' => e = .returned (rdV ((Rd.mk 2 slots key slot 3 ptr ahead false is (loads + 1)).ended false)) ∧ Below w.heap.size w w' := by
  obtain ⟨vr, hvr⟩ : ∃ vr, rdV ((Rd.mk 2 slots key slot 3 ptr ahead false is (loads + 1)).ended false) = vr := ⟨_, rfl⟩
  rw [hvr]
  have HV := Lib.hid hvr
  clear hvr
  unfold rdV rdC
  simp only
  have hwl : IntKind.i64.wrap ((loads : Int) + 1) = (loads : Int) + 1 := by rw [IntKind.wrap_i64]; omega
  have hcl : ((loads + 1 : Nat) : Int) = (loads : Int) + 1 := by omega
  have HG := Lib.hid (fun W => refEnded_any (Rd.mk 2 slots key slot 3 ptr ahead false is (loads + 1)) false W (.inr rfl) h1 h2)
  obtain ⟨rr, hrr⟩ : ∃ rr, (Rd.mk 2 slots key slot 3 ptr ahead false is (loads + 1)).ended false = rr := ⟨_, rfl⟩
  rw [hrr] at HG HV
  clear hrr
  unfold rdV rdC at HG
  simp only at HG
  rw [hcl] at HG
  clear hcl
  obtain ⟨V, hV⟩ : ∃ V : Int, (v.toNat : Int) = V := ⟨_, rfl⟩
  have eV : vw v = .int .u64 V := by rw [← hV]
  obtain ⟨K, hK⟩ : ∃ V : Int, (key.toNat : Int) = V := ⟨_, rfl⟩
  have eK : vw key = .int .u64 K := by rw [← hK]
  have hn1 : (V != K) = true := bne_iff_ne.2 (fun h => hn (word_eq.1 ((hV.trans h).trans hK.symm)))
  have hn2 : ¬ V = K := fun h => hn (word_eq.1 ((hV.trans h).trans hK.symm))
  have hn3 : (V == K) = false := beq_eq_false_iff_ne.2 hn2
  have HE_V := Lib.hid eV
  have HE_K := Lib.hid eK
  try rw [eV] at HG
  try rw [eV]
  try rw [eK] at HG
  try rw [eK]
  clear hV eV hK eK
  obtain ⟨W2, hW2⟩ : ∃ W2, (w.alloc (.cells #[.int .i64 2, .int .i64 slots, .int .i64 slot, .int .i64 3, .int .u64 K, vw ptr, vw ahead, .bool false, .bool is, .int .i64 ((loads : Int) + 1)] 29)).alloc (.cells zero10 29) = W2 := ⟨_, rfl⟩
  have hz2 : W2.heap.size = w.heap.size + 2 := by rw [← hW2]; simp
  have hb2 : Below w.heap.size w W2 := by rw [← hW2]; exact ((Below.refl _ _).alloc (Nat.le_refl _) _).alloc (by simp) _
  have hr2 : W2.heap[w.heap.size + 1]? = some (.cells zero10 29 (0, 0)) := by
    have hh := World.alloc_heap_new (w.alloc (.cells #[.int .i64 2, .int .i64 slots, .int .i64 slot, .int .i64 3, .int .u64 K, vw ptr, vw ahead, .bool false, .bool is, .int .i64 ((loads : Int) + 1)] 29)) (.cells zero10 29)
    rw [World.size_alloc] at hh
    rw [← hW2]; exact hh
  have HW2 := Lib.hid (And.intro hW2 (And.intro hz2 (And.intro hb2 hr2)))
  clear hz2 hb2 hr2 hW2
  unfold zero10 at HW2
  go_enter Try.func20, Try.ntmps20
  go_wp2_with fail
  rw [HW2.out.1]
  refine (HG.out W2).mono ?_
  rintro e w3 ⟨rfl, hb3⟩
  have hr3 := (hb3.block (w.heap.size + 1) (by rw [HW2.out.2.1]; omega)).trans HW2.out.2.2.2
  obtain ⟨c0, c1, c2, c3, c4, c5, c6, c7, c8, c9, hf⟩ := cells10 hr3
  have f0 := hf 0
  have f1 := hf 1
  have f2 := hf 2
  have f3 := hf 3
  have f4 := hf 4
  have f5 := hf 5
  have f6 := hf 6
  have f7 := hf 7
  have f8 := hf 8
  have f9 := hf 9
  have HR3 := Lib.hid (And.intro hr3 (HW2.out.2.2.1.trans (hb3.mono (by rw [HW2.out.2.1]; omega))))
  clear hf hr3 hb3
  go_wp2_with fail
  rw [← HV.out]
  obtain ⟨W, hW, h1, -, h3⟩ := sets10 HR3.out.1 (.int .i64 rr.way) (.int .i64 rr.slots) (.int .i64 rr.slot) (.int .i64 rr.step) (vw rr.key) (vw rr.ptr) (vw rr.ahead) (.bool rr.done) (.bool rr.is) (.int .i64 rr.loads)
  rw [hW]
  exact rd_end2 rfl rfl h1 (h3 _ _ (by omega) HR3.out.2)
set_option maxRecDepth 100000 in
set_option maxHeartbeats 4000000 in
theorem give14 {slots : Nat} {key : BitVec 64} {slot : Int} {ptr ahead : BitVec 64} {is : Bool} {loads : Nat} (v : BitVec 64) (w : World) (hl : loads ≤ 1000) (h1 : -1 ≤ slot) (h2 : slot ≤ 28) :
    Calls Try.prog 20 #[rdV (Rd.mk 1 slots key slot 4 ptr ahead false is loads), vw v] w fun e w' => e = .returned (rdV ((Rd.mk 1 slots key slot 4 v ahead false is (loads + 1)).ended false)) ∧ Below w.heap.size w w' := by
  obtain ⟨vr, hvr⟩ : ∃ vr, rdV ((Rd.mk 1 slots key slot 4 v ahead false is (loads + 1)).ended false) = vr := ⟨_, rfl⟩
  rw [hvr]
  have HV := Lib.hid hvr
  clear hvr
  unfold rdV rdC
  simp only
  have hwl : IntKind.i64.wrap ((loads : Int) + 1) = (loads : Int) + 1 := by rw [IntKind.wrap_i64]; omega
  have hcl : ((loads + 1 : Nat) : Int) = (loads : Int) + 1 := by omega
  have HG := Lib.hid (fun W => refEnded_any (Rd.mk 1 slots key slot 4 v ahead false is (loads + 1)) false W (.inl rfl) h1 h2)
  obtain ⟨rr, hrr⟩ : ∃ rr, (Rd.mk 1 slots key slot 4 v ahead false is (loads + 1)).ended false = rr := ⟨_, rfl⟩
  rw [hrr] at HG HV
  clear hrr
  unfold rdV rdC at HG
  simp only at HG
  rw [hcl] at HG
  clear hcl
  obtain ⟨W2, hW2⟩ : ∃ W2, (w.alloc (.cells #[.int .i64 1, .int .i64 slots, .int .i64 slot, .int .i64 4, vw key, vw v, vw ahead, .bool false, .bool is, .int .i64 ((loads : Int) + 1)] 29)).alloc (.cells zero10 29) = W2 := ⟨_, rfl⟩
  have hz2 : W2.heap.size = w.heap.size + 2 := by rw [← hW2]; simp
  have hb2 : Below w.heap.size w W2 := by rw [← hW2]; exact ((Below.refl _ _).alloc (Nat.le_refl _) _).alloc (by simp) _
  have hr2 : W2.heap[w.heap.size + 1]? = some (.cells zero10 29 (0, 0)) := by
    have hh := World.alloc_heap_new (w.alloc (.cells #[.int .i64 1, .int .i64 slots, .int .i64 slot, .int .i64 4, vw key, vw v, vw ahead, .bool false, .bool is, .int .i64 ((loads : Int) + 1)] 29)) (.cells zero10 29)
    rw [World.size_alloc] at hh
    rw [← hW2]; exact hh
  have HW2 := Lib.hid (And.intro hW2 (And.intro hz2 (And.intro hb2 hr2)))
  clear hz2 hb2 hr2 hW2
  unfold zero10 at HW2
  go_enter Try.func20, Try.ntmps20
  go_wp2_with fail
  rw [HW2.out.1]
  refine (HG.out W2).mono ?_
  rintro e w3 ⟨rfl, hb3⟩
  have hr3 := (hb3.block (w.heap.size + 1) (by rw [HW2.out.2.1]; omega)).trans HW2.out.2.2.2
  obtain ⟨c0, c1, c2, c3, c4, c5, c6, c7, c8, c9, hf⟩ := cells10 hr3
  have f0 := hf 0
  have f1 := hf 1
  have f2 := hf 2
  have f3 := hf 3
  have f4 := hf 4
  have f5 := hf 5
  have f6 := hf 6
  have f7 := hf 7
  have f8 := hf 8
  have f9 := hf 9
  have HR3 := Lib.hid (And.intro hr3 (HW2.out.2.2.1.trans (hb3.mono (by rw [HW2.out.2.1]; omega))))
  clear hf hr3 hb3
  go_wp2_with fail
  rw [← HV.out]
  obtain ⟨W, hW, h1, -, h3⟩ := sets10 HR3.out.1 (.int .i64 rr.way) (.int .i64 rr.slots) (.int .i64 rr.slot) (.int .i64 rr.step) (vw rr.key) (vw rr.ptr) (vw rr.ahead) (.bool rr.done) (.bool rr.is) (.int .i64 rr.loads)
  rw [hW]
  exact rd_end2 rfl rfl h1 (h3 _ _ (by omega) HR3.out.2)
set_option maxRecDepth 100000 in
set_option maxHeartbeats 4000000 in
theorem give20n {slots : Nat} {key : BitVec 64} {slot : Int} {ptr ahead : BitVec 64} {is : Bool} {loads : Nat} (v : BitVec 64) (w : World) (hl : loads ≤ 1000) (h1 : -1 ≤ slot) (h2 : slot ≤ 28) (hn : ¬ v = key) :
    Calls Try.prog 20 #[rdV (Rd.mk 2 slots key slot 0 ptr ahead false is loads), vw v] w fun e w' => e = .returned (rdV (Rd.mk 2 slots key slot 0 ptr ahead false is (loads + 1)).goes) ∧ Below w.heap.size w w' := by
  obtain ⟨vr, hvr⟩ : ∃ vr, rdV (Rd.mk 2 slots key slot 0 ptr ahead false is (loads + 1)).goes = vr := ⟨_, rfl⟩
  rw [hvr]
  have HV := Lib.hid hvr
  clear hvr
  unfold rdV rdC
  simp only
  have hwl : IntKind.i64.wrap ((loads : Int) + 1) = (loads : Int) + 1 := by rw [IntKind.wrap_i64]; omega
  have hcl : ((loads + 1 : Nat) : Int) = (loads : Int) + 1 := by omega
  have HG := Lib.hid (fun W => refGoes_any (Rd.mk 2 slots key slot 0 ptr ahead false is (loads + 1)) W (.inr rfl) h1 h2)
  obtain ⟨rr, hrr⟩ : ∃ rr, (Rd.mk 2 slots key slot 0 ptr ahead false is (loads + 1)).goes = rr := ⟨_, rfl⟩
  rw [hrr] at HG HV
  clear hrr
  unfold rdV rdC at HG
  simp only at HG
  rw [hcl] at HG
  clear hcl
  obtain ⟨V, hV⟩ : ∃ V : Int, (v.toNat : Int) = V := ⟨_, rfl⟩
  have eV : vw v = .int .u64 V := by rw [← hV]
  obtain ⟨K, hK⟩ : ∃ V : Int, (key.toNat : Int) = V := ⟨_, rfl⟩
  have eK : vw key = .int .u64 K := by rw [← hK]
  have hn1 : (V != K) = true := bne_iff_ne.2 (fun h => hn (word_eq.1 ((hV.trans h).trans hK.symm)))
  have hn2 : ¬ V = K := fun h => hn (word_eq.1 ((hV.trans h).trans hK.symm))
  have hn3 : (V == K) = false := beq_eq_false_iff_ne.2 hn2
  have HE_V := Lib.hid eV
  have HE_K := Lib.hid eK
  try rw [eV] at HG
  try rw [eV]
  try rw [eK] at HG
  try rw [eK]
  clear hV eV hK eK
  obtain ⟨W2, hW2⟩ : ∃ W2, (w.alloc (.cells #[.int .i64 2, .int .i64 slots, .int .i64 slot, .int .i64 0, .int .u64 K, vw ptr, vw ahead, .bool false, .bool is, .int .i64 ((loads : Int) + 1)] 29)).alloc (.cells zero10 29) = W2 := ⟨_, rfl⟩
  have hz2 : W2.heap.size = w.heap.size + 2 := by rw [← hW2]; simp
  have hb2 : Below w.heap.size w W2 := by rw [← hW2]; exact ((Below.refl _ _).alloc (Nat.le_refl _) _).alloc (by simp) _
  have hr2 : W2.heap[w.heap.size + 1]? = some (.cells zero10 29 (0, 0)) := by
    have hh := World.alloc_heap_new (w.alloc (.cells #[.int .i64 2, .int .i64 slots, .int .i64 slot, .int .i64 0, .int .u64 K, vw ptr, vw ahead, .bool false, .bool is, .int .i64 ((loads : Int) + 1)] 29)) (.cells zero10 29)
    rw [World.size_alloc] at hh
    rw [← hW2]; exact hh
  have HW2 := Lib.hid (And.intro hW2 (And.intro hz2 (And.intro hb2 hr2)))
  clear hz2 hb2 hr2 hW2
  unfold zero10 at HW2
  go_enter Try.func20, Try.ntmps20
  go_wp2_with fail
  rw [HW2.out.1]
  refine (HG.out W2).mono ?_
  rintro e w3 ⟨rfl, hb3⟩
  have hr3 := (hb3.block (w.heap.size + 1) (by rw [HW2.out.2.1]; omega)).trans HW2.out.2.2.2
  obtain ⟨c0, c1, c2, c3, c4, c5, c6, c7, c8, c9, hf⟩ := cells10 hr3
  have f0 := hf 0
  have f1 := hf 1
  have f2 := hf 2
  have f3 := hf 3
  have f4 := hf 4
  have f5 := hf 5
  have f6 := hf 6
  have f7 := hf 7
  have f8 := hf 8
  have f9 := hf 9
  have HR3 := Lib.hid (And.intro hr3 (HW2.out.2.2.1.trans (hb3.mono (by rw [HW2.out.2.1]; omega))))
  clear hf hr3 hb3
  go_wp2_with fail
  rw [← HV.out]
  obtain ⟨W, hW, h1, -, h3⟩ := sets10 HR3.out.1 (.int .i64 rr.way) (.int .i64 rr.slots) (.int .i64 rr.slot) (.int .i64 rr.step) (vw rr.key) (vw rr.ptr) (vw rr.ahead) (.bool rr.done) (.bool rr.is) (.int .i64 rr.loads)
  rw [hW]
  exact rd_end2 rfl rfl h1 (h3 _ _ (by omega) HR3.out.2)
set_option maxRecDepth 100000 in
set_option maxHeartbeats 4000000 in
theorem give21z {slots : Nat} {key : BitVec 64} {slot : Int} {ptr ahead : BitVec 64} {is : Bool} {loads : Nat} (w : World) (hl : loads ≤ 1000) (h1 : -1 ≤ slot) (h2 : slot ≤ 28) :
    Calls Try.prog 20 #[rdV (Rd.mk 2 slots key slot 1 ptr ahead false is loads), vw 0#64] w fun e w' => e = .returned (rdV (Rd.mk 2 slots key slot 2 0#64 ahead false is (loads + 1)).goes) ∧ Below w.heap.size w w' := by
  obtain ⟨vr, hvr⟩ : ∃ vr, rdV (Rd.mk 2 slots key slot 2 0#64 ahead false is (loads + 1)).goes = vr := ⟨_, rfl⟩
  rw [hvr]
  have HV := Lib.hid hvr
  clear hvr
  unfold rdV rdC
  simp only
  have hwl : IntKind.i64.wrap ((loads : Int) + 1) = (loads : Int) + 1 := by rw [IntKind.wrap_i64]; omega
  have hcl : ((loads + 1 : Nat) : Int) = (loads : Int) + 1 := by omega
  have HG := Lib.hid (fun W => refGoes_any (Rd.mk 2 slots key slot 2 0#64 ahead false is (loads + 1)) W (.inr rfl) h1 h2)
  obtain ⟨rr, hrr⟩ : ∃ rr, (Rd.mk 2 slots key slot 2 0#64 ahead false is (loads + 1)).goes = rr := ⟨_, rfl⟩
  rw [hrr] at HG HV
  clear hrr
  unfold rdV rdC at HG
  simp only at HG
  rw [hcl] at HG
  clear hcl
  have e0 : vw 0#64 = .int .u64 0 := rfl
  rw [e0] at HG ⊢
  clear e0
  obtain ⟨W2, hW2⟩ : ∃ W2, (w.alloc (.cells #[.int .i64 2, .int .i64 slots, .int .i64 slot, .int .i64 2, vw key, .int .u64 0, vw ahead, .bool false, .bool is, .int .i64 ((loads : Int) + 1)] 29)).alloc (.cells zero10 29) = W2 := ⟨_, rfl⟩
  have hz2 : W2.heap.size = w.heap.size + 2 := by rw [← hW2]; simp
  have hb2 : Below w.heap.size w W2 := by rw [← hW2]; exact ((Below.refl _ _).alloc (Nat.le_refl _) _).alloc (by simp) _
  have hr2 : W2.heap[w.heap.size + 1]? = some (.cells zero10 29 (0, 0)) := by
    have hh := World.alloc_heap_new (w.alloc (.cells #[.int .i64 2, .int .i64 slots, .int .i64 slot, .int .i64 2, vw key, .int .u64 0, vw ahead, .bool false, .bool is, .int .i64 ((loads : Int) + 1)] 29)) (.cells zero10 29)
    rw [World.size_alloc] at hh
    rw [← hW2]; exact hh
  have HW2 := Lib.hid (And.intro hW2 (And.intro hz2 (And.intro hb2 hr2)))
  clear hz2 hb2 hr2 hW2
  unfold zero10 at HW2
  go_enter Try.func20, Try.ntmps20
  go_wp2_with fail
  rw [HW2.out.1]
  refine (HG.out W2).mono ?_
  rintro e w3 ⟨rfl, hb3⟩
  have hr3 := (hb3.block (w.heap.size + 1) (by rw [HW2.out.2.1]; omega)).trans HW2.out.2.2.2
  obtain ⟨c0, c1, c2, c3, c4, c5, c6, c7, c8, c9, hf⟩ := cells10 hr3
  have f0 := hf 0
  have f1 := hf 1
  have f2 := hf 2
  have f3 := hf 3
  have f4 := hf 4
  have f5 := hf 5
  have f6 := hf 6
  have f7 := hf 7
  have f8 := hf 8
  have f9 := hf 9
  have HR3 := Lib.hid (And.intro hr3 (HW2.out.2.2.1.trans (hb3.mono (by rw [HW2.out.2.1]; omega))))
  clear hf hr3 hb3
  go_wp2_with fail
  rw [← HV.out]
  obtain ⟨W, hW, h1, -, h3⟩ := sets10 HR3.out.1 (.int .i64 rr.way) (.int .i64 rr.slots) (.int .i64 rr.slot) (.int .i64 rr.step) (vw rr.key) (vw rr.ptr) (vw rr.ahead) (.bool rr.done) (.bool rr.is) (.int .i64 rr.loads)
  rw [hW]
  exact rd_end2 rfl rfl h1 (h3 _ _ (by omega) HR3.out.2)
theorem refGive_any (r : Rd) (v : BitVec 64) (w : World) (hok : OkR r) (hd : r.done = false) :
    Calls Try.prog 20 #[rdV r, vw v] w fun e w' => e = .returned (rdV (r.give v)) ∧ Below w.heap.size w w' := by
  obtain ⟨hw, _, h28, ha, hr⟩ := hok
  obtain ⟨way, slots, key, slot, step, ptr, ahead, done, is, loads⟩ := r
  simp only at hd hw h28 ha hr
  subst hd
  obtain ⟨a1, a2, a3, a4⟩ := ha rfl
  have h1 : -1 ≤ slot := by omega
  have h2 : slot ≤ 28 := by omega
  have hl : loads ≤ 1000 := by omega
  rcases hw with rfl | rfl
  · have h6 : step = 0 ∨ step = 1 ∨ step = 2 ∨ step = 3 ∨ step = 4 := by omega
    rcases h6 with rfl | rfl | rfl | rfl | rfl
    · by_cases hk : v = key
      · have e : (Rd.mk 1 slots key slot 0 ptr ahead false is loads).give v = Rd.mk 1 slots key slot 1 ptr ahead false is (loads + 1) := by simp [Rd.give, Rd.nxt, hk]
        rw [e]
        subst hk
        exact give10e v w hl
      · have e : (Rd.mk 1 slots key slot 0 ptr ahead false is loads).give v = Rd.mk 1 slots key slot 4 ptr ahead false is (loads + 1) := by simp [Rd.give, Rd.nxt, hk]
        rw [e]
        exact give10n v w hl hk
    · exact give11 v w hl
    · exact give12 v w hl
    · by_cases hk : v = key
      · have e : (Rd.mk 1 slots key slot 3 ptr ahead false is loads).give v = (Rd.mk 1 slots key slot 3 ptr ahead false is (loads + 1)).ended true := by simp [Rd.give, Rd.nxt, hk]
        rw [e]
        subst hk
        exact give13e v w hl h1 h2
      · have e : (Rd.mk 1 slots key slot 3 ptr ahead false is loads).give v = (Rd.mk 1 slots key slot 3 ptr ahead false is (loads + 1)).ended false := by simp [Rd.give, Rd.nxt, hk]
        rw [e]
        exact give13n v w hl h1 h2 hk
    · exact give14 v w hl h1 h2
  · have a4' := a4 rfl
    have h6 : step = 0 ∨ step = 1 ∨ step = 2 ∨ step = 3 := by omega
    rcases h6 with rfl | rfl | rfl | rfl
    · by_cases hk : v = key
      · have e : (Rd.mk 2 slots key slot 0 ptr ahead false is loads).give v = Rd.mk 2 slots key slot 1 ptr ahead false is (loads + 1) := by simp [Rd.give, Rd.nxt, hk]
        rw [e]
        subst hk
        exact give20e v w hl
      · have e : (Rd.mk 2 slots key slot 0 ptr ahead false is loads).give v = (Rd.mk 2 slots key slot 0 ptr ahead false is (loads + 1)).goes := by simp [Rd.give, Rd.nxt, hk]
        rw [e]
        exact give20n v w hl h1 h2 hk
    · by_cases hk : v = 0#64
      · have e : (Rd.mk 2 slots key slot 1 ptr ahead false is loads).give v = (Rd.mk 2 slots key slot 2 v ahead false is (loads + 1)).goes := by simp [Rd.give, Rd.nxt, hk]
        rw [e]
        subst hk
        exact give21z w hl h1 h2
      · have e : (Rd.mk 2 slots key slot 1 ptr ahead false is loads).give v = Rd.mk 2 slots key slot 2 v ahead false is (loads + 1) := by simp [Rd.give, Rd.nxt, hk]
        rw [e]
        exact give21n v w hl hk
    · exact give22 v w hl
    · by_cases hk : v = key
      · have e : (Rd.mk 2 slots key slot 3 ptr ahead false is loads).give v = (Rd.mk 2 slots key slot 3 ptr ahead false is (loads + 1)).ended true := by simp [Rd.give, Rd.nxt, hk]
        rw [e]
        subst hk
        exact give23e v w hl h1 h2
      · have e : (Rd.mk 2 slots key slot 3 ptr ahead false is loads).give v = (Rd.mk 2 slots key slot 3 ptr ahead false is (loads + 1)).ended false := by simp [Rd.give, Rd.nxt, hk]
        rw [e]
        exact give23n v w hl h1 h2 hk
end Go.Proofs.Ytenmogokbelahaa
