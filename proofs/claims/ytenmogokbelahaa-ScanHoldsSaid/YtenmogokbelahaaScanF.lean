/- The walks of a reader's functions: Give, none, Wants, Found, Loads. -/
import Derived.Test.YtenmogokbelahaaScanE
namespace Go.Proofs.Ytenmogokbelahaa
open Go Go.RowKit

theorem next_any {O : Nat} {r : Rd} {N : Nat → Prop} (v : BitVec 64) (w : World) (h : RAt w O r N) (hd : r.done = false) (hw : r.way = 1 ∨ r.way = 2) (h28 : r.slots ≤ 28) (h1 : 0 ≤ r.slot) (h2 : r.slot < r.slots) (h4 : r.step ≤ 4) (h5 : r.way = 2 → r.step ≤ 3) :
    ∃ k lb, RawAt w O r r.wants (.func (.func k) #[] lb) ∧ Calls Try.prog k (#[.pointer (some ⟨O, 0, none⟩), vw v] ++ lb) w (NxtAt w O (r.nxt v) N) ∧ ∀ args W, (callFunc k args).run Try.prog W = .ok (.enter k args) W := by
  obtain ⟨a, nx, B, hr, hN, hNB, hB, hh⟩ := h
  rcases hh with ⟨hh, -⟩ | ⟨-, rfl, rfl, hbox⟩
  · exact absurd (hd.symm.trans hh) (by decide)
  · have en : ∀ {f : FuncId} {fn : Func} {c : Code}, Try.prog.funcs[f]? = some fn → (fn.name == "runtime.NumGoroutine") = false → fn.body = some c → ∀ args W, (callFunc f args).run Try.prog W = .ok (.enter f args) W := fun a b c => enters_of a b c
    obtain ⟨way, slots, key, slot, step, ptr, ahead, done, is, loads⟩ := r
    simp only at hd hw h28 h1 h2 h4 h5 hbox
    subst hd
    rcases hw with rfl | rfl
    · have h6 : step = 0 ∨ step = 1 ∨ step = 2 ∨ step = 3 ∨ step = 4 := by omega
      rcases h6 with rfl | rfl | rfl | rfl | rfl
      · exact ⟨_, #[], hr, up_any v w N hr rfl rfl h28 h1 h2 hN, en Try.func90 (by kernel_rfl) rfl⟩
      · exact ⟨_, #[.pointer (some ⟨B, 0, none⟩)], hr, up3_any v w N hr rfl rfl h28 h1 h2 hN (hbox rfl rfl), en Try.func111 (by kernel_rfl) rfl⟩
      · exact ⟨_, #[], hr, up1_any v w N hr rfl rfl h28 h1 h2 hN, en Try.func107 (by kernel_rfl) rfl⟩
      · refine ⟨_, #[], hr, (again_any v w hr (.inl rfl) h28 h1 h2).mono ?_, en Try.func108 (by kernel_rfl) rfl⟩
        rintro e w' ⟨rfl, hb, hf⟩
        exact ⟨rfl, rat_of_again (.inl rfl) h1 h2 hb (.inl hN), hf⟩
      · exact ⟨_, #[], hr, up2_any v w N hr rfl rfl h28 h1 h2 hN, en Try.func109 (by kernel_rfl) rfl⟩
    · have h6 : step = 0 ∨ step = 1 ∨ step = 2 ∨ step = 3 := by have := h5 rfl; omega
      rcases h6 with rfl | rfl | rfl | rfl
      · exact ⟨_, #[], hr, down_any v w N hr rfl rfl h28 h1 h2 hN, en Try.func91 (by kernel_rfl) rfl⟩
      · exact ⟨_, #[], hr, down1_any v w N hr rfl rfl h28 h1 h2 hN, en Try.func113 (by kernel_rfl) rfl⟩
      · exact ⟨_, #[], hr, down11_any v w N hr rfl rfl h28 h1 h2 hN, en Try.func114 (by kernel_rfl) rfl⟩
      · refine ⟨_, #[], hr, (again_any v w hr (.inr rfl) h28 h1 h2).mono ?_, en Try.func108 (by kernel_rfl) rfl⟩
        rintro e w' ⟨rfl, hb, hf⟩
        exact ⟨rfl, rat_of_again (.inr rfl) h1 h2 hb (.inl hN), hf⟩
theorem RAt.loads {W : World} {O : Nat} {r : Rd} {N : Nat → Prop} (h : RAt W O r N) (k : Nat) : RAt (W.setCell ⟨O, 9, none⟩ (.int .i64 k)) O { r with loads := k } N := by
  obtain ⟨a, nx, B, hr, hN, hNB, hB, hh⟩ := h
  refine ⟨a, nx, B, hr.setLoads k, hN, hNB, by simpa [World.setCell] using hB, ?_⟩
  rcases hh with hh | ⟨q1, q2, q3, q4⟩
  · exact .inl hh
  · refine .inr ⟨q1, q2, q3, fun x y => ?_⟩
    have hb := q4 x y
    refine hb.other ?_ _ _
    rintro rfl
    have h' : W.heap[B]? = _ := hr
    rw [show W.heap[B]? = _ from hb] at h'
    simp at h'
/-- Only draws came. -/
def Drw (w w' : World) : Prop := ∃ n, w' = w.drewN n
theorem Drw.refl (w : World) : Drw w w := ⟨0, rfl⟩
theorem Drw.one (w : World) : Drw w w.drew := ⟨1, rfl⟩
theorem Drw.trans {a b c : World} (h : Drw a b) (k : Drw b c) : Drw a c := by
  obtain ⟨n, rfl⟩ := h
  obtain ⟨m, rfl⟩ := k
  exact ⟨m + n, by simp [World.drewN]; omega⟩
theorem Drw.heap {a b : World} (h : Drw a b) : b.heap = a.heap := by obtain ⟨n, rfl⟩ := h; rfl
theorem Drw.below {a b : World} (h : Drw a b) (n : Nat) : Below n a b := by obtain ⟨m, rfl⟩ := h; exact below_drewN (Below.refl _ _) m
theorem Drw.frn {a b : World} (h : Drw a b) (T : Nat → Prop) : Frn T a b := by obtain ⟨m, rfl⟩ := h; exact (Frn.refl _ _).drewN m
theorem Drw.kps {a b : World} (h : Drw a b) (T : Nat → Prop) : Kps T a b := by obtain ⟨m, rfl⟩ := h; exact (Kps.refl _ _).drewN m
theorem RAt.drw {W W' : World} {O : Nat} {r : Rd} {N : Nat → Prop} (h : RAt W O r N) (d : Drw W W') : RAt W' O r N := h.keep (by rw [d.heap]; exact Nat.le_refl _) (fun b _ _ => by rw [d.heap])

set_option maxRecDepth 100000 in
set_option maxHeartbeats 2000000 in
theorem none_nil (w : World) : Calls Try.prog 71 #[.pointer none] w fun e w' => e = .returned (.bool true) ∧ w = w' := by
  go_enter Try.func71, Try.ntmps71
  go_wp2_with fail
  go_ret
  exact ⟨rfl, rfl⟩
set_option maxRecDepth 100000 in
set_option maxHeartbeats 2000000 in
theorem none_at {O : Nat} {b : Bool} (w : World) (h : w.cell? ⟨O, 10, none⟩ = some (.bool b)) : Calls Try.prog 71 #[.pointer (some ⟨O, 0, none⟩)] w fun e w' => e = .returned (.bool (!b)) ∧ w = w' := by
  cases b with
  | true =>
    go_enter Try.func71, Try.ntmps71
    go_wp2_with fail
    go_ret
    exact ⟨rfl, rfl⟩
  | false =>
    go_enter Try.func71, Try.ntmps71
    go_wp2_with fail
    go_ret
    exact ⟨rfl, rfl⟩
theorem RAt.made {W : World} {O : Nat} {r : Rd} {N : Nat → Prop} (h : RAt W O r N) : W.cell? ⟨O, 10, none⟩ = some (.bool true) := by
  obtain ⟨a, nx, B, hr, -⟩ := h
  exact hr.cells.2.2.2.2.2.2.2.2.2.2
theorem RAt.raw {W : World} {O : Nat} {r : Rd} {N : Nat → Prop} (h : RAt W O r N) : ∃ a nx, RawAt W O r a nx ∧ ((r.done = true ∧ nx = .nilFunc) ∨ (r.done = false ∧ a = r.wants ∧ ∃ k lb, nx = .func (.func k) #[] lb)) := by
  obtain ⟨a, nx, B, hr, hN, hNB, hB, hh⟩ := h
  refine ⟨a, nx, hr, ?_⟩
  rcases hh with hh | ⟨q1, q2, q3, q4⟩
  · exact .inl hh
  · refine .inr ⟨q1, q2, ?_⟩
    rw [q3]
    unfold nextV
    split
    · repeat' split
      all_goals exact ⟨_, _, rfl⟩
    · repeat' split
      all_goals exact ⟨_, _, rfl⟩
theorem fn_equalIn (d k : Nat) (lb : Array Value) (w : World) : (Op.equalIn (d + 1) 72 (.func (.func k) #[] lb) .nilFunc).run Try.prog w = .ok false w := by
  simp [Op.equalIn, run_underlying Try.underlying72]
theorem fn_equalIn0 (d : Nat) (w : World) : (Op.equalIn (d + 1) 72 .nilFunc .nilFunc).run Try.prog w = .ok true w := by
  simp [Op.equalIn, run_underlying Try.underlying72]
theorem fn_equal (k : Nat) (lb : Array Value) (w : World) : (Op.equal 72 (.func (.func k) #[] lb) .nilFunc).run Try.prog w = .ok false w := fn_equalIn 9999 k lb w
theorem fn_equal0 (w : World) : (Op.equal 72 .nilFunc .nilFunc).run Try.prog w = .ok true w := fn_equalIn0 9999 w
theorem fn_eq (k : Nat) (lb : Array Value) (w : World) : (binOp .eql 72 (.func (.func k) #[] lb) .nilFunc).run Try.prog w = .ok (.bool false) w := by simp [binOp, fn_equal]
theorem fn_ne (k : Nat) (lb : Array Value) (w : World) : (binOp .neq 72 (.func (.func k) #[] lb) .nilFunc).run Try.prog w = .ok (.bool true) w := by simp [binOp, fn_equal]
theorem fn_eq0 (w : World) : (binOp .eql 72 .nilFunc .nilFunc).run Try.prog w = .ok (.bool true) w := by simp [binOp, fn_equal0]
theorem fn_ne0 (w : World) : (binOp .neq 72 .nilFunc .nilFunc).run Try.prog w = .ok (.bool false) w := by simp [binOp, fn_equal0]
set_option maxRecDepth 100000 in
set_option maxHeartbeats 2000000 in
/-- Give, of one that is not done. -/
theorem give_any {O : Nat} {r : Rd} {N : Nat → Prop} (v : BitVec 64) (w : World) (h : RAt w O r N) (hok : OkR r) (hd : r.done = false) :
    Calls Try.prog 35 #[.pointer (some ⟨O, 0, none⟩), vw v] w fun e w' => e = .returned (.int .i64 0) ∧ RAt w' O (r.give v) (fun b => N b ∨ w.heap.size ≤ b) ∧ Frn (fun b => b = O) w w' := by
  have hm := h.made
  obtain ⟨a, nx, hr, hh⟩ := h.raw
  obtain ⟨-, -, -, -, -, c5, -, -, -, c9, -⟩ := hr.cells
  have f9 := hr.free 9
  rcases hh with ⟨hh, -⟩ | ⟨-, -, k0, lb0, rfl⟩
  · exact absurd (hd.symm.trans hh) (by decide)
  have hl := hok.rem
  have h28 := hok.hi
  obtain ⟨a1, a2, a3, a4⟩ := hok.at_ hd
  obtain ⟨L, hL⟩ : ∃ L : Int, (r.loads : Int) = L := ⟨_, rfl⟩
  have hLw : IntKind.i64.wrap (L + 1) = L + 1 := by rw [IntKind.wrap_i64]; omega
  obtain ⟨W1, hW1⟩ : ∃ W1, w.setCell ⟨O, 9, none⟩ (.int .i64 (L + 1)) = W1 := ⟨_, rfl⟩
  have hR1 : RAt W1 O { r with loads := r.loads + 1 } N := by
    rw [← hW1, ← hL]
    exact h.loads (r.loads + 1)
  have hF1 : Frn (fun b => b = O) w W1 := by rw [← hW1]; exact (Frn.refl (fun b => b = O) w).setCell ⟨O, 9, none⟩ (.inl rfl) _
  obtain ⟨k, lb, hraw, HC, hent⟩ := next_any v W1 hR1 hd hok.way hok.hi a1 a2 a3 a4
  have d5 := hraw.cells.2.2.2.2.2.1
  have hgive : r.give v = ({ r with loads := r.loads + 1 } : Rd).nxt v := rfl
  rw [hgive]
  obtain ⟨r', hr'⟩ : ∃ r', ({ r with loads := r.loads + 1 } : Rd).nxt v = r' := ⟨_, rfl⟩
  rw [hr'] at HC ⊢
  have HCC := Lib.hid HC
  have HM := Lib.hid (none_at (O := O) w hm)
  have q1 := fn_eq
  have q2 := fn_ne
  have q3 := fn_eq0
  have q4 := fn_ne0
  have HF := Lib.hid (And.intro hF1 (show w.heap.size ≤ W1.heap.size from hF1.size))
  rw [hL] at c9
  clear h hr hm hraw HC hR1 hF1 hok hd hl h28 a1 a2 a3 a4 hL hgive hr'
  go_enter Try.func35, Try.ntmps35
  go_wp2_with fail
  refine HM.out.mono ?_
  rintro e w' ⟨rfl, rfl⟩
  go_wp2_with fail
  refine HCC.out.mono ?_
  rintro e w2 ⟨rfl, hr, hf⟩
  go_wp2_with fail
  go_ret
  refine ⟨rfl, hr.mono ?_, HF.out.1.trans hf⟩
  rintro b (hb | hb) _
  · exact .inl hb
  · exact .inr (Nat.le_trans HF.out.2 hb)
set_option maxRecDepth 100000 in
set_option maxHeartbeats 2000000 in
/-- Give, of one that is done. -/
theorem give_done {O : Nat} {r : Rd} {N : Nat → Prop} (v : BitVec 64) (w : World) (h : RAt w O r N) (hd : r.done = true) :
    Calls Try.prog 35 #[.pointer (some ⟨O, 0, none⟩), vw v] w fun e w' => e = .returned (.int .i64 5) ∧ w = w' := by
  have hm := h.made
  obtain ⟨a, nx, hr, hh⟩ := h.raw
  obtain ⟨-, -, -, -, -, c5, -⟩ := hr.cells
  obtain rfl : nx = .nilFunc := by
    rcases hh with ⟨-, hh⟩ | ⟨hh, -⟩
    · exact hh
    · exact absurd (hd.symm.trans hh) (by decide)
  have HM := Lib.hid (none_at (O := O) w hm)
  have q1 := fn_eq
  have q2 := fn_ne
  have q3 := fn_eq0
  have q4 := fn_ne0
  clear h hr hm hd
  go_enter Try.func35, Try.ntmps35
  go_wp2_with fail
  refine HM.out.mono ?_
  rintro e w' ⟨rfl, rfl⟩
  go_wp2_with fail
  go_ret
  exact ⟨rfl, rfl⟩
/-- Give, of none. -/
theorem give_none (p : Option Addr) (v : BitVec 64) (w : World) (h : Calls Try.prog 71 #[.pointer p] w fun e w' => e = .returned (.bool true) ∧ w = w') :
    Calls Try.prog 35 #[.pointer p, vw v] w fun e w' => e = .returned (.int .i64 1) ∧ w = w' := by
  have HM := Lib.hid h
  clear h
  go_enter Try.func35, Try.ntmps35
  go_wp2_with fail
  refine HM.out.mono ?_
  rintro e w' ⟨rfl, rfl⟩
  go_wp2_with fail
  go_ret
  exact ⟨rfl, rfl⟩
theorem wants_none (p : Option Addr) (w : World) (h : Calls Try.prog 71 #[.pointer p] w fun e w' => e = .returned (.bool true) ∧ w = w') :
    Calls Try.prog 36 #[.pointer p] w fun e w' => e = .returned (.tuple #[.int .i64 0, .bool false]) ∧ w = w' := by
  have HM := Lib.hid h
  clear h
  go_enter Try.func36, Try.ntmps36
  go_wp2_with fail
  refine HM.out.mono ?_
  rintro e w' ⟨rfl, rfl⟩
  go_wp2_with fail
  go_ret2
  exact ⟨rfl, rfl⟩
theorem found_none (p : Option Addr) (w : World) (h : Calls Try.prog 71 #[.pointer p] w fun e w' => e = .returned (.bool true) ∧ w = w') :
    Calls Try.prog 37 #[.pointer p] w fun e w' => e = .returned (.tuple #[.int .u64 0, .bool false, .bool false]) ∧ w = w' := by
  have HM := Lib.hid h
  clear h
  go_enter Try.func37, Try.ntmps37
  go_wp2_with fail
  refine HM.out.mono ?_
  rintro e w' ⟨rfl, rfl⟩
  go_wp2_with fail
  go_ret3
  exact ⟨rfl, rfl⟩
theorem loads_none (p : Option Addr) (w : World) (h : Calls Try.prog 71 #[.pointer p] w fun e w' => e = .returned (.bool true) ∧ w = w') :
    Calls Try.prog 38 #[.pointer p] w fun e w' => e = .returned (.int .i64 0) ∧ w = w' := by
  have HM := Lib.hid h
  clear h
  go_enter Try.func38, Try.ntmps38
  go_wp2_with fail
  refine HM.out.mono ?_
  rintro e w' ⟨rfl, rfl⟩
  go_wp2_with fail
  go_ret
  exact ⟨rfl, rfl⟩
theorem copy_none (p : Option Addr) (w : World) (h : Calls Try.prog 71 #[.pointer p] w fun e w' => e = .returned (.bool true) ∧ w = w') :
    Calls Try.prog 34 #[.pointer p] w fun e w' => e = .returned (.pointer none) ∧ w = w' := by
  have HM := Lib.hid h
  clear h
  go_enter Try.func34, Try.ntmps34
  go_wp2_with fail
  refine HM.out.mono ?_
  rintro e w' ⟨rfl, rfl⟩
  go_wp2_with fail
  go_ret
  exact ⟨rfl, rfl⟩
/-- Wants. -/
def wantV (r : Rd) : Value := .tuple #[.int .i64 (if r.done then 0 else r.wants), .bool (!r.done)]
set_option maxRecDepth 100000 in
set_option maxHeartbeats 2000000 in
theorem wantsR_any {O : Nat} {r : Rd} {N : Nat → Prop} (w : World) (h : RAt w O r N) :
    Calls Try.prog 36 #[.pointer (some ⟨O, 0, none⟩)] w fun e w' => e = .returned (wantV r) ∧ w = w' := by
  have hm := h.made
  obtain ⟨a, nx, hr, hh⟩ := h.raw
  obtain ⟨-, -, -, -, c4, c5, -⟩ := hr.cells
  have HM := Lib.hid (none_at (O := O) w hm)
  have q1 := fn_eq
  have q2 := fn_ne
  have q3 := fn_eq0
  have q4 := fn_ne0
  clear h hr hm
  rcases hh with ⟨hh, rfl⟩ | ⟨hh, rfl, k0, lb0, rfl⟩
  · have e : wantV r = .tuple #[.int .i64 0, .bool false] := by unfold wantV; rw [hh]; rfl
    rw [e]
    clear hh e
    go_enter Try.func36, Try.ntmps36
    go_wp2_with fail
    refine HM.out.mono ?_
    rintro e w' ⟨rfl, rfl⟩
    go_wp2_with fail
    go_ret2
    exact ⟨rfl, rfl⟩
  · have e : wantV r = .tuple #[.int .i64 r.wants, .bool true] := by unfold wantV; rw [hh]; rfl
    rw [e]
    obtain ⟨x, hx⟩ : ∃ x, r.wants = x := ⟨_, rfl⟩
    rw [hx] at c4 ⊢
    clear hh e hx
    go_enter Try.func36, Try.ntmps36
    go_wp2_with fail
    refine HM.out.mono ?_
    rintro e w' ⟨rfl, rfl⟩
    go_wp2_with fail
    go_ret2
    exact ⟨rfl, rfl⟩
/-- Found. -/
def foundV (r : Rd) : Value := .tuple #[vw r.found.1, .bool r.found.2, .bool r.done]
set_option maxRecDepth 100000 in
set_option maxHeartbeats 2000000 in
theorem foundR_any {O : Nat} {r : Rd} {N : Nat → Prop} (w : World) (h : RAt w O r N) :
    Calls Try.prog 37 #[.pointer (some ⟨O, 0, none⟩)] w fun e w' => e = .returned (foundV r) ∧ w = w' := by
  have hm := h.made
  obtain ⟨a, nx, hr, hh⟩ := h.raw
  obtain ⟨-, -, -, -, -, c5, c6, -, c8, -⟩ := hr.cells
  have HM := Lib.hid (none_at (O := O) w hm)
  have q1 := fn_eq
  have q2 := fn_ne
  have q3 := fn_eq0
  have q4 := fn_ne0
  clear h hr hm
  rcases hh with ⟨hh, rfl⟩ | ⟨hh, rfl, k0, lb0, rfl⟩
  · cases hi : r.is with
    | true =>
      have e : foundV r = .tuple #[vw r.ptr, .bool true, .bool true] := by unfold foundV Rd.found; rw [hh, hi]; rfl
      rw [hi] at c8
      rw [e]
      clear hh e hi
      go_enter Try.func37, Try.ntmps37
      go_wp2_with fail
      refine HM.out.mono ?_
      rintro e w' ⟨rfl, rfl⟩
      go_wp2_with fail
      go_ret3
      exact ⟨rfl, rfl⟩
    | false =>
      have e : foundV r = .tuple #[.int .u64 0, .bool false, .bool true] := by unfold foundV Rd.found; rw [hh, hi]; rfl
      rw [hi] at c8
      rw [e]
      clear hh e hi
      go_enter Try.func37, Try.ntmps37
      go_wp2_with fail
      refine HM.out.mono ?_
      rintro e w' ⟨rfl, rfl⟩
      go_wp2_with fail
      go_ret3
      exact ⟨rfl, rfl⟩
  · have e : foundV r = .tuple #[.int .u64 0, .bool false, .bool false] := by unfold foundV Rd.found; rw [hh]; rfl
    rw [e]
    clear hh e
    go_enter Try.func37, Try.ntmps37
    go_wp2_with fail
    refine HM.out.mono ?_
    rintro e w' ⟨rfl, rfl⟩
    go_wp2_with fail
    go_ret3
    exact ⟨rfl, rfl⟩
set_option maxRecDepth 100000 in
set_option maxHeartbeats 2000000 in
/-- Loads. -/
theorem loadsR_any {O : Nat} {r : Rd} {N : Nat → Prop} (w : World) (h : RAt w O r N) :
    Calls Try.prog 38 #[.pointer (some ⟨O, 0, none⟩)] w fun e w' => e = .returned (.int .i64 r.loads) ∧ w = w' := by
  have hm := h.made
  obtain ⟨a, nx, hr, -⟩ := h.raw
  obtain ⟨-, -, -, -, -, -, -, -, -, c9, -⟩ := hr.cells
  have HM := Lib.hid (none_at (O := O) w hm)
  have q1 := fn_eq
  have q2 := fn_ne
  have q3 := fn_eq0
  have q4 := fn_ne0
  obtain ⟨x, hx⟩ : ∃ x : Int, (r.loads : Int) = x := ⟨_, rfl⟩
  rw [hx] at c9 ⊢
  clear h hr hm hx
  go_enter Try.func38, Try.ntmps38
  go_wp2_with fail
  refine HM.out.mono ?_
  rintro e w' ⟨rfl, rfl⟩
  go_wp2_with fail
  go_ret
  exact ⟨rfl, rfl⟩
end Go.Proofs.Ytenmogokbelahaa
