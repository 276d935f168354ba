/- The walks of the memory: whole, Flush, Evict. -/
import Derived.Test.YtaflbfmlajbjcaaPmemB
namespace Go.Proofs.Ytaflbfmlajbjcaa
open Go Go.RowKit

set_option maxRecDepth 100000 in
set_option maxHeartbeats 4000000 in
theorem whole_any {O n c : Nat} {p : Option Addr} {k : FuncId} {lb : Array Value} {Q : World → Prop} (i : Nat) (W : World) (h : W.cell? ⟨O, 0, none⟩ = some (.slice p n c)) (hi : i < n)
    (hent : ∀ args W, (callFunc k args).run Try.prog W = .ok (.enter k args) W) (hdo : Calls Try.prog k (#[.int .i64 (i : Int)] ++ lb) W fun e w' => e = .returned (.tuple #[]) ∧ Q w') :
    Calls Try.prog 57 #[.pointer (some ⟨O, 0, none⟩), .int .i64 i, .func (.func k) #[] lb] W fun e w' => e = .returned (.int .i64 0) ∧ Q w' := by
  have HN := Lib.hid (noneM_any W h (by omega))
  have HI := inM_any (i : Int) (n : Int) W
  rw [decide_eq_true (show 0 ≤ (i : Int) ∧ (i : Int) < (n : Int) by omega)] at HI
  have HII := Lib.hid HI
  have HDO := Lib.hid hdo
  clear HI hdo hi
  go_enter Try.func57, Try.ntmps57
  go_wp2_with fail
  refine HN.out.mono ?_
  rintro e w' ⟨rfl, rfl⟩
  go_wp2_with fail
  refine HII.out.mono ?_
  rintro e w' ⟨rfl, rfl⟩
  go_wp2_with fail
  refine HDO.out.mono ?_
  rintro e w2 ⟨rfl, hq⟩
  have HQ := Lib.hid hq
  clear hq
  go_wp2_with fail
  go_ret
  exact ⟨rfl, HQ.out⟩
set_option maxRecDepth 100000 in
set_option maxHeartbeats 4000000 in
theorem whole_bad {O n c : Nat} {p : Option Addr} {fv : Value} (a : Int) (W : World) (h : W.cell? ⟨O, 0, none⟩ = some (.slice p n c)) (hn : 0 < n) (hi : ¬ (0 ≤ a ∧ a < (n : Int))) :
    Calls Try.prog 57 #[.pointer (some ⟨O, 0, none⟩), .int .i64 a, fv] W fun e w' => e = .returned (.int .i64 4) ∧ W = w' := by
  have HN := Lib.hid (noneM_any W h hn)
  have HI := inM_any a (n : Int) W
  rw [decide_eq_false hi] at HI
  have HII := Lib.hid HI
  clear HI hi hn
  go_enter Try.func57, Try.ntmps57
  go_wp2_with fail
  refine HN.out.mono ?_
  rintro e w' ⟨rfl, rfl⟩
  go_wp2_with fail
  refine HII.out.mono ?_
  rintro e w' ⟨rfl, rfl⟩
  go_wp2_with fail
  go_ret
  exact ⟨rfl, rfl⟩
/-- A box of the receiver. -/
theorem MAt.boxed {W : World} {O : Nat} {m : Mem} {N : Nat → Prop} (h : MAt W O m N) (hN : ∀ x, N x → x < W.heap.size) (t : TypeId) : ∃ W1, W.alloc (.cells #[.pointer (some ⟨O, 0, none⟩)] t) = W1 ∧ Below W.heap.size W W1 ∧ MAt W1 O m N ∧ W1.cell? ⟨W.heap.size, 0, none⟩ = some (.pointer (some ⟨O, 0, none⟩)) ∧ W1.heap.size = W.heap.size + 1 ∧ ¬ N W.heap.size := by
  have hb : Below W.heap.size W (W.alloc (.cells #[.pointer (some ⟨O, 0, none⟩)] t)) := (Below.refl _ _).alloc (Nat.le_refl _) _
  exact ⟨_, rfl, hb, h.below hb, by rw [World.cell?_alloc_new]; rfl, by simp, fun h => by have := hN _ h; omega⟩
theorem Frn.boxed {T : Nat → Prop} {W W1 W2 : World} (hb : Below W.heap.size W W1) (hf : Frn T W1 W2) : Frn T W W2 := (Frn.of_below hb).trans hf
set_option maxRecDepth 100000 in
set_option maxHeartbeats 4000000 in
theorem flush_any {O : Nat} {m : Mem} {N : Nat → Prop} (i : Nat) (W : World) (h : MAt W O m N) (hN : ∀ x, N x → x < W.heap.size) (hi : i < m.length) :
    Calls Try.prog 21 #[.pointer (some ⟨O, 0, none⟩), .int .i64 i] W fun e w' => e = .returned (.int .i64 0) ∧ MAt w' O (m.flush i) N ∧ Frn N W w' := by
  obtain ⟨W1, hW1, hb, hm, hc, hsz, hnN⟩ := h.boxed hN 26
  have hm' := hm
  obtain ⟨p1, c1, p2, c2, b, n, hr⟩ := hm'
  have HWH := Lib.hid (whole_any i W1 hr.cells.1 (by rw [← hr.len]; exact hi) (enters_of Try.func58 (by kernel_rfl) rfl) (lb := #[.pointer (some ⟨W.heap.size, 0, none⟩)]) (flush1_any i W1 hm hi hc))
  have HX := Lib.hid (And.intro hW1 hb)
  clear h hm hr hW1 hb hi hnN hsz
  go_enter Try.func21, Try.ntmps21
  go_wp2_with fail
  rw [HX.out.1]
  go_wp2_with fail
  refine HWH.out.mono ?_
  rintro e w2 ⟨rfl, hm2, hf2⟩
  have H2 := Lib.hid (And.intro hm2 hf2)
  clear hm2 hf2
  go_wp2_with fail
  go_ret
  exact ⟨rfl, H2.out.1, Frn.boxed HX.out.2 H2.out.2⟩
set_option maxRecDepth 100000 in
set_option maxHeartbeats 4000000 in
theorem flush_bad {O : Nat} {m : Mem} {N : Nat → Prop} (a : Int) (W : World) (h : MAt W O m N) (hN : ∀ x, N x → x < W.heap.size) (hi : ¬ (0 ≤ a ∧ a < (m.length : Int))) :
    Calls Try.prog 21 #[.pointer (some ⟨O, 0, none⟩), .int .i64 a] W fun e w' => e = .returned (.int .i64 4) ∧ Below W.heap.size W w' := by
  obtain ⟨W1, hW1, hb, hm, hc, hsz, hnN⟩ := h.boxed hN 26
  obtain ⟨p1, c1, p2, c2, b, n, hr⟩ := hm
  have HWH := Lib.hid (fun fv => whole_bad (fv := fv) a W1 hr.cells.1 hr.pos (by rw [← hr.len]; exact hi))
  have HX := Lib.hid (And.intro hW1 hb)
  clear h hr hW1 hb hi hnN hsz
  go_enter Try.func21, Try.ntmps21
  go_wp2_with fail
  rw [HX.out.1]
  go_wp2_with fail
  refine (HWH.out _).mono ?_
  rintro e w2 ⟨rfl, rfl⟩
  go_wp2_with fail
  go_ret
  exact ⟨rfl, HX.out.2⟩
set_option maxRecDepth 100000 in
set_option maxHeartbeats 4000000 in
theorem evict_any {O : Nat} {m : Mem} {N : Nat → Prop} (i : Nat) (W : World) (h : MAt W O m N) (hN : ∀ x, N x → x < W.heap.size) (hi : i < m.length) :
    Calls Try.prog 23 #[.pointer (some ⟨O, 0, none⟩), .int .i64 i] W fun e w' => e = .returned (.int .i64 0) ∧ MAt w' O (m.evict i) N ∧ Frn N W w' := by
  obtain ⟨W1, hW1, hb, hm, hc, hsz, hnN⟩ := h.boxed hN 26
  have hm' := hm
  obtain ⟨p1, c1, p2, c2, b, n, hr⟩ := hm'
  have HWH := Lib.hid (whole_any i W1 hr.cells.1 (by rw [← hr.len]; exact hi) (enters_of Try.func61 (by kernel_rfl) rfl) (lb := #[.pointer (some ⟨W.heap.size, 0, none⟩)]) (evict1_any i W1 hm hi hc (by omega) hnN))
  have HX := Lib.hid (And.intro hW1 hb)
  clear h hm hr hW1 hb hi hnN hsz
  go_enter Try.func23, Try.ntmps23
  go_wp2_with fail
  rw [HX.out.1]
  go_wp2_with fail
  refine HWH.out.mono ?_
  rintro e w2 ⟨rfl, hm2, hf2⟩
  have H2 := Lib.hid (And.intro hm2 hf2)
  clear hm2 hf2
  go_wp2_with fail
  go_ret
  exact ⟨rfl, H2.out.1, Frn.boxed HX.out.2 H2.out.2⟩
set_option maxRecDepth 100000 in
set_option maxHeartbeats 4000000 in
theorem evict_bad {O : Nat} {m : Mem} {N : Nat → Prop} (a : Int) (W : World) (h : MAt W O m N) (hN : ∀ x, N x → x < W.heap.size) (hi : ¬ (0 ≤ a ∧ a < (m.length : Int))) :
    Calls Try.prog 23 #[.pointer (some ⟨O, 0, none⟩), .int .i64 a] W fun e w' => e = .returned (.int .i64 4) ∧ Below W.heap.size W w' := by
  obtain ⟨W1, hW1, hb, hm, hc, hsz, hnN⟩ := h.boxed hN 26
  obtain ⟨p1, c1, p2, c2, b, n, hr⟩ := hm
  have HWH := Lib.hid (fun fv => whole_bad (fv := fv) a W1 hr.cells.1 hr.pos (by rw [← hr.len]; exact hi))
  have HX := Lib.hid (And.intro hW1 hb)
  clear h hr hW1 hb hi hnN hsz
  go_enter Try.func23, Try.ntmps23
  go_wp2_with fail
  rw [HX.out.1]
  go_wp2_with fail
  refine (HWH.out _).mono ?_
  rintro e w2 ⟨rfl, rfl⟩
  go_wp2_with fail
  go_ret
  exact ⟨rfl, HX.out.2⟩
end Go.Proofs.Ytaflbfmlajbjcaa
