/- The walks of a memory that is none. -/
import Derived.Test.YtaflbfmlajbjcaaPmeC
namespace Go.Proofs.Ytaflbfmlajbjcaa
open Go Go.RowKit
attribute [local go_sem] Oper.semAt_some

/-- None: a nil pointer, or one without a line. -/
def NoM (W : World) (q : Option Addr) : Prop := q = none ∨ ∃ O p c, q = some ⟨O, 0, none⟩ ∧ W.cell? ⟨O, 0, none⟩ = some (.slice p 0 c)
theorem NoM.below {W W' : World} {q : Option Addr} (h : NoM W q) (hb : Below W.heap.size W W') : NoM W' q := by
  rcases h with rfl | ⟨O, p, c, rfl, h⟩
  · exact .inl rfl
  · refine .inr ⟨O, p, c, rfl, ?_⟩
    have hl : O < W.heap.size := by
      by_cases hl : O < W.heap.size
      · exact hl
      · simp [World.cell?, Array.getElem?_eq_none (Nat.not_lt.1 hl)] at h
    exact (hb.cell (p := ⟨O, 0, none⟩) hl).trans h
theorem below_alloc (W : World) (o : Obj) : Below W.heap.size W (W.alloc o) := (Below.refl _ _).alloc (Nat.le_refl _) _
set_option maxRecDepth 100000 in
set_option maxHeartbeats 2000000 in
theorem noneM_no {q : Option Addr} (W : World) (h : NoM W q) : Calls Try.prog 53 #[.pointer q] W fun e w' => e = .returned (.bool true) ∧ W = w' := by
  rcases h with rfl | ⟨O, p, c, rfl, h⟩
  · go_enter Try.func53, Try.ntmps53
    go_wp2_with fail
    go_ret
    exact ⟨rfl, rfl⟩
  · go_enter Try.func53, Try.ntmps53
    go_wp2_with fail
    go_ret
    exact ⟨rfl, rfl⟩
set_option maxHeartbeats 2000000 in
theorem lenM_no {q : Option Addr} (W : World) (h : NoM W q) : Calls Try.prog 32 #[.pointer q] W fun e w' => e = .returned (.int .i64 0) ∧ W = w' := by
  have HN := Lib.hid (noneM_no W h)
  clear h
  go_enter Try.func32, Try.ntmps32
  go_wp2_with fail
  refine HN.out.mono ?_
  rintro e w' ⟨rfl, rfl⟩
  go_wp2_with fail
  go_ret
  exact ⟨rfl, rfl⟩
set_option maxHeartbeats 2000000 in
theorem wordM_no {q : Option Addr} (a : Int) (W : World) (h : NoM W q) : Calls Try.prog 56 #[.pointer q, .int .i64 a] W fun e w' => e = .returned (.int .i64 1) ∧ W = w' := by
  have HN := Lib.hid (noneM_no W h)
  clear h
  go_enter Try.func56, Try.ntmps56
  go_wp2_with fail
  refine HN.out.mono ?_
  rintro e w' ⟨rfl, rfl⟩
  go_wp2_with fail
  go_ret
  exact ⟨rfl, rfl⟩
set_option maxHeartbeats 2000000 in
theorem loadM_no {q : Option Addr} (a : Int) (W : World) (h : NoM W q) : Calls Try.prog 30 #[.pointer q, .int .i64 a] W fun e w' => e = .returned (.tuple #[.int .u64 0, .int .i64 1]) ∧ W = w' := by
  have HN := Lib.hid (wordM_no a W h)
  clear h
  go_enter Try.func30, Try.ntmps30
  go_wp2_with fail
  refine HN.out.mono ?_
  rintro e w' ⟨rfl, rfl⟩
  go_wp2_with fail
  go_ret2
  exact ⟨rfl, rfl⟩
set_option maxHeartbeats 2000000 in
theorem storeM_no {q : Option Addr} (a : Int) (v : BitVec 64) (W : World) (h : NoM W q) : Calls Try.prog 20 #[.pointer q, .int .i64 a, vw v] W fun e w' => e = .returned (.int .i64 1) ∧ W = w' := by
  have HN := Lib.hid (wordM_no a W h)
  clear h
  go_enter Try.func20, Try.ntmps20
  go_wp2_with fail
  refine HN.out.mono ?_
  rintro e w' ⟨rfl, rfl⟩
  go_wp2_with fail
  go_ret
  exact ⟨rfl, rfl⟩
set_option maxHeartbeats 2000000 in
theorem whole_no {q : Option Addr} {fv : Value} (a : Int) (W : World) (h : NoM W q) : Calls Try.prog 57 #[.pointer q, .int .i64 a, fv] W fun e w' => e = .returned (.int .i64 1) ∧ W = w' := by
  have HN := Lib.hid (noneM_no W h)
  clear h
  go_enter Try.func57, Try.ntmps57
  go_wp2_with fail
  refine HN.out.mono ?_
  rintro e w' ⟨rfl, rfl⟩
  go_wp2_with fail
  go_ret
  exact ⟨rfl, rfl⟩
theorem NoM.boxed {W : World} {q : Option Addr} (h : NoM W q) (t : TypeId) : ∃ W1, W.alloc (.cells #[.pointer q] t) = W1 ∧ Below W.heap.size W W1 ∧ NoM W1 q ∧ W1.cell? ⟨W.heap.size, 0, none⟩ = some (.pointer q) := by
  have hb := below_alloc W (.cells #[.pointer q] t)
  exact ⟨_, rfl, hb, h.below hb, by rw [World.cell?, World.alloc_heap_new]; rfl⟩
set_option maxHeartbeats 2000000 in
theorem flushM_no {q : Option Addr} (a : Int) (W : World) (h : NoM W q) : Calls Try.prog 21 #[.pointer q, .int .i64 a] W fun e w' => e = .returned (.int .i64 1) ∧ Below W.heap.size W w' := by
  obtain ⟨W1, hW1, hb, hm, hc⟩ := h.boxed 26
  have HWH := Lib.hid (fun fv => whole_no (fv := fv) a W1 hm)
  have HX := Lib.hid (And.intro hW1 hb)
  clear h hm hW1 hb
  go_enter Try.func21, Try.ntmps21
  go_wp2_with fail
  rw [HX.out.1]
  go_wp2_with fail
  refine (HWH.out _).mono ?_
  rintro e w2 ⟨rfl, rfl⟩
  go_wp2_with fail
  go_ret
  exact ⟨rfl, HX.out.2⟩
set_option maxHeartbeats 2000000 in
theorem evictM_no {q : Option Addr} (a : Int) (W : World) (h : NoM W q) : Calls Try.prog 23 #[.pointer q, .int .i64 a] W fun e w' => e = .returned (.int .i64 1) ∧ Below W.heap.size W w' := by
  obtain ⟨W1, hW1, hb, hm, hc⟩ := h.boxed 26
  have HWH := Lib.hid (fun fv => whole_no (fv := fv) a W1 hm)
  have HX := Lib.hid (And.intro hW1 hb)
  clear h hm hW1 hb
  go_enter Try.func23, Try.ntmps23
  go_wp2_with fail
  rw [HX.out.1]
  go_wp2_with fail
  refine (HWH.out _).mono ?_
  rintro e w2 ⟨rfl, rfl⟩
  go_wp2_with fail
  go_ret
  exact ⟨rfl, HX.out.2⟩
set_option maxHeartbeats 2000000 in
theorem fenceM_no {q : Option Addr} (W : World) (h : NoM W q) : Calls Try.prog 22 #[.pointer q] W fun e w' => e = .returned (.int .i64 1) ∧ Below W.heap.size W w' := by
  obtain ⟨W1, hW1, hb, hm, hc⟩ := h.boxed 26
  have HN := Lib.hid (noneM_no W1 hm)
  have HX := Lib.hid (And.intro hW1 hb)
  clear h hm hW1 hb
  go_enter Try.func22, Try.ntmps22
  go_wp2_with fail
  rw [HX.out.1]
  go_wp2_with fail
  refine HN.out.mono ?_
  rintro e w2 ⟨rfl, rfl⟩
  go_wp2_with fail
  go_ret
  exact ⟨rfl, HX.out.2⟩
set_option maxHeartbeats 2000000 in
theorem crashM_no {q : Option Addr} (v : Value) (W : World) (h : NoM W q) (hv : v = .slice none 0 0) : Calls Try.prog 24 #[.pointer q, v] W fun e w' => e = .returned (.tuple #[.pointer none, .int .i64 1]) ∧ Below W.heap.size W w' := by
  subst hv
  obtain ⟨W1, hW1, hb, hm, hc⟩ := h.boxed 26
  have hz1 : W1.heap.size = W.heap.size + 1 := by rw [← hW1]; simp
  have hb2 := below_alloc W1 (.cells #[.slice none 0 0] 45)
  obtain ⟨W2, hW2⟩ : ∃ W2, W1.alloc (.cells #[.slice none 0 0] 45) = W2 := ⟨_, rfl⟩
  rw [hW2] at hb2
  have hc2 := (hb2.cell (p := ⟨W.heap.size, 0, none⟩) (by show W.heap.size < _; omega)).trans hc
  have HN := Lib.hid (noneM_no W2 (hm.below hb2))
  have HX := Lib.hid (And.intro hW1 (And.intro hW2 (hb.trans (hb2.mono hb.size))))
  clear h hm hW1 hb hb2 hc hW2
  go_enter Try.func24, Try.ntmps24
  go_wp2_with fail
  rw [HX.out.1]
  go_wp2_with fail
  rw [HX.out.2.1]
  go_wp2_with fail
  refine HN.out.mono ?_
  rintro e w2 ⟨rfl, rfl⟩
  go_wp2_with fail
  go_ret2
  exact ⟨rfl, HX.out.2.2⟩
set_option maxHeartbeats 2000000 in
theorem copyM_no {q : Option Addr} (W : World) (h : NoM W q) : Calls Try.prog 26 #[.pointer q] W fun e w' => e = .returned (.pointer none) ∧ W = w' := by
  have HN := Lib.hid (noneM_no W h)
  clear h
  go_enter Try.func26, Try.ntmps26
  go_wp2_with fail
  refine HN.out.mono ?_
  rintro e w' ⟨rfl, rfl⟩
  go_wp2_with fail
  go_ret
  exact ⟨rfl, rfl⟩
set_option maxHeartbeats 2000000 in
theorem imageM_no {q : Option Addr} (W : World) (h : NoM W q) : Calls Try.prog 33 #[.pointer q] W fun e w' => e = .returned (.slice none 0 0) ∧ W = w' := by
  have HN := Lib.hid (noneM_no W h)
  clear h
  go_enter Try.func33, Try.ntmps33
  go_wp2_with fail
  refine HN.out.mono ?_
  rintro e w' ⟨rfl, rfl⟩
  go_wp2_with fail
  go_ret
  exact ⟨rfl, rfl⟩
set_option maxHeartbeats 2000000 in
theorem lastingM_no {q : Option Addr} (W : World) (h : NoM W q) : Calls Try.prog 34 #[.pointer q] W fun e w' => e = .returned (.slice none 0 0) ∧ W = w' := by
  have HN := Lib.hid (noneM_no W h)
  clear h
  go_enter Try.func34, Try.ntmps34
  go_wp2_with fail
  refine HN.out.mono ?_
  rintro e w' ⟨rfl, rfl⟩
  go_wp2_with fail
  go_ret
  exact ⟨rfl, rfl⟩
set_option maxHeartbeats 4000000 in
theorem sameM_nono {q r : Option Addr} (W : World) (h : NoM W q) (h' : NoM W r) : Calls Try.prog 28 #[.pointer q, .pointer r] W fun e w' => e = .returned (.bool true) ∧ W = w' := by
  have HQ := Lib.hid (noneM_no W h)
  have HR := Lib.hid (noneM_no W h')
  clear h h'
  go_enter Try.func28, Try.ntmps28
  go_wp2_with fail
  refine HQ.out.mono ?_
  rintro e w' ⟨rfl, rfl⟩
  go_wp2_with fail
  refine HQ.out.mono ?_
  rintro e w' ⟨rfl, rfl⟩
  go_wp2_with fail
  refine HR.out.mono ?_
  rintro e w' ⟨rfl, rfl⟩
  go_wp2_with fail
  go_ret
  exact ⟨rfl, rfl⟩
set_option maxHeartbeats 4000000 in
theorem sameM_noO {q r : Option Addr} (W : World) (h : NoM W q) (h' : Calls Try.prog 53 #[.pointer r] W fun e w' => e = .returned (.bool false) ∧ W = w') : Calls Try.prog 28 #[.pointer q, .pointer r] W fun e w' => e = .returned (.bool false) ∧ W = w' := by
  have HQ := Lib.hid (noneM_no W h)
  have HR := Lib.hid h'
  clear h h'
  go_enter Try.func28, Try.ntmps28
  go_wp2_with fail
  refine HQ.out.mono ?_
  rintro e w' ⟨rfl, rfl⟩
  go_wp2_with fail
  refine HQ.out.mono ?_
  rintro e w' ⟨rfl, rfl⟩
  go_wp2_with fail
  refine HR.out.mono ?_
  rintro e w' ⟨rfl, rfl⟩
  go_wp2_with fail
  go_ret
  exact ⟨rfl, rfl⟩
set_option maxHeartbeats 4000000 in
theorem sameM_Ono {q r : Option Addr} (W : World) (h : NoM W r) (h' : Calls Try.prog 53 #[.pointer q] W fun e w' => e = .returned (.bool false) ∧ W = w') : Calls Try.prog 28 #[.pointer q, .pointer r] W fun e w' => e = .returned (.bool false) ∧ W = w' := by
  have HR := Lib.hid (noneM_no W h)
  have HQ := Lib.hid h'
  clear h h'
  go_enter Try.func28, Try.ntmps28
  go_wp2_with fail
  refine HQ.out.mono ?_
  rintro e w' ⟨rfl, rfl⟩
  go_wp2_with fail
  refine HR.out.mono ?_
  rintro e w' ⟨rfl, rfl⟩
  go_wp2_with fail
  refine HQ.out.mono ?_
  rintro e w' ⟨rfl, rfl⟩
  go_wp2_with fail
  go_ret
  exact ⟨rfl, rfl⟩
/-- What goes over the open lines of none goes over nothing. -/
theorem open1_none {q : Option Addr} (Bm : Nat) (w : World) (hm : Box w Bm 26 (.pointer q)) (h0 : q = none) :
    Iter Try.prog 52 #[.pointer (some ⟨Bm, 0, none⟩)] (encI []) (fun b => b = Bm) w := by
  subst h0
  intro L J Jx W T hW hT hJ hJx hY h0
  have hmW : Box W Bm 26 (.pointer none) := hm.kept (hW.block _ rfl hm.lt)
  have HNN := Lib.hid (noneM_no (q := none) W (.inl rfl))
  have q0 := hmW.cell
  have HT := Lib.hid (And.intro h0 hT)
  clear hY hJ hJx hW hT hm hmW h0
  refine callsIn_of_wp Try.func52 rfl trivial ?_ rfl
  simp only [Try.ntmps52, List.size_toArray, List.length_cons, List.length_nil, Nat.reduceAdd, Nat.reduceSub, Array.replicate_succ, Array.replicate_zero, List.push_toArray, List.append_toArray, List.nil_append, List.cons_append]
  gi_wp2
  apply wpIn_scope_wide
  gi_wp2
  refine wcall HNN.out ?_
  rintro e w' ⟨rfl, rfl⟩
  gi_wp2
  rw [Exit.noGoto_ret]
  refine bodyPost_ret (results_none rfl _ _ _) rfl ?_
  exact ⟨⟨_, rfl⟩, .inl ⟨T, HT.out.1, HT.out.2⟩⟩
set_option maxRecDepth 100000 in
set_option maxHeartbeats 4000000 in
theorem opens7_none (w : World) : Calls Try.prog 31 #[.pointer none] w fun e w' => e = .returned (.slice none 0 0) ∧ Below w.heap.size w w' := by
  have hfn := seq_nil
  obtain ⟨wb, hwb⟩ : ∃ wb, w.alloc (.cells #[.slice none 0 0] 39) = wb := ⟨_, rfl⟩
  have hzb : wb.heap.size = w.heap.size + 1 := by rw [← hwb]; simp
  have hbb : Below w.heap.size w wb := by rw [← hwb]; exact (Below.refl _ _).alloc (Nat.le_refl _) _
  have hc0 : wb.heap[w.heap.size]? = some (.cells #[.slice none 0 0] 39 (0, 0)) := by rw [← hwb]; exact World.alloc_heap_new w _
  obtain ⟨W0, hW0⟩ : ∃ W0, wb.alloc (.cells #[.pointer none] 26) = W0 := ⟨_, rfl⟩
  have hb0 : Below wb.heap.size wb W0 := by rw [← hW0]; exact (Below.refl _ _).alloc (Nat.le_refl _) _
  have hz0 : W0.heap.size = w.heap.size + 2 := by rw [← hW0]; simp [hzb]
  have hbx : Box W0 (w.heap.size + 1) 26 (.pointer none) := by rw [← hW0, ← hzb]; exact Box.new _ _ _
  have hs : Calls Try.prog 18 #[.pointer none] wb fun e w' => e = .returned (.func (.func 52) #[] #[.pointer (some ⟨w.heap.size + 1, 0, none⟩)]) ∧ W0 = w' := by
    have := openS_any none wb
    rw [hzb, hW0] at this
    exact this
  have hbw : Below w.heap.size w W0 := hbb.trans (hb0.mono (by omega))
  have hg0 : GathG 39 3 1 ei W0.heap.size (fun _ => False) W0 w.heap.size [] :=
    ⟨none, 0, (hb0.block _ (by omega)).trans hc0, OwnG.nil _ _ _ _ _, by rintro b ⟨a, ha, _⟩; cases ha⟩
  have hcn : W0.cell? ⟨w.heap.size, 0, none⟩ = some (.slice none 0 0) := by simp [World.cell?, (hb0.block _ (show w.heap.size < wb.heap.size by omega)).trans hc0]
  have HS := Lib.hid hs
  have HWB := Lib.hid hwb
  have HB0 := Lib.hid (And.intro hbw (And.intro hz0 hcn))
  have HM := Lib.hid hbx
  clear hbb hc0 hwb hs hb0 hbx hW0 hbw hg0 hcn
  refine (callsIn_wide (n := 0)).1 ?_
  refine callsIn_of_wp_marks Try.func31 rfl trivial ?_ rfl
  simp only [Try.ntmps31, List.size_toArray, List.length_cons, List.length_nil, Nat.reduceAdd, Nat.reduceSub, Array.replicate_succ, Array.replicate_zero, List.push_toArray, List.append_toArray, List.nil_append, List.cons_append]
  gi_wp2
  rw [HWB.out]
  refine wcall HS.out ?_
  rintro e w0 ⟨rfl, rfl⟩
  gi_wp2
  refine rf_law (gf := 52) (lb := #[.pointer (some ⟨w.heap.size + 1, 0, none⟩)]) rfl (enters_of Try.func52 (by kernel_rfl) rfl)
    (open1_none (w.heap.size + 1) W0 HM.out rfl) (by intro x hx; cases hx) ?hFP
    (fun _ T W => Keep (fun b => b = w.heap.size) W0 T W ∧ ¬ T w.heap.size ∧ W.cell? ⟨w.heap.size, 0, none⟩ = some (.slice none 0 0))
    (fun _ _ _ _ => False) ?hJ (fun _ _ _ _ _ h _ => h) ?h0 ?hround ?hdone ?hstop
  case hFP =>
    rintro b rfl
    exact HM.out.lt
  case hJ =>
    rintro k T W W' ⟨h1, h2, h3⟩ hf
    have hl : w.heap.size < W.heap.size := by have := h1.frn.size; omega
    exact ⟨h1.go hf, fun h => h.elim h2 (fun h => by have := h.1; omega), by rw [World.cell?, hf.block _ hl h2]; exact h3⟩
  case h0 => exact ⟨Keep.start _ _, fun h => h, HB0.out.2.2⟩
  case hround =>
    rintro l k hk
    exact absurd hk (by simp [encI])
  case hdone =>
    rintro D T W ⟨hs, hnt, hco⟩ hTD hTW hkW hD hK
    have HSS := Lib.hid hs
    clear hkW hs
    gi_wp2
    refine leave1 (v := .slice none 0 0) rfl hK (by simp [results, Try.results31, go_sem]) ⟨rfl, below_putObj ?_ (by omega) _⟩
    exact HB0.out.1.trans (HSS.out.frn.below (by omega) (by rintro b rfl; exact Nat.le_refl _))
  case hstop =>
    intro D c k T W _ _ h
    exact h.elim
end Go.Proofs.Ytaflbfmlajbjcaa
