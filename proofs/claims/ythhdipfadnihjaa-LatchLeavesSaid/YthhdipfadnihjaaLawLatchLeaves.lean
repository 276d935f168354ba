/- The walk of the law LatchLeaves. -/
import Derived.Test.YthhdipfadnihjaaLatchS
import Derived.Test.YthhdipfadnihjaaQuietR
import Derived.Sort.CutIn
import Derived.Sort.QuietIn
import Derived.Deep.RegionWith
import Derived.Stop.RegionWithIn
namespace Go.Proofs.Ythhdipfadnihjaa
open Go Go.RowKit
attribute [local go_sem] Oper.semAt_some

def vnL (k : Nat) : Value := .int .i64 (k : Int)
/-- How many rounds there are where one leaves behind so many. -/
def LeaveAtL (many : Int) (len m : Nat) : Prop := (many ≤ 1 ∧ m ≤ 1 ∧ m ≤ len ∧ (m = 1 ∨ m = len)) ∨ (1 < many ∧ (m : Int) ≤ many ∧ m ≤ len ∧ ((m : Int) = many ∨ m = len))
/-- What the two loops know between them: the variables' boxes. -/
structure WtAt (w : World) (ys : List Turn) (many : Int) (p : Option Addr) (cap : Nat) (pc : Option Addr) (cc : Nat) (B1 tb : Nat) (turn : Nat) (W : World) : Prop where
  at_ : At w.heap.size w W
  le : w.heap.size + 2 ≤ B1
  lt : B1 + 1 < tb
  bm : Box W w.heap.size 3 (.int .i64 many)
  br : Box W (w.heap.size + 1) 4 (.bool false)
  bw : Box W B1 46 (.slice p ys.length cap)
  bs : Box W (B1 + 1) 110 (.slice pc ys.length cc)
  bt : Box W tb 3 (vnL turn)
  rd : RdS B1 W p cap 2 tc ys
  rc : RdS tb W pc cc 2 tc ys
/-- Another block that turns. -/
theorem WtAt.kept {w : World} {ys : List Turn} {many : Int} {p : Option Addr} {cap : Nat} {pc : Option Addr} {cc : Nat} {B1 bt : Nat} {turn : Nat} {W W' : World} {X : Nat → Prop} {T : Nat → Prop} (h : WtAt w ys many p cap pc cc B1 bt turn W) (hk : Keep X W T W')
    (hX : ∀ b, X b → bt < b) : WtAt w ys many p cap pc cc B1 bt turn W' := by
  have hl := h.lt
  have hle := h.le
  have nx : ∀ b, b ≤ bt → ¬ X b := fun b hb hx => by have := hX b hx; omega
  have hbl := h.bt.lt
  refine ⟨hk.at h.at_ (fun b hb => by have := hX b hb; omega), h.le, h.lt, hk.box h.bm (nx _ (by omega)), hk.box h.br (nx _ (by omega)), hk.box h.bw (nx _ (by omega)), hk.box h.bs (nx _ (by omega)), hk.box h.bt (nx _ (by omega)), ?_, ?_⟩
  · exact h.rd.keep fun b hb => hk.frn.block _ (by have := h.rd.inlt hb; omega) (nx _ (by have := h.rd.inlt hb; omega))
  · exact h.rc.keep fun b hb => hk.frn.block _ (by have := h.rc.inlt hb; omega) (nx _ (by have := h.rc.inlt hb; omega))
theorem below_keep {w W W' : World} {ys : List Turn} {many : Int} {p : Option Addr} {cap : Nat} {pc : Option Addr} {cc : Nat} {B1 bt : Nat} {turn : Nat} (h : WtAt w ys many p cap pc cc B1 bt turn W) (hb : Below W.heap.size W W') : WtAt w ys many p cap pc cc B1 bt turn W' :=
  h.kept (X := fun _ => False) (T := fun _ => False) ((Keep.start _ _).below hb) (fun _ h => h.elim)

set_option maxRecDepth 100000 in
set_option maxHeartbeats 4000000 in
theorem lawLatchLeaves (p0 : Option Addr) (cap0 : Nat) (script : List ActT) (many : Int) (w : World) (hrd : RdS w.heap.size w p0 cap0 2 ac script) :
    Calls Try.prog 4 #[.slice p0 script.length cap0, .int .i64 many] w fun e w' => e = .returned (.bool true) ∧ Below w.heap.size w w' := by
  have hfn := func_nil
  have hlen := hrd.len
  obtain ⟨wa, hwa⟩ : ∃ wa, (w.alloc (.cells #[.int .i64 many] 3)).alloc (.cells #[.bool false] 4) = wa := ⟨_, rfl⟩
  have hAa : At w.heap.size w wa := by rw [← hwa]; exact ((At.start w).alloc _).alloc _
  have hza : wa.heap.size = w.heap.size + 2 := by rw [← hwa]; simp
  have hbm : Box wa w.heap.size 3 (.int .i64 many) := by rw [← hwa]; exact (Box.new _ _ _).alloc _
  have hbr : Box wa (w.heap.size + 1) 4 (.bool false) := by
    have := Box.new (w.alloc (.cells #[.int .i64 many] 3)) 4 (.bool false)
    rw [World.size_alloc] at this
    rw [← hwa]; exact this
  have HPL := Lib.hid (played_any p0 cap0 script wa ((hrd_at hrd hAa).wide hAa.2))
  have hok := (runS_ok script).len
  obtain ⟨s0, hs0⟩ : ∃ s0, runS script = s0 := ⟨_, rfl⟩
  rw [hs0] at HPL hok
  have HWA := Lib.hid hwa
  have HAA := Lib.hid hAa
  have HBM := Lib.hid hbm
  have HBR := Lib.hid hbr
  have HZA := Lib.hid hza
  have hcr := hbr.cell
  have hfr := hbr.free
  clear hrd hs0 hwa hAa hbm hbr hza
  by_cases h40 : 40 < script.length
  · have h40' : (40 : Int) < (script.length : Int) := by omega
    clear h40
    refine (callsIn_wide (n := 0)).1 ?_
    refine callsIn_of_wp_marks Try.func4 rfl trivial ?_ rfl
    simp only [Try.ntmps4, List.size_toArray, List.length_cons, List.length_nil, Nat.reduceAdd, Nat.reduceSub, Array.replicate_succ, Array.replicate_zero, List.push_toArray, List.append_toArray, List.nil_append, List.cons_append]
    gi_wp2
    rw [HWA.out]
    refine wcall (works25_any _) ?_
    rintro e w1 ⟨rfl, b1⟩
    have hb1 := HBR.out.below b1 HBR.out.lt
    have hc1 := hb1.cell
    have hf1 := hb1.free
    have HB1 := Lib.hid hb1
    have HB := Lib.hid (HAA.out.below b1)
    clear b1 hb1
    gi_wp2
    have hc2 := (HB1.out.set (.bool true)).cell
    refine ⟨.bool true, results_cell1 rfl _ _ rfl (v := .bool true) (by simp [go_sem, hc2]), rfl, ?_⟩
    exact HB.out.1.setCell (p := ⟨w.heap.size + 1, 0, none⟩) (Nat.le_succ _) _
  have h40' : (script.length : Int) ≤ 40 := by omega
  clear h40 hcr hfr
  refine (callsIn_wide (n := 0)).1 ?_
  refine callsIn_of_wp_marks Try.func4 rfl trivial ?_ rfl
  simp only [Try.ntmps4, List.size_toArray, List.length_cons, List.length_nil, Nat.reduceAdd, Nat.reduceSub, Array.replicate_succ, Array.replicate_zero, List.push_toArray, List.append_toArray, List.nil_append, List.cons_append]
  gi_wp2
  rw [HWA.out]
  refine wcall HPL.out ?_
  rintro e w1 ⟨L, T1, rfl, h1⟩
  have H1 := Lib.hid h1
  clear h1 HPL
  gi_wp2
  refine wcall (wt_any T1 L s0.1 s0.2 w1 H1.out.own (by omega)) ?_
  rintro e w2 ⟨p, cap, rfl, ho2, hq2, hb2⟩
  obtain ⟨wb2, hwb2⟩ : ∃ wb2, w2.alloc (.cells #[.slice p s0.2.length cap] 46) = wb2 := ⟨_, rfl⟩
  have hbb : Below w2.heap.size w2 wb2 := by rw [← hwb2]; exact (Below.refl _ _).alloc (Nat.le_refl _) _
  have hzb : wb2.heap.size = w2.heap.size + 1 := by rw [← hwb2]; simp
  have hbw : Box wb2 w2.heap.size 46 (.slice p s0.2.length cap) := by rw [← hwb2]; exact Box.new _ _ _
  have hlw := waits_any T1 L s0.1 s0.2 wb2 ((H1.out.below hb2).below hbb).own (by omega)
  rw [hzb] at hlw
  have HLW := Lib.hid hlw
  have H2 := Lib.hid (And.intro ho2 (And.intro hb2 (And.intro hbb (And.intro hzb hbw))))
  have HWB2 := Lib.hid hwb2
  clear ho2 hq2 hb2 hbb hzb hbw hlw hwb2
  gi_wp2
  rw [HWB2.out]
  refine wcall HLW.out ?_
  rintro e w3 ⟨rfl, ⟨pc, cc, hbx⟩, hb3⟩
  gi_wp2
  obtain ⟨ys, hys⟩ : ∃ ys, s0.2 = ys := ⟨_, rfl⟩
  obtain ⟨W0, hW0⟩ : ∃ W0, w3.alloc (Obj.cells #[Value.int IntKind.i64 0] 3) = W0 := ⟨_, rfl⟩
  obtain ⟨B1, hB1⟩ : ∃ B1, w2.heap.size = B1 := ⟨_, rfl⟩
  have hA0 : WtAt w ys many p cap pc cc B1 w3.heap.size 0 W0 := by
    obtain ⟨ho2, hb2, hbb, hzb, hbw⟩ := H2.out
    have hs1 := H1.out.at_.2
    have hsa := HZA.out
    have hs2 := hb2.size
    have hs3 := hb3.size
    have b13 : Below w1.heap.size w1 w3 := (hb2.trans (hbb.mono hs2)).trans (hb3.mono (by omega))
    have ba3 : Below wa.heap.size wa w3 := H1.out.at_.1.trans (b13.mono hs1)
    have hal : Below w3.heap.size w3 W0 := by rw [← hW0]; exact (Below.refl _ _).alloc (Nat.le_refl _) _
    have hlb : w2.heap.size + 1 < w3.heap.size := (Array.getElem?_eq_some_iff.1 hbx.hp).1
    rw [← hys, ← hB1]
    have bx2 : Box w3 (w2.heap.size + 1) 110 (.slice pc s0.2.length cc) := hbx.hp
    refine ⟨(HAA.out.below ba3).below hal, by omega, by omega, (HBM.out.below ba3 (by omega)).below hal (by omega), (HBR.out.below ba3 (by omega)).below hal (by omega), (hbw.below hb3 (by omega)).below hal (by omega), bx2.below hal hlb, by rw [← hW0]; exact Box.new _ _ _, ?_, ?_⟩
    · exact ho2.rds.kept ((hbb.trans (hb3.mono (by omega))).trans (hal.mono (by omega)))
    · exact (hbx.own.rds).kept hal
  rw [hW0]
  rw [hys] at hok ⊢
  rw [hB1]
  have HA0 := Lib.hid hA0
  have hly : ys.length ≤ 8 := by omega
  clear hA0 hW0 H2 H1 HWB2 HLW hbx hb3 HAA HBM HBR HZA hys hB1 HWA
  refine wpIn_loop_rounds 3 ?_
  rw [roundsIn_succ]
  obtain ⟨b0, hb0⟩ : ∃ b0, w3.heap.size = b0 := ⟨_, rfl⟩
  rw [hb0] at HA0 ⊢
  have hc0 : W0.cell? ⟨b0, 0, none⟩ = some (.int .i64 0) := HA0.out.bt.cell
  gi_wp2
  have hV0 : WtAt w ys many p cap pc cc B1 b0 0 (W0.alloc (Obj.cells #[Value.int IntKind.i64 0] 3)) := HA0.out.kept (X := fun _ => False) (T := fun _ => False) ((Keep.start _ _).alloc _) (fun _ h => h.elim)
  have hbn0 : Box (W0.alloc (Obj.cells #[Value.int IntKind.i64 0] 3)) W0.heap.size 3 (vnL 0) := Box.new _ _ _
  have HV0 := Lib.hid hV0
  have HN0 := Lib.hid hbn0
  have hlb0 : b0 < W0.heap.size := HA0.out.bt.lt
  clear hV0 hbn0 hc0
  refine rf_brk (id := 2) (gf := 60) (lb := #[.pointer (some ⟨B1 + 1, 0, none⟩)]) rfl (enters_of Try.func60 (by kernel_rfl) rfl)
    (waits1_iter (B1 + 1) pc cc ys _ HV0.out.bs.cell (HV0.out.rc.wide (Nat.le_of_lt HV0.out.bt.lt))) (by intro x hx; obtain ⟨i, hi, rfl⟩ := List.mem_iff_getElem.1 hx; rw [encW_get]; rfl) ?hFP0
    (fun k T W => Keep (fun b => b = W0.heap.size) (W0.alloc (Obj.cells #[Value.int IntKind.i64 0] 3)) T W ∧ Box W W0.heap.size 3 (vnL k) ∧ (k = 0 ∨ (k : Int) < many))
    (fun k T W => Keep (fun b => b = W0.heap.size) (W0.alloc (Obj.cells #[Value.int IntKind.i64 0] 3)) T W ∧ Box W W0.heap.size 3 (vnL k) ∧ many ≤ k ∧ (k = 1 ∨ (k : Int) ≤ many)) ?hJ0 ?hJb0
    (fun D W => WtAt w ys many p cap pc cc B1 b0 0 W ∧ (∃ m, Box W W0.heap.size 3 (vnL m) ∧ LeaveAtL many ys.length m) ∧ W0.heap.size < D ∧ W.heap[D]? = some (.deferred (some [])) ∧ Frn (fun b => b = W0.heap.size) (W0.alloc (Obj.cells #[Value.int IntKind.i64 0] 3)) W)
    ?h00 ?hround0 ?hdone0 ?hstop0 ?hrest0
  case hFP0 =>
    have h1 := HV0.out.bs.lt
    rintro b (rfl | hb)
    · exact h1
    · have := HV0.out.rc.inlt hb; have := HV0.out.bt.lt; omega
  case hJ0 =>
    rintro k T W W' ⟨h1, h2, h3⟩ hf
    exact ⟨h1.go hf, h2.kept (h1.own hf HN0.out.lt), h3⟩
  case hJb0 =>
    rintro k T W W' ⟨h1, h2, h3⟩ hf
    exact ⟨h1.go hf, h2.kept (h1.own hf HN0.out.lt), h3⟩
  case h00 => exact ⟨Keep.start _ _, HN0.out, .inl rfl⟩
  case hround0 =>
    rintro l k hk T W ⟨hs, hbox, hmk⟩ hTl hTW hkW
    have hk' : k < ys.length := by simpa [encW] using hk
    rw [encW_get]
    obtain ⟨y, hy⟩ : ∃ y, ys[k] = y := ⟨_, rfl⟩
    rw [hy]
    obtain ⟨y1, y2⟩ := y
    unfold tv
    gi_wp2
    have hWa : Kps (fun b => (b = B1 + 1 ∨ inP pc cc b) ∨ T b) W (W.alloc (.cells #[.int .i64 y1, .bool y2] 53)) := (Kps.refl _ _).alloc _
    refine ⟨hWa, fun W2 hf hsz hk2 _ => ?_⟩
    have hs1 := hs.alloc (.cells #[.int .i64 y1, .bool y2] 53)
    have hs2 := hs1.goSame hf hsz
    have hbox2 : Box W2 W0.heap.size 3 (vnL k) := (hbox.alloc (.cells #[.int .i64 y1, .bool y2] 53)).kept (hs1.own hf HN0.out.lt)
    have hx2 : W2.heap[W.heap.size]? = some (.cells #[.int .i64 y1, .bool y2] 53 (0, 0)) := (hf.block _ (by simp) (fun ht => Nat.lt_irrefl _ (hTW _ ht))).trans (World.alloc_heap_new W _)
    have hxn : W.heap.size ≠ W0.heap.size := by have := hbox.lt; omega
    have hx0 := pair_c0 hx2
    have hx1 := pair_c1 hx2
    have hA2 := HV0.out.kept hs2 (by rintro b rfl; exact hlb0)
    have hcn : W2.cell? ⟨W0.heap.size, 0, none⟩ = some (.int .i64 (k : Int)) := hbox2.cell
    have hfz := hbox2.free
    have hcw := hA2.bw.cell
    have hct : W2.cell? ⟨b0, 0, none⟩ = some (.int .i64 0) := hA2.bt.cell
    have hcm := hA2.bm.cell
    obtain ⟨ob, off, hpo, hob, hcx, hcy⟩ := hA2.rd.rows k hk'
    rw [hpo] at hcw
    rw [hy] at hcx hcy
    simp only at hcx hcy
    have hks : ∀ nq u, Kps (fun b => (b = B1 + 1 ∨ inP pc cc b) ∨ T b) W2 ((W2.drewN nq).setCell ⟨W0.heap.size, 0, none⟩ u) := by
      intro nq u
      refine (show Kps (fun b => (b = B1 + 1 ∨ inP pc cc b) ∨ T b) W2 (W2.drewN nq) from ⟨rfl, rfl, rfl, Nat.le_refl _, fun _ _ _ => rfl⟩).trans (kps_set ⟨W0.heap.size, 0, none⟩ ?_ (hs2.notT (b := W0.heap.size) HN0.out.lt) _)
      rintro (h | h)
      · have h' : W0.heap.size = B1 + 1 := h
        have := HA0.out.bs.lt
        omega
      · have := HV0.out.rc.inlt h
        simp only at this
        omega
    have HS2 := Lib.hid hs2
    have HB2 := Lib.hid hbox2
    have hk3 : (k : Int) < (ys.length : Int) := by omega
    have hk4 : (k : Int) ≤ 8 := by omega
    have HC2 := Lib.hid (And.intro hcm hct)
    have hle5 : decide (ys.length ≤ k) = false := decide_eq_false (by omega)
    have hne1 : B1 ≠ W0.heap.size := by have := HA0.out.bw.lt; omega
    have hne2 : b0 ≠ W0.heap.size := by omega
    have hne3 : w.heap.size ≠ W0.heap.size := by have := HA0.out.bm.lt; omega
    have hne4 : ob ≠ W0.heap.size := by have := HA0.out.bw.lt; omega
    clear hf hkW hk2 hs hs1 hbox hs2 hbox2 hA2 hWa hx2 hpo hsz
    gi_wp2
    refine wpIn_region_quietR_lit (by kernel_rfl) (by kernel_rfl) (by kernel_rfl) ?_
    repeat (gi_big_quiet_step (fail))
    refine wpQuietIn_nil ?_
    rintro _ ⟨nq, rfl⟩
    clear hcn hct hcm hcw hcx hcy hx0 hx1 hfz
    have hfz : (W2.drewN nq).frozen? ⟨W0.heap.size, 0, none⟩ = false := HB2.out.free
    have hcn : (W2.drewN nq).cell? ⟨W0.heap.size, 0, none⟩ = some (.int .i64 (k : Int)) := HB2.out.cell
    have hcm : (W2.drewN nq).cell? ⟨w.heap.size, 0, none⟩ = some (.int .i64 many) := HC2.out.1
    have hct : (W2.drewN nq).cell? ⟨b0, 0, none⟩ = some (.int .i64 0) := HC2.out.2
    by_cases hm : many ≤ (k : Int) + 1
    · gi_wp2
      refine ⟨⟨rfl, ((HS2.out.drewN nq : Keep (fun b => b = W0.heap.size) (W0.alloc (Obj.cells #[Value.int IntKind.i64 0] 3)) T (W2.drewN nq))).set ⟨W0.heap.size, 0, none⟩ (.inl rfl) _, ?_, by omega⟩, ?_⟩
      · have := (show Box (W2.drewN nq) W0.heap.size 3 (vnL k) from HB2.out).set (vnL (k + 1))
        have e : Value.int IntKind.i64 ((k : Int) + 1) = vnL (k + 1) := by simp [vnL]
        rw [e]; exact this
      · exact hks _ _
    · gi_wp2
      refine ⟨⟨((HS2.out.drewN nq : Keep (fun b => b = W0.heap.size) (W0.alloc (Obj.cells #[Value.int IntKind.i64 0] 3)) T (W2.drewN nq))).set ⟨W0.heap.size, 0, none⟩ (.inl rfl) _, ?_, .inr (by omega)⟩, ?_⟩
      · have := (show Box (W2.drewN nq) W0.heap.size 3 (vnL k) from HB2.out).set (vnL (k + 1))
        have e : Value.int IntKind.i64 ((k : Int) + 1) = vnL (k + 1) := by simp [vnL]
        rw [e]; exact this
      · exact hks _ _
  case hdone0 =>
    rintro D T W ⟨hs, hbox, hmk⟩ hTD hTW hkW hD hK
    rw [encW_len] at hbox hmk
    have hD' : W0.heap.size + 1 ≤ D := by simpa using hD
    refine ⟨HV0.out.kept hs (by rintro b rfl; exact hlb0), ⟨_, hbox, by unfold LeaveAtL; omega⟩, by omega, hK, hs.frn⟩
  case hstop0 =>
    rintro D k T W hk hk1 ⟨hs, hbox, hmk⟩ hTD hTW hkW hD hK
    rw [encW_len] at hk
    have hD' : W0.heap.size + 1 ≤ D := by simpa using hD
    exact ⟨HV0.out.kept hs (by rintro b rfl; exact hlb0), ⟨_, hbox, by unfold LeaveAtL; omega⟩, by omega, hK, hs.frn⟩
  rintro D0 V1 ⟨hA1, ⟨m0, hN1, hmm⟩, hD0, hK0, hF0⟩
  have hc1 : V1.cell? ⟨b0, 0, none⟩ = some (.int .i64 0) := hA1.bt.cell
  have hc2 := hA1.bm.cell
  have hc3 := hA1.bw.cell
  have hc4 : V1.cell? ⟨W0.heap.size, 0, none⟩ = some (.int .i64 (m0 : Int)) := hN1.cell
  have HA := Lib.hid hA1
  have HF0 := Lib.hid hF0
  have HM := Lib.hid hmm
  clear hA1 hN1 hF0 hmm
  gi_upto_region 19 with fail
  gi_cut [85] from 65 (fun s85 wx => s85 = .bool false ∧ wx = V1)
  case first =>
    skip
    skip
    gi_wp2
    all_goals first
      | (gi_meet; exact ⟨rfl, rfl⟩)
      | (exfalso; have hmm := HM.out; unfold LeaveAtL at hmm; omega)
  obtain ⟨rfl, rfl⟩ := hcut
  gi_wp2
  clear hc1 hc2 hc3 hc4
  obtain ⟨V1', hW1⟩ : ∃ V', wc.alloc (Obj.cells #[Value.int IntKind.i64 1] 3) = V' := ⟨_, rfl⟩
  have hA1 : WtAt w ys many p cap pc cc B1 wc.heap.size 1 V1' := by
    have h := HA.out
    have hl := h.bt.lt
    have h2 := h.kept (X := fun _ => False) (T := fun _ => False) ((Keep.start _ _).alloc (Obj.cells #[Value.int IntKind.i64 1] 3)) (fun _ h => h.elim)
    rw [← hW1]
    exact ⟨h2.at_, h2.le, by have := h2.lt; omega, h2.bm, h2.br, h2.bw, h2.bs, Box.new _ _ _, h2.rd, h2.rc.wide (Nat.le_of_lt hl)⟩
  have hle0 : wc.heap.size + 1 = V1'.heap.size := by rw [← hW1, World.size_alloc]
  have hk0 : V1'.heap[D0]? = some (.deferred (some [])) := by rw [← hW1]; exact (Below.heap_alloc wc _ _ (Array.getElem?_eq_some_iff.1 hK0).1).trans hK0
  skip
  rw [hW1]
  obtain ⟨b1, hb1⟩ : ∃ b, wc.heap.size = b := ⟨_, rfl⟩
  rw [hb1] at hA1 hle0 ⊢
  have hD0' : D0 < b1 := by have := (Array.getElem?_eq_some_iff.1 hK0).1; omega
  have HA1 := Lib.hid hA1
  have HK0 := Lib.hid hk0
  clear hW1 HA hK0 hk0 
  clear hb1
  clear HF0 HM
  rw [roundsIn_succ]
  have hc1 : V1'.cell? ⟨b1, 0, none⟩ = some (.int .i64 1) := HA1.out.bt.cell
  gi_wp2
  have hV1 : WtAt w ys many p cap pc cc B1 b1 1 (V1'.alloc (Obj.cells #[Value.int IntKind.i64 0] 3)) := HA1.out.kept (X := fun _ => False) (T := fun _ => False) ((Keep.start _ _).alloc _) (fun _ h => h.elim)
  have hbn1 : Box (V1'.alloc (Obj.cells #[Value.int IntKind.i64 0] 3)) V1'.heap.size 3 (vnL 0) := Box.new _ _ _
  have HV1 := Lib.hid hV1
  have HN1 := Lib.hid hbn1
  have hlb1 : b1 < V1'.heap.size := HA1.out.bt.lt
  clear hV1 hbn1 hc1
  refine rf_brk (id := 2) (gf := 60) (lb := #[.pointer (some ⟨B1 + 1, 0, none⟩)]) rfl (enters_of Try.func60 (by kernel_rfl) rfl)
    (waits1_iter (B1 + 1) pc cc ys _ HV1.out.bs.cell (HV1.out.rc.wide (Nat.le_of_lt HV1.out.bt.lt))) (by intro x hx; obtain ⟨i, hi, rfl⟩ := List.mem_iff_getElem.1 hx; rw [encW_get]; rfl) ?hFP1
    (fun k T W => Keep (fun b => b = V1'.heap.size) (V1'.alloc (Obj.cells #[Value.int IntKind.i64 0] 3)) T W ∧ Box W V1'.heap.size 3 (vnL k) ∧ True)
    (fun k T W => Keep (fun b => b = V1'.heap.size) (V1'.alloc (Obj.cells #[Value.int IntKind.i64 0] 3)) T W ∧ Box W V1'.heap.size 3 (vnL k) ∧ False) ?hJ1 ?hJb1
    (fun D W => WtAt w ys many p cap pc cc B1 b1 1 W ∧ (∃ m, Box W V1'.heap.size 3 (vnL m) ∧ m = ys.length) ∧ V1'.heap.size < D ∧ W.heap[D]? = some (.deferred (some [])) ∧ Frn (fun b => b = V1'.heap.size) (V1'.alloc (Obj.cells #[Value.int IntKind.i64 0] 3)) W)
    ?h01 ?hround1 ?hdone1 ?hstop1 ?hrest1
  case hFP1 =>
    have h1 := HV1.out.bs.lt
    rintro b (rfl | hb)
    · exact h1
    · have := HV1.out.rc.inlt hb; have := HV1.out.bt.lt; omega
  case hJ1 =>
    rintro k T W W' ⟨h1, h2, h3⟩ hf
    exact ⟨h1.go hf, h2.kept (h1.own hf HN1.out.lt), h3⟩
  case hJb1 =>
    rintro k T W W' ⟨h1, h2, h3⟩ hf
    exact ⟨h1.go hf, h2.kept (h1.own hf HN1.out.lt), h3⟩
  case h01 => exact ⟨Keep.start _ _, HN1.out, trivial⟩
  case hround1 =>
    rintro l k hk T W ⟨hs, hbox, hmk⟩ hTl hTW hkW
    have hk' : k < ys.length := by simpa [encW] using hk
    rw [encW_get]
    obtain ⟨y, hy⟩ : ∃ y, ys[k] = y := ⟨_, rfl⟩
    rw [hy]
    obtain ⟨y1, y2⟩ := y
    unfold tv
    gi_wp2
    have hWa : Kps (fun b => (b = B1 + 1 ∨ inP pc cc b) ∨ T b) W (W.alloc (.cells #[.int .i64 y1, .bool y2] 53)) := (Kps.refl _ _).alloc _
    refine ⟨hWa, fun W2 hf hsz hk2 _ => ?_⟩
    have hs1 := hs.alloc (.cells #[.int .i64 y1, .bool y2] 53)
    have hs2 := hs1.goSame hf hsz
    have hbox2 : Box W2 V1'.heap.size 3 (vnL k) := (hbox.alloc (.cells #[.int .i64 y1, .bool y2] 53)).kept (hs1.own hf HN1.out.lt)
    have hx2 : W2.heap[W.heap.size]? = some (.cells #[.int .i64 y1, .bool y2] 53 (0, 0)) := (hf.block _ (by simp) (fun ht => Nat.lt_irrefl _ (hTW _ ht))).trans (World.alloc_heap_new W _)
    have hxn : W.heap.size ≠ V1'.heap.size := by have := hbox.lt; omega
    have hx0 := pair_c0 hx2
    have hx1 := pair_c1 hx2
    have hA2 := HV1.out.kept hs2 (by rintro b rfl; exact hlb1)
    have hcn : W2.cell? ⟨V1'.heap.size, 0, none⟩ = some (.int .i64 (k : Int)) := hbox2.cell
    have hfz := hbox2.free
    have hcw := hA2.bw.cell
    have hct : W2.cell? ⟨b1, 0, none⟩ = some (.int .i64 1) := hA2.bt.cell
    have hcm := hA2.bm.cell
    obtain ⟨ob, off, hpo, hob, hcx, hcy⟩ := hA2.rd.rows k hk'
    rw [hpo] at hcw
    rw [hy] at hcx hcy
    simp only at hcx hcy
    have hks : ∀ nq u, Kps (fun b => (b = B1 + 1 ∨ inP pc cc b) ∨ T b) W2 ((W2.drewN nq).setCell ⟨V1'.heap.size, 0, none⟩ u) := by
      intro nq u
      refine (show Kps (fun b => (b = B1 + 1 ∨ inP pc cc b) ∨ T b) W2 (W2.drewN nq) from ⟨rfl, rfl, rfl, Nat.le_refl _, fun _ _ _ => rfl⟩).trans (kps_set ⟨V1'.heap.size, 0, none⟩ ?_ (hs2.notT (b := V1'.heap.size) HN1.out.lt) _)
      rintro (h | h)
      · have h' : V1'.heap.size = B1 + 1 := h
        have := HA1.out.bs.lt
        omega
      · have := HV1.out.rc.inlt h
        simp only at this
        omega
    have HS2 := Lib.hid hs2
    have HB2 := Lib.hid hbox2
    have hk3 : (k : Int) < (ys.length : Int) := by omega
    have hk4 : (k : Int) ≤ 8 := by omega
    have HC2 := Lib.hid (And.intro hcm hct)
    have hle5 : decide (ys.length ≤ k) = false := decide_eq_false (by omega)
    have hne1 : B1 ≠ V1'.heap.size := by have := HA1.out.bw.lt; omega
    have hne2 : b1 ≠ V1'.heap.size := by omega
    have hne3 : w.heap.size ≠ V1'.heap.size := by have := HA1.out.bm.lt; omega
    have hne4 : ob ≠ V1'.heap.size := by have := HA1.out.bw.lt; omega
    clear hf hkW hk2 hs hs1 hbox hs2 hbox2 hA2 hWa hx2 hpo hsz
    gi_wp2
    refine wpIn_region_quietR_lit (by kernel_rfl) (by kernel_rfl) (by kernel_rfl) ?_
    repeat (gi_big_quiet_step (fail))
    refine wpQuietIn_nil ?_
    rintro _ ⟨nq, rfl⟩
    clear hcn hct hcm hcw hcx hcy hx0 hx1 hfz
    have hfz : (W2.drewN nq).frozen? ⟨V1'.heap.size, 0, none⟩ = false := HB2.out.free
    have hcn : (W2.drewN nq).cell? ⟨V1'.heap.size, 0, none⟩ = some (.int .i64 (k : Int)) := HB2.out.cell
    have hcm : (W2.drewN nq).cell? ⟨w.heap.size, 0, none⟩ = some (.int .i64 many) := HC2.out.1
    have hct : (W2.drewN nq).cell? ⟨b1, 0, none⟩ = some (.int .i64 1) := HC2.out.2
    · gi_wp2
      refine ⟨⟨((HS2.out.drewN nq : Keep (fun b => b = V1'.heap.size) (V1'.alloc (Obj.cells #[Value.int IntKind.i64 0] 3)) T (W2.drewN nq))).set ⟨V1'.heap.size, 0, none⟩ (.inl rfl) _, ?_, trivial⟩, ?_⟩
      · have := (show Box (W2.drewN nq) V1'.heap.size 3 (vnL k) from HB2.out).set (vnL (k + 1))
        have e : Value.int IntKind.i64 ((k : Int) + 1) = vnL (k + 1) := by simp [vnL]
        rw [e]; exact this
      · exact hks _ _
  case hdone1 =>
    rintro D T W ⟨hs, hbox, hmk⟩ hTD hTW hkW hD hK
    rw [encW_len] at hbox
    have hD' : V1'.heap.size + 1 ≤ D := by simpa using hD
    refine ⟨HV1.out.kept hs (by rintro b rfl; exact hlb1), ⟨_, hbox, rfl⟩, by omega, hK, hs.frn⟩
  case hstop1 =>
    rintro D k T W hk hk1 ⟨hs, hbox, hmk⟩ hTD hTW hkW hD hK
    exact hmk.elim
  rintro D1 V2 ⟨hA2, ⟨m1, hN2, hmm⟩, hD1, hK1, hF1⟩
  have hc1 : V2.cell? ⟨b1, 0, none⟩ = some (.int .i64 1) := hA2.bt.cell
  have hc2 := hA2.bm.cell
  have hc3 := hA2.bw.cell
  have hc4 : V2.cell? ⟨V1'.heap.size, 0, none⟩ = some (.int .i64 (m1 : Int)) := hN2.cell
  have HA := Lib.hid hA2
  have HF1 := Lib.hid hF1
  have HM := Lib.hid hmm
  clear hA2 hN2 hF1 hmm
  gi_upto_region 19 with fail
  gi_cut [85] from 65 (fun s85 wx => s85 = .bool false ∧ wx = V2)
  case first =>
    have hz : m1 = ys.length := HM.out
    subst hz
    gi_wp2
    all_goals first
      | (gi_meet; exact ⟨rfl, rfl⟩)
      | (exfalso; have hmm := HM.out; unfold LeaveAtL at hmm; omega)
  obtain ⟨rfl, rfl⟩ := hcut
  gi_wp2
  clear hc1 hc2 hc3 hc4
  obtain ⟨V2', hW2⟩ : ∃ V', wc.alloc (Obj.cells #[Value.int IntKind.i64 2] 3) = V' := ⟨_, rfl⟩
  have hA2 : WtAt w ys many p cap pc cc B1 wc.heap.size 2 V2' := by
    have h := HA.out
    have hl := h.bt.lt
    have h2 := h.kept (X := fun _ => False) (T := fun _ => False) ((Keep.start _ _).alloc (Obj.cells #[Value.int IntKind.i64 2] 3)) (fun _ h => h.elim)
    rw [← hW2]
    exact ⟨h2.at_, h2.le, by have := h2.lt; omega, h2.bm, h2.br, h2.bw, h2.bs, Box.new _ _ _, h2.rd, h2.rc.wide (Nat.le_of_lt hl)⟩
  have hle1 : wc.heap.size + 1 = V2'.heap.size := by rw [← hW2, World.size_alloc]
  have hk1 : V2'.heap[D1]? = some (.deferred (some [])) := by rw [← hW2]; exact (Below.heap_alloc wc _ _ (Array.getElem?_eq_some_iff.1 hK1).1).trans hK1
  have hk0' : V2'.heap[D0]? = some (.deferred (some [])) := by rw [← hW2]; exact (Below.heap_alloc wc _ _ (Nat.lt_of_lt_of_le (by have := HV1.out.bt.lt; omega) HF1.out.size)).trans ((HF1.out.block D0 (by have := HV1.out.bt.lt; omega) (by intro h; have h' : D0 = V1'.heap.size := h; omega)).trans ((Below.heap_alloc V1' _ _ (by omega)).trans HK0.out))
  rw [hW2]
  obtain ⟨b2, hb2⟩ : ∃ b, wc.heap.size = b := ⟨_, rfl⟩
  rw [hb2] at hA2 hle1 ⊢
  have hD1' : D1 < b2 := by have := (Array.getElem?_eq_some_iff.1 hK1).1; omega
  have HA2 := Lib.hid hA2
  have HK1 := Lib.hid hk1
  clear hW2 HA hK1 hk1 HK0
  clear hb2
  clear HF1 HM
  rw [roundsIn_succ]
  have hc2 : V2'.cell? ⟨b2, 0, none⟩ = some (.int .i64 2) := HA2.out.bt.cell
  gi_wp2
  have HK0 := Lib.hid hk0'
  clear hc2 hk0'
  refine wcall (works25_any V2') ?_
  rintro e w4 ⟨rfl, hb4⟩
  have hbr4 := HA2.out.br.below hb4 HA2.out.br.lt
  have hc4 := hbr4.cell
  have hf4 := hbr4.free
  have HBR := Lib.hid hbr4
  have HB4 := Lib.hid hb4
  clear hb4 hbr4
  gi_wp2
  have e1 : D1 ≠ w.heap.size + 1 := by have := HA2.out.le; have := HA2.out.lt; have := HA1.out.lt; omega
  have e0 : D0 ≠ w.heap.size + 1 := by have := HA0.out.le; have := HA0.out.lt; omega
  have hkD : ∀ D, D < V2'.heap.size → D ≠ w.heap.size + 1 → (w4.setCell ⟨w.heap.size + 1, 0, none⟩ (.bool true)).heap[D]? = V2'.heap[D]? := fun D hD hne =>
    (Below.heap_setCell w4 ⟨w.heap.size + 1, 0, none⟩ _ D hne).trans (HB4.out.block D hD)
  have hw : Below w.heap.size w (w4.setCell ⟨w.heap.size + 1, 0, none⟩ (.bool true)) := (HA2.out.at_.below HB4.out).1.setCell (p := ⟨w.heap.size + 1, 0, none⟩) (Nat.le_succ _) _
  have hd1 := (hkD D1 (by omega) e1).trans HK1.out
  have hd0 := (hkD D0 (by omega) e0).trans HK0.out
  have hbF := HBR.out.set (.bool true)
  clear hkD hc4 hf4
  generalize w4.setCell ⟨w.heap.size + 1, 0, none⟩ (.bool true) = WF at *
  have hc := (cell_putObj (W := WF.putObj D1 (.deferred none)) (D := D0) (B := w.heap.size + 1) (o := .deferred none) e0 0).trans ((cell_putObj (W := WF) (o := .deferred none) e1 0).trans hbF.cell)
  refine leave2 rfl hd1 hd0 (by omega) (results_cell1 rfl _ _ rfl (v := .bool true) (by simp [go_sem, hc])) ⟨rfl, ?_⟩
  exact below_putObj (below_putObj hw (by have := HA2.out.le; have := HA2.out.lt; have := HA1.out.lt; omega) _) (by have := HA0.out.le; have := HA0.out.lt; omega) _
theorem lawLatchLeaves_of {α : Type} {enc : α → List Value} (p : Option Addr) (cap : Nat) (ys : List α) (many : Int) (w : World) (hrd : RdS w.heap.size w p cap 2 enc ys) (f : α → ActT) (he : ∀ y, enc y = ac (f y)) :
    Calls Try.prog 4 #[.slice p ys.length cap, .int .i64 many] w fun e w' => e = .returned (.bool true) ∧ Below w.heap.size w w' := by
  have := lawLatchLeaves p cap (ys.map f) many w (hrd.map f he)
  rwa [List.length_map] at this
end Go.Proofs.Ythhdipfadnihjaa
