/- The walk of the law BitmapLeaves. -/
import Derived.Test.YtljegehfdmgcbaaDoorBmK
import Derived.Sort.CutIn
import Derived.Sort.QuietIn
namespace Go.Proofs.YtljegehfdmgcbaaDoor
open Go Go.RowKit
attribute [local go_sem] Oper.semAt_some

theorem right64L (l : List (BitVec 64)) : RightW (64 * l.length) l := ⟨by omega, fun j h1 h2 => by omega⟩
theorem ok64L (l : List (BitVec 64)) (h1 : 1 ≤ l.length) (h2 : l.length ≤ 1000) : OfOkB ((64 * l.length : Nat) : Int) l := ⟨64 * l.length, rfl, by omega, by omega, right64L l⟩
set_option maxRecDepth 100000 in
set_option maxHeartbeats 8000000 in
theorem bleaves_out (p : Option Addr) (cap : Nat) (l : List (BitVec 64)) (many : Int) (w : World) (hT : TabAt w) (hbad : ¬ (1 ≤ l.length ∧ l.length ≤ 5)) :
    Calls Tryd.prog 3 #[.slice p l.length cap, .int .i64 many] w fun e w' => e = .returned (.bool true) ∧ Below w.heap.size w w' := by
  have h0 := hT.lt
  obtain ⟨wa, hwa, hM, hR, hba, hza⟩ := box2 w 3 4 (.int .i64 many) (.bool false)
  have HW := Lib.hid (works05_any wa (hT.below h0 hba))
  have HA := Lib.hid (And.intro hR hba)
  clear hM hR hba hza hT
  have fin : ∀ wz, Below wa.heap.size wa wz → Box wz (w.heap.size + 1) 4 (.bool false) ∧ Below w.heap.size w wz := fun wz hb => ⟨HA.out.1.below hb HA.out.1.lt, HA.out.2.trans (hb.mono HA.out.2.size)⟩
  have FIN := Lib.hid fin
  clear fin
  by_cases h1 : (l.length : Int) < 1
  case pos =>
    go_enter Tryd.func3, Tryd.ntmps3
    go_wp2_with fail
    refine HW.out.mono ?_
    rintro e wz ⟨rfl, hbz⟩
    have HZ := Lib.hid (FIN.out wz hbz)
    have c9 := HZ.out.1.cell
    have f9 := HZ.out.1.free
    clear hbz
    go_wp2_with fail
    have hc9 := (HZ.out.1.set (.bool true)).cell
    refine bodyPost_ret (v := .bool true) (results_cell1 rfl _ _ rfl (v := .bool true) (by simp [go_sem, hc9])) rfl ⟨rfl, ?_⟩
    exact HZ.out.2.setCell (p := ⟨w.heap.size + 1, 0, none⟩) (by simp) _
  have h2 : (5 : Int) < (l.length : Int) := by omega
  go_enter Tryd.func3, Tryd.ntmps3
  go_wp2_with fail
  refine HW.out.mono ?_
  rintro e wz ⟨rfl, hbz⟩
  have HZ := Lib.hid (FIN.out wz hbz)
  have c9 := HZ.out.1.cell
  have f9 := HZ.out.1.free
  clear hbz
  go_wp2_with fail
  have hc9 := (HZ.out.1.set (.bool true)).cell
  refine bodyPost_ret (v := .bool true) (results_cell1 rfl _ _ rfl (v := .bool true) (by simp [go_sem, hc9])) rfl ⟨rfl, ?_⟩
  exact HZ.out.2.setCell (p := ⟨w.heap.size + 1, 0, none⟩) (by simp) _

set_option maxRecDepth 100000 in
set_option maxHeartbeats 8000000 in
theorem bleaves_in (p : Option Addr) (cap : Nat) (l : List (BitVec 64)) (many : Int) (w : World) (hT : TabAt w) (hrd : RdL w.heap.size w p cap vw l) (hl1 : 1 ≤ l.length) (hl5 : l.length ≤ 5) :
    Calls Tryd.prog 3 #[.slice p l.length cap, .int .i64 many] w fun e w' => e = .returned (.bool true) ∧ Below w.heap.size w w' := by
  have h0 := hT.lt
  have HT := Lib.hid hT
  have HRD := Lib.hid hrd
  obtain ⟨wa, hwa, hM, hR, hba, hza⟩ := box2 w 3 4 (.int .i64 many) (.bool false)
  have HA := Lib.hid (And.intro hM (And.intro hR (And.intro hba hza)))
  have hk1 : (1 : Int) ≤ (l.length : Int) := by omega
  have hk2 : (l.length : Int) ≤ 5 := by omega
  have HO := Lib.hid (ofBm_any ((64 * l.length : Nat) : Int) p cap l wa ((hrd.below hba).wide hba.size) (by omega))
  have hea : ((64 * l.length : Nat) : Int) = 64 * (l.length : Int) := by omega
  rw [hea] at HO
  have HOK := Lib.hid (ok64L l hl1 (by omega))
  rw [hea] at HOK
  have HE := Lib.hid hea
  clear hM hR hba hza hT hrd hea
  refine (callsIn_wide (n := 0)).1 ?_
  refine callsIn_of_wp_marks Tryd.func3 rfl trivial ?_ rfl
  simp only [Tryd.ntmps3, List.size_toArray, List.length_cons, List.length_nil, Nat.reduceAdd, Nat.reduceSub, Array.replicate_succ, Array.replicate_zero, List.push_toArray, List.append_toArray, List.nil_append, List.cons_append]
  refine wpIn_wide.2 ?_
  go_wp2_with fail
  refine HO.out.mono ?_
  rintro e w1 (⟨v, n, rfl, hmn, _, O, g, c, rfl, hbm, hO, hg, hb1⟩ | ⟨rfl, hno, _⟩)
  case inr => exact absurd HOK.out hno
  have hn : n = 64 * l.length := by omega
  have HNL := Lib.hid hn
  have hnle : n ≤ 320 := by omega
  clear hn
  have H1 : Hid (BmAt w1 O g c l n ∧ Below w.heap.size w w1 ∧ Box w1 w.heap.size 3 (.int .i64 many) ∧ Box w1 (w.heap.size + 1) 4 (.bool false) ∧ w.heap.size + 2 ≤ O ∧ w.heap.size + 2 ≤ g ∧ w.heap.size + 2 ≤ w1.heap.size) :=
    Lib.hid ⟨hbm, HA.out.2.2.1.trans (hb1.mono HA.out.2.2.1.size), HA.out.1.below hb1 HA.out.1.lt, HA.out.2.1.below hb1 HA.out.2.1.lt, by have := HA.out.2.2.2; omega, by have := HA.out.2.2.2; omega, by have := HA.out.2.2.2; have := hb1.size; omega⟩
  have HRO := Lib.hid (refOf05 ((64 * l.length : Nat) : Int) p cap l w1 ((HRD.out.below H1.out.2.1).wide H1.out.2.1.size) (by omega))
  rw [HE.out] at HRO
  clear hmn hbm hO hg hb1 HO hwa
  go_wp2_with fail
  refine HRO.out.mono ?_
  rintro e w2 (⟨g2, n2, rfl, hmn2, _, hn2, _, hrd2, _, hb2⟩ | ⟨rfl, hno, _⟩)
  case inr => exact absurd HOK.out hno
  have hnn : n2 = n := by have := HNL.out; omega
  subst hnn
  have H2 : Hid (BmAt w2 O g c l n2 ∧ Below w.heap.size w w2 ∧ Box w2 w.heap.size 3 (.int .i64 many) ∧ Box w2 (w.heap.size + 1) 4 (.bool false) ∧ w.heap.size + 2 ≤ w2.heap.size) :=
    Lib.hid ⟨H1.out.1.below hb2, H1.out.2.1.trans (hb2.mono H1.out.2.1.size), H1.out.2.2.1.below hb2 H1.out.2.2.1.lt, H1.out.2.2.2.1.below hb2 H1.out.2.2.2.1.lt, by have := hb2.size; have := H1.out.2.2.2.2.2.2; omega⟩
  have HRR := Lib.hid (refRuns05 (some ⟨g2, 0, none⟩) n2 l n2 w2 hrd2 hn2)
  clear hmn2 hrd2 hb2 hn2 HRO H1
  go_wp2_with (go_at_call 11; refine (num_any05 _ _).mono ?_; rintro e w' ⟨rfl, rfl⟩)
  refine HRR.out.mono ?_
  rintro e w5 ⟨qw, dw, rfl, hown, _, hb5⟩
  obtain ⟨zs, hzs⟩ : ∃ zs, runsF (bitW l) n2 = zs := ⟨_, rfl⟩
  have hzl := stR_len (bitW l) n2
  rw [hzs] at hown hzl ⊢
  have hrdr := hown.rds rc2_len
  have H5 : Hid (BmAt w5 O g c l n2 ∧ Below w.heap.size w w5 ∧ Box w5 w.heap.size 3 (.int .i64 many) ∧ Box w5 (w.heap.size + 1) 4 (.bool false) ∧ w.heap.size + 2 ≤ w5.heap.size) :=
    Lib.hid ⟨H2.out.1.below hb5, H2.out.2.1.trans (hb5.mono H2.out.2.1.size), H2.out.2.2.1.below hb5 H2.out.2.2.1.lt, H2.out.2.2.2.1.below hb5 H2.out.2.2.2.1.lt, by have := hb5.size; have := H2.out.2.2.2.2; omega⟩
  obtain ⟨w6, hw6⟩ : ∃ w6, w5.alloc (.cells #[.slice qw zs.length dw] 33) = w6 := ⟨_, rfl⟩
  have hb56 : Below w5.heap.size w5 w6 := by rw [← hw6]; exact (Below.refl _ _).alloc (Nat.le_refl _) _
  have hbx6 : Box w6 w5.heap.size 33 (.slice qw zs.length dw) := by rw [← hw6]; exact Box.new _ _ _
  obtain ⟨w7, hw7⟩ : ∃ w7, w6.alloc (.cells #[.pointer (some ⟨O, 0, none⟩)] 24) = w7 := ⟨_, rfl⟩
  have hb67 : Below w6.heap.size w6 w7 := by rw [← hw7]; exact (Below.refl _ _).alloc (Nat.le_refl _) _
  have hbx7 : Box w7 w6.heap.size 24 (.pointer (some ⟨O, 0, none⟩)) := by rw [← hw7]; exact Box.new _ _ _
  obtain ⟨W0, hW0⟩ : ∃ W0, w7.alloc (.cells #[.int .i64 0] 3) = W0 := ⟨_, rfl⟩
  have hb70 : Below w7.heap.size w7 W0 := by rw [← hW0]; exact (Below.refl _ _).alloc (Nat.le_refl _) _
  have hbn : Box W0 w7.heap.size 3 (vnB 0) := by rw [← hW0]; exact Box.new _ _ _
  have hz6 : w6.heap.size = w5.heap.size + 1 := by rw [← hw6]; simp
  have hz7 : w7.heap.size = w5.heap.size + 2 := by rw [← hw7, World.size_alloc, hz6]
  have hz0 : W0.heap.size = w5.heap.size + 3 := by rw [← hW0, World.size_alloc, hz7]
  have hb50 : Below w5.heap.size w5 W0 := hb56.trans ((hb67.mono (by omega)).trans (hb70.mono (by omega)))
  have hA0 : PR w zs many w5.heap.size (w5.heap.size + 1) (w5.heap.size + 2) O g c l n2 qw dw 0 W0 := by
    obtain ⟨h1, h2, h3, h4, h5⟩ := H5.out
    rw [hz6] at hbx7
    rw [hz7] at hbn
    have := h1.ltO
    have := h1.ltg
    exact ⟨⟨h2.trans (hb50.mono (by omega)), by omega⟩, by omega, by omega, by omega, by omega, by omega, by omega, h3.below hb50 (by omega), h4.below hb50 (by omega), hbx6.below (hb67.trans (hb70.mono (by omega))) hbx6.lt, hbx7.below hb70 hbx7.lt, h1.below hb50, hbn, (hrdr.keep (fun b hb => hb50.block b (hrdr.inlt hb))).widenB (by omega)⟩
  have HZS := Lib.hid hzs
  have HA0 := Lib.hid hA0
  have HW0 := Lib.hid (And.intro hw6 (And.intro hw7 hW0))
  have hnil := func05_nil
  clear hown hb5 hzs hrdr hb56 hbx6 hb67 hbx7 hb70 hbn hb50 hw6 hw7 hW0 HRR H2 H5 hA0
  go_wp2_with fail
  rw [HW0.out.1]
  refine (runs05_any (some ⟨O, 0, none⟩) w6).mono ?_
  rintro e w' ⟨rfl, rfl⟩
  rw [HW0.out.2.1]
  go_wp2_with fail
  clear hnil
  rw [HW0.out.2.2]
  obtain ⟨Bw, hBw⟩ : ∃ B, w5.heap.size = B := ⟨_, rfl⟩
  rw [hBw] at HA0 hz0 ⊢
  clear HW0 hz6 hz7 hBw
  obtain ⟨Bs, hBs⟩ : ∃ B, Bw + 1 = B := ⟨_, rfl⟩
  rw [hBs] at HA0 ⊢
  obtain ⟨b0, hb0⟩ : ∃ B, Bw + 2 = B := ⟨_, rfl⟩
  rw [hb0] at HA0 ⊢
  have hly : zs.length ≤ 320 := by omega
  clear hBs hb0 hz0 hzl
  generalize n2 = n at *
  refine (wpIn_wide (n := 0)).1 ?_
  refine wpIn_loop_rounds 3 ?_
  rw [roundsIn_succ]
  have hc0 : W0.cell? ⟨b0, 0, none⟩ = some (.int .i64 0) := HA0.out.tn.cell
  gi_wp2
  obtain ⟨U0, hU0⟩ : ∃ U, (W0.alloc (Obj.cells #[Value.int IntKind.i64 0] 3)) = U := ⟨_, rfl⟩
  obtain ⟨N0, hN0⟩ : ∃ N, W0.heap.size = N := ⟨_, rfl⟩
  have hV0 : PR w zs many Bw Bs b0 O g c l n qw dw 0 U0 := by rw [← hU0]; exact HA0.out.kept (X := fun _ => False) (T := fun _ => False) ((Keep.start _ _).alloc _) (fun _ h => h.elim)
  have hbn0 : Box U0 N0 3 (vnB 0) := by rw [← hU0, ← hN0]; exact Box.new _ _ _
  have hlb0 : b0 < N0 := by rw [← hN0]; exact HA0.out.tn.lt
  have hsU0 : U0.heap.size = N0 + 1 := by rw [← hU0, ← hN0]; simp
  have HV0 := Lib.hid hV0
  have HN0 := Lib.hid hbn0
  have HSU0 := Lib.hid hsU0
  rw [hU0, hN0]
  clear hV0 hbn0 hc0 hU0 hsU0
  have hit0 : Iter Tryd.prog 30 #[.pointer (some ⟨Bs, 0, none⟩)] (encR zs) (fun b => (b = Bs ∨ b = O ∨ b = g)) U0 := by rw [← HZS.out]; exact runs1_iter Bs U0 HV0.out.bs HV0.out.mp
  refine rf_brk (id := 2) (gf := 30) (lb := #[.pointer (some ⟨Bs, 0, none⟩)]) rfl (enters_of Tryd.func30 (by kernel_rfl) rfl)
    hit0 (by intro x hx; obtain ⟨y, _, rfl⟩ := List.mem_map.1 hx; rfl) ?hFP0
    (fun k T W => Keep (fun b => b = N0) U0 T W ∧ Box W N0 3 (vnB k) ∧ (k = 0 ∨ (k : Int) < many))
    (fun k T W => Keep (fun b => b = N0) U0 T W ∧ Box W N0 3 (vnB k) ∧ many ≤ k ∧ (k = 1 ∨ (k : Int) ≤ many)) ?hJ0 ?hJb0
    (fun D W => PR w zs many Bw Bs b0 O g c l n qw dw 0 W ∧ (∃ m, Box W N0 3 (vnB m) ∧ LeaveAtB many zs.length m) ∧ N0 < D ∧ W.heap[D]? = some (.deferred (some [])) ∧ Frn (fun b => b = N0) U0 W)
    ?h00 ?hround0 ?hdone0 ?hstop0 ?hrest0
  case hFP0 =>
    rintro b (rfl | rfl | rfl)
    · exact HV0.out.bs.lt
    · exact HV0.out.mp.ltO
    · exact HV0.out.mp.ltg
  case hJ0 =>
    rintro k T W W' ⟨h1, h2, h3⟩ hf
    exact ⟨h1.go hf, h2.kept (h1.own hf HN0.out.lt), h3⟩
  case hJb0 =>
    rintro k T W W' ⟨h1, h2, h3⟩ hf
    exact ⟨h1.go hf, h2.kept (h1.own hf HN0.out.lt), h3⟩
  case h00 => exact ⟨Keep.start _ _, HN0.out, .inl rfl⟩
  case hround0 =>
    clear hit0
    rintro l' k hk T W ⟨hs, hbox, hmk⟩ hTl hTW hkW
    have hk' : k < zs.length := by simpa [encR] using hk
    rw [encR_get]
    obtain ⟨y, hy⟩ : ∃ y, zs[k] = y := ⟨_, rfl⟩
    rw [hy]
    obtain ⟨y2, y3⟩ := y
    unfold rv2
    simp only
    gi_wp2
    have hWa : Kps (fun b => (b = Bs ∨ b = O ∨ b = g) ∨ T b) W (W.alloc (.cells #[.int .i64 y2, .int .i64 y3] 39)) := (Kps.refl _ _).alloc _
    refine ⟨hWa, fun W2 hf hsz hk2 _ => ?_⟩
    have hs1 := hs.alloc (.cells #[.int .i64 y2, .int .i64 y3] 39)
    have hs2 := hs1.goSame hf hsz
    have hbox2 : Box W2 N0 3 (vnB k) := (hbox.alloc (.cells #[.int .i64 y2, .int .i64 y3] 39)).kept (hs1.own hf HN0.out.lt)
    have hx2 : W2.heap[W.heap.size]? = some (.cells #[.int .i64 y2, .int .i64 y3] 39 (0, 0)) := (hf.block _ (by simp) (fun ht => Nat.lt_irrefl _ (hTW _ ht))).trans (World.alloc_heap_new W _)
    have hx0 : W2.cell? ⟨W.heap.size, 0, none⟩ = some (.int .i64 y2) := by simp [World.cell?, hx2]
    have hx1 : W2.cell? ⟨W.heap.size, 1, none⟩ = some (.int .i64 y3) := by simp [World.cell?, hx2]
    have hA2 := HV0.out.kept hs2 (by rintro b rfl; omega)
    have hcn : W2.cell? ⟨N0, 0, none⟩ = some (.int .i64 (k : Int)) := hbox2.cell
    have hcw := hA2.bw.cell
    have hct : W2.cell? ⟨b0, 0, none⟩ = some (.int .i64 0) := hA2.tn.cell
    have hcm := hA2.bm.cell
    obtain ⟨ob, off, hpo, hob, hcx, hcy⟩ := hA2.rw.runAt k hk'
    rw [hpo] at hcw
    rw [hy] at hcx hcy
    simp only at hcx hcy
    have hnf : ¬ (N0 = Bs ∨ N0 = O ∨ N0 = g) ∧ ¬ T N0 := ⟨by have := HA0.out.lts; have := HA0.out.ltO; have := HA0.out.ltg; omega, hs2.notT (by have := HSU0.out; omega)⟩
    have hks : ∀ nq u, Kps (fun b => (b = Bs ∨ b = O ∨ b = g) ∨ T b) W2 ((W2.drewN nq).setCell ⟨N0, 0, none⟩ u) := by
      intro nq u
      have h0 : Kps (fun b => (b = Bs ∨ b = O ∨ b = g) ∨ T b) W2 (W2.drewN nq) := ⟨rfl, rfl, rfl, Nat.le_refl _, fun _ _ _ => rfl⟩
      exact h0.trans (kps_set ⟨N0, 0, none⟩ hnf.1 hnf.2 _)
    have HS2 := Lib.hid hs2
    have HB2 := Lib.hid hbox2
    have HF2 := Lib.hid (And.intro hcm hct)
    have hk3 : (k : Int) < (zs.length : Int) := by omega
    have hk4 : (k : Int) ≤ 320 := by omega
    have hle5 : decide (zs.length ≤ k) = false := decide_eq_false (by omega)
    have hne2 : b0 ≠ N0 := by omega
    have hne3 : w.heap.size ≠ N0 := by have := HA0.out.lw; have := HA0.out.ltw; omega
    have hpn := run2_neq y2 y3
    clear hf hkW hk2 hs hs1 hbox hs2 hbox2 hA2 hWa hx2 hpo hsz hnf
    gi_wp2
    refine wpIn_region_quietR_lit (by kernel_rfl) (by kernel_rfl) (by kernel_rfl) ?_
    repeat (gi_big_quiet_step (fail))
    refine wpQuietIn_nil ?_
    rintro _ ⟨nq, rfl⟩
    clear hcn hct hcm hcw hcx hcy hx0 hx1 hpn
    have hfz : (W2.drewN nq).frozen? ⟨N0, 0, none⟩ = false := HB2.out.free
    have hcn : (W2.drewN nq).cell? ⟨N0, 0, none⟩ = some (.int .i64 (k : Int)) := HB2.out.cell
    have hcm : (W2.drewN nq).cell? ⟨w.heap.size, 0, none⟩ = some (.int .i64 many) := HF2.out.1
    have hct : (W2.drewN nq).cell? ⟨b0, 0, none⟩ = some (.int .i64 0) := HF2.out.2
    by_cases hm : many ≤ (k : Int) + 1
    · skip
      gi_wp2
      refine ⟨⟨rfl, ((HS2.out.drewN nq : Keep (fun b => b = N0) U0 T (W2.drewN nq))).set ⟨N0, 0, none⟩ (.inl rfl) _, ?_, by omega⟩, ?_⟩
      · have := ((show Box (W2.drewN nq) N0 3 (vnB k) from HB2.out).set (vnB (k + 1)))
        have e : Value.int IntKind.i64 ((k : Int) + 1) = vnB (k + 1) := by simp [vnB]
        rw [e]; exact this
      · exact hks nq _
    · skip
      gi_wp2
      refine ⟨⟨((HS2.out.drewN nq : Keep (fun b => b = N0) U0 T (W2.drewN nq))).set ⟨N0, 0, none⟩ (.inl rfl) _, ?_, .inr (by omega)⟩, ?_⟩
      · have := ((show Box (W2.drewN nq) N0 3 (vnB k) from HB2.out).set (vnB (k + 1)))
        have e : Value.int IntKind.i64 ((k : Int) + 1) = vnB (k + 1) := by simp [vnB]
        rw [e]; exact this
      · exact hks nq _
  case hdone0 =>
    rintro D T W ⟨hs, hbox, hmk⟩ hTD hTW hkW hD hK
    rw [encR_len] at hbox hmk
    have hD' : N0 + 1 ≤ D := by rw [← HSU0.out]; exact hD
    refine ⟨HV0.out.kept hs (by rintro b rfl; omega), ⟨_, hbox, by unfold LeaveAtB; omega⟩, by omega, hK, hs.frn⟩
  case hstop0 =>
    rintro D k T W hk hk1 ⟨hs, hbox, hmk⟩ hTD hTW hkW hD hK
    rw [encR_len] at hk
    have hD' : N0 + 1 ≤ D := by rw [← HSU0.out]; exact hD
    exact ⟨HV0.out.kept hs (by rintro b rfl; omega), ⟨_, hbox, by unfold LeaveAtB; omega⟩, by omega, hK, hs.frn⟩
  rintro D0 V1 ⟨hA1, ⟨m0, hN1', hmm⟩, hD0, hK0, hF0⟩
  clear hit0
  have hc1 : V1.cell? ⟨b0, 0, none⟩ = some (.int .i64 0) := hA1.tn.cell
  have hc2 := hA1.bm.cell
  have hc3 := hA1.bw.cell
  have hc4 : V1.cell? ⟨N0, 0, none⟩ = some (.int .i64 (m0 : Int)) := hN1'.cell
  have HA := Lib.hid hA1
  have HF0 := Lib.hid hF0
  have HM := Lib.hid hmm
  clear hA1 hN1' hF0 hmm
  gi_upto_region 21 with fail
  gi_cut [99] from 79 (fun s99 wx => s99 = .bool false ∧ wx = V1)
  case first =>
    skip
    skip
    gi_wp2
    all_goals first
      | (gi_meet; exact ⟨rfl, rfl⟩)
      | (exfalso; have hmm := HM.out; unfold LeaveAtB at hmm; omega)
  obtain ⟨rfl, rfl⟩ := hcut
  gi_wp2
  clear hc1 hc2 hc3 hc4
  obtain ⟨V1', hW1⟩ : ∃ V', wc.alloc (Obj.cells #[Value.int IntKind.i64 1] 3) = V' := ⟨_, rfl⟩
  have hA1 : PR w zs many Bw Bs wc.heap.size O g c l n qw dw 1 V1' := by rw [← hW1]; exact HA.out.next 1
  have hle0 : wc.heap.size + 1 = V1'.heap.size := by rw [← hW1, World.size_alloc]
  have hk0 : V1'.heap[D0]? = some (.deferred (some [])) := by rw [← hW1]; exact (Below.heap_alloc wc _ _ (Array.getElem?_eq_some_iff.1 hK0).1).trans hK0
  skip
  rw [hW1]
  obtain ⟨b1, hb1⟩ : ∃ b, wc.heap.size = b := ⟨_, rfl⟩
  rw [hb1] at hA1 hle0 ⊢
  have hD0' : D0 < b1 := by have := (Array.getElem?_eq_some_iff.1 hK0).1; omega
  have HA1 := Lib.hid hA1
  have HK0 := Lib.hid hk0
  clear hW1 HA hK0 hk0 
  clear hb1
  clear HF0 HM
  rw [roundsIn_succ]
  have hc1 : V1'.cell? ⟨b1, 0, none⟩ = some (.int .i64 1) := HA1.out.tn.cell
  gi_wp2
  obtain ⟨U1, hU1⟩ : ∃ U, (V1'.alloc (Obj.cells #[Value.int IntKind.i64 0] 3)) = U := ⟨_, rfl⟩
  obtain ⟨N1, hN1⟩ : ∃ N, V1'.heap.size = N := ⟨_, rfl⟩
  have hV1 : PR w zs many Bw Bs b1 O g c l n qw dw 1 U1 := by rw [← hU1]; exact HA1.out.kept (X := fun _ => False) (T := fun _ => False) ((Keep.start _ _).alloc _) (fun _ h => h.elim)
  have hbn1 : Box U1 N1 3 (vnB 0) := by rw [← hU1, ← hN1]; exact Box.new _ _ _
  have hlb1 : b1 < N1 := by rw [← hN1]; exact HA1.out.tn.lt
  have hsU1 : U1.heap.size = N1 + 1 := by rw [← hU1, ← hN1]; simp
  have HKU := Lib.hid (show U1.heap[D0]? = some (.deferred (some [])) from by rw [← hU1]; exact (Below.heap_alloc _ _ _ (Array.getElem?_eq_some_iff.1 HK0.out).1).trans HK0.out)
  have HV1 := Lib.hid hV1
  have HN1 := Lib.hid hbn1
  have HSU1 := Lib.hid hsU1
  rw [hU1, hN1]
  clear hV1 hbn1 hc1 hU1 hsU1
  have hit1 : Iter Tryd.prog 30 #[.pointer (some ⟨Bs, 0, none⟩)] (encR zs) (fun b => (b = Bs ∨ b = O ∨ b = g)) U1 := by rw [← HZS.out]; exact runs1_iter Bs U1 HV1.out.bs HV1.out.mp
  refine rf_brk (id := 2) (gf := 30) (lb := #[.pointer (some ⟨Bs, 0, none⟩)]) rfl (enters_of Tryd.func30 (by kernel_rfl) rfl)
    hit1 (by intro x hx; obtain ⟨y, _, rfl⟩ := List.mem_map.1 hx; rfl) ?hFP1
    (fun k T W => Keep (fun b => b = N1) U1 T W ∧ Box W N1 3 (vnB k) ∧ True)
    (fun k T W => Keep (fun b => b = N1) U1 T W ∧ Box W N1 3 (vnB k) ∧ False) ?hJ1 ?hJb1
    (fun D W => PR w zs many Bw Bs b1 O g c l n qw dw 1 W ∧ (∃ m, Box W N1 3 (vnB m) ∧ m = zs.length) ∧ N1 < D ∧ W.heap[D]? = some (.deferred (some [])) ∧ Frn (fun b => b = N1) U1 W)
    ?h01 ?hround1 ?hdone1 ?hstop1 ?hrest1
  case hFP1 =>
    rintro b (rfl | rfl | rfl)
    · exact HV1.out.bs.lt
    · exact HV1.out.mp.ltO
    · exact HV1.out.mp.ltg
  case hJ1 =>
    rintro k T W W' ⟨h1, h2, h3⟩ hf
    exact ⟨h1.go hf, h2.kept (h1.own hf HN1.out.lt), h3⟩
  case hJb1 =>
    rintro k T W W' ⟨h1, h2, h3⟩ hf
    exact ⟨h1.go hf, h2.kept (h1.own hf HN1.out.lt), h3⟩
  case h01 => exact ⟨Keep.start _ _, HN1.out, trivial⟩
  case hround1 =>
    clear hit1
    rintro l' k hk T W ⟨hs, hbox, hmk⟩ hTl hTW hkW
    have hk' : k < zs.length := by simpa [encR] using hk
    rw [encR_get]
    obtain ⟨y, hy⟩ : ∃ y, zs[k] = y := ⟨_, rfl⟩
    rw [hy]
    obtain ⟨y2, y3⟩ := y
    unfold rv2
    simp only
    gi_wp2
    have hWa : Kps (fun b => (b = Bs ∨ b = O ∨ b = g) ∨ T b) W (W.alloc (.cells #[.int .i64 y2, .int .i64 y3] 39)) := (Kps.refl _ _).alloc _
    refine ⟨hWa, fun W2 hf hsz hk2 _ => ?_⟩
    have hs1 := hs.alloc (.cells #[.int .i64 y2, .int .i64 y3] 39)
    have hs2 := hs1.goSame hf hsz
    have hbox2 : Box W2 N1 3 (vnB k) := (hbox.alloc (.cells #[.int .i64 y2, .int .i64 y3] 39)).kept (hs1.own hf HN1.out.lt)
    have hx2 : W2.heap[W.heap.size]? = some (.cells #[.int .i64 y2, .int .i64 y3] 39 (0, 0)) := (hf.block _ (by simp) (fun ht => Nat.lt_irrefl _ (hTW _ ht))).trans (World.alloc_heap_new W _)
    have hx0 : W2.cell? ⟨W.heap.size, 0, none⟩ = some (.int .i64 y2) := by simp [World.cell?, hx2]
    have hx1 : W2.cell? ⟨W.heap.size, 1, none⟩ = some (.int .i64 y3) := by simp [World.cell?, hx2]
    have hA2 := HV1.out.kept hs2 (by rintro b rfl; omega)
    have hcn : W2.cell? ⟨N1, 0, none⟩ = some (.int .i64 (k : Int)) := hbox2.cell
    have hcw := hA2.bw.cell
    have hct : W2.cell? ⟨b1, 0, none⟩ = some (.int .i64 1) := hA2.tn.cell
    have hcm := hA2.bm.cell
    obtain ⟨ob, off, hpo, hob, hcx, hcy⟩ := hA2.rw.runAt k hk'
    rw [hpo] at hcw
    rw [hy] at hcx hcy
    simp only at hcx hcy
    have hnf : ¬ (N1 = Bs ∨ N1 = O ∨ N1 = g) ∧ ¬ T N1 := ⟨by have := HA1.out.lts; have := HA1.out.ltO; have := HA1.out.ltg; omega, hs2.notT (by have := HSU1.out; omega)⟩
    have hks : ∀ nq u, Kps (fun b => (b = Bs ∨ b = O ∨ b = g) ∨ T b) W2 ((W2.drewN nq).setCell ⟨N1, 0, none⟩ u) := by
      intro nq u
      have h0 : Kps (fun b => (b = Bs ∨ b = O ∨ b = g) ∨ T b) W2 (W2.drewN nq) := ⟨rfl, rfl, rfl, Nat.le_refl _, fun _ _ _ => rfl⟩
      exact h0.trans (kps_set ⟨N1, 0, none⟩ hnf.1 hnf.2 _)
    have HS2 := Lib.hid hs2
    have HB2 := Lib.hid hbox2
    have HF2 := Lib.hid (And.intro hcm hct)
    have hk3 : (k : Int) < (zs.length : Int) := by omega
    have hk4 : (k : Int) ≤ 320 := by omega
    have hle5 : decide (zs.length ≤ k) = false := decide_eq_false (by omega)
    have hne2 : b1 ≠ N1 := by omega
    have hne3 : w.heap.size ≠ N1 := by have := HA1.out.lw; have := HA1.out.ltw; omega
    have hpn := run2_neq y2 y3
    clear hf hkW hk2 hs hs1 hbox hs2 hbox2 hA2 hWa hx2 hpo hsz hnf
    gi_wp2
    refine wpIn_region_quietR_lit (by kernel_rfl) (by kernel_rfl) (by kernel_rfl) ?_
    repeat (gi_big_quiet_step (fail))
    refine wpQuietIn_nil ?_
    rintro _ ⟨nq, rfl⟩
    clear hcn hct hcm hcw hcx hcy hx0 hx1 hpn
    have hfz : (W2.drewN nq).frozen? ⟨N1, 0, none⟩ = false := HB2.out.free
    have hcn : (W2.drewN nq).cell? ⟨N1, 0, none⟩ = some (.int .i64 (k : Int)) := HB2.out.cell
    have hcm : (W2.drewN nq).cell? ⟨w.heap.size, 0, none⟩ = some (.int .i64 many) := HF2.out.1
    have hct : (W2.drewN nq).cell? ⟨b1, 0, none⟩ = some (.int .i64 1) := HF2.out.2
    gi_wp2
    refine ⟨⟨((HS2.out.drewN nq : Keep (fun b => b = N1) U1 T (W2.drewN nq))).set ⟨N1, 0, none⟩ (.inl rfl) _, ?_, trivial⟩, ?_⟩
    · have := ((show Box (W2.drewN nq) N1 3 (vnB k) from HB2.out).set (vnB (k + 1)))
      have e : Value.int IntKind.i64 ((k : Int) + 1) = vnB (k + 1) := by simp [vnB]
      rw [e]; exact this
    · exact hks nq _
  case hdone1 =>
    rintro D T W ⟨hs, hbox, hmk⟩ hTD hTW hkW hD hK
    rw [encR_len] at hbox
    have hD' : N1 + 1 ≤ D := by rw [← HSU1.out]; exact hD
    refine ⟨HV1.out.kept hs (by rintro b rfl; omega), ⟨_, hbox, rfl⟩, by omega, hK, hs.frn⟩
  case hstop1 =>
    rintro D k T W hk hk1 ⟨hs, hbox, hmk⟩ hTD hTW hkW hD hK
    exact hmk.elim
  rintro D1 V2 ⟨hA2, ⟨m1, hN2', hmm⟩, hD1, hK1, hF1⟩
  clear hit1
  have hc1 : V2.cell? ⟨b1, 0, none⟩ = some (.int .i64 1) := hA2.tn.cell
  have hc2 := hA2.bm.cell
  have hc3 := hA2.bw.cell
  have hc4 : V2.cell? ⟨N1, 0, none⟩ = some (.int .i64 (m1 : Int)) := hN2'.cell
  have HA := Lib.hid hA2
  have HF1 := Lib.hid hF1
  have HM := Lib.hid hmm
  clear hA2 hN2' hF1 hmm
  gi_upto_region 21 with fail
  gi_cut [99] from 79 (fun s99 wx => s99 = .bool false ∧ wx = V2)
  case first =>
    have hz : m1 = zs.length := HM.out
    subst hz
    gi_wp2
    all_goals first
      | (gi_meet; exact ⟨rfl, rfl⟩)
      | (exfalso; have hmm := HM.out; unfold LeaveAtB at hmm; omega)
  obtain ⟨rfl, rfl⟩ := hcut
  gi_wp2
  clear hc1 hc2 hc3 hc4
  obtain ⟨V2', hW2⟩ : ∃ V', wc.alloc (Obj.cells #[Value.int IntKind.i64 2] 3) = V' := ⟨_, rfl⟩
  have hA2 : PR w zs many Bw Bs wc.heap.size O g c l n qw dw 2 V2' := by rw [← hW2]; exact HA.out.next 2
  have hle1 : wc.heap.size + 1 = V2'.heap.size := by rw [← hW2, World.size_alloc]
  have hk1 : V2'.heap[D1]? = some (.deferred (some [])) := by rw [← hW2]; exact (Below.heap_alloc wc _ _ (Array.getElem?_eq_some_iff.1 hK1).1).trans hK1
  have hk0' : V2'.heap[D0]? = some (.deferred (some [])) := by rw [← hW2]; exact (Below.heap_alloc wc _ _ (Nat.lt_of_lt_of_le (by have := HSU1.out; omega) HF1.out.size)).trans ((HF1.out.block D0 (by have := HSU1.out; omega) (by intro h; omega)).trans HKU.out)
  rw [hW2]
  obtain ⟨b2, hb2⟩ : ∃ b, wc.heap.size = b := ⟨_, rfl⟩
  rw [hb2] at hA2 hle1 ⊢
  have hD1' : D1 < b2 := by have := (Array.getElem?_eq_some_iff.1 hK1).1; omega
  have HA2 := Lib.hid hA2
  have HK1 := Lib.hid hk1
  clear hW2 HA hK1 hk1 HK0
  clear hb2
  clear HF1 HM
  rw [roundsIn_succ]
  have hc2 : V2'.cell? ⟨b2, 0, none⟩ = some (.int .i64 2) := HA2.out.tn.cell
  skip
  have HK0 := Lib.hid hk0'
  clear hk0'
  have e1 : D1 ≠ w.heap.size + 1 := by have := HA1.out.lw; have := HA1.out.ltw; omega
  have e0 : D0 ≠ w.heap.size + 1 := by have := HA0.out.lw; have := HA0.out.ltw; omega
  have fin : ∀ w4, Below V2'.heap.size V2' w4 → (w4.cell? ⟨w.heap.size + 1, 0, none⟩ = some (.bool false) ∧ w4.frozen? ⟨w.heap.size + 1, 0, none⟩ = false) ∧
      (w4.setCell ⟨w.heap.size + 1, 0, none⟩ (.bool true)).heap[D1]? = some (.deferred (some [])) ∧ (w4.setCell ⟨w.heap.size + 1, 0, none⟩ (.bool true)).heap[D0]? = some (.deferred (some [])) ∧
      (((w4.setCell ⟨w.heap.size + 1, 0, none⟩ (.bool true)).putObj D1 (.deferred none)).putObj D0 (.deferred none)).cell? ⟨w.heap.size + 1, 0, none⟩ = some (.bool true) ∧
      Below w.heap.size w (((w4.setCell ⟨w.heap.size + 1, 0, none⟩ (.bool true)).putObj D1 (.deferred none)).putObj D0 (.deferred none)) := by
    intro w4 hb4
    have hbr4 := HA2.out.br.below hb4 HA2.out.br.lt
    have hkD : ∀ D, D < V2'.heap.size → D ≠ w.heap.size + 1 → (w4.setCell ⟨w.heap.size + 1, 0, none⟩ (.bool true)).heap[D]? = V2'.heap[D]? := fun D hD hne =>
      (Below.heap_setCell w4 ⟨w.heap.size + 1, 0, none⟩ _ D hne).trans (hb4.block D hD)
    have hw : Below w.heap.size w (w4.setCell ⟨w.heap.size + 1, 0, none⟩ (.bool true)) := (HA2.out.at_.below hb4).1.setCell (p := ⟨w.heap.size + 1, 0, none⟩) (by simp) _
    have hbF := hbr4.set (.bool true)
    refine ⟨⟨hbr4.cell, hbr4.free⟩, (hkD D1 (by omega) e1).trans HK1.out, (hkD D0 (by omega) e0).trans HK0.out, ?_, ?_⟩
    · exact (cell_putObj (D := D0) (B := w.heap.size + 1) (o := .deferred none) e0 0).trans ((cell_putObj (o := .deferred none) e1 0).trans hbF.cell)
    · exact below_putObj (below_putObj hw (by have := HA1.out.lw; have := HA1.out.ltw; omega) _) (by have := HA0.out.lw; have := HA0.out.ltw; omega) _
  have FIN := Lib.hid fin
  clear fin
  gi_wp2
  go_wp2_with fail
  refine (works05_any V2' (HT.out.below h0 HA2.out.at_.1)).mono ?_
  rintro e w9 ⟨rfl, hb9⟩
  have HB9 := Lib.hid hb9
  obtain ⟨⟨hc9, hf9⟩, _⟩ := FIN.out w9 HB9.out
  clear hb9
  go_wp2_with fail
  obtain ⟨_, hd1, hd0, hc, hw⟩ := FIN.out w9 HB9.out
  exact leave2 rfl hd1 hd0 (by omega) (results_cell1 rfl _ _ rfl (v := .bool true) (by simp [go_sem, hc])) ⟨rfl, hw⟩

theorem lawBitmapLeaves (p : Option Addr) (cap : Nat) (l : List (BitVec 64)) (many : Int) (w : World) (hT : TabAt w) (hrd : RdL w.heap.size w p cap vw l) :
    Calls Tryd.prog 3 #[.slice p l.length cap, .int .i64 many] w fun e w' => e = .returned (.bool true) ∧ Below w.heap.size w w' := by
  by_cases h : 1 ≤ l.length ∧ l.length ≤ 5
  · exact bleaves_in p cap l many w hT hrd h.1 h.2
  · exact bleaves_out p cap l many w hT h
end Go.Proofs.YtljegehfdmgcbaaDoor
