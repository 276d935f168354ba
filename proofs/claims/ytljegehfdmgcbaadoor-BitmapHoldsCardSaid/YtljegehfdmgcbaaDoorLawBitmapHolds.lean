/- The walk of the law BitmapHolds. -/
import Derived.Test.YtljegehfdmgcbaaDoorBmJ
import Derived.Test.YtljegehfdmgcbaaDoorRegFI
namespace Go.Proofs.YtljegehfdmgcbaaDoor
open Go Go.RowKit
attribute [local go_sem] Oper.semAt_some

theorem i64_wf {x : Int} (h : (Lit.int .i64 x).wf = true) : -9223372036854775808 ≤ x ∧ x ≤ 9223372036854775807 := by
  simp [Lit.wf] at h
  exact ⟨Int.le_trans (by decide) h.1, h.2⟩
theorem right64H (l : List (BitVec 64)) : RightW (64 * l.length) l := ⟨by omega, fun j h1 h2 => by omega⟩
theorem ok64H (l : List (BitVec 64)) (h1 : 1 ≤ l.length) (h2 : l.length ≤ 1000) : OfOkB ((64 * l.length : Nat) : Int) l := ⟨64 * l.length, rfl, by omega, by omega, right64H l⟩
set_option maxRecDepth 100000 in
set_option maxHeartbeats 8000000 in
theorem bholds_out (p : Option Addr) (cap : Nat) (l : List (BitVec 64)) (many fromB : Int) (w : World) (hT : TabAt w) (hbad : ¬ (1 ≤ l.length ∧ l.length ≤ 5)) :
    Calls Tryd.prog 4 #[.slice p l.length cap, .int .i64 many, .int .i64 fromB] w fun e w' => e = .returned (.bool true) ∧ Below w.heap.size w w' := by
  have h0 := hT.lt
  obtain ⟨wa, hwa⟩ : ∃ wa, w.alloc (.cells #[.bool false] 4) = wa := ⟨_, rfl⟩
  have hba : Below w.heap.size w wa := by rw [← hwa]; exact (Below.refl _ _).alloc (Nat.le_refl _) _
  have hR : Box wa w.heap.size 4 (.bool false) := by rw [← hwa]; exact Box.new _ _ _
  have HW := Lib.hid (works05_any wa (hT.below h0 hba))
  have HA := Lib.hid (And.intro hR hba)
  clear hR hba hT
  have fin : ∀ wz, Below wa.heap.size wa wz → Box wz w.heap.size 4 (.bool false) ∧ Below w.heap.size w wz := fun wz hb => ⟨HA.out.1.below hb HA.out.1.lt, HA.out.2.trans (hb.mono HA.out.2.size)⟩
  have FIN := Lib.hid fin
  clear fin
  by_cases h1 : (l.length : Int) < 1
  case pos =>
    go_enter Tryd.func4, Tryd.ntmps4
    go_wp2_with fail
    refine HW.out.mono ?_
    rintro e wz ⟨rfl, hbz⟩
    have HZ := Lib.hid (FIN.out wz hbz)
    have c9 := HZ.out.1.cell
    have f9 := HZ.out.1.free
    clear hbz
    go_wp2_with fail
    have hc9 := (HZ.out.1.set (.bool true)).cell
    refine bodyPost_ret (v := .bool true) (results_cell1 rfl _ _ rfl (v := .bool true) (by simp [go_sem, hc9])) rfl ⟨rfl, ?_⟩
    exact HZ.out.2.setCell (p := ⟨w.heap.size, 0, none⟩) (Nat.le_refl _) _
  have h2 : (5 : Int) < (l.length : Int) := by omega
  go_enter Tryd.func4, Tryd.ntmps4
  go_wp2_with fail
  refine HW.out.mono ?_
  rintro e wz ⟨rfl, hbz⟩
  have HZ := Lib.hid (FIN.out wz hbz)
  have c9 := HZ.out.1.cell
  have f9 := HZ.out.1.free
  clear hbz
  go_wp2_with fail
  have hc9 := (HZ.out.1.set (.bool true)).cell
  refine bodyPost_ret (v := .bool true) (results_cell1 rfl _ _ rfl (v := .bool true) (by simp [go_sem, hc9])) rfl ⟨rfl, ?_⟩
  exact HZ.out.2.setCell (p := ⟨w.heap.size, 0, none⟩) (Nat.le_refl _) _

theorem cell_set_ne {W : World} {p q : Addr} (u : Value) (h : q.block ≠ p.block) : (W.setCell p u).cell? q = W.cell? q := by
  simp [World.cell?, Below.heap_setCell W p u q.block h]
theorem sumR_app (a b : List Run2) : sumR (a ++ b) = sumR a + sumR b := by simp [sumR]
theorem sumR_take (zs : List Run2) (k : Nat) : sumR (zs.take k) ≤ sumR zs := by
  conv => rhs; rw [← List.take_append_drop k zs]
  rw [sumR_app]
  omega
/-- What the law of bitmaps knows in its loop. -/
def HJ (zs : List Run2) (s0 : Nat) (G : Nat) (W0 : World) (k : Nat) (T : Nat → Prop) (W : World) : Prop :=
  Keep (fun b => b = G ∨ b = G + 1 ∨ b = G + 2) W0 T W ∧ Box W G 3 (vnB (s0 + sumR (zs.take k))) ∧ Box W (G + 1) 3 (vnB (endR (zs.take k))) ∧ Box W (G + 2) 3 (vnB (longR [] (zs.take k) 0))
/-- What the law of bitmaps knows behind its loop. -/
def FS (w : World) (O g c : Nat) (l : List (BitVec 64)) (n G L D : Nat) (V : World) : Prop :=
  BmAt V O g c l n ∧ Below w.heap.size w V ∧ Box V w.heap.size 4 (.bool false) ∧ Box V (w.heap.size + 1) 3 (vnB n) ∧ Box V G 3 (vnB n) ∧ Box V (G + 2) 3 (vnB L) ∧ V.heap[D]? = some (.deferred (some [])) ∧ w.heap.size < D
theorem FS.below {w : World} {O g c : Nat} {l : List (BitVec 64)} {n G L D : Nat} {V V' : World} (h : FS w O g c l n G L D V) (hb : Below V.heap.size V V') : FS w O g c l n G L D V' := by
  obtain ⟨h1, h2, h3, h4, h5, h6, h7, h8⟩ := h
  exact ⟨h1.below hb, h2.trans (hb.mono h2.size), h3.below hb h3.lt, h4.below hb h4.lt, h5.below hb h5.lt, h6.below hb h6.lt, (hb.block D (Array.getElem?_eq_some_iff.1 h7).1).trans h7, h8⟩
/-- What holds till a store comes up. -/
def HS (G X : Nat) (s e g a m : Nat) (k : Nat) (W : World) : Prop :=
  (k = 15 → W.cell? ⟨G, 0, none⟩ = some (.int .i64 s)) ∧ (k = 16 → W.cell? ⟨G + 2, 0, none⟩ = some (.int .i64 g)) ∧
  (k = 17 → W.cell? ⟨G + 1, 0, none⟩ = some (.int .i64 e) ∧ W.cell? ⟨X, 0, none⟩ = some (.int .i64 a) ∧ W.cell? ⟨X, 1, none⟩ = some (.int .i64 m))

set_option maxRecDepth 100000 in
set_option maxHeartbeats 8000000 in
theorem bholds_in (p : Option Addr) (cap : Nat) (l : List (BitVec 64)) (many fromB : Int) (w : World) (hT : TabAt w) (hrd : RdL w.heap.size w p cap vw l) (hl1 : 1 ≤ l.length) (hl5 : l.length ≤ 5) (hwf : -9223372036854775808 ≤ many ∧ many ≤ 9223372036854775807) :
    Calls Tryd.prog 4 #[.slice p l.length cap, .int .i64 many, .int .i64 fromB] w fun e w' => e = .returned (.bool true) ∧ Below w.heap.size w w' := by
  have h0 := hT.lt
  have HT := Lib.hid hT
  have HWF := Lib.hid hwf
  obtain ⟨wa, hwa, hR, hM, hba, hza⟩ := box2 w 4 3 (.bool false) (.int .i64 (64 * (l.length : Int)))
  have HA := Lib.hid (And.intro hM (And.intro hR (And.intro hba hza)))
  have hk1 : (1 : Int) ≤ (l.length : Int) := by omega
  have hk2 : (l.length : Int) ≤ 5 := by omega
  have HO := Lib.hid (ofBm_any ((64 * l.length : Nat) : Int) p cap l wa ((hrd.below hba).wide hba.size) (by omega))
  have hea : ((64 * l.length : Nat) : Int) = 64 * (l.length : Int) := by omega
  rw [hea] at HO
  have HOK := Lib.hid (ok64H l hl1 (by omega))
  rw [hea] at HOK
  have hcm := hM.cell
  clear hM hR hba hza hT hrd hea hwf
  refine (callsIn_wide (n := 0)).1 ?_
  refine callsIn_of_wp_marks Tryd.func4 rfl trivial ?_ rfl
  simp only [Tryd.ntmps4, List.size_toArray, List.length_cons, List.length_nil, Nat.reduceAdd, Nat.reduceSub, Array.replicate_succ, Array.replicate_zero, List.push_toArray, List.append_toArray, List.nil_append, List.cons_append]
  refine wpIn_wide.2 ?_
  go_wp2_with fail
  refine HO.out.mono ?_
  rintro e w1 (⟨v, n, rfl, hmn, hright, O, g, c, rfl, hbm, hO, hg, hb1⟩ | ⟨rfl, hno, _⟩)
  case inr => exact absurd HOK.out hno
  have hn : n = 64 * l.length := by omega
  have HNL := Lib.hid (And.intro hn hright)
  have H1 : Hid (BmAt w1 O g c l n ∧ Below w.heap.size w w1 ∧ Box w1 w.heap.size 4 (.bool false) ∧ Box w1 (w.heap.size + 1) 3 (.int .i64 (n : Int)) ∧ w.heap.size + 2 ≤ w1.heap.size) :=
    Lib.hid ⟨hbm, HA.out.2.2.1.trans (hb1.mono HA.out.2.2.1.size), HA.out.2.1.below hb1 HA.out.2.1.lt, by rw [← hmn]; exact HA.out.1.below hb1 HA.out.1.lt, by have := HA.out.2.2.2; have := hb1.size; omega⟩
  clear hmn hright hbm hO hg hb1 HO hwa hn hcm
  go_wp2_with (go_at_call 11; refine (num_any05 _ _).mono ?_; rintro e w' ⟨rfl, rfl⟩)
  refine (runs05_any (some ⟨O, 0, none⟩) w1).mono ?_
  rintro e w' ⟨rfl, rfl⟩
  obtain ⟨w2, hw2⟩ : ∃ w2, w1.alloc (.cells #[.pointer (some ⟨O, 0, none⟩)] 24) = w2 := ⟨_, rfl⟩
  rw [hw2]
  obtain ⟨Bs, hBs⟩ : ∃ B, w1.heap.size = B := ⟨_, rfl⟩
  rw [hBs]
  have hb12 : Below w1.heap.size w1 w2 := by rw [← hw2]; exact (Below.refl _ _).alloc (Nat.le_refl _) _
  have hbs2 : Box w2 Bs 24 (.pointer (some ⟨O, 0, none⟩)) := by rw [← hw2, ← hBs]; exact Box.new _ _ _
  have H2 : Hid (BmAt w2 O g c l n ∧ Below w.heap.size w w2 ∧ Box w2 w.heap.size 4 (.bool false) ∧ Box w2 (w.heap.size + 1) 3 (.int .i64 (n : Int)) ∧ Box w2 Bs 24 (.pointer (some ⟨O, 0, none⟩)) ∧ w.heap.size + 2 ≤ Bs ∧ O < Bs ∧ g < Bs ∧ w2.heap.size = Bs + 1) :=
    Lib.hid ⟨H1.out.1.below hb12, H1.out.2.1.trans (hb12.mono H1.out.2.1.size), H1.out.2.2.1.below hb12 H1.out.2.2.1.lt, H1.out.2.2.2.1.below hb12 H1.out.2.2.2.1.lt, hbs2, by have := H1.out.2.2.2.2; omega, by have := H1.out.1.ltO; omega, by have := H1.out.1.ltg; omega, by rw [← hw2, ← hBs]; simp⟩
  have HL := Lib.hid (left_bm w2 H2.out.1 (HT.out.below h0 H2.out.2.1))
  rw [ones_right HNL.out.2] at HL
  have hnil := func05_nil
  clear hw2 hb12 hbs2 H1 hBs
  go_wp2_with fail
  refine HL.out.mono ?_
  rintro e w3 ⟨rfl, hb3⟩
  have H3 : Hid (BmAt w3 O g c l n ∧ Below w.heap.size w w3 ∧ Box w3 w.heap.size 4 (.bool false) ∧ Box w3 (w.heap.size + 1) 3 (.int .i64 (n : Int)) ∧ Box w3 Bs 24 (.pointer (some ⟨O, 0, none⟩)) ∧ w.heap.size + 2 ≤ Bs ∧ O < Bs ∧ g < Bs ∧ Bs < w3.heap.size) :=
    Lib.hid ⟨H2.out.1.below hb3, H2.out.2.1.trans (hb3.mono H2.out.2.1.size), H2.out.2.2.1.below hb3 H2.out.2.2.1.lt, H2.out.2.2.2.1.below hb3 H2.out.2.2.2.1.lt, H2.out.2.2.2.2.1.below hb3 H2.out.2.2.2.2.1.lt, H2.out.2.2.2.2.2.1, H2.out.2.2.2.2.2.2.1, H2.out.2.2.2.2.2.2.2.1, by have := hb3.size; have := H2.out.2.2.2.2.2.2.2.2; omega⟩
  clear hb3 H2 HL
  go_wp2_with fail
  clear hnil
  have hsc : cntF (bitW l) n ≤ n := cntF_le _ _
  obtain ⟨s0, hs0⟩ : ∃ s0, n - cntF (bitW l) n = s0 := ⟨_, rfl⟩
  have hs0' : (n : Int) - (cntF (bitW l) n : Nat) = (s0 : Nat) := by omega
  rw [hs0']
  obtain ⟨zs, hzs⟩ : ∃ zs, runsF (bitW l) n = zs := ⟨_, rfl⟩
  have hsum : s0 + sumR zs = n := by rw [← hzs, sum_runs]; omega
  have hat : ∀ k (hk : k < zs.length), endR (zs.take k) ≤ zs[k].1 ∧ 1 ≤ zs[k].2 ∧ zs[k].1 + zs[k].2 ≤ n := by
    rw [← hzs]
    intro k hk
    obtain ⟨h1, h2, h3, _⟩ := runs_at hk
    exact ⟨h1, h2, h3⟩
  have HZS := Lib.hid (And.intro hzs (And.intro hsum hat))
  obtain ⟨W0, hW0⟩ : ∃ W0, ((w3.alloc (.cells #[.int .i64 s0] 3)).alloc (.cells #[.int .i64 0] 3)).alloc (.cells #[.int .i64 0] 3) = W0 := ⟨_, rfl⟩
  obtain ⟨G, hG⟩ : ∃ G, w3.heap.size = G := ⟨_, rfl⟩
  have hb30 : Below w3.heap.size w3 W0 := by rw [← hW0]; exact (((Below.refl _ _).alloc (Nat.le_refl _) _).alloc (by simp) _).alloc (by simp; omega) _
  have hz0 : W0.heap.size = G + 3 := by rw [← hW0, ← hG]; simp
  have hg0 : Box W0 G 3 (vnB s0) := by rw [← hW0, ← hG]; exact ((Box.new _ _ _).alloc _).alloc _
  have hg1 : Box W0 (G + 1) 3 (vnB 0) := by
    rw [← hW0, ← hG]
    have := (Box.new (w3.alloc (.cells #[.int .i64 s0] 3)) 3 (.int .i64 0)).alloc (.cells #[.int .i64 0] 3)
    rw [World.size_alloc] at this
    exact this
  have hg2 : Box W0 (G + 2) 3 (vnB 0) := by
    rw [← hW0, ← hG]
    have := Box.new ((w3.alloc (.cells #[.int .i64 s0] 3)).alloc (.cells #[.int .i64 0] 3)) 3 (.int .i64 0)
    rw [World.size_alloc, World.size_alloc] at this
    exact this
  have H0 : Hid (BmAt W0 O g c l n ∧ Below w.heap.size w W0 ∧ Box W0 w.heap.size 4 (.bool false) ∧ Box W0 (w.heap.size + 1) 3 (.int .i64 (n : Int)) ∧ Box W0 Bs 24 (.pointer (some ⟨O, 0, none⟩)) ∧ w.heap.size + 2 ≤ Bs ∧ O < Bs ∧ g < Bs ∧ Bs < G ∧ W0.heap.size = G + 3) :=
    Lib.hid ⟨H3.out.1.below hb30, H3.out.2.1.trans (hb30.mono H3.out.2.1.size), H3.out.2.2.1.below hb30 H3.out.2.2.1.lt, H3.out.2.2.2.1.below hb30 H3.out.2.2.2.1.lt, H3.out.2.2.2.2.1.below hb30 H3.out.2.2.2.2.1.lt, H3.out.2.2.2.2.2.1, H3.out.2.2.2.2.2.2.1, H3.out.2.2.2.2.2.2.2.1, by have := H3.out.2.2.2.2.2.2.2.2; omega, hz0⟩
  have HB0 := Lib.hid (And.intro hg0 (And.intro hg1 hg2))
  have hit : Iter Tryd.prog 30 #[.pointer (some ⟨Bs, 0, none⟩)] (encR zs) (fun b => b = Bs ∨ b = O ∨ b = g) W0 := by rw [← hzs]; exact runs1_iter Bs W0 H0.out.2.2.2.2.1 H0.out.1
  have HIT := Lib.hid hit
  have hn320 : n ≤ 320 := by have := HNL.out.1; omega
  rw [hW0, hG]
  clear hs0 hs0' hsc hzs hsum hat hW0 hG hb30 hz0 hg0 hg1 hg2 H3 hit
  refine (wpIn_wide (n := 0)).1 ?_
  refine rf_law (gf := 30) (lb := #[.pointer (some ⟨Bs, 0, none⟩)]) rfl (enters_of Tryd.func30 (by kernel_rfl) rfl)
    HIT.out (by intro x hx; obtain ⟨y, _, rfl⟩ := List.mem_map.1 hx; rfl) ?hFP
    (fun k T V => HJ zs s0 G W0 k T V) (fun _ _ _ _ => False) ?hJ (fun _ _ _ _ _ h _ => h) ?h0 ?hround ?hdone (fun D c k T V _ _ h => h.elim)
  case hFP =>
    have := H0.out.2.2.2.2.2
    rintro b (rfl | rfl | rfl) <;> omega
  case hJ =>
    rintro k T V V' ⟨h1, h2, h3, h4⟩ hf
    have hz := H0.out.2.2.2.2.2.2.2.2.2
    exact ⟨h1.go hf, h2.kept (h1.own hf (by omega)), h3.kept (h1.own hf (by omega)), h4.kept (h1.own hf (by omega))⟩
  case h0 => exact ⟨Keep.start _ _, by simpa [sumR] using HB0.out.1, by simpa [endR, endE] using HB0.out.2.1, by simpa [longR] using HB0.out.2.2⟩
  case hround =>
    rintro l' k hk T W ⟨hs, hb1, hb2, hb3⟩ hTl hTW hkW
    have hk' : k < zs.length := by simpa [encR] using hk
    rw [encR_get]
    obtain ⟨ha1, ha2, ha3⟩ := HZS.out.2.2 k hk'
    have hsm : s0 + sumR (zs.take (k + 1)) ≤ n := by have := HZS.out.2.1; have := sumR_take zs (k + 1); omega
    have hsx : sumR (zs.take (k + 1)) = sumR (zs.take k) + zs[k].2 := by rw [List.take_succ_eq_append_getElem hk', sumR_snoc]
    have hex : endR (zs.take (k + 1)) = zs[k].1 + zs[k].2 := by rw [List.take_succ_eq_append_getElem hk', endR_snoc]
    have hgx : longR [] (zs.take (k + 1)) 0 = max (longR [] (zs.take k) 0) (zs[k].1 - endR (zs.take k)) := by rw [List.take_succ_eq_append_getElem hk', longR_snoc, List.nil_append]
    obtain ⟨r, hr⟩ : ∃ r, zs[k] = r := ⟨_, rfl⟩
    rw [hr] at ha1 ha2 ha3 hsx hex hgx
    rw [hr]
    obtain ⟨a, m⟩ := r
    obtain ⟨sk, hsk⟩ : ∃ sk, s0 + sumR (zs.take k) = sk := ⟨_, rfl⟩
    obtain ⟨ek, hek⟩ : ∃ ek, endR (zs.take k) = ek := ⟨_, rfl⟩
    obtain ⟨gk, hgk⟩ : ∃ gk, longR [] (zs.take k) 0 = gk := ⟨_, rfl⟩
    rw [hsk] at hb1
    rw [hek] at hb2 ha1 hgx
    rw [hgk] at hb3 hgx
    simp only at ha1 ha2 ha3 hsx hex hgx
    have hsx' : s0 + sumR (zs.take (k + 1)) = sk + m := by omega
    rw [hsx'] at hsm
    have HNX := Lib.hid (And.intro hsx' (And.intro hex hgx))
    clear hsx hsx' hex hgx hsk hek hgk hr hk
    unfold rv2
    simp only
    gi_wp2
    have hWa : Kps (fun b => (b = Bs ∨ b = O ∨ b = g) ∨ T b) W (W.alloc (.cells #[.int .i64 a, .int .i64 m] 39)) := (Kps.refl _ _).alloc _
    refine ⟨hWa, fun W2 hf hsz hk2 _ => ?_⟩
    have hz := H0.out.2.2.2.2.2.2.2.2.2
    have hs1 := hs.alloc (.cells #[.int .i64 a, .int .i64 m] 39)
    have hs2 := hs1.goSame hf (by first | exact hsz | (rw [hsz]; simp))
    have hx2 : W2.heap[W.heap.size]? = some (.cells #[.int .i64 a, .int .i64 m] 39 (0, 0)) := (hf.block _ (by simp) (fun ht => Nat.lt_irrefl _ (hTW _ ht))).trans (World.alloc_heap_new W _)
    have hz3 : G + 3 ≤ W.heap.size := by have := hs.frn.size; omega
    have g1 := (hb1.alloc (.cells #[.int .i64 a, .int .i64 m] 39)).kept (hs1.own hf (by omega))
    have g2 := (hb2.alloc (.cells #[.int .i64 a, .int .i64 m] 39)).kept (hs1.own hf (by omega))
    have g3 := (hb3.alloc (.cells #[.int .i64 a, .int .i64 m] 39)).kept (hs1.own hf (by omega))
    have gN := hs2.box H0.out.2.2.2.1 (by have := H0.out.2.2.2.2.2; omega)
    have hx0 : W2.cell? ⟨W.heap.size, 0, none⟩ = some (.int .i64 a) := by simp [World.cell?, hx2]
    have hx1 : W2.cell? ⟨W.heap.size, 1, none⟩ = some (.int .i64 m) := by simp [World.cell?, hx2]
    have cs : W2.cell? ⟨G, 0, none⟩ = some (.int .i64 sk) := g1.cell
    have ce : W2.cell? ⟨G + 1, 0, none⟩ = some (.int .i64 ek) := g2.cell
    have cg : W2.cell? ⟨G + 2, 0, none⟩ = some (.int .i64 gk) := g3.cell
    have cn := gN.cell
    have HX := Lib.hid hz3
    have HG4 := Lib.hid (And.intro hs2 (And.intro g1 (And.intro g2 g3)))
    have hks : ∀ b, G ≤ b → b ≤ G + 2 → ¬ (b = Bs ∨ b = O ∨ b = g) ∧ ¬ T b := fun b h1 h2 => ⟨by have := H0.out.2.2.2.2.2; omega, hs2.notT (by omega)⟩
    have HKS := Lib.hid hks
    have i1 : (ek : Int) ≤ (a : Int) := by omega
    have i2 : (1 : Int) ≤ (m : Int) := by omega
    have i3 : (a : Int) + m ≤ (n : Int) := by omega
    have i4 : (n : Int) ≤ 320 := by omega
    have i5 : (sk : Int) + m ≤ (n : Int) := by omega
    have i6 : (m : Int) ≤ (n : Int) - (a : Int) := by omega
    clear hs hb1 hb2 hb3 hTl hTW hkW hWa hf hsz hk2 hs1 hs2 hx2 g1 g2 g3 gN hks ha1 ha2 ha3 hsm hz hz3 hn320
    gi_wp2
    refine wpIn_region_noPanic ?_
    refine wpIn_region_FI (HS G W.heap.size sk ek gk a m) (by kernel_rfl) ?hS ?_
    case hS => exact fun k => ⟨fun _ => cs, fun _ => cg, fun _ => ⟨ce, hx0, hx1⟩⟩
    intro hT0
    clear hT0
    have hall : ∀ k, HS G W.heap.size sk ek gk a m k W2.drew := fun k => ⟨fun _ => cs, fun _ => cg, fun _ => ⟨ce, hx0, hx1⟩⟩
    have HGD : Hid (Keep (fun b => b = G ∨ b = G + 1 ∨ b = G + 2) W0 T W2.drew ∧ Box W2.drew G 3 (vnB sk) ∧ Box W2.drew (G + 1) 3 (vnB ek) ∧ Box W2.drew (G + 2) 3 (vnB gk) ∧ Kps (fun b => (b = Bs ∨ b = O ∨ b = g) ∨ T b) W2 W2.drew) := Lib.hid ⟨HG4.out.1.drewN 1, HG4.out.2.1, HG4.out.2.2.1, HG4.out.2.2.2, (Kps.refl _ W2).drewN 1⟩
    obtain ⟨Wd, hWd⟩ : ∃ Wd, W2.drew = Wd := ⟨_, rfl⟩
    rw [hWd] at HGD hall ⊢
    clear cs cg ce hx0 hx1 hWd
    refine wpAnyFI_take (i := 0) (v := (.int .i64 sk)) 15 (by kernel_rfl) rfl (by kernel_rfl) (by kernel_rfl) (by kernel_rfl) (by kernel_rfl) (by rfl) (by rfl) (fun _ _ _ h => h) (fun _ => ⟨fun h => absurd h (by decide), fun h => absurd h (by decide), fun h => absurd h (by decide)⟩) ⟨Or.inl ⟨by rfl, ?hy0⟩, fun _ => rfl⟩ (fun k _ => hall k) ?_
    case hy0 =>
      intro W' hS'
      have c9 := hS'.1 rfl
      clear hS' hall
      go_simp
    try simp only [Act.put, List.getElem_toArray, List.getElem_cons_zero, List.setIfInBounds_toArray, List.set_cons_zero, List.set_cons_succ]
    refine wpAnyFI_take (i := 1) (v := (.pointer (some ⟨W.heap.size, 1, none⟩))) 17 (by kernel_rfl) rfl (by kernel_rfl) (by kernel_rfl) (by kernel_rfl) (by kernel_rfl) (by rfl) (by rfl) (fun _ _ _ h => h) (fun _ => ⟨fun h => absurd h (by decide), fun h => absurd h (by decide), fun h => absurd h (by decide)⟩) ⟨Or.inl ⟨by rfl, ?hy1⟩, fun _ => rfl⟩ (fun k _ => hall k) ?_
    case hy1 =>
      intro W' hS'
      obtain ⟨c7, c8, c9⟩ := hS'.2.2 rfl
      clear hS' hall
      go_simp
    try simp only [Act.put, List.getElem_toArray, List.getElem_cons_zero, List.getElem_cons_succ, List.setIfInBounds_toArray, List.set_cons_zero, List.set_cons_succ]
    refine wpAnyFI_take (i := 2) (v := (.int .i64 m)) 17 (by kernel_rfl) rfl (by kernel_rfl) (by kernel_rfl) (by kernel_rfl) (by kernel_rfl) (by rfl) (by rfl) (fun _ _ _ h => h) (fun _ => ⟨fun h => absurd h (by decide), fun h => absurd h (by decide), fun h => absurd h (by decide)⟩) ⟨Or.inl ⟨by rfl, ?hy2⟩, fun _ => rfl⟩ (fun k _ => hall k) ?_
    case hy2 =>
      intro W' hS'
      obtain ⟨c7, c8, c9⟩ := hS'.2.2 rfl
      clear hS' hall
      go_simp
    try simp only [Act.put, List.getElem_toArray, List.getElem_cons_zero, List.getElem_cons_succ, List.setIfInBounds_toArray, List.set_cons_zero, List.set_cons_succ]
    refine wpAnyFI_take (i := 3) (v := (.int .i64 ((sk : Int) + m))) 17 (by kernel_rfl) rfl (by kernel_rfl) (by kernel_rfl) (by kernel_rfl) (by kernel_rfl) (by rfl) (by rfl) (fun _ _ _ h => h) (fun _ => ⟨fun h => absurd h (by decide), fun h => absurd h (by decide), fun h => absurd h (by decide)⟩) ⟨Or.inl ⟨by rfl, ?hy3⟩, fun _ => rfl⟩ (fun k _ => hall k) ?_
    case hy3 =>
      intro W' hS'
      obtain ⟨c7, c8, c9⟩ := hS'.2.2 rfl
      clear hS' hall
      go_simp
      rw [IntKind.wrap_i64]; omega
    try simp only [Act.put, List.getElem_toArray, List.getElem_cons_zero, List.getElem_cons_succ, List.setIfInBounds_toArray, List.set_cons_zero, List.set_cons_succ]
    refine wpAnyFI_take (i := 4) (v := (.int .i64 gk)) 16 (by kernel_rfl) rfl (by kernel_rfl) (by kernel_rfl) (by kernel_rfl) (by kernel_rfl) (by rfl) (by rfl) (fun _ _ _ h => h) (fun _ => ⟨fun h => absurd h (by decide), fun h => absurd h (by decide), fun h => absurd h (by decide)⟩) ⟨Or.inl ⟨by rfl, ?hy4⟩, fun _ => rfl⟩ (fun k _ => hall k) ?_
    case hy4 =>
      intro W' hS'
      have c9 := hS'.2.1 rfl
      clear hS' hall
      go_simp
    try simp only [Act.put, List.getElem_toArray, List.getElem_cons_zero, List.getElem_cons_succ, List.setIfInBounds_toArray, List.set_cons_zero, List.set_cons_succ]
    refine wpAnyFI_take (i := 5) (v := (.pointer (some ⟨W.heap.size, 0, none⟩))) 17 (by kernel_rfl) rfl (by kernel_rfl) (by kernel_rfl) (by kernel_rfl) (by kernel_rfl) (by rfl) (by rfl) (fun _ _ _ h => h) (fun _ => ⟨fun h => absurd h (by decide), fun h => absurd h (by decide), fun h => absurd h (by decide)⟩) ⟨Or.inl ⟨by rfl, ?hy5⟩, fun _ => rfl⟩ (fun k _ => hall k) ?_
    case hy5 =>
      intro W' hS'
      obtain ⟨c7, c8, c9⟩ := hS'.2.2 rfl
      clear hS' hall
      go_simp
    try simp only [Act.put, List.getElem_toArray, List.getElem_cons_zero, List.getElem_cons_succ, List.setIfInBounds_toArray, List.set_cons_zero, List.set_cons_succ]
    refine wpAnyFI_take (i := 6) (v := (.int .i64 a)) 17 (by kernel_rfl) rfl (by kernel_rfl) (by kernel_rfl) (by kernel_rfl) (by kernel_rfl) (by rfl) (by rfl) (fun _ _ _ h => h) (fun _ => ⟨fun h => absurd h (by decide), fun h => absurd h (by decide), fun h => absurd h (by decide)⟩) ⟨Or.inl ⟨by rfl, ?hy6⟩, fun _ => rfl⟩ (fun k _ => hall k) ?_
    case hy6 =>
      intro W' hS'
      obtain ⟨c7, c8, c9⟩ := hS'.2.2 rfl
      clear hS' hall
      go_simp
    try simp only [Act.put, List.getElem_toArray, List.getElem_cons_zero, List.getElem_cons_succ, List.setIfInBounds_toArray, List.set_cons_zero, List.set_cons_succ]
    refine wpAnyFI_take (i := 7) (v := (.int .i64 ek)) 17 (by kernel_rfl) rfl (by kernel_rfl) (by kernel_rfl) (by kernel_rfl) (by kernel_rfl) (by rfl) (by rfl) (fun _ _ _ h => h) (fun _ => ⟨fun h => absurd h (by decide), fun h => absurd h (by decide), fun h => absurd h (by decide)⟩) ⟨Or.inl ⟨by rfl, ?hy7⟩, fun _ => rfl⟩ (fun k _ => hall k) ?_
    case hy7 =>
      intro W' hS'
      obtain ⟨c7, c8, c9⟩ := hS'.2.2 rfl
      clear hS' hall
      go_simp
    try simp only [Act.put, List.getElem_toArray, List.getElem_cons_zero, List.getElem_cons_succ, List.setIfInBounds_toArray, List.set_cons_zero, List.set_cons_succ]
    refine wpAnyFI_take (i := 8) (v := (.int .i64 ((a : Int) - ek))) 17 (by kernel_rfl) rfl (by kernel_rfl) (by kernel_rfl) (by kernel_rfl) (by kernel_rfl) (by rfl) (by rfl) (fun _ _ _ h => h) (fun _ => ⟨fun h => absurd h (by decide), fun h => absurd h (by decide), fun h => absurd h (by decide)⟩) ⟨Or.inl ⟨by rfl, ?hy8⟩, fun _ => rfl⟩ (fun k _ => hall k) ?_
    case hy8 =>
      intro W' hS'
      obtain ⟨c7, c8, c9⟩ := hS'.2.2 rfl
      clear hS' hall
      go_simp
      rw [IntKind.wrap_i64]; omega
    try simp only [Act.put, List.getElem_toArray, List.getElem_cons_zero, List.getElem_cons_succ, List.setIfInBounds_toArray, List.set_cons_zero, List.set_cons_succ]
    refine wpAnyFI_take (i := 9) (v := (.int .i64 (max (gk : Int) ((a : Int) - ek)))) 17 (by kernel_rfl) rfl (by kernel_rfl) (by kernel_rfl) (by kernel_rfl) (by kernel_rfl) (by rfl) (by rfl) (fun _ _ _ h => h) (fun _ => ⟨fun h => absurd h (by decide), fun h => absurd h (by decide), fun h => absurd h (by decide)⟩) ⟨Or.inl ⟨by rfl, ?hy9⟩, fun _ => rfl⟩ (fun k _ => hall k) ?_
    case hy9 =>
      intro W' hS'
      obtain ⟨c7, c8, c9⟩ := hS'.2.2 rfl
      clear hS' hall
      go_simp
      split <;> omega
    try simp only [Act.put, List.getElem_toArray, List.getElem_cons_zero, List.getElem_cons_succ, List.setIfInBounds_toArray, List.set_cons_zero, List.set_cons_succ]
    refine wpAnyFI_take (i := 10) (v := (.pointer (some ⟨W.heap.size, 0, none⟩))) 17 (by kernel_rfl) rfl (by kernel_rfl) (by kernel_rfl) (by kernel_rfl) (by kernel_rfl) (by rfl) (by rfl) (fun _ _ _ h => h) (fun _ => ⟨fun h => absurd h (by decide), fun h => absurd h (by decide), fun h => absurd h (by decide)⟩) ⟨Or.inl ⟨by rfl, ?hy10⟩, fun _ => rfl⟩ (fun k _ => hall k) ?_
    case hy10 =>
      intro W' hS'
      obtain ⟨c7, c8, c9⟩ := hS'.2.2 rfl
      clear hS' hall
      go_simp
    try simp only [Act.put, List.getElem_toArray, List.getElem_cons_zero, List.getElem_cons_succ, List.setIfInBounds_toArray, List.set_cons_zero, List.set_cons_succ]
    refine wpAnyFI_take (i := 11) (v := (.int .i64 a)) 17 (by kernel_rfl) rfl (by kernel_rfl) (by kernel_rfl) (by kernel_rfl) (by kernel_rfl) (by rfl) (by rfl) (fun _ _ _ h => h) (fun _ => ⟨fun h => absurd h (by decide), fun h => absurd h (by decide), fun h => absurd h (by decide)⟩) ⟨Or.inl ⟨by rfl, ?hy11⟩, fun _ => rfl⟩ (fun k _ => hall k) ?_
    case hy11 =>
      intro W' hS'
      obtain ⟨c7, c8, c9⟩ := hS'.2.2 rfl
      clear hS' hall
      go_simp
    try simp only [Act.put, List.getElem_toArray, List.getElem_cons_zero, List.getElem_cons_succ, List.setIfInBounds_toArray, List.set_cons_zero, List.set_cons_succ]
    refine wpAnyFI_take (i := 12) (v := (.pointer (some ⟨W.heap.size, 1, none⟩))) 17 (by kernel_rfl) rfl (by kernel_rfl) (by kernel_rfl) (by kernel_rfl) (by kernel_rfl) (by rfl) (by rfl) (fun _ _ _ h => h) (fun _ => ⟨fun h => absurd h (by decide), fun h => absurd h (by decide), fun h => absurd h (by decide)⟩) ⟨Or.inl ⟨by rfl, ?hy12⟩, fun _ => rfl⟩ (fun k _ => hall k) ?_
    case hy12 =>
      intro W' hS'
      obtain ⟨c7, c8, c9⟩ := hS'.2.2 rfl
      clear hS' hall
      go_simp
    try simp only [Act.put, List.getElem_toArray, List.getElem_cons_zero, List.getElem_cons_succ, List.setIfInBounds_toArray, List.set_cons_zero, List.set_cons_succ]
    refine wpAnyFI_take (i := 13) (v := (.int .i64 m)) 17 (by kernel_rfl) rfl (by kernel_rfl) (by kernel_rfl) (by kernel_rfl) (by kernel_rfl) (by rfl) (by rfl) (fun _ _ _ h => h) (fun _ => ⟨fun h => absurd h (by decide), fun h => absurd h (by decide), fun h => absurd h (by decide)⟩) ⟨Or.inl ⟨by rfl, ?hy13⟩, fun _ => rfl⟩ (fun k _ => hall k) ?_
    case hy13 =>
      intro W' hS'
      obtain ⟨c7, c8, c9⟩ := hS'.2.2 rfl
      clear hS' hall
      go_simp
    try simp only [Act.put, List.getElem_toArray, List.getElem_cons_zero, List.getElem_cons_succ, List.setIfInBounds_toArray, List.set_cons_zero, List.set_cons_succ]
    refine wpAnyFI_take (i := 14) (v := (.int .i64 ((a : Int) + m))) 17 (by kernel_rfl) rfl (by kernel_rfl) (by kernel_rfl) (by kernel_rfl) (by kernel_rfl) (by rfl) (by rfl) (fun _ _ _ h => h) (fun _ => ⟨fun h => absurd h (by decide), fun h => absurd h (by decide), fun h => absurd h (by decide)⟩) ⟨Or.inl ⟨by rfl, ?hy14⟩, fun _ => rfl⟩ (fun k _ => hall k) ?_
    case hy14 =>
      intro W' hS'
      obtain ⟨c7, c8, c9⟩ := hS'.2.2 rfl
      clear hS' hall
      go_simp
      rw [IntKind.wrap_i64]; omega
    try simp only [Act.put, List.getElem_toArray, List.getElem_cons_zero, List.getElem_cons_succ, List.setIfInBounds_toArray, List.set_cons_zero, List.set_cons_succ]
    have cs : Wd.cell? ⟨G, 0, none⟩ = some (.int .i64 sk) := HGD.out.2.1.cell
    have ce : Wd.cell? ⟨G + 1, 0, none⟩ = some (.int .i64 ek) := HGD.out.2.2.1.cell
    have cg : Wd.cell? ⟨G + 2, 0, none⟩ = some (.int .i64 gk) := HGD.out.2.2.2.1.cell
    have fs : Wd.frozen? ⟨G, 0, none⟩ = false := HGD.out.2.1.free
    have fe : Wd.frozen? ⟨G + 1, 0, none⟩ = false := HGD.out.2.2.1.free
    have fg : Wd.frozen? ⟨G + 2, 0, none⟩ = false := HGD.out.2.2.2.1.free
    have hall2 := Lib.hid (hall 16).2.1
    have hall3 := Lib.hid (hall 17).2.2
    clear hall
    have hGX : W.heap.size ≠ G ∧ W.heap.size ≠ G + 1 ∧ W.heap.size ≠ G + 2 := by have := HGD.out.1.frn.size; have := HX.out; omega
    have q1 : (Wd.setCell ⟨G, 0, none⟩ (.int .i64 ((sk : Int) + m))).cell? ⟨G + 1, 0, none⟩ = some (.int .i64 ek) := (cell_set_ne _ (by simp)).trans ce
    have q2 : (Wd.setCell ⟨G, 0, none⟩ (.int .i64 ((sk : Int) + m))).cell? ⟨W.heap.size, 0, none⟩ = some (.int .i64 a) := (cell_set_ne _ (by simp; omega)).trans (hall3.out rfl).2.1
    have q3 : (Wd.setCell ⟨G, 0, none⟩ (.int .i64 ((sk : Int) + m))).cell? ⟨W.heap.size, 1, none⟩ = some (.int .i64 m) := (cell_set_ne _ (by simp; omega)).trans (hall3.out rfl).2.2
    have qg : (Wd.setCell ⟨G, 0, none⟩ (.int .i64 ((sk : Int) + m))).cell? ⟨G + 2, 0, none⟩ = some (.int .i64 gk) := (cell_set_ne _ (by simp)).trans cg
    have HQ1 := Lib.hid (And.intro q1 (And.intro q2 (And.intro q3 qg)))
    clear q1 q2 q3 qg
    refine wpAnyFI_one (i := 15) (by kernel_rfl) rfl ?_
    intro K' hK
    rw [if_pos (by kernel_rfl)]
    gi_wp2
    refine hK.out _ _ (fun k hk => ⟨fun h => Bool.noConfusion (hk.symm.trans (by subst h; kernel_rfl : _ = true)), fun _ => HQ1.out.2.2.2, fun _ => ⟨HQ1.out.1, HQ1.out.2.1, HQ1.out.2.2.1⟩⟩) ?_
    clear hK K'
    try simp only [Act.put, List.getElem_toArray, List.getElem_cons_zero, List.getElem_cons_succ, List.setIfInBounds_toArray, List.set_cons_zero, List.set_cons_succ]
    clear cs ce cg
    obtain ⟨V1, hV1⟩ : ∃ V1, (Wd.setCell ⟨G, 0, none⟩ (.int .i64 ((sk : Int) + m))) = V1 := ⟨_, rfl⟩
    rw [hV1] at HQ1 ⊢
    have HBV1 : Hid (Box V1 G 3 (.int .i64 ((sk : Int) + m)) ∧ Box V1 (G + 1) 3 (vnB ek) ∧ Box V1 (G + 2) 3 (vnB gk)) := by
      rw [← hV1]
      exact Lib.hid ⟨HGD.out.2.1.set _, HGD.out.2.2.1.other (by omega) _ 0, HGD.out.2.2.2.1.other (by omega) _ 0⟩
    have fg1 := HBV1.out.2.2.free
    have fe1 := HBV1.out.2.1.free
    have cg := HQ1.out.2.2.2
    clear fs fe fg
    have q1 : (V1.setCell ⟨G + 2, 0, none⟩ (.int .i64 (max (gk : Int) ((a : Int) - ek)))).cell? ⟨G + 1, 0, none⟩ = some (.int .i64 ek) := (cell_set_ne _ (by simp)).trans HQ1.out.1
    have q2 : (V1.setCell ⟨G + 2, 0, none⟩ (.int .i64 (max (gk : Int) ((a : Int) - ek)))).cell? ⟨W.heap.size, 0, none⟩ = some (.int .i64 a) := (cell_set_ne _ (by simp; omega)).trans HQ1.out.2.1
    have q3 : (V1.setCell ⟨G + 2, 0, none⟩ (.int .i64 (max (gk : Int) ((a : Int) - ek)))).cell? ⟨W.heap.size, 1, none⟩ = some (.int .i64 m) := (cell_set_ne _ (by simp; omega)).trans HQ1.out.2.2.1
    have HQ2 := Lib.hid (And.intro q1 (And.intro q2 q3))
    have HV1 := Lib.hid hV1
    clear q1 q2 q3 hV1
    refine wpAnyFI_one (i := 16) (by kernel_rfl) rfl ?_
    intro K' hK
    rw [if_pos (by kernel_rfl)]
    gi_wp2
    refine hK.out _ _ (fun k hk => ⟨fun h => Bool.noConfusion (hk.symm.trans (by subst h; kernel_rfl : _ = true)), fun h => Bool.noConfusion (hk.symm.trans (by subst h; kernel_rfl : _ = true)), fun _ => HQ2.out⟩) ?_
    clear hK K'
    try simp only [Act.put, List.getElem_toArray, List.getElem_cons_zero, List.getElem_cons_succ, List.setIfInBounds_toArray, List.set_cons_zero, List.set_cons_succ]
    obtain ⟨V2, hV2⟩ : ∃ V2, (V1.setCell ⟨G + 2, 0, none⟩ (.int .i64 (max (gk : Int) ((a : Int) - ek)))) = V2 := ⟨_, rfl⟩
    rw [hV2] at HQ2 ⊢
    have HBV2 : Hid (Box V2 G 3 (.int .i64 ((sk : Int) + m)) ∧ Box V2 (G + 1) 3 (vnB ek) ∧ Box V2 (G + 2) 3 (.int .i64 (max (gk : Int) ((a : Int) - ek)))) := by
      rw [← hV2]
      exact Lib.hid ⟨HBV1.out.1.other (by omega) _ 0, HBV1.out.2.1.other (by omega) _ 0, HBV1.out.2.2.set _⟩
    have fe2 := HBV2.out.2.1.free
    have HV2 := Lib.hid hV2
    have ce := HQ2.out.1
    clear hV2 cg fg1 fe1
    refine wpAnyFI_one (i := 17) (by kernel_rfl) rfl ?_
    intro K' hK
    rw [if_pos (by kernel_rfl)]
    gi_wp2
    refine hK.out _ _ (fun k hk => ⟨fun h => Bool.noConfusion (hk.symm.trans (by subst h; kernel_rfl : _ = true)), fun h => Bool.noConfusion (hk.symm.trans (by subst h; kernel_rfl : _ = true)), fun h => Bool.noConfusion (hk.symm.trans (by subst h; kernel_rfl : _ = true))⟩) ?_
    clear hK K'
    try simp only [Act.put, List.getElem_toArray, List.getElem_cons_zero, List.getElem_cons_succ, List.setIfInBounds_toArray, List.set_cons_zero, List.set_cons_succ]
    refine wpAnyFI_done (by kernel_rfl) ?_ _
    refine NoPanic.normal ?_
    clear ce fe2
    clear hall2 hall3 hGX
    have e1 : vnB (s0 + sumR (zs.take (k + 1))) = .int .i64 ((sk : Int) + m) := by rw [HNX.out.1]; simp [vnB]
    have e2 : vnB (endR (zs.take (k + 1))) = .int .i64 ((a : Int) + m) := by rw [HNX.out.2.1]; simp [vnB]
    have e3 : vnB (longR [] (zs.take (k + 1)) 0) = .int .i64 (max (gk : Int) ((a : Int) - ek)) := by rw [HNX.out.2.2]; unfold vnB; congr 1; omega
    refine ⟨⟨?_, ?_, ?_, ?_⟩, ?_⟩
    · rw [← HV2.out, ← HV1.out]; exact ((HGD.out.1.set ⟨G, 0, none⟩ (.inl (.inl rfl)) _).set ⟨G + 2, 0, none⟩ (.inl (.inr (.inr rfl))) _).set ⟨G + 1, 0, none⟩ (.inl (.inr (.inl rfl))) _
    · rw [e1]; exact HBV2.out.1.other (by omega) _ 0
    · rw [e2]; exact HBV2.out.2.1.set _
    · rw [e3]; exact HBV2.out.2.2.other (by omega) _ 0
    · rw [← HV2.out, ← HV1.out]
      have k0 := HKS.out G (Nat.le_refl _) (by omega)
      have k1 := HKS.out (G + 1) (by omega) (by omega)
      have k2 := HKS.out (G + 2) (by omega) (by omega)
      exact ((HGD.out.2.2.2.2.trans (kps_set ⟨G, 0, none⟩ k0.1 k0.2 _)).trans (kps_set ⟨G + 2, 0, none⟩ k2.1 k2.2 _)).trans (kps_set ⟨G + 1, 0, none⟩ k1.1 k1.2 _)
  case hdone =>
    rintro D T V ⟨hs, hb1, hb2, hb3⟩ hTD hTW hkW hD hK
    rw [encR_len, List.take_length] at hb1 hb2 hb3
    rw [HZS.out.2.1] at hb1
    have hz := H0.out.2.2.2.2.2
    obtain ⟨L, hL⟩ : ∃ L, longF (bitW l) n = L := ⟨_, rfl⟩
    have hee : endR zs ≤ n := by have := (runs_end (bitW l) n).1; rwa [HZS.out.1] at this
    have hLe : L = max (longR [] zs 0) (n - endR zs) := by rw [← hL]; unfold longF; rw [HZS.out.1]
    have HLL := Lib.hid hL
    obtain ⟨gg, hgg⟩ : ∃ gg, longR [] zs 0 = gg := ⟨_, rfl⟩
    obtain ⟨ee, hee'⟩ : ∃ ee, endR zs = ee := ⟨_, rfl⟩
    rw [hgg] at hb3 hLe
    rw [hee'] at hb2 hLe hee
    have a1 : V.cell? ⟨G + 1, 0, none⟩ = some (.int .i64 ee) := hb2.cell
    have a2 : V.cell? ⟨G + 2, 0, none⟩ = some (.int .i64 gg) := hb3.cell
    have a3 := hb3.free
    have hbn := hs.box H0.out.2.2.2.1 (by omega)
    have a4 := hbn.cell
    have hrb := hs.box H0.out.2.2.1 (by omega)
    have hbel : Below w.heap.size w V := H0.out.2.1.trans (hs.frn.below (by have := H0.out.2.1.size; omega) (by rintro b (h | h | h) <;> omega))
    have hbm := H0.out.1.keep (hs.frn.block O (by omega) (by omega)) (hs.frn.block g (by omega) (by omega))
    obtain ⟨V1, hV1⟩ : ∃ V1, V.setCell ⟨G + 2, 0, none⟩ (vnB L) = V1 := ⟨_, rfl⟩
    have HV : Hid (FS w O g c l n G L D V1) := by
      rw [← hV1]
      refine Lib.hid ⟨hbm.keep (Below.heap_setCell V ⟨G + 2, 0, none⟩ _ O (by show O ≠ G + 2; omega)) (Below.heap_setCell V ⟨G + 2, 0, none⟩ _ g (by show g ≠ G + 2; omega)), hbel.setCell (p := ⟨G + 2, 0, none⟩) (by show w.heap.size ≤ G + 2; omega) _, hrb.other (by omega) _ 0, hbn.other (by omega) _ 0, hb1.other (by omega) _ 0, hb3.set _,
        (Below.heap_setCell V ⟨G + 2, 0, none⟩ _ D (by show D ≠ G + 2; omega)).trans hK, by omega⟩
    have hLi : (if (gg : Int) < (n : Int) - (ee : Int) then (n : Int) - (ee : Int) else (gg : Int)) = (L : Int) := by split <;> omega
    have HLI := Lib.hid hLi
    have HV1 := Lib.hid hV1
    have i1 : (ee : Int) ≤ (n : Int) := by omega
    have i2 : (n : Int) ≤ 320 := by omega
    clear hs hb1 hb2 hb3 hTD hTW hkW hD hK hz hL hgg hee' hbn hrb hbel hbm hV1 hLi HIT HB0 H0 hee hn320
    have hv : ∀ z : Int, z = L → V.setCell ⟨G + 2, 0, none⟩ (.int .i64 z) = V1 := fun z hz => by rw [hz]; exact HV1.out
    have HLE := Lib.hid hLe
    clear hLe
    have HFI := Lib.hid (find_bm many fromB V1 HV.out.1 HWF.out)
    obtain ⟨fr, hfr⟩ : ∃ fr, findR l n many fromB = fr := ⟨_, rfl⟩
    obtain ⟨f1, f2⟩ := fr
    rw [hfr] at HFI
    have HFR := Lib.hid hfr
    clear hfr
    gi_wp2
    go_wp2_with fail
    all_goals (first | rw [hv ((n : Int) - (ee : Int)) (by have := HLE.out; omega)] | rw [hv (gg : Int) (by have := HLE.out; omega)])
    all_goals
      refine HFI.out.mono ?_
      rintro e w5 ⟨rfl, hb5⟩
      have H5 := Lib.hid (HV.out.below hb5)
      have HW := Lib.hid (works05_any w5 (HT.out.below h0 H5.out.2.1))
      have b1 : w5.cell? ⟨w.heap.size + 1, 0, none⟩ = some (.int .i64 n) := H5.out.2.2.2.1.cell
      have b2 : w5.cell? ⟨G, 0, none⟩ = some (.int .i64 n) := H5.out.2.2.2.2.1.cell
      have b3 : w5.cell? ⟨G + 2, 0, none⟩ = some (.int .i64 L) := H5.out.2.2.2.2.2.1.cell
      clear hb5 a1 a2 a3 a4 HFI HV1 HLI HV i1 hv
      have hfr := HFR.out
      unfold findR at hfr
      by_cases hm : many < 1
      case pos =>
        rw [if_pos hm] at hfr
        simp only [Prod.mk.injEq] at hfr
        obtain ⟨rfl, rfl⟩ := hfr
        go_wp2_with (go_at_call 11; refine (num_any05 _ _).mono ?_; rintro e w' ⟨rfl, rfl⟩)
        refine HW.out.mono ?_
        rintro e w6 ⟨rfl, hb6⟩
        have H6 := Lib.hid (H5.out.below hb6)
        have c9 := H6.out.2.2.1.cell
        have f9 := H6.out.2.2.1.free
        clear hb6
        go_wp2_with fail
        obtain ⟨-, hbel, hrb, -, -, -, hK, hD⟩ := H6.out
        have hb9 := hrb.set (.bool true)
        have hc9 := (hb9.kept (World.putObj_heap_other (o := .deferred none) (show w.heap.size ≠ D by omega))).cell
        refine leave1 rfl ((Below.heap_setCell _ ⟨w.heap.size, 0, none⟩ _ D (by show D ≠ w.heap.size; omega)).trans hK) (results_cell1 rfl _ _ rfl (v := .bool true) (by simp [go_sem, hc9])) ⟨rfl, ?_⟩
        exact below_putObj (hbel.setCell (p := ⟨w.heap.size, 0, none⟩) (Nat.le_refl _) _) (by omega) _
      rw [if_neg hm] at hfr
      have hm1 : 1 ≤ many := by omega
      by_cases hf0 : fromB < 0
      case pos =>
        rw [if_pos (by omega)] at hfr
        simp only [Prod.mk.injEq] at hfr
        obtain ⟨rfl, rfl⟩ := hfr
        go_wp2_with (go_at_call 11; refine (num_any05 _ _).mono ?_; rintro e w' ⟨rfl, rfl⟩)
        refine HW.out.mono ?_
        rintro e w6 ⟨rfl, hb6⟩
        have H6 := Lib.hid (H5.out.below hb6)
        have c9 := H6.out.2.2.1.cell
        have f9 := H6.out.2.2.1.free
        clear hb6
        go_wp2_with fail
        obtain ⟨-, hbel, hrb, -, -, -, hK, hD⟩ := H6.out
        have hb9 := hrb.set (.bool true)
        have hc9 := (hb9.kept (World.putObj_heap_other (o := .deferred none) (show w.heap.size ≠ D by omega))).cell
        refine leave1 rfl ((Below.heap_setCell _ ⟨w.heap.size, 0, none⟩ _ D (by show D ≠ w.heap.size; omega)).trans hK) (results_cell1 rfl _ _ rfl (v := .bool true) (by simp [go_sem, hc9])) ⟨rfl, ?_⟩
        exact below_putObj (hbel.setCell (p := ⟨w.heap.size, 0, none⟩) (Nat.le_refl _) _) (by omega) _
      by_cases hf1 : (n : Int) ≤ fromB
      case pos =>
        rw [if_pos (by omega)] at hfr
        simp only [Prod.mk.injEq] at hfr
        obtain ⟨rfl, rfl⟩ := hfr
        go_wp2_with (go_at_call 11; refine (num_any05 _ _).mono ?_; rintro e w' ⟨rfl, rfl⟩)
        refine HW.out.mono ?_
        rintro e w6 ⟨rfl, hb6⟩
        have H6 := Lib.hid (H5.out.below hb6)
        have c9 := H6.out.2.2.1.cell
        have f9 := H6.out.2.2.1.free
        clear hb6
        go_wp2_with fail
        obtain ⟨-, hbel, hrb, -, -, -, hK, hD⟩ := H6.out
        have hb9 := hrb.set (.bool true)
        have hc9 := (hb9.kept (World.putObj_heap_other (o := .deferred none) (show w.heap.size ≠ D by omega))).cell
        refine leave1 rfl ((Below.heap_setCell _ ⟨w.heap.size, 0, none⟩ _ D (by show D ≠ w.heap.size; omega)).trans hK) (results_cell1 rfl _ _ rfl (v := .bool true) (by simp [go_sem, hc9])) ⟨rfl, ?_⟩
        exact below_putObj (hbel.setCell (p := ⟨w.heap.size, 0, none⟩) (Nat.le_refl _) _) (by omega) _
      rw [if_neg (by omega)] at hfr
      have hmm : (many.toNat : Int) = many := by omega
      by_cases h5 : f2 = 5
      case pos =>
        have hnone := findL_none (f := bitW l) (n := n) (many := many) (fromB := fromB) (by rw [hfr]; exact h5)
        have hlt : (L : Int) < many := by
          rcases Int.lt_or_le (L : Int) many with h | h
          · exact h
          · have := (longF_gaps (bitW l) n many.toNat (by omega)).1 (by rw [HLL.out]; omega)
            obtain ⟨gp, hgp, hle⟩ := this
            have := hnone gp hgp
            omega
        clear hnone hfr
        subst h5
        go_wp2_with (go_at_call 11; refine (num_any05 _ _).mono ?_; rintro e w' ⟨rfl, rfl⟩)
        refine HW.out.mono ?_
        rintro e w6 ⟨rfl, hb6⟩
        have H6 := Lib.hid (H5.out.below hb6)
        have c9 := H6.out.2.2.1.cell
        have f9 := H6.out.2.2.1.free
        clear hb6
        go_wp2_with fail
        obtain ⟨-, hbel, hrb, -, -, -, hK, hD⟩ := H6.out
        have hb9 := hrb.set (.bool true)
        have hc9 := (hb9.kept (World.putObj_heap_other (o := .deferred none) (show w.heap.size ≠ D by omega))).cell
        refine leave1 rfl ((Below.heap_setCell _ ⟨w.heap.size, 0, none⟩ _ D (by show D ≠ w.heap.size; omega)).trans hK) (results_cell1 rfl _ _ rfl (v := .bool true) (by simp [go_sem, hc9])) ⟨rfl, ?_⟩
        exact below_putObj (hbel.setCell (p := ⟨w.heap.size, 0, none⟩) (Nat.le_refl _) _) (by omega) _
      have hsome := findL_some (f := bitW l) (n := n) (many := many) (fromB := fromB) (by omega) (by omega) hm1 (by rw [hfr]; exact h5)
      rw [hfr] at hsome
      obtain ⟨rfl, hp0, hroom, hfree, gp, hgp, hgle⟩ := hsome
      simp only at hp0 hroom hfree
      have hle : many ≤ (L : Int) := by
        have := (longF_gaps (bitW l) n many.toNat (by omega)).2 ⟨gp, hgp, by omega⟩
        rw [HLL.out] at this
        omega
      obtain ⟨f, rfl⟩ : ∃ f : Nat, f1 = f := ⟨f1.toNat, by omega⟩
      obtain ⟨mm, rfl⟩ : ∃ mm : Nat, many = mm := ⟨many.toNat, by omega⟩
      have hfm : (f : Int) + mm ≤ (n : Int) := by omega
      have HFREE := Lib.hid hfree
      clear hfr hgp hgle hfree h5 hmm HFR
      go_wp2_with (go_at_call 11; refine (num_any05 _ _).mono ?_; rintro e w' ⟨rfl, rfl⟩)
      go_loopw [17] (fun i wr => ∃ j : Nat, f ≤ j ∧ j ≤ f + mm ∧ i = .int .i64 j ∧ wr = w5) (fun i _ => f + mm - (intOf i).toNat)
      case atStart => exact ⟨f, Nat.le_refl _, by omega, rfl, rfl⟩
      case round =>
        obtain ⟨j, hj1, hj2, rfl, rfl⟩ := hrel
        by_cases hlt : j < f + mm
        · have hgl : getL l n (j : Int) = (false, 0) := by
            unfold getL
            rw [if_pos (by omega), Int.toNat_natCast, HFREE.out j (by omega) (by omega)]
          have HGE := Lib.hid (get_bm (j : Int) wr H5.out.1)
          rw [hgl] at HGE
          have hj3 : (j : Int) < (f : Int) + mm := by omega
          have hj4 : (j : Int) < (n : Int) := by omega
          clear hgl
          go_wp2_with fail
          refine HGE.out.mono ?_
          rintro e w' ⟨rfl, rfl⟩
          go_wp2_with (go_at_call 11; refine (num_any05 _ _).mono ?_; rintro e w' ⟨rfl, rfl⟩)
          go_roundw
          case rel => exact ⟨j + 1, by omega, by omega, by go_num, trivial⟩
          case measure => simp [intOf]; omega
        · obtain rfl : j = f + mm := by omega
          have hj3 : ¬ ((f + mm : Nat) : Int) < (f : Int) + mm := by omega
          go_wp2_with (go_at_call 11; refine (num_any05 _ _).mono ?_; rintro e w' ⟨rfl, rfl⟩)
          refine HW.out.mono ?_
          rintro e w6 ⟨rfl, hb6⟩
          have H6 := Lib.hid (H5.out.below hb6)
          have c9 := H6.out.2.2.1.cell
          have f9 := H6.out.2.2.1.free
          clear hb6
          go_wp2_with fail
          obtain ⟨-, hbel, hrb, -, -, -, hK, hD⟩ := H6.out
          have hb9 := hrb.set (.bool true)
          have hc9 := (hb9.kept (World.putObj_heap_other (o := .deferred none) (show w.heap.size ≠ D by omega))).cell
          refine leave1 rfl ((Below.heap_setCell _ ⟨w.heap.size, 0, none⟩ _ D (by show D ≠ w.heap.size; omega)).trans hK) (results_cell1 rfl _ _ rfl (v := .bool true) (by simp [go_sem, hc9])) ⟨rfl, ?_⟩
          exact below_putObj (hbel.setCell (p := ⟨w.heap.size, 0, none⟩) (Nat.le_refl _) _) (by omega) _
theorem lawBitmapHolds (p : Option Addr) (cap : Nat) (l : List (BitVec 64)) (many fromB : Int) (w : World) (hT : TabAt w) (hrd : RdL w.heap.size w p cap vw l) (hwf : -9223372036854775808 ≤ many ∧ many ≤ 9223372036854775807) :
    Calls Tryd.prog 4 #[.slice p l.length cap, .int .i64 many, .int .i64 fromB] w fun e w' => e = .returned (.bool true) ∧ Below w.heap.size w w' := by
  by_cases h : 1 ≤ l.length ∧ l.length ≤ 5
  · exact bholds_in p cap l many fromB w hT hrd h.1 h.2 hwf
  · exact bholds_out p cap l many fromB w hT h
end Go.Proofs.YtljegehfdmgcbaaDoor
