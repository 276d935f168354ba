/- The walk of the law PlanOrders. -/
import Derived.Test.YthhdipfadnihjaaPlanH
import Derived.Sort.CutIn
import Derived.Sort.QuietIn
namespace Go.Proofs.Ythhdipfadnihjaa
open Go Go.RowKit
attribute [local go_sem] Oper.semAt_some

set_option maxRecDepth 100000 in
set_option maxHeartbeats 8000000 in
theorem lawPlanOrders (p0 : Option Addr) (cap0 : Nat) (ls : List Put2) (many : Int) (w : World) (hrd : RdS w.heap.size w p0 cap0 2 pc2 ls) (hx : ∀ x ∈ ls, x.1 ≤ 9223372036854775807) :
    Calls Try.prog 3 #[.slice p0 ls.length cap0, .int .i64 many] w fun e w' => e = .returned (.bool true) ∧ Below w.heap.size w w' := by
  have hfn := funcE_nil
  have hlen := hrd.len
  obtain ⟨wa, hwa⟩ : ∃ wa, (w.alloc (.cells #[.int .i64 many] 3)).alloc (.cells #[.bool false] 4) = wa := ⟨_, rfl⟩
  have hAa : At w.heap.size w wa := by rw [← hwa]; exact ((At.start w).alloc _).alloc _
  have hza : wa.heap.size = w.heap.size + 2 := by rw [← hwa]; simp
  have hbm : Box wa w.heap.size 3 (.int .i64 many) := by rw [← hwa]; exact (Box.new _ _ _).alloc _
  have hbr : Box wa (w.heap.size + 1) 4 (.bool false) := by
    have := Box.new (w.alloc (.cells #[.int .i64 many] 3)) 4 (.bool false)
    rw [World.size_alloc] at this
    rw [← hwa]; exact this
  have HWA := Lib.hid hwa
  have HAA := Lib.hid hAa
  have HBM := Lib.hid hbm
  have HBR := Lib.hid hbr
  have HZA := Lib.hid hza
  have HRD := Lib.hid hrd
  have HX := Lib.hid hx
  have hcr := hbr.cell
  have hfr := hbr.free
  clear hrd hwa hAa hbm hbr hza hx
  by_cases h100 : 100 < ls.length
  · have h100' : (100 : Int) < (ls.length : Int) := by omega
    clear h100
    refine (callsIn_wide (n := 0)).1 ?_
    refine callsIn_of_wp_marks Try.func3 rfl trivial ?_ rfl
    simp only [Try.ntmps3, List.size_toArray, List.length_cons, List.length_nil, Nat.reduceAdd, Nat.reduceSub, Array.replicate_succ, Array.replicate_zero, List.push_toArray, List.append_toArray, List.nil_append, List.cons_append]
    gi_wp2
    rw [HWA.out]
    refine wcall (works08_any _) ?_
    rintro e w1 ⟨rfl, b1⟩
    have hb1 := HBR.out.below b1 HBR.out.lt
    have hc1 := hb1.cell
    have hf1 := hb1.free
    have HB1 := Lib.hid hb1
    have HB := Lib.hid (HAA.out.below b1)
    clear b1 hb1
    gi_wp2
    have hc2 := (HB1.out.set (.bool true)).cell
    refine ⟨.bool true, results_cell1 rfl _ _ rfl (v := .bool true) (by simp [go_sem, hc2]), rfl, ?_⟩
    exact HB.out.1.setCell (p := ⟨w.heap.size + 1, 0, none⟩) (Nat.le_succ _) _
  have h100' : (ls.length : Int) ≤ 100 := by omega
  clear h100 hcr hfr
  refine (callsIn_wide (n := 0)).1 ?_
  refine callsIn_of_wp_marks Try.func3 rfl trivial ?_ rfl
  simp only [Try.ntmps3, List.size_toArray, List.length_cons, List.length_nil, Nat.reduceAdd, Nat.reduceSub, Array.replicate_succ, Array.replicate_zero, List.push_toArray, List.append_toArray, List.nil_append, List.cons_append]
  gi_upto_region 3 with fail
  rw [HWA.out]
  gi_wp2_with (
    gi_at_builtin
    refine wpListIn_copyG rfl (.tmp 20) (.tmp 21) _ rfl elem_put (by decide) pc2_len pc2_one wa.heap.size _ rfl (own_empty wa wa.heap.size 89 2 (Nat.le_refl _)) p0 cap0 ls w.heap.size rfl (HRD.out.kept (HAA.out.1.alloc HAA.out.2 _)) (by omega) (by simp) ?_
    intro pc cc wc hown hpc hg)
  have hbc : Below wa.heap.size wa wc := below_grown ((Below.refl _ wa).alloc (Nat.le_refl _) _) hg (by simp) (by intro b hb; cases hb; exact Nat.le_refl _)
  have HBC := Lib.hid hbc
  have HC := Lib.hid (order_any pc cc ls wc (hown.rds pc2_len) (by omega) HX.out)
  clear hown hpc hg hbc
  refine wcall HC.out ?_
  rintro e w1 ⟨qa, da, rfl, hoa, hqa, hb1⟩
  have HOA := Lib.hid hoa
  have HB1 := Lib.hid (HBC.out.trans (hb1.mono HBC.out.size))
  clear hoa hqa hb1 HC HBC
  have HR := Lib.hid (refOrder_any p0 cap0 ls w1 ((HRD.out.kept (HAA.out.1.trans (HB1.out.mono HAA.out.2))).wide (Nat.le_trans HAA.out.2 HB1.out.size)) (by omega) HX.out)
  gi_wp2
  refine wcall HR.out ?_
  rintro e w2 ⟨qw, dw, rfl, how, hqw, hb2⟩
  obtain ⟨wb, hwb⟩ : ∃ wb, w2.alloc (.cells #[.slice qw (ordA ls).length dw] 24) = wb := ⟨_, rfl⟩
  have hbb : Below w2.heap.size w2 wb := by rw [← hwb]; exact (Below.refl _ _).alloc (Nat.le_refl _) _
  have hzb : wb.heap.size = w2.heap.size + 1 := by rw [← hwb]; simp
  have hbw : Box wb w2.heap.size 24 (.slice qw (ordA ls).length dw) := by rw [← hwb]; exact Box.new _ _ _
  have HB2 := Lib.hid (HB1.out.trans (hb2.mono HB1.out.size))
  have HOA2 := Lib.hid (HOA.out.below hb2)
  have HOW := Lib.hid how
  have HBB := Lib.hid (And.intro hbb (And.intro hzb hbw))
  have HWB := Lib.hid hwb
  clear how hqw hb2 hbb hzb hbw hwb HR HOA
  have HE := Lib.hid (each_any p0 cap0 ls wb ((HRD.out.kept (HAA.out.1.trans ((HB2.out.trans (HBB.out.1.mono HB2.out.size)).mono HAA.out.2))).wide (Nat.le_trans HAA.out.2 (Nat.le_trans HB2.out.size HBB.out.1.size))) (by omega) HX.out)
  gi_wp2
  rw [HWB.out]
  refine wcall HE.out ?_
  rintro e w3 ⟨Bs, qe, de, rfl, hbx, hb3⟩
  have HB3 := Lib.hid hb3
  have HBX := Lib.hid hbx
  have hb1b : Box w3 w2.heap.size 24 (.slice qw (ordA ls).length dw) := HBB.out.2.2.below hb3 (by rw [HBB.out.2.1]; omega)
  have hcw3 := hb1b.cell
  have HSA := Lib.hid (sameActs_any qa qw da dw (ordA ls) w3 (((HOA2.out.rds ac3_len).kept (HBB.out.1.trans (hb3.mono HBB.out.1.size))).wide (Nat.le_trans HBB.out.1.size hb3.size)) (((HOW.out.rds ac3_len).kept (HBB.out.1.trans (hb3.mono HBB.out.1.size))).wide (Nat.le_trans HBB.out.1.size hb3.size)))
  clear hbx hb3 hb1b HE
  gi_wp2
  refine wcall HSA.out ?_
  rintro e w4 ⟨rfl, n4, hw4⟩
  have HW4 := Lib.hid hw4
  clear hw4
  gi_wp2
  refine wcall (num08_any _ _) ?_
  rintro e w4b ⟨rfl, rfl⟩
  have hnn : (noA ls != noA ls) = false := by simp
  gi_wp2
  obtain ⟨zs, hzs⟩ : ∃ zs, ordA ls = zs := ⟨_, rfl⟩
  obtain ⟨W0, hW0⟩ : ∃ W0, w4b.alloc (Obj.cells #[Value.int IntKind.i64 0] 3) = W0 := ⟨_, rfl⟩
  obtain ⟨Bw, hBw⟩ : ∃ Bw, w2.heap.size = Bw := ⟨_, rfl⟩
  have hA0 : PT w zs many Bw Bs w4b.heap.size qa da qw dw qe de 0 W0 := by
    obtain ⟨hbb, hzb, hbw⟩ := HBB.out
    have hsa := HZA.out
    have hs2 := HB2.out.size
    have hs3 := HB3.out.size
    have h45 : w4b.heap.size = w3.heap.size := by rw [HW4.out]; rfl
    have b35 : Below w3.heap.size w3 w4b := by rw [HW4.out]; exact below_drewN (Below.refl _ _) n4
    have hal : Below w4b.heap.size w4b W0 := by rw [← hW0]; exact (Below.refl _ _).alloc (Nat.le_refl _) _
    have b23 : Below w2.heap.size w2 w3 := hbb.trans (HB3.out.mono (by omega))
    have b3W : Below w3.heap.size w3 W0 := b35.trans (hal.mono (by omega))
    have baW : Below wa.heap.size wa W0 := (HB2.out.trans (b23.mono hs2)).trans (b3W.mono (by have := b23.size; omega))
    have b2W : Below w2.heap.size w2 W0 := b23.trans (b3W.mono (by have := b23.size; omega))
    have hlw : w2.heap.size < w3.heap.size := by omega
    have hls : Bs < w3.heap.size := (Array.getElem?_eq_some_iff.1 HBX.out.hp).1
    have hge := HBX.out.ge
    have hoa := HOA2.out.rds ac3_len
    have how := HOW.out.rds ac3_len
    have hoe := HBX.out.own.rds ac3_len
    rw [hzs] at hoa how hoe hbw
    have hbs : Box w3 Bs 24 (.slice qe zs.length de) := by rw [← hzs]; exact HBX.out.hp
    rw [← hBw]
    refine ⟨HAA.out.below baW, by omega, by omega, by omega, by omega, HBM.out.below baW HBM.out.lt, HBR.out.below baW HBR.out.lt, (hbw.below HB3.out (by omega)).below b3W (by omega), hbs.below b3W hls, by rw [← hW0]; exact Box.new _ _ _, ?_, ?_, ?_⟩
    · exact (hoa.kept b2W).wide (by omega)
    · exact (how.kept b2W).wide (by omega)
    · exact (hoe.kept b3W).wide (by omega)
  rw [hW0]
  have HOR := Lib.hid hzs
  have hzl := ordA_len ls
  rw [hzs] at hzl ⊢
  rw [hBw]
  have HA0 := Lib.hid hA0
  have hly : zs.length ≤ 1000 := by omega
  clear hA0 hW0 HBB HWB HBX HAA HBM HBR HZA hzs hBw HWA HW4 hcw3 HSA HB1 HB2 HB3 HOA2 HOW hnn hzl
  refine wpIn_loop_rounds 3 ?_
  rw [roundsIn_succ]
  obtain ⟨b0, hb0⟩ : ∃ b0, w4b.heap.size = b0 := ⟨_, rfl⟩
  rw [hb0] at HA0 ⊢
  have hc0 : W0.cell? ⟨b0, 0, none⟩ = some (.int .i64 0) := HA0.out.tn.cell
  gi_wp2
  obtain ⟨U0, hU0⟩ : ∃ U, ((W0.alloc (Obj.cells #[Value.int IntKind.i64 0] 3)).alloc (Obj.cells #[Value.int IntKind.i64 0] 3)) = U := ⟨_, rfl⟩
  obtain ⟨N0, hN0⟩ : ∃ N, W0.heap.size = N := ⟨_, rfl⟩
  have hV0 : PT w zs many Bw Bs b0 qa da qw dw qe de 0 U0 := by rw [← hU0]; exact HA0.out.kept (X := fun _ => False) (T := fun _ => False) (((Keep.start _ _).alloc _).alloc _) (fun _ h => h.elim)
  have hbn0 : Box U0 N0 3 (vnP 0) := by rw [← hU0, ← hN0]; exact (Box.new _ _ _).alloc _
  have hbc0 : Box U0 (N0 + 1) 3 (vnP 0) := by
    have := Box.new (W0.alloc (Obj.cells #[Value.int IntKind.i64 0] 3)) 3 (vnP 0)
    rw [World.size_alloc, hN0] at this
    rw [← hU0]; exact this
  have hlb0 : b0 < N0 := by rw [← hN0]; exact HA0.out.tn.lt
  have hsU0 : U0.heap.size = N0 + 2 := by rw [← hU0, ← hN0]; simp
  have HV0 := Lib.hid hV0
  have HN0 := Lib.hid hbn0
  have HC0 := Lib.hid hbc0
  have HSU0 := Lib.hid hsU0
  rw [hU0, hN0]
  clear hV0 hbn0 hbc0 hc0 hU0 hsU0
  refine rf_brk (id := 2) (gf := 52) (lb := #[.pointer (some ⟨Bs, 0, none⟩)]) rfl (enters_of Try.func52 (by kernel_rfl) rfl)
    (each1_iter Bs qe de zs _ HV0.out.bs.cell (HV0.out.re.wide (Nat.le_of_lt HV0.out.tn.lt)) (by omega)) (by intro x hx; obtain ⟨i, hi, rfl⟩ := List.mem_iff_getElem.1 hx; rw [encA_get]; rfl) ?hFP0
    (fun k T W => Keep (fun b => b = N0 ∨ b = N0 + 1) U0 T W ∧ Box W N0 3 (vnP k) ∧ Box W (N0 + 1) 3 (vnP (cntA zs k)) ∧ (k = 0 ∨ (k : Int) < many))
    (fun k T W => Keep (fun b => b = N0 ∨ b = N0 + 1) U0 T W ∧ Box W N0 3 (vnP k) ∧ Box W (N0 + 1) 3 (vnP (cntA zs k)) ∧ many ≤ k ∧ (k = 1 ∨ (k : Int) ≤ many)) ?hJ0 ?hJb0
    (fun D W => PT w zs many Bw Bs b0 qa da qw dw qe de 0 W ∧ (∃ m, Box W N0 3 (vnP m) ∧ LeaveAtP many zs.length m) ∧ N0 + 1 < D ∧ W.heap[D]? = some (.deferred (some [])) ∧ Frn (fun b => b = N0 ∨ b = N0 + 1) U0 W)
    ?h00 ?hround0 ?hdone0 ?hstop0 ?hrest0
  case hFP0 =>
    have h1 := HV0.out.bs.lt
    rintro b (rfl | hb)
    · exact h1
    · have := HV0.out.re.inlt hb; have := HV0.out.tn.lt; omega
  case hJ0 =>
    rintro k T W W' ⟨h1, h2, h3, h4⟩ hf
    exact ⟨h1.go hf, h2.kept (h1.own hf HN0.out.lt), h3.kept (h1.own hf HC0.out.lt), h4⟩
  case hJb0 =>
    rintro k T W W' ⟨h1, h2, h3, h4⟩ hf
    exact ⟨h1.go hf, h2.kept (h1.own hf HN0.out.lt), h3.kept (h1.own hf HC0.out.lt), h4⟩
  case h00 => exact ⟨Keep.start _ _, HN0.out, HC0.out, .inl rfl⟩
  case hround0 =>
    rintro l k hk T W ⟨hs, hbox, hbxc, hmk⟩ hTl hTW hkW
    have hk' : k < zs.length := by simpa [encA] using hk
    rw [encA_get]
    have hcs := cntA_succ zs k hk'
    have hcl := cntA_le zs k
    obtain ⟨cn, hcn0⟩ : ∃ cn, cntA zs k = cn := ⟨_, rfl⟩
    obtain ⟨y, hy⟩ : ∃ y, zs[k] = y := ⟨_, rfl⟩
    rw [hcn0] at hbxc hcs hcl ⊢
    rw [hy] at hcs ⊢
    obtain ⟨y1, y2, y3⟩ := y
    simp only at hcs
    unfold av3
    gi_wp2
    have hWa : Kps (fun b => (b = Bs ∨ inP qe de b) ∨ T b) W (W.alloc (.cells #[.int .i64 y1, .int .i64 y2, vw y3] 38)) := (Kps.refl _ _).alloc _
    refine ⟨hWa, fun W2 hf hsz hk2 _ => ?_⟩
    have hs1 := hs.alloc (.cells #[.int .i64 y1, .int .i64 y2, vw y3] 38)
    have hs2 := hs1.goSame hf hsz
    have hbox2 : Box W2 N0 3 (vnP k) := (hbox.alloc (.cells #[.int .i64 y1, .int .i64 y2, vw y3] 38)).kept (hs1.own hf HN0.out.lt)
    have hbxc2 : Box W2 (N0 + 1) 3 (vnP cn) := (hbxc.alloc (.cells #[.int .i64 y1, .int .i64 y2, vw y3] 38)).kept (hs1.own hf HC0.out.lt)
    have hx2 : W2.heap[W.heap.size]? = some (.cells #[.int .i64 y1, .int .i64 y2, vw y3] 38 (0, 0)) := (hf.block _ (by simp) (fun ht => Nat.lt_irrefl _ (hTW _ ht))).trans (World.alloc_heap_new W _)
    have hxn : W.heap.size ≠ N0 := by have := hbox.lt; omega
    have hxn1 : W.heap.size ≠ N0 + 1 := by have := hbxc.lt; omega
    have hx0 := tri_c0 hx2
    have hx1 := tri_c1 hx2
    have hx22 := tri_c2 hx2
    have hA2 := HV0.out.kept hs2 (by rintro b (rfl | rfl) <;> omega)
    have hcn : W2.cell? ⟨N0, 0, none⟩ = some (.int .i64 (k : Int)) := hbox2.cell
    have hcc : W2.cell? ⟨N0 + 1, 0, none⟩ = some (.int .i64 (cn : Int)) := hbxc2.cell
    have hcw := hA2.bw.cell
    have hct : W2.cell? ⟨b0, 0, none⟩ = some (.int .i64 0) := hA2.tn.cell
    have hcm := hA2.bm.cell
    obtain ⟨ob, off, hpo, hob, hcx, hcy, hcz⟩ := hA2.rw.rows3 k hk'
    rw [hpo] at hcw
    rw [hy] at hcx hcy hcz
    simp only at hcx hcy hcz
    have hnf : ∀ b, b = N0 ∨ b = N0 + 1 → ¬ (b = Bs ∨ inP qe de b) ∧ ¬ T b := by
      intro b hb
      refine ⟨?_, hs2.notT (by have := HSU0.out; omega)⟩
      rintro (h | h)
      · have := HA0.out.lts; omega
      · have := HV0.out.re.inlt h; omega
    have hks : ∀ nq u, Kps (fun b => (b = Bs ∨ inP qe de b) ∨ T b) W2 ((W2.drewN nq).setCell ⟨N0, 0, none⟩ u) ∧ Kps (fun b => (b = Bs ∨ inP qe de b) ∨ T b) W2 ((W2.drewN nq).setCell ⟨N0 + 1, 0, none⟩ u) := by
      intro nq u
      have h0 : Kps (fun b => (b = Bs ∨ inP qe de b) ∨ T b) W2 (W2.drewN nq) := ⟨rfl, rfl, rfl, Nat.le_refl _, fun _ _ _ => rfl⟩
      exact ⟨h0.trans (kps_set ⟨N0, 0, none⟩ (hnf _ (.inl rfl)).1 (hnf _ (.inl rfl)).2 _), h0.trans (kps_set ⟨N0 + 1, 0, none⟩ (hnf _ (.inr rfl)).1 (hnf _ (.inr rfl)).2 _)⟩
    have HNF := Lib.hid hnf
    have HS2 := Lib.hid hs2
    have HB2 := Lib.hid hbox2
    have HC2 := Lib.hid hbxc2
    have HCS := Lib.hid hcs
    have HF2 := Lib.hid (And.intro hcm (And.intro hct hx0))
    have hk3 : (k : Int) < (zs.length : Int) := by omega
    have hk4 : (k : Int) ≤ 1000 := by omega
    have hk6 : (cn : Int) ≤ 1000 := by omega
    have hle5 : decide (zs.length ≤ k) = false := decide_eq_false (by omega)
    have hne2 : b0 ≠ N0 := by omega
    have hne2' : b0 ≠ N0 + 1 := by omega
    have hne3 : w.heap.size ≠ N0 := by have := HA0.out.lw; have := HA0.out.ltw; omega
    have hne3' : w.heap.size ≠ N0 + 1 := by have := HA0.out.lw; have := HA0.out.ltw; omega
    clear hf hkW hk2 hs hs1 hbox hbxc hs2 hbox2 hbxc2 hA2 hWa hx2 hpo hsz hnf hcs hcn0
    gi_wp2
    refine wpIn_region_quietR_lit (by kernel_rfl) (by kernel_rfl) (by kernel_rfl) ?_
    repeat (gi_big_quiet_step (fail))
    refine wpQuietIn_nil ?_
    rintro _ ⟨nq, rfl⟩
    clear hcn hcc hct hcm hcw hcx hcy hcz hx0 hx1 hx22
    have hfz : (W2.drewN nq).frozen? ⟨N0, 0, none⟩ = false := HB2.out.free
    have hfc : (W2.drewN nq).frozen? ⟨N0 + 1, 0, none⟩ = false := HC2.out.free
    have hcn : (W2.drewN nq).cell? ⟨N0, 0, none⟩ = some (.int .i64 (k : Int)) := HB2.out.cell
    have hcc : (W2.drewN nq).cell? ⟨N0 + 1, 0, none⟩ = some (.int .i64 (cn : Int)) := HC2.out.cell
    have hcm : (W2.drewN nq).cell? ⟨w.heap.size, 0, none⟩ = some (.int .i64 many) := HF2.out.1
    have hct : (W2.drewN nq).cell? ⟨b0, 0, none⟩ = some (.int .i64 0) := HF2.out.2.1
    have hx0 : (W2.drewN nq).cell? ⟨W.heap.size, 0, none⟩ = some (.int .i64 y1) := HF2.out.2.2
    by_cases h1 : y1 = 1
    · subst h1
      rw [if_pos rfl] at HCS
      by_cases hm : many ≤ (k : Int) + 1
      · skip
        gi_wp2
        refine ⟨⟨rfl, (((HS2.out.drewN nq : Keep (fun b => b = N0 ∨ b = N0 + 1) U0 T (W2.drewN nq))).set ⟨N0 + 1, 0, none⟩ (.inl (.inr rfl)) _).set ⟨N0, 0, none⟩ (.inl (.inl rfl)) _, ?_, ?_, by omega⟩, ?_⟩
        · have := (((show Box (W2.drewN nq) N0 3 (vnP k) from HB2.out).kept (heap_setCell_other _ ⟨N0 + 1, 0, none⟩ N0 (vnP (cn + 1)) (by simp))).set (vnP (k + 1)))
          have e : Value.int IntKind.i64 ((k : Int) + 1) = vnP (k + 1) := by simp [vnP]
          rw [e]; exact this
        · rw [HCS.out]
          have := (((show Box (W2.drewN nq) (N0 + 1) 3 (vnP cn) from HC2.out).set (vnP (cn + 1))).kept (heap_setCell_other _ ⟨N0, 0, none⟩ (N0 + 1) (vnP (k + 1)) (by simp)))
          have e : Value.int IntKind.i64 ((cn : Int) + 1) = vnP (cn + 1) := by simp [vnP]
          rw [e]; exact this
        · exact (hks nq _).2.trans (kps_set ⟨N0, 0, none⟩ (HNF.out _ (.inl rfl)).1 (HNF.out _ (.inl rfl)).2 _)
      · skip
        gi_wp2
        refine ⟨⟨(((HS2.out.drewN nq : Keep (fun b => b = N0 ∨ b = N0 + 1) U0 T (W2.drewN nq))).set ⟨N0 + 1, 0, none⟩ (.inl (.inr rfl)) _).set ⟨N0, 0, none⟩ (.inl (.inl rfl)) _, ?_, ?_, .inr (by omega)⟩, ?_⟩
        · have := (((show Box (W2.drewN nq) N0 3 (vnP k) from HB2.out).kept (heap_setCell_other _ ⟨N0 + 1, 0, none⟩ N0 (vnP (cn + 1)) (by simp))).set (vnP (k + 1)))
          have e : Value.int IntKind.i64 ((k : Int) + 1) = vnP (k + 1) := by simp [vnP]
          rw [e]; exact this
        · rw [HCS.out]
          have := (((show Box (W2.drewN nq) (N0 + 1) 3 (vnP cn) from HC2.out).set (vnP (cn + 1))).kept (heap_setCell_other _ ⟨N0, 0, none⟩ (N0 + 1) (vnP (k + 1)) (by simp)))
          have e : Value.int IntKind.i64 ((cn : Int) + 1) = vnP (cn + 1) := by simp [vnP]
          rw [e]; exact this
        · exact (hks nq _).2.trans (kps_set ⟨N0, 0, none⟩ (HNF.out _ (.inl rfl)).1 (HNF.out _ (.inl rfl)).2 _)
    · skip
      rw [if_neg h1, Nat.add_zero] at HCS
      by_cases hm : many ≤ (k : Int) + 1
      · skip
        gi_wp2
        refine ⟨⟨rfl, ((HS2.out.drewN nq : Keep (fun b => b = N0 ∨ b = N0 + 1) U0 T (W2.drewN nq))).set ⟨N0, 0, none⟩ (.inl (.inl rfl)) _, ?_, ?_, by omega⟩, ?_⟩
        · have := ((show Box (W2.drewN nq) N0 3 (vnP k) from HB2.out).set (vnP (k + 1)))
          have e : Value.int IntKind.i64 ((k : Int) + 1) = vnP (k + 1) := by simp [vnP]
          rw [e]; exact this
        · rw [HCS.out]
          have := ((show Box (W2.drewN nq) (N0 + 1) 3 (vnP cn) from HC2.out).kept (heap_setCell_other _ ⟨N0, 0, none⟩ (N0 + 1) (vnP (k + 1)) (by simp)))
          skip
          exact this
        · exact (hks nq _).1
      · skip
        gi_wp2
        refine ⟨⟨((HS2.out.drewN nq : Keep (fun b => b = N0 ∨ b = N0 + 1) U0 T (W2.drewN nq))).set ⟨N0, 0, none⟩ (.inl (.inl rfl)) _, ?_, ?_, .inr (by omega)⟩, ?_⟩
        · have := ((show Box (W2.drewN nq) N0 3 (vnP k) from HB2.out).set (vnP (k + 1)))
          have e : Value.int IntKind.i64 ((k : Int) + 1) = vnP (k + 1) := by simp [vnP]
          rw [e]; exact this
        · rw [HCS.out]
          have := ((show Box (W2.drewN nq) (N0 + 1) 3 (vnP cn) from HC2.out).kept (heap_setCell_other _ ⟨N0, 0, none⟩ (N0 + 1) (vnP (k + 1)) (by simp)))
          skip
          exact this
        · exact (hks nq _).1
  case hdone0 =>
    rintro D T W ⟨hs, hbox, hbxc, hmk⟩ hTD hTW hkW hD hK
    rw [encA_len] at hbox hmk
    have hD' : N0 + 2 ≤ D := by rw [← HSU0.out]; exact hD
    refine ⟨HV0.out.kept hs (by rintro b (rfl | rfl) <;> omega), ⟨_, hbox, by unfold LeaveAtP; omega⟩, by omega, hK, hs.frn⟩
  case hstop0 =>
    rintro D k T W hk hk1 ⟨hs, hbox, hbxc, hmk⟩ hTD hTW hkW hD hK
    rw [encA_len] at hk
    have hD' : N0 + 2 ≤ D := by rw [← HSU0.out]; exact hD
    exact ⟨HV0.out.kept hs (by rintro b (rfl | rfl) <;> omega), ⟨_, hbox, by unfold LeaveAtP; omega⟩, by omega, hK, hs.frn⟩
  rintro D0 V1 ⟨hA1, ⟨m0, hN1', hmm⟩, hD0, hK0, hF0⟩
  have hc1 : V1.cell? ⟨b0, 0, none⟩ = some (.int .i64 0) := hA1.tn.cell
  have hc2 := hA1.bm.cell
  have hc3 := hA1.bw.cell
  have hc4 : V1.cell? ⟨N0, 0, none⟩ = some (.int .i64 (m0 : Int)) := hN1'.cell
  have HA := Lib.hid hA1
  have HF0 := Lib.hid hF0
  have HM := Lib.hid hmm
  clear hA1 hN1' hF0 hmm
  gi_upto_region 21 with fail
  gi_cut [105] from 85 (fun s105 wx => s105 = .bool false ∧ wx = V1)
  case first =>
    skip
    skip
    gi_wp2
    all_goals first
      | (gi_meet; exact ⟨rfl, rfl⟩)
      | (exfalso; have hmm := HM.out; unfold LeaveAtP at hmm; omega)
  obtain ⟨rfl, rfl⟩ := hcut
  gi_wp2
  clear hc1 hc2 hc3 hc4
  obtain ⟨V1', hW1⟩ : ∃ V', wc.alloc (Obj.cells #[Value.int IntKind.i64 1] 3) = V' := ⟨_, rfl⟩
  have hA1 : PT w zs many Bw Bs wc.heap.size qa da qw dw qe de 1 V1' := by rw [← hW1]; exact HA.out.next 1
  have hle0 : wc.heap.size + 1 = V1'.heap.size := by rw [← hW1, World.size_alloc]
  have hk0 : V1'.heap[D0]? = some (.deferred (some [])) := by rw [← hW1]; exact (Below.heap_alloc wc _ _ (Array.getElem?_eq_some_iff.1 hK0).1).trans hK0
  skip
  rw [hW1]
  obtain ⟨b1, hb1⟩ : ∃ b, wc.heap.size = b := ⟨_, rfl⟩
  rw [hb1] at hA1 hle0 ⊢
  have hD0' : D0 < b1 := by have := (Array.getElem?_eq_some_iff.1 hK0).1; omega
  have HA1 := Lib.hid hA1
  have HK0 := Lib.hid hk0
  clear hW1 HA hK0 hk0 
  clear hb1
  clear HF0 HM
  rw [roundsIn_succ]
  have hc1 : V1'.cell? ⟨b1, 0, none⟩ = some (.int .i64 1) := HA1.out.tn.cell
  gi_wp2
  obtain ⟨U1, hU1⟩ : ∃ U, ((V1'.alloc (Obj.cells #[Value.int IntKind.i64 0] 3)).alloc (Obj.cells #[Value.int IntKind.i64 0] 3)) = U := ⟨_, rfl⟩
  obtain ⟨N1, hN1⟩ : ∃ N, V1'.heap.size = N := ⟨_, rfl⟩
  have hV1 : PT w zs many Bw Bs b1 qa da qw dw qe de 1 U1 := by rw [← hU1]; exact HA1.out.kept (X := fun _ => False) (T := fun _ => False) (((Keep.start _ _).alloc _).alloc _) (fun _ h => h.elim)
  have hbn1 : Box U1 N1 3 (vnP 0) := by rw [← hU1, ← hN1]; exact (Box.new _ _ _).alloc _
  have hbc1 : Box U1 (N1 + 1) 3 (vnP 0) := by
    have := Box.new (V1'.alloc (Obj.cells #[Value.int IntKind.i64 0] 3)) 3 (vnP 0)
    rw [World.size_alloc, hN1] at this
    rw [← hU1]; exact this
  have hlb1 : b1 < N1 := by rw [← hN1]; exact HA1.out.tn.lt
  have hsU1 : U1.heap.size = N1 + 2 := by rw [← hU1, ← hN1]; simp
  have HKU := Lib.hid (show U1.heap[D0]? = some (.deferred (some [])) from by rw [← hU1]; exact (Below.heap_alloc _ _ _ (by have := (Array.getElem?_eq_some_iff.1 HK0.out).1; simp; omega)).trans ((Below.heap_alloc _ _ _ (Array.getElem?_eq_some_iff.1 HK0.out).1).trans HK0.out))
  have HV1 := Lib.hid hV1
  have HN1 := Lib.hid hbn1
  have HC1 := Lib.hid hbc1
  have HSU1 := Lib.hid hsU1
  rw [hU1, hN1]
  clear hV1 hbn1 hbc1 hc1 hU1 hsU1
  refine rf_brk (id := 2) (gf := 52) (lb := #[.pointer (some ⟨Bs, 0, none⟩)]) rfl (enters_of Try.func52 (by kernel_rfl) rfl)
    (each1_iter Bs qe de zs _ HV1.out.bs.cell (HV1.out.re.wide (Nat.le_of_lt HV1.out.tn.lt)) (by omega)) (by intro x hx; obtain ⟨i, hi, rfl⟩ := List.mem_iff_getElem.1 hx; rw [encA_get]; rfl) ?hFP1
    (fun k T W => Keep (fun b => b = N1 ∨ b = N1 + 1) U1 T W ∧ Box W N1 3 (vnP k) ∧ Box W (N1 + 1) 3 (vnP (cntA zs k)) ∧ True)
    (fun k T W => Keep (fun b => b = N1 ∨ b = N1 + 1) U1 T W ∧ Box W N1 3 (vnP k) ∧ Box W (N1 + 1) 3 (vnP (cntA zs k)) ∧ False) ?hJ1 ?hJb1
    (fun D W => PT w zs many Bw Bs b1 qa da qw dw qe de 1 W ∧ (∃ m, Box W N1 3 (vnP m) ∧ m = zs.length) ∧ N1 + 1 < D ∧ W.heap[D]? = some (.deferred (some [])) ∧ Frn (fun b => b = N1 ∨ b = N1 + 1) U1 W)
    ?h01 ?hround1 ?hdone1 ?hstop1 ?hrest1
  case hFP1 =>
    have h1 := HV1.out.bs.lt
    rintro b (rfl | hb)
    · exact h1
    · have := HV1.out.re.inlt hb; have := HV1.out.tn.lt; omega
  case hJ1 =>
    rintro k T W W' ⟨h1, h2, h3, h4⟩ hf
    exact ⟨h1.go hf, h2.kept (h1.own hf HN1.out.lt), h3.kept (h1.own hf HC1.out.lt), h4⟩
  case hJb1 =>
    rintro k T W W' ⟨h1, h2, h3, h4⟩ hf
    exact ⟨h1.go hf, h2.kept (h1.own hf HN1.out.lt), h3.kept (h1.own hf HC1.out.lt), h4⟩
  case h01 => exact ⟨Keep.start _ _, HN1.out, HC1.out, trivial⟩
  case hround1 =>
    rintro l k hk T W ⟨hs, hbox, hbxc, hmk⟩ hTl hTW hkW
    have hk' : k < zs.length := by simpa [encA] using hk
    rw [encA_get]
    have hcs := cntA_succ zs k hk'
    have hcl := cntA_le zs k
    obtain ⟨cn, hcn0⟩ : ∃ cn, cntA zs k = cn := ⟨_, rfl⟩
    obtain ⟨y, hy⟩ : ∃ y, zs[k] = y := ⟨_, rfl⟩
    rw [hcn0] at hbxc hcs hcl ⊢
    rw [hy] at hcs ⊢
    obtain ⟨y1, y2, y3⟩ := y
    simp only at hcs
    unfold av3
    gi_wp2
    have hWa : Kps (fun b => (b = Bs ∨ inP qe de b) ∨ T b) W (W.alloc (.cells #[.int .i64 y1, .int .i64 y2, vw y3] 38)) := (Kps.refl _ _).alloc _
    refine ⟨hWa, fun W2 hf hsz hk2 _ => ?_⟩
    have hs1 := hs.alloc (.cells #[.int .i64 y1, .int .i64 y2, vw y3] 38)
    have hs2 := hs1.goSame hf hsz
    have hbox2 : Box W2 N1 3 (vnP k) := (hbox.alloc (.cells #[.int .i64 y1, .int .i64 y2, vw y3] 38)).kept (hs1.own hf HN1.out.lt)
    have hbxc2 : Box W2 (N1 + 1) 3 (vnP cn) := (hbxc.alloc (.cells #[.int .i64 y1, .int .i64 y2, vw y3] 38)).kept (hs1.own hf HC1.out.lt)
    have hx2 : W2.heap[W.heap.size]? = some (.cells #[.int .i64 y1, .int .i64 y2, vw y3] 38 (0, 0)) := (hf.block _ (by simp) (fun ht => Nat.lt_irrefl _ (hTW _ ht))).trans (World.alloc_heap_new W _)
    have hxn : W.heap.size ≠ N1 := by have := hbox.lt; omega
    have hxn1 : W.heap.size ≠ N1 + 1 := by have := hbxc.lt; omega
    have hx0 := tri_c0 hx2
    have hx1 := tri_c1 hx2
    have hx22 := tri_c2 hx2
    have hA2 := HV1.out.kept hs2 (by rintro b (rfl | rfl) <;> omega)
    have hcn : W2.cell? ⟨N1, 0, none⟩ = some (.int .i64 (k : Int)) := hbox2.cell
    have hcc : W2.cell? ⟨N1 + 1, 0, none⟩ = some (.int .i64 (cn : Int)) := hbxc2.cell
    have hcw := hA2.bw.cell
    have hct : W2.cell? ⟨b1, 0, none⟩ = some (.int .i64 1) := hA2.tn.cell
    have hcm := hA2.bm.cell
    obtain ⟨ob, off, hpo, hob, hcx, hcy, hcz⟩ := hA2.rw.rows3 k hk'
    rw [hpo] at hcw
    rw [hy] at hcx hcy hcz
    simp only at hcx hcy hcz
    have hnf : ∀ b, b = N1 ∨ b = N1 + 1 → ¬ (b = Bs ∨ inP qe de b) ∧ ¬ T b := by
      intro b hb
      refine ⟨?_, hs2.notT (by have := HSU1.out; omega)⟩
      rintro (h | h)
      · have := HA1.out.lts; omega
      · have := HV1.out.re.inlt h; omega
    have hks : ∀ nq u, Kps (fun b => (b = Bs ∨ inP qe de b) ∨ T b) W2 ((W2.drewN nq).setCell ⟨N1, 0, none⟩ u) ∧ Kps (fun b => (b = Bs ∨ inP qe de b) ∨ T b) W2 ((W2.drewN nq).setCell ⟨N1 + 1, 0, none⟩ u) := by
      intro nq u
      have h0 : Kps (fun b => (b = Bs ∨ inP qe de b) ∨ T b) W2 (W2.drewN nq) := ⟨rfl, rfl, rfl, Nat.le_refl _, fun _ _ _ => rfl⟩
      exact ⟨h0.trans (kps_set ⟨N1, 0, none⟩ (hnf _ (.inl rfl)).1 (hnf _ (.inl rfl)).2 _), h0.trans (kps_set ⟨N1 + 1, 0, none⟩ (hnf _ (.inr rfl)).1 (hnf _ (.inr rfl)).2 _)⟩
    have HNF := Lib.hid hnf
    have HS2 := Lib.hid hs2
    have HB2 := Lib.hid hbox2
    have HC2 := Lib.hid hbxc2
    have HCS := Lib.hid hcs
    have HF2 := Lib.hid (And.intro hcm (And.intro hct hx0))
    have hk3 : (k : Int) < (zs.length : Int) := by omega
    have hk4 : (k : Int) ≤ 1000 := by omega
    have hk6 : (cn : Int) ≤ 1000 := by omega
    have hle5 : decide (zs.length ≤ k) = false := decide_eq_false (by omega)
    have hne2 : b1 ≠ N1 := by omega
    have hne2' : b1 ≠ N1 + 1 := by omega
    have hne3 : w.heap.size ≠ N1 := by have := HA1.out.lw; have := HA1.out.ltw; omega
    have hne3' : w.heap.size ≠ N1 + 1 := by have := HA1.out.lw; have := HA1.out.ltw; omega
    clear hf hkW hk2 hs hs1 hbox hbxc hs2 hbox2 hbxc2 hA2 hWa hx2 hpo hsz hnf hcs hcn0
    gi_wp2
    refine wpIn_region_quietR_lit (by kernel_rfl) (by kernel_rfl) (by kernel_rfl) ?_
    repeat (gi_big_quiet_step (fail))
    refine wpQuietIn_nil ?_
    rintro _ ⟨nq, rfl⟩
    clear hcn hcc hct hcm hcw hcx hcy hcz hx0 hx1 hx22
    have hfz : (W2.drewN nq).frozen? ⟨N1, 0, none⟩ = false := HB2.out.free
    have hfc : (W2.drewN nq).frozen? ⟨N1 + 1, 0, none⟩ = false := HC2.out.free
    have hcn : (W2.drewN nq).cell? ⟨N1, 0, none⟩ = some (.int .i64 (k : Int)) := HB2.out.cell
    have hcc : (W2.drewN nq).cell? ⟨N1 + 1, 0, none⟩ = some (.int .i64 (cn : Int)) := HC2.out.cell
    have hcm : (W2.drewN nq).cell? ⟨w.heap.size, 0, none⟩ = some (.int .i64 many) := HF2.out.1
    have hct : (W2.drewN nq).cell? ⟨b1, 0, none⟩ = some (.int .i64 1) := HF2.out.2.1
    have hx0 : (W2.drewN nq).cell? ⟨W.heap.size, 0, none⟩ = some (.int .i64 y1) := HF2.out.2.2
    by_cases h1 : y1 = 1
    · subst h1
      rw [if_pos rfl] at HCS
      gi_wp2
      refine ⟨⟨(((HS2.out.drewN nq : Keep (fun b => b = N1 ∨ b = N1 + 1) U1 T (W2.drewN nq))).set ⟨N1 + 1, 0, none⟩ (.inl (.inr rfl)) _).set ⟨N1, 0, none⟩ (.inl (.inl rfl)) _, ?_, ?_, trivial⟩, ?_⟩
      · have := (((show Box (W2.drewN nq) N1 3 (vnP k) from HB2.out).kept (heap_setCell_other _ ⟨N1 + 1, 0, none⟩ N1 (vnP (cn + 1)) (by simp))).set (vnP (k + 1)))
        have e : Value.int IntKind.i64 ((k : Int) + 1) = vnP (k + 1) := by simp [vnP]
        rw [e]; exact this
      · rw [HCS.out]
        have := (((show Box (W2.drewN nq) (N1 + 1) 3 (vnP cn) from HC2.out).set (vnP (cn + 1))).kept (heap_setCell_other _ ⟨N1, 0, none⟩ (N1 + 1) (vnP (k + 1)) (by simp)))
        have e : Value.int IntKind.i64 ((cn : Int) + 1) = vnP (cn + 1) := by simp [vnP]
        rw [e]; exact this
      · exact (hks nq _).2.trans (kps_set ⟨N1, 0, none⟩ (HNF.out _ (.inl rfl)).1 (HNF.out _ (.inl rfl)).2 _)
    · skip
      rw [if_neg h1, Nat.add_zero] at HCS
      gi_wp2
      refine ⟨⟨((HS2.out.drewN nq : Keep (fun b => b = N1 ∨ b = N1 + 1) U1 T (W2.drewN nq))).set ⟨N1, 0, none⟩ (.inl (.inl rfl)) _, ?_, ?_, trivial⟩, ?_⟩
      · have := ((show Box (W2.drewN nq) N1 3 (vnP k) from HB2.out).set (vnP (k + 1)))
        have e : Value.int IntKind.i64 ((k : Int) + 1) = vnP (k + 1) := by simp [vnP]
        rw [e]; exact this
      · rw [HCS.out]
        have := ((show Box (W2.drewN nq) (N1 + 1) 3 (vnP cn) from HC2.out).kept (heap_setCell_other _ ⟨N1, 0, none⟩ (N1 + 1) (vnP (k + 1)) (by simp)))
        skip
        exact this
      · exact (hks nq _).1
  case hdone1 =>
    rintro D T W ⟨hs, hbox, hbxc, hmk⟩ hTD hTW hkW hD hK
    rw [encA_len] at hbox
    have hD' : N1 + 2 ≤ D := by rw [← HSU1.out]; exact hD
    refine ⟨HV1.out.kept hs (by rintro b (rfl | rfl) <;> omega), ⟨_, hbox, rfl⟩, by omega, hK, hs.frn⟩
  case hstop1 =>
    rintro D k T W hk hk1 ⟨hs, hbox, hbxc, hmk⟩ hTD hTW hkW hD hK
    exact hmk.elim
  rintro D1 V2 ⟨hA2, ⟨m1, hN2', hmm⟩, hD1, hK1, hF1⟩
  have hc1 : V2.cell? ⟨b1, 0, none⟩ = some (.int .i64 1) := hA2.tn.cell
  have hc2 := hA2.bm.cell
  have hc3 := hA2.bw.cell
  have hc4 : V2.cell? ⟨N1, 0, none⟩ = some (.int .i64 (m1 : Int)) := hN2'.cell
  have HA := Lib.hid hA2
  have HF1 := Lib.hid hF1
  have HM := Lib.hid hmm
  clear hA2 hN2' hF1 hmm
  gi_upto_region 21 with fail
  gi_cut [105] from 85 (fun s105 wx => s105 = .bool false ∧ wx = V2)
  case first =>
    have hz : m1 = zs.length := HM.out
    subst hz
    gi_wp2
    all_goals first
      | (gi_meet; exact ⟨rfl, rfl⟩)
      | (exfalso; have hmm := HM.out; unfold LeaveAtP at hmm; omega)
  obtain ⟨rfl, rfl⟩ := hcut
  gi_wp2
  clear hc1 hc2 hc3 hc4
  obtain ⟨V2', hW2⟩ : ∃ V', wc.alloc (Obj.cells #[Value.int IntKind.i64 2] 3) = V' := ⟨_, rfl⟩
  have hA2 : PT w zs many Bw Bs wc.heap.size qa da qw dw qe de 2 V2' := by rw [← hW2]; exact HA.out.next 2
  have hle1 : wc.heap.size + 1 = V2'.heap.size := by rw [← hW2, World.size_alloc]
  have hk1 : V2'.heap[D1]? = some (.deferred (some [])) := by rw [← hW2]; exact (Below.heap_alloc wc _ _ (Array.getElem?_eq_some_iff.1 hK1).1).trans hK1
  have hk0' : V2'.heap[D0]? = some (.deferred (some [])) := by rw [← hW2]; exact (Below.heap_alloc wc _ _ (Nat.lt_of_lt_of_le (by have := HSU1.out; omega) HF1.out.size)).trans ((HF1.out.block D0 (by have := HSU1.out; omega) (by rintro (h | h) <;> omega)).trans HKU.out)
  rw [hW2]
  obtain ⟨b2, hb2⟩ : ∃ b, wc.heap.size = b := ⟨_, rfl⟩
  rw [hb2] at hA2 hle1 ⊢
  have hD1' : D1 < b2 := by have := (Array.getElem?_eq_some_iff.1 hK1).1; omega
  have HA2 := Lib.hid hA2
  have HK1 := Lib.hid hk1
  clear hW2 HA hK1 hk1 HK0
  clear hb2
  clear HF1 HM
  rw [roundsIn_succ]
  have hc2 : V2'.cell? ⟨b2, 0, none⟩ = some (.int .i64 2) := HA2.out.tn.cell
  skip
  have HK0 := Lib.hid hk0'
  clear hk0'
  have e1 : D1 ≠ w.heap.size + 1 := by have := HA1.out.lw; have := HA1.out.ltw; omega
  have e0 : D0 ≠ w.heap.size + 1 := by have := HA0.out.lw; have := HA0.out.ltw; omega
  have fin : ∀ w4, Below V2'.heap.size V2' w4 → (w4.cell? ⟨w.heap.size + 1, 0, none⟩ = some (.bool false) ∧ w4.frozen? ⟨w.heap.size + 1, 0, none⟩ = false) ∧
      (w4.setCell ⟨w.heap.size + 1, 0, none⟩ (.bool true)).heap[D1]? = some (.deferred (some [])) ∧ (w4.setCell ⟨w.heap.size + 1, 0, none⟩ (.bool true)).heap[D0]? = some (.deferred (some [])) ∧
      (((w4.setCell ⟨w.heap.size + 1, 0, none⟩ (.bool true)).putObj D1 (.deferred none)).putObj D0 (.deferred none)).cell? ⟨w.heap.size + 1, 0, none⟩ = some (.bool true) ∧
      Below w.heap.size w (((w4.setCell ⟨w.heap.size + 1, 0, none⟩ (.bool true)).putObj D1 (.deferred none)).putObj D0 (.deferred none)) := by
    intro w4 hb4
    have hbr4 := HA2.out.br.below hb4 HA2.out.br.lt
    have hkD : ∀ D, D < V2'.heap.size → D ≠ w.heap.size + 1 → (w4.setCell ⟨w.heap.size + 1, 0, none⟩ (.bool true)).heap[D]? = V2'.heap[D]? := fun D hD hne =>
      (Below.heap_setCell w4 ⟨w.heap.size + 1, 0, none⟩ _ D hne).trans (hb4.block D hD)
    have hw : Below w.heap.size w (w4.setCell ⟨w.heap.size + 1, 0, none⟩ (.bool true)) := (HA2.out.at_.below hb4).1.setCell (p := ⟨w.heap.size + 1, 0, none⟩) (Nat.le_succ _) _
    have hbF := hbr4.set (.bool true)
    refine ⟨⟨hbr4.cell, hbr4.free⟩, (hkD D1 (by omega) e1).trans HK1.out, (hkD D0 (by omega) e0).trans HK0.out, ?_, ?_⟩
    · exact (cell_putObj (D := D0) (B := w.heap.size + 1) (o := .deferred none) e0 0).trans ((cell_putObj (o := .deferred none) e1 0).trans hbF.cell)
    · exact below_putObj (below_putObj hw (by have := HA1.out.lw; have := HA1.out.ltw; omega) _) (by have := HA0.out.lw; have := HA0.out.ltw; omega) _
  have FIN := Lib.hid fin
  clear fin
  have hzs := HOR.out
  cases hbp : badP ls with
  | false =>
    have hno : noA ls = 0 := by unfold noA; rw [hbp]; rfl
    have HOO := Lib.hid (ordered_any qa da zs V2' (HA2.out.ra.wide (Nat.le_of_lt HA2.out.tn.lt)) (by rw [← hzs]; exact ordA_max HX.out))
    have hot : orderedA zs = true := by rw [← hzs]; exact ordered_ord hbp
    have hst : storesA zs = ls := by rw [← hzs]; exact stores_ord hbp
    rw [hot] at HOO
    have HST := Lib.hid hst
    clear hbp hot hst hzs
    gi_wp2_with fail
    refine wcall HOO.out ?_
    rintro e w6 ⟨rfl, hb6⟩
    have HB6 := Lib.hid hb6
    have hs6 := stores_any qa da zs w6 ((HA2.out.ra.kept (hb6.mono (Nat.le_of_lt HA2.out.tn.lt))).wide (Nat.le_trans (Nat.le_of_lt HA2.out.tn.lt) hb6.size)) (by omega)
    rw [HST.out] at hs6
    have HS6 := Lib.hid hs6
    clear hb6 HOO hs6
    gi_wp2_with fail
    refine wcall HS6.out ?_
    rintro e w7 ⟨q7, d7, rfl, ho7, hq7, hb7⟩
    have HB7 := Lib.hid (HB6.out.trans (hb7.mono HB6.out.size))
    have hs7 := samePuts_any q7 p0 d7 cap0 ls w7 (ho7.rds pc2_len) ((HRD.out.kept (HA2.out.at_.1.trans (HB7.out.mono HA2.out.at_.2))).wide (Nat.le_trans HA2.out.at_.2 HB7.out.size))
    have HS7 := Lib.hid hs7
    clear ho7 hq7 hb7 HS6 hs7
    gi_wp2_with fail
    refine wcall HS7.out ?_
    rintro e w8 ⟨rfl, n8, hw8⟩
    have HB8 := Lib.hid (show Below V2'.heap.size V2' w8 from by rw [hw8]; exact below_drewN HB7.out n8)
    clear hw8 HS7
    gi_wp2_with fail
    refine wcall (works08_any w8) ?_
    rintro e w9 ⟨rfl, hb9⟩
    have HB9 := Lib.hid (HB8.out.trans (hb9.mono HB8.out.size))
    obtain ⟨⟨hc9, hf9⟩, _⟩ := FIN.out w9 HB9.out
    clear hb9
    gi_wp2
    obtain ⟨_, hd1, hd0, hc, hw⟩ := FIN.out w9 HB9.out
    exact leave2 rfl hd1 hd0 (by omega) (results_cell1 rfl _ _ rfl (v := .bool true) (by simp [go_sem, hc])) ⟨rfl, hw⟩
  | true =>
    have hno : noA ls = 2 := by unfold noA; rw [hbp]; rfl
    clear hbp hzs
    gi_wp2_with (refine And.intro trivial ?_)
    refine ⟨rfl, (callsIn_wide.2 (works08_any V2')).mono ?_⟩
    rintro e w9 ⟨rfl, hb9⟩
    have HB9 := Lib.hid hb9
    obtain ⟨⟨hc9, hf9⟩, _⟩ := FIN.out w9 HB9.out
    clear hb9
    gi_wp2
    obtain ⟨_, hd1, hd0, hc, hw⟩ := FIN.out w9 HB9.out
    exact leave2 rfl hd1 hd0 (by omega) (results_cell1 rfl _ _ rfl (v := .bool true) (by simp [go_sem, hc])) ⟨rfl, hw⟩
theorem RdS.mapP {α β : Type} {B : Nat} {w : World} {p : Option Addr} {cap c : Nat} {enc : α → List Value} {enc' : β → List Value} {ys : List α} (h : RdS B w p cap c enc ys) (f : α → β) (he : ∀ y, enc y = enc' (f y)) : RdS B w p cap c enc' (ys.map f) := by
  obtain ⟨h1, h2, h3⟩ := h
  refine ⟨by simpa using h1, h2, h3.imp id ?_⟩
  rintro ⟨b, off, hp, hb, hc⟩
  refine ⟨b, off, hp, hb, fun i hi j v hv => ?_⟩
  have hi' : i < ys.length := by simpa using hi
  refine hc i hi' j v ?_
  rw [he]
  simpa using hv
theorem lawPlanOrders_of {α : Type} {enc : α → List Value} (p : Option Addr) (cap : Nat) (ys : List α) (many : Int) (w : World) (hrd : RdS w.heap.size w p cap 2 enc ys) (f : α → Put2) (he : ∀ y, enc y = pc2 (f y)) (hf : ∀ y, (f y).1 ≤ 9223372036854775807) :
    Calls Try.prog 3 #[.slice p ys.length cap, .int .i64 many] w fun e w' => e = .returned (.bool true) ∧ Below w.heap.size w w' := by
  have := lawPlanOrders p cap (ys.map f) many w (hrd.mapP f he) (by intro x hx; obtain ⟨y, _, rfl⟩ := List.mem_map.1 hx; exact hf y)
  rwa [List.length_map] at this
theorem i64_max (y : IntOf .i64) : y.1 ≤ 9223372036854775807 := by
  have h := y.2
  simp only [Lit.wf, decide_eq_true_eq, Bool.and_eq_true] at h
  exact h.2
end Go.Proofs.Ythhdipfadnihjaa
