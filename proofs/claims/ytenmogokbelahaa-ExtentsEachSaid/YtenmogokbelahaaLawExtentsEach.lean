/- The walk of the law ExtentsEach. -/
import Derived.Test.YtenmogokbelahaaExtW
import Derived.Sort.CutIn
import Derived.Sort.QuietIn
namespace Go.Proofs.Ytenmogokbelahaa
open Go Go.RowKit
theorem eachTo_le (t : List Int) : ∀ k, (eachTo t k).length ≤ k
  | 0 => Nat.le_refl _
  | k + 1 => by
    have := eachTo_le t k
    by_cases h : t.getD k 0 = 0
    · rw [eachTo_zero t k h]; omega
    · rw [eachTo_new t k h]; simp; omega
def ieN (n : Nat) : List Value := [vnE n]
theorem ieN_len (n : Nat) : (ieN n).length = 1 := rfl
theorem ieN_one (n : Nat) : ∀ u ∈ ieN n, u.oneCell' = true := by intro u hu; simp [ieN] at hu; subst hu; rfl
theorem elem_intE : ElemIs Try.prog 43 3 (.int .i64 0) 1 8 := ⟨by kernel_rfl, by kernel_rfl, rfl, by decide⟩
theorem eachTo_lt (t : List Int) : ∀ k, ∀ y ∈ eachTo t k, y < k
  | 0, y, h => by simp [eachTo] at h
  | k + 1, y, h => by
    by_cases hz : t.getD k 0 = 0
    · rw [eachTo_zero t k hz] at h
      have := eachTo_lt t k y h
      omega
    · rw [eachTo_new t k hz, List.mem_append] at h
      rcases h with h | h
      · have := eachTo_lt t k y h
        omega
      · simp at h
        omega
theorem eachTo_zeroT : eachTo zeroT 128 = [] := by decide +kernel
theorem encE_len (t : List Int) : (encE t).length = (eachTo t 128).length := by simp [encE]
theorem encE_get (t : List Int) (k : Nat) (hk : k < (encE t).length) : (encE t)[k] = #[.int .i64 (((eachTo t 128)[k]'(by rw [← encE_len]; exact hk) : Nat) : Int), .int .i64 (t.getD ((eachTo t 128)[k]'(by rw [← encE_len]; exact hk)) 0)] := by
  simp only [encE, List.getElem_map]
attribute [local go_sem] Oper.semAt_some

set_option maxRecDepth 100000 in
set_option maxHeartbeats 8000000 in
theorem lawExtentsEach (p0 : Option Addr) (cap0 : Nat) (l : List Ext3) (many : Int) (w : World) (hrd : RdS w.heap.size w p0 cap0 3 xc l) :
    Calls Try.prog 10 #[.slice p0 l.length cap0, .int .i64 many] w fun e w' => e = .returned (.bool true) ∧ Below w.heap.size w w' := by
  have hfn := funcX_nil
  have hlen := hrd.len
  obtain ⟨wa, hwa⟩ : ∃ wa, (w.alloc (.cells #[.int .i64 many] 3)).alloc (.cells #[.bool false] 4) = wa := ⟨_, rfl⟩
  have hAa : At w.heap.size w wa := by rw [← hwa]; exact ((At.start w).alloc _).alloc _
  have hza : wa.heap.size = w.heap.size + 2 := by rw [← hwa]; simp
  have hbm : Box wa w.heap.size 3 (.int .i64 many) := by rw [← hwa]; exact (Box.new _ _ _).alloc _
  have hbr : Box wa (w.heap.size + 1) 4 (.bool false) := by
    have := Box.new (w.alloc (.cells #[.int .i64 many] 3)) 4 (.bool false)
    rw [World.size_alloc] at this
    rw [← hwa]; exact this
  have HWA := Lib.hid hwa
  have HAA := Lib.hid hAa
  have HBM := Lib.hid hbm
  have HBR := Lib.hid hbr
  have HZA := Lib.hid hza
  have HRD := Lib.hid hrd
  have hcr := hbr.cell
  have hfr := hbr.free
  clear hrd hwa hAa hbm hbr hza
  by_cases h30 : 30 < l.length
  · have h30' : (30 : Int) < (l.length : Int) := by omega
    clear h30
    refine (callsIn_wide (n := 0)).1 ?_
    refine callsIn_of_wp_marks Try.func10 rfl trivial ?_ rfl
    simp only [Try.ntmps10, List.size_toArray, List.length_cons, List.length_nil, Nat.reduceAdd, Nat.reduceSub, Array.replicate_succ, Array.replicate_zero, List.push_toArray, List.append_toArray, List.nil_append, List.cons_append]
    gi_wp2
    rw [HWA.out]
    refine wcall (works06_any _) ?_
    rintro e w1 ⟨rfl, b1'⟩
    have b1 := b1'.mono HAA.out.2
    have hb1 := HBR.out.below b1' HBR.out.lt
    have hc1 := hb1.cell
    have hf1 := hb1.free
    have HB1 := Lib.hid hb1
    have HB := Lib.hid (HAA.out.below b1')
    clear b1 b1' hb1
    gi_wp2
    have hc2 := (HB1.out.set (.bool true)).cell
    refine ⟨.bool true, results_cell1 rfl _ _ rfl (v := .bool true) (by simp [go_sem, hc2]), rfl, ?_⟩
    exact HB.out.1.setCell (p := ⟨w.heap.size + 1, 0, none⟩) (Nat.le_succ _) _
  have h30' : (l.length : Int) ≤ 30 := by omega
  clear h30 hcr hfr
  have HOF := Lib.hid (refOfT_any p0 cap0 l wa (HRD.out.onX HAA.out.1))
  refine (callsIn_wide (n := 0)).1 ?_
  refine callsIn_of_wp_marks Try.func10 rfl trivial ?_ rfl
  simp only [Try.ntmps10, List.size_toArray, List.length_cons, List.length_nil, Nat.reduceAdd, Nat.reduceSub, Array.replicate_succ, Array.replicate_zero, List.push_toArray, List.append_toArray, List.nil_append, List.cons_append]
  gi_upto_region 3 with fail
  rw [HWA.out]
  gi_wp2
  refine wcall HOF.out ?_
  rintro e w1 ⟨t', htl, htt, rfl, hb1⟩
  obtain ⟨htm, hbm, hlm, hth⟩ := tab_made (ty := 95) (zc := Try.zeroCells95) w1 t' htl zero_cellsM
  obtain ⟨Bm, hBm⟩ : ∃ T, w1.heap.size = T := ⟨_, rfl⟩
  obtain ⟨w2, hw2⟩ : ∃ w2, (w1.alloc (.cells Try.zeroCells95 95)).setCells w1.heap.size 0 (tb t') = w2 := ⟨_, rfl⟩
  rw [hw2] at htm hbm hlm
  have HWM := Lib.hid (And.intro hBm (And.intro hw2 hth))
  have HTL := Lib.hid htl
  have HTT := Lib.hid htt
  have H2 := Lib.hid (And.intro htm (And.intro (hb1.trans (hbm.mono hb1.size)) (And.intro hb1.size hlm)))
  clear htm hbm hlm hth hb1 hBm hw2 htl htt HOF
  gi_wp2_with (refine wpListIn_store_mid rfl 95 (.tmp 5) (.tmp 21) rfl w1.heap.size 0 (tb t').toArray rfl rfl (by simpa [tb_len, HTL.out] using HWM.out.2.2) (by simp only [List.size_toArray, tb_len, HTL.out]; kernel_rfl) (all_oneCell_toArray (tb_one _)) ?_; rw [List.toList_toArray, HWM.out.2.1, HWM.out.1])
  have hbw := Box.new w2 43 (.slice none 0 0)
  obtain ⟨w3, hw3⟩ : ∃ w3, w2.alloc (.cells #[.slice none 0 0] 43) = w3 := ⟨_, rfl⟩
  have hb3 : Below w2.heap.size w2 w3 := by rw [← hw3]; exact (Below.refl _ _).alloc (Nat.le_refl _) _
  have hz3 : w3.heap.size = w2.heap.size + 1 := by rw [← hw3]; simp
  obtain ⟨Bw, hBw⟩ : ∃ B, w2.heap.size = B := ⟨_, rfl⟩
  rw [hw3, hBw] at hbw
  rw [hw3, hBw]
  have H3 : Hid (TabAt w3 Bm 95 t' ∧ Below wa.heap.size wa w3 ∧ wa.heap.size ≤ Bm ∧ Bm < Bw ∧ Box w3 Bw 43 (.slice none 0 0) ∧ w3.heap.size = Bw + 1) := Lib.hid (by
    have h := H2.out
    rw [HWM.out.1] at h
    exact ⟨h.1.below hb3, h.2.1.trans (hb3.mono h.2.1.size), h.2.2.1, by rw [← hBw]; exact h.2.2.2, hbw, by rw [hz3, hBw]⟩)
  clear hbw hw3 hb3 hz3 hBw
  cases ho : ofX l with
  | none =>
    simp only [Option.isSome_none]
    refine wpIn_loop_rounds 1 ?_
    rw [roundsIn_succ]
    have HQ : Hid (eachTo (tabOf l) 128 = [] ∧ ([] : List Nat).length ≤ 128 ∧ ∀ y ∈ ([] : List Nat), y < 128 ∧ t'.getD y 0 = (tabOf l).getD y 0) := Lib.hid (by
      have e : tabOf l = zeroT := by unfold tabOf; rw [ho]; rfl
      rw [e]
      exact ⟨eachTo_zeroT, Nat.zero_le _, fun y hy => absurd hy (by simp)⟩)
    obtain ⟨p, hp⟩ : ∃ p : Option Addr, none = p := ⟨_, rfl⟩
    obtain ⟨cap, hcap⟩ : ∃ c : Nat, 0 = c := ⟨_, rfl⟩
    have HX : Hid (Box w3 Bw 43 (.slice p ([] : List Nat).length cap) ∧ RdL w3.heap.size w3 p cap vnE ([] : List Nat) ∧ TabAt w3 Bm 95 t' ∧ Below wa.heap.size wa w3 ∧ w3.heap.size ≤ w3.heap.size) :=
      Lib.hid ⟨by rw [← hp, ← hcap]; exact H3.out.2.2.2.2.1, by rw [← hp, ← hcap]; exact RdL.nil _ _ _, H3.out.1, H3.out.2.1, Nat.le_refl _⟩
    obtain ⟨zs, hzs⟩ : ∃ zs : List Nat, [] = zs := ⟨_, rfl⟩
    rw [hzs] at HQ HX
    clear hzs hp hcap ho HTT
    have HEA := Lib.hid (eEach_any p0 cap0 l w3 (HRD.out.onX (HAA.out.1.trans (HX.out.2.2.2.1.mono HAA.out.2))))
    gi_wp2
    refine wcall HEA.out ?_
    rintro e w4 ⟨Bs, rfl, hbs, hgs, hb4⟩
    gi_wp2
    obtain ⟨W0, hW0⟩ : ∃ W0, w4.alloc (Obj.cells #[Value.int IntKind.i64 0] 3) = W0 := ⟨_, rfl⟩
    obtain ⟨b0, hb0⟩ : ∃ b, w4.heap.size = b := ⟨_, rfl⟩
    have hA0 : PE w (tabOf l) t' zs many Bm Bw Bs b0 p cap 0 W0 := by
      obtain ⟨hbx, hrr, hta, hb, hsz⟩ := HX.out
      have hn3 := H3.out
      have hza := HZA.out
      have hal : Below w4.heap.size w4 W0 := by rw [← hW0]; exact (Below.refl _ _).alloc (Nat.le_refl _) _
      have bW : Below w3.heap.size w3 W0 := hb4.trans (hal.mono hb4.size)
      have baW : Below wa.heap.size wa W0 := hb.trans (bW.mono hb.size)
      have h4 := hb4.size
      have hlm := hta.lt
      have hlw := hbx.lt
      have hls := hbs.lt
      subst hb0
      refine ⟨HAA.out.below baW, by omega, by omega, by omega, by omega, by omega, hls, HBM.out.below baW HBM.out.lt, HBR.out.below baW HBR.out.lt, hta.below bW, hbx.below bW hbx.lt, hbs.below hal, by rw [← hW0]; exact Box.new _ _ _, ?_⟩
      exact (hrr.below bW).wide h4
    have HA0 := Lib.hid hA0
    rw [hW0, hb0]
    clear hA0 hW0 hb0 hbs hgs hb4 HEA HX H3 HAA HBM HBR HZA HWA HWM H2 hfn
    refine wpIn_loop_rounds 3 ?_
    rw [roundsIn_succ]
    have hc0 : W0.cell? ⟨b0, 0, none⟩ = some (.int .i64 0) := HA0.out.tn.cell
    gi_wp2
    obtain ⟨U0, hU0⟩ : ∃ U, (W0.alloc (Obj.cells #[Value.int IntKind.i64 0] 3)) = U := ⟨_, rfl⟩
    obtain ⟨N0, hN0⟩ : ∃ N, W0.heap.size = N := ⟨_, rfl⟩
    have hV0 : PE w (tabOf l) t' zs many Bm Bw Bs b0 p cap 0 U0 := by rw [← hU0]; exact HA0.out.kept (X := fun _ => False) (T := fun _ => False) ((Keep.start _ _).alloc _) (fun _ h => h.elim)
    have hbn0 : Box U0 N0 3 (vnE 0) := by rw [← hU0, ← hN0]; exact Box.new _ _ _
    have hlb0 : b0 < N0 := by rw [← hN0]; exact HA0.out.tn.lt
    have hsU0 : U0.heap.size = N0 + 1 := by rw [← hU0, ← hN0]; simp
    have HV0 := Lib.hid hV0
    have HN0 := Lib.hid hbn0
    have HSU0 := Lib.hid hsU0
    rw [hU0, hN0]
    clear hV0 hbn0 hc0 hU0 hsU0
    have hit0 : Iter Try.prog 84 #[.pointer (some ⟨Bs, 0, none⟩)] (encE (tabOf l)) (fun b => b = Bs) U0 := eEach1_iter Bs (tabOf l) U0 (tabOf_ok l) HV0.out.bs
    refine rf_brk (id := 4) (gf := 84) (lb := #[.pointer (some ⟨Bs, 0, none⟩)]) rfl (enters_of Try.func84 (by kernel_rfl) rfl)
      hit0 (by intro x hx; obtain ⟨y, _, rfl⟩ := List.mem_map.1 hx; rfl) ?hFP0
      (fun k T W => Keep (fun b => b = N0) U0 T W ∧ Box W N0 3 (vnE k) ∧ (k = 0 ∨ (k : Int) < many))
      (fun k T W => Keep (fun b => b = N0) U0 T W ∧ Box W N0 3 (vnE k) ∧ many ≤ k ∧ (k = 1 ∨ (k : Int) ≤ many)) ?hJ0 ?hJb0
      (fun D W => PE w (tabOf l) t' zs many Bm Bw Bs b0 p cap 0 W ∧ (∃ m, Box W N0 3 (vnE m) ∧ LeaveAtE many zs.length m) ∧ N0 < D ∧ W.heap[D]? = some (.deferred (some [])) ∧ Frn (fun b => b = N0) U0 W)
      ?h00 ?hround0 ?hdone0 ?hstop0 ?hrest0
    case hFP0 =>
      rintro b rfl
      exact HV0.out.bs.lt
    case hJ0 =>
      rintro k T W W' ⟨h1, h2, h3⟩ hf
      exact ⟨h1.go hf, h2.kept (h1.own hf HN0.out.lt), h3⟩
    case hJb0 =>
      rintro k T W W' ⟨h1, h2, h3⟩ hf
      exact ⟨h1.go hf, h2.kept (h1.own hf HN0.out.lt), h3⟩
    case h00 => exact ⟨Keep.start _ _, HN0.out, .inl rfl⟩
    case hround0 =>
      clear hit0
      rintro l' k hk T W ⟨hs, hbox, hmk⟩ hTl hTW hkW
      have hk' : k < zs.length := by rw [encE_len, HQ.out.1] at hk; exact hk
      obtain ⟨y, hy⟩ : ∃ y, zs[k] = y := ⟨_, rfl⟩
      have hye : ∀ (h : k < (eachTo (tabOf l) 128).length), (eachTo (tabOf l) 128)[k] = y := fun h => by rw [← hy]; exact List.getElem_of_eq HQ.out.1 h
      obtain ⟨hy8, hyt⟩ := HQ.out.2.2 y (by rw [← hy]; exact List.getElem_mem _)
      rw [encE_get, hye]
      have hyl : y < t'.length := by rw [HTL.out]; exact hy8
      obtain ⟨a, ha⟩ : ∃ a, (tabOf l).getD y 0 = a := ⟨_, rfl⟩
      rw [ha] at hyt ⊢
      gi_wp2
      refine ⟨Kps.refl _ _, fun W2 hf hsz hk2 _ => ?_⟩
      have hs2 := hs.goSame hf hsz
      have hbox2 : Box W2 N0 3 (vnE k) := hbox.kept (hs.own hf HN0.out.lt)
      have hA2 := HV0.out.kept hs2 (by rintro b rfl; omega)
      have hcn : W2.cell? ⟨N0, 0, none⟩ = some (.int .i64 (k : Int)) := hbox2.cell
      have hfz : W2.frozen? ⟨N0, 0, none⟩ = false := hbox2.free
      have hcw := hA2.bw.cell
      have hct : W2.cell? ⟨b0, 0, none⟩ = some (.int .i64 0) := hA2.tn.cell
      have hcm := hA2.bm.cell
      have htc : W2.cell? ⟨Bm, y, none⟩ = some (.int .i64 a) := by
        have := (hA2.mt.cell y hyl).1
        rw [List.getD_eq_getElem?_getD, List.getElem?_eq_getElem hyl] at hyt
        rw [this]; exact congrArg (fun x => some (Value.int .i64 x)) hyt
      obtain ⟨ob, off, hpo, hob, hcx⟩ := hA2.rw.at k hk'
      rw [hpo] at hcw
      rw [hy] at hcx
      replace hcx : W2.cell? ⟨ob, off + k, none⟩ = some (.int .i64 (y : Int)) := hcx
      have hnf : ¬ N0 = Bs ∧ ¬ T N0 := ⟨by
        have := HA0.out.lts
        omega, hs2.notT (by have := HSU0.out; omega)⟩
      have hks : ∀ u, Kps (fun b => b = Bs ∨ T b) W2 (W2.setCell ⟨N0, 0, none⟩ u) := fun u => kps_set ⟨N0, 0, none⟩ hnf.1 hnf.2 u
      have HS2 := Lib.hid hs2
      have HB2 := Lib.hid hbox2
      have hk3 : (k : Int) < (zs.length : Int) := by omega
      have hk4 : (k : Int) ≤ 1000 := by have := HQ.out.2.1; omega
      have hy9 : (y : Int) < 128 := by omega
      have hnn : ((y : Int) != (y : Int)) = false := by simp
      have hna : (a != a) = false := by simp
      have hle5 : decide (zs.length ≤ k) = false := decide_eq_false (by omega)
      have hne2 : b0 ≠ N0 := by omega
      have hne3 : w.heap.size ≠ N0 := by have := HA0.out.lw; have := HA0.out.ltw; omega
      clear hf hkW hk2 hs hbox hs2 hbox2 hA2 hpo hsz hnf ha hyt hye hy
      by_cases hm : many ≤ (k : Int) + 1
      · skip
        gi_wp2
        refine ⟨⟨rfl, HS2.out.set ⟨N0, 0, none⟩ (.inl rfl) _, ?_, by omega⟩, ?_⟩
        · have := (HB2.out.set (vnE (k + 1)))
          have e : Value.int IntKind.i64 ((k : Int) + 1) = vnE (k + 1) := by simp [vnE]
          rw [e]; exact this
        · exact hks _
      · skip
        gi_wp2
        refine ⟨⟨HS2.out.set ⟨N0, 0, none⟩ (.inl rfl) _, ?_, .inr (by omega)⟩, ?_⟩
        · have := (HB2.out.set (vnE (k + 1)))
          have e : Value.int IntKind.i64 ((k : Int) + 1) = vnE (k + 1) := by simp [vnE]
          rw [e]; exact this
        · exact hks _
    case hdone0 =>
      rintro D T W ⟨hs, hbox, hmk⟩ hTD hTW hkW hD hK
      rw [encE_len, HQ.out.1] at hbox hmk
      have hD' : N0 + 1 ≤ D := by rw [← HSU0.out]; exact hD
      refine ⟨HV0.out.kept hs (by rintro b rfl; omega), ⟨_, hbox, by unfold LeaveAtE; omega⟩, by omega, hK, hs.frn⟩
    case hstop0 =>
      rintro D k T W hk hk1 ⟨hs, hbox, hmk⟩ hTD hTW hkW hD hK
      rw [encE_len, HQ.out.1] at hk
      have hD' : N0 + 1 ≤ D := by rw [← HSU0.out]; exact hD
      exact ⟨HV0.out.kept hs (by rintro b rfl; omega), ⟨_, hbox, by unfold LeaveAtE; omega⟩, by omega, hK, hs.frn⟩
    rintro D0 V1 ⟨hA1, ⟨m0, hN1', hmm⟩, hD0, hK0, hF0⟩
    clear hit0
    have hc1 : V1.cell? ⟨b0, 0, none⟩ = some (.int .i64 0) := hA1.tn.cell
    have hc2 := hA1.bm.cell
    have hc3 := hA1.bw.cell
    have hc4 : V1.cell? ⟨N0, 0, none⟩ = some (.int .i64 (m0 : Int)) := hN1'.cell
    have HA := Lib.hid hA1
    have HF0 := Lib.hid hF0
    have HM := Lib.hid hmm
    clear hA1 hN1' hF0 hmm
    gi_upto_region 24 with fail
    gi_cut [97] from 77 (fun s97 wx => s97 = .bool false ∧ wx = V1)
    case first =>
      skip
      skip
      gi_wp2
      all_goals first
        | (gi_meet; exact ⟨rfl, rfl⟩)
        | (exfalso; have hmm := HM.out; unfold LeaveAtE at hmm; omega)
    obtain ⟨rfl, rfl⟩ := hcut
    gi_wp2
    clear hc1 hc2 hc3 hc4
    obtain ⟨V1', hW1⟩ : ∃ V', wc.alloc (Obj.cells #[Value.int IntKind.i64 1] 3) = V' := ⟨_, rfl⟩
    have hA1 : PE w (tabOf l) t' zs many Bm Bw Bs wc.heap.size p cap 1 V1' := by rw [← hW1]; exact HA.out.next 1
    have hle0 : wc.heap.size + 1 = V1'.heap.size := by rw [← hW1, World.size_alloc]
    have hk0 : V1'.heap[D0]? = some (.deferred (some [])) := by rw [← hW1]; exact (Below.heap_alloc wc _ _ (Array.getElem?_eq_some_iff.1 hK0).1).trans hK0
    skip
    rw [hW1]
    obtain ⟨b1, hb1⟩ : ∃ b, wc.heap.size = b := ⟨_, rfl⟩
    rw [hb1] at hA1 hle0 ⊢
    have hD0' : D0 < b1 := by have := (Array.getElem?_eq_some_iff.1 hK0).1; omega
    have HA1 := Lib.hid hA1
    have HK0 := Lib.hid hk0
    clear hW1 HA hK0 hk0 
    clear hb1
    clear HF0 HM
    rw [roundsIn_succ]
    have hc1 : V1'.cell? ⟨b1, 0, none⟩ = some (.int .i64 1) := HA1.out.tn.cell
    gi_wp2
    obtain ⟨U1, hU1⟩ : ∃ U, (V1'.alloc (Obj.cells #[Value.int IntKind.i64 0] 3)) = U := ⟨_, rfl⟩
    obtain ⟨N1, hN1⟩ : ∃ N, V1'.heap.size = N := ⟨_, rfl⟩
    have hV1 : PE w (tabOf l) t' zs many Bm Bw Bs b1 p cap 1 U1 := by rw [← hU1]; exact HA1.out.kept (X := fun _ => False) (T := fun _ => False) ((Keep.start _ _).alloc _) (fun _ h => h.elim)
    have hbn1 : Box U1 N1 3 (vnE 0) := by rw [← hU1, ← hN1]; exact Box.new _ _ _
    have hlb1 : b1 < N1 := by rw [← hN1]; exact HA1.out.tn.lt
    have hsU1 : U1.heap.size = N1 + 1 := by rw [← hU1, ← hN1]; simp
    have HKU := Lib.hid (show U1.heap[D0]? = some (.deferred (some [])) from by rw [← hU1]; exact (Below.heap_alloc _ _ _ (Array.getElem?_eq_some_iff.1 HK0.out).1).trans HK0.out)
    have HV1 := Lib.hid hV1
    have HN1 := Lib.hid hbn1
    have HSU1 := Lib.hid hsU1
    rw [hU1, hN1]
    clear hV1 hbn1 hc1 hU1 hsU1
    have hit1 : Iter Try.prog 84 #[.pointer (some ⟨Bs, 0, none⟩)] (encE (tabOf l)) (fun b => b = Bs) U1 := eEach1_iter Bs (tabOf l) U1 (tabOf_ok l) HV1.out.bs
    refine rf_brk (id := 4) (gf := 84) (lb := #[.pointer (some ⟨Bs, 0, none⟩)]) rfl (enters_of Try.func84 (by kernel_rfl) rfl)
      hit1 (by intro x hx; obtain ⟨y, _, rfl⟩ := List.mem_map.1 hx; rfl) ?hFP1
      (fun k T W => Keep (fun b => b = N1) U1 T W ∧ Box W N1 3 (vnE k) ∧ True)
      (fun k T W => Keep (fun b => b = N1) U1 T W ∧ Box W N1 3 (vnE k) ∧ False) ?hJ1 ?hJb1
      (fun D W => PE w (tabOf l) t' zs many Bm Bw Bs b1 p cap 1 W ∧ (∃ m, Box W N1 3 (vnE m) ∧ m = zs.length) ∧ N1 < D ∧ W.heap[D]? = some (.deferred (some [])) ∧ Frn (fun b => b = N1) U1 W)
      ?h01 ?hround1 ?hdone1 ?hstop1 ?hrest1
    case hFP1 =>
      rintro b rfl
      exact HV1.out.bs.lt
    case hJ1 =>
      rintro k T W W' ⟨h1, h2, h3⟩ hf
      exact ⟨h1.go hf, h2.kept (h1.own hf HN1.out.lt), h3⟩
    case hJb1 =>
      rintro k T W W' ⟨h1, h2, h3⟩ hf
      exact ⟨h1.go hf, h2.kept (h1.own hf HN1.out.lt), h3⟩
    case h01 => exact ⟨Keep.start _ _, HN1.out, trivial⟩
    case hround1 =>
      clear hit1
      rintro l' k hk T W ⟨hs, hbox, hmk⟩ hTl hTW hkW
      have hk' : k < zs.length := by rw [encE_len, HQ.out.1] at hk; exact hk
      obtain ⟨y, hy⟩ : ∃ y, zs[k] = y := ⟨_, rfl⟩
      have hye : ∀ (h : k < (eachTo (tabOf l) 128).length), (eachTo (tabOf l) 128)[k] = y := fun h => by rw [← hy]; exact List.getElem_of_eq HQ.out.1 h
      obtain ⟨hy8, hyt⟩ := HQ.out.2.2 y (by rw [← hy]; exact List.getElem_mem _)
      rw [encE_get, hye]
      have hyl : y < t'.length := by rw [HTL.out]; exact hy8
      obtain ⟨a, ha⟩ : ∃ a, (tabOf l).getD y 0 = a := ⟨_, rfl⟩
      rw [ha] at hyt ⊢
      gi_wp2
      refine ⟨Kps.refl _ _, fun W2 hf hsz hk2 _ => ?_⟩
      have hs2 := hs.goSame hf hsz
      have hbox2 : Box W2 N1 3 (vnE k) := hbox.kept (hs.own hf HN1.out.lt)
      have hA2 := HV1.out.kept hs2 (by rintro b rfl; omega)
      have hcn : W2.cell? ⟨N1, 0, none⟩ = some (.int .i64 (k : Int)) := hbox2.cell
      have hfz : W2.frozen? ⟨N1, 0, none⟩ = false := hbox2.free
      have hcw := hA2.bw.cell
      have hct : W2.cell? ⟨b1, 0, none⟩ = some (.int .i64 1) := hA2.tn.cell
      have hcm := hA2.bm.cell
      have htc : W2.cell? ⟨Bm, y, none⟩ = some (.int .i64 a) := by
        have := (hA2.mt.cell y hyl).1
        rw [List.getD_eq_getElem?_getD, List.getElem?_eq_getElem hyl] at hyt
        rw [this]; exact congrArg (fun x => some (Value.int .i64 x)) hyt
      obtain ⟨ob, off, hpo, hob, hcx⟩ := hA2.rw.at k hk'
      rw [hpo] at hcw
      rw [hy] at hcx
      replace hcx : W2.cell? ⟨ob, off + k, none⟩ = some (.int .i64 (y : Int)) := hcx
      have hnf : ¬ N1 = Bs ∧ ¬ T N1 := ⟨by
        have := HA1.out.lts
        omega, hs2.notT (by have := HSU1.out; omega)⟩
      have hks : ∀ u, Kps (fun b => b = Bs ∨ T b) W2 (W2.setCell ⟨N1, 0, none⟩ u) := fun u => kps_set ⟨N1, 0, none⟩ hnf.1 hnf.2 u
      have HS2 := Lib.hid hs2
      have HB2 := Lib.hid hbox2
      have hk3 : (k : Int) < (zs.length : Int) := by omega
      have hk4 : (k : Int) ≤ 1000 := by have := HQ.out.2.1; omega
      have hy9 : (y : Int) < 128 := by omega
      have hnn : ((y : Int) != (y : Int)) = false := by simp
      have hna : (a != a) = false := by simp
      have hle5 : decide (zs.length ≤ k) = false := decide_eq_false (by omega)
      have hne2 : b1 ≠ N1 := by omega
      have hne3 : w.heap.size ≠ N1 := by have := HA1.out.lw; have := HA1.out.ltw; omega
      clear hf hkW hk2 hs hbox hs2 hbox2 hA2 hpo hsz hnf ha hyt hye hy
      gi_wp2
      refine ⟨⟨HS2.out.set ⟨N1, 0, none⟩ (.inl rfl) _, ?_, trivial⟩, ?_⟩
      · have := (HB2.out.set (vnE (k + 1)))
        have e : Value.int IntKind.i64 ((k : Int) + 1) = vnE (k + 1) := by simp [vnE]
        rw [e]; exact this
      · exact hks _
    case hdone1 =>
      rintro D T W ⟨hs, hbox, hmk⟩ hTD hTW hkW hD hK
      rw [encE_len, HQ.out.1] at hbox
      have hD' : N1 + 1 ≤ D := by rw [← HSU1.out]; exact hD
      refine ⟨HV1.out.kept hs (by rintro b rfl; omega), ⟨_, hbox, rfl⟩, by omega, hK, hs.frn⟩
    case hstop1 =>
      rintro D k T W hk hk1 ⟨hs, hbox, hmk⟩ hTD hTW hkW hD hK
      exact hmk.elim
    rintro D1 V2 ⟨hA2, ⟨m1, hN2', hmm⟩, hD1, hK1, hF1⟩
    clear hit1
    have hc1 : V2.cell? ⟨b1, 0, none⟩ = some (.int .i64 1) := hA2.tn.cell
    have hc2 := hA2.bm.cell
    have hc3 := hA2.bw.cell
    have hc4 : V2.cell? ⟨N1, 0, none⟩ = some (.int .i64 (m1 : Int)) := hN2'.cell
    have HA := Lib.hid hA2
    have HF1 := Lib.hid hF1
    have HM := Lib.hid hmm
    clear hA2 hN2' hF1 hmm
    gi_upto_region 24 with fail
    gi_cut [97] from 77 (fun s97 wx => s97 = .bool false ∧ wx = V2)
    case first =>
      have hz : m1 = zs.length := HM.out
      subst hz
      gi_wp2
      all_goals first
        | (gi_meet; exact ⟨rfl, rfl⟩)
        | (exfalso; have hmm := HM.out; unfold LeaveAtE at hmm; omega)
    obtain ⟨rfl, rfl⟩ := hcut
    gi_wp2
    clear hc1 hc2 hc3 hc4
    obtain ⟨V2', hW2⟩ : ∃ V', wc.alloc (Obj.cells #[Value.int IntKind.i64 2] 3) = V' := ⟨_, rfl⟩
    have hA2 : PE w (tabOf l) t' zs many Bm Bw Bs wc.heap.size p cap 2 V2' := by rw [← hW2]; exact HA.out.next 2
    have hle1 : wc.heap.size + 1 = V2'.heap.size := by rw [← hW2, World.size_alloc]
    have hk1 : V2'.heap[D1]? = some (.deferred (some [])) := by rw [← hW2]; exact (Below.heap_alloc wc _ _ (Array.getElem?_eq_some_iff.1 hK1).1).trans hK1
    have hk0' : V2'.heap[D0]? = some (.deferred (some [])) := by rw [← hW2]; exact (Below.heap_alloc wc _ _ (Nat.lt_of_lt_of_le (by have := HSU1.out; omega) HF1.out.size)).trans ((HF1.out.block D0 (by have := HSU1.out; omega) (by intro h; omega)).trans HKU.out)
    rw [hW2]
    obtain ⟨b2, hb2⟩ : ∃ b, wc.heap.size = b := ⟨_, rfl⟩
    rw [hb2] at hA2 hle1 ⊢
    have hD1' : D1 < b2 := by have := (Array.getElem?_eq_some_iff.1 hK1).1; omega
    have HA2 := Lib.hid hA2
    have HK1 := Lib.hid hk1
    clear hW2 HA hK1 hk1 HK0
    clear hb2
    clear HF1 HM
    rw [roundsIn_succ]
    have hc2 : V2'.cell? ⟨b2, 0, none⟩ = some (.int .i64 2) := HA2.out.tn.cell
    skip
    have HK0 := Lib.hid hk0'
    clear hk0'
    have e1 : D1 ≠ w.heap.size + 1 := by have := HA1.out.lw; have := HA1.out.ltw; omega
    have e0 : D0 ≠ w.heap.size + 1 := by have := HA0.out.lw; have := HA0.out.ltw; omega
    have fin : ∀ w4, Below V2'.heap.size V2' w4 → (w4.cell? ⟨w.heap.size + 1, 0, none⟩ = some (.bool false) ∧ w4.frozen? ⟨w.heap.size + 1, 0, none⟩ = false) ∧
        (w4.setCell ⟨w.heap.size + 1, 0, none⟩ (.bool true)).heap[D1]? = some (.deferred (some [])) ∧ (w4.setCell ⟨w.heap.size + 1, 0, none⟩ (.bool true)).heap[D0]? = some (.deferred (some [])) ∧
        (((w4.setCell ⟨w.heap.size + 1, 0, none⟩ (.bool true)).putObj D1 (.deferred none)).putObj D0 (.deferred none)).cell? ⟨w.heap.size + 1, 0, none⟩ = some (.bool true) ∧
        Below w.heap.size w (((w4.setCell ⟨w.heap.size + 1, 0, none⟩ (.bool true)).putObj D1 (.deferred none)).putObj D0 (.deferred none)) := by
      intro w4 hb4
      have hbr4 := HA2.out.br.below hb4 HA2.out.br.lt
      have hkD : ∀ D, D < V2'.heap.size → D ≠ w.heap.size + 1 → (w4.setCell ⟨w.heap.size + 1, 0, none⟩ (.bool true)).heap[D]? = V2'.heap[D]? := fun D hD hne =>
        (Below.heap_setCell w4 ⟨w.heap.size + 1, 0, none⟩ _ D hne).trans (hb4.block D hD)
      have hw : Below w.heap.size w (w4.setCell ⟨w.heap.size + 1, 0, none⟩ (.bool true)) := (HA2.out.at_.below hb4).1.setCell (p := ⟨w.heap.size + 1, 0, none⟩) (by simp) _
      have hbF := hbr4.set (.bool true)
      refine ⟨⟨hbr4.cell, hbr4.free⟩, (hkD D1 (by omega) e1).trans HK1.out, (hkD D0 (by omega) e0).trans HK0.out, ?_, ?_⟩
      · exact (cell_putObj (D := D0) (B := w.heap.size + 1) (o := .deferred none) e0 0).trans ((cell_putObj (o := .deferred none) e1 0).trans hbF.cell)
      · exact below_putObj (below_putObj hw (by have := HA1.out.lw; have := HA1.out.ltw; omega) _) (by have := HA0.out.lw; have := HA0.out.ltw; omega) _
    have FIN := Lib.hid fin
    clear fin
    gi_wp2
    refine wcall (works06_any V2') ?_
    rintro e w9 ⟨rfl, hb9⟩
    have HB9 := Lib.hid hb9
    obtain ⟨⟨hc9, hf9⟩, _⟩ := FIN.out w9 HB9.out
    clear hb9
    gi_wp2
    obtain ⟨_, hd1, hd0, hc, hw⟩ := FIN.out w9 HB9.out
    exact leave2 rfl hd1 hd0 (by omega) (results_cell1 rfl _ _ rfl (v := .bool true) (by simp [go_sem, hc])) ⟨rfl, hw⟩
  | some t =>
    obtain rfl := HTT.out t ho
    simp only [Option.isSome_some]
    have HLT := Lib.hid (ofX_ok ho).1
    gi_loopw [8] (fun i wr => ∃ (k : Nat) (p : Option Addr) (cap : Nat), k ≤ 128 ∧ i = .int .i64 k ∧ Box wr Bw 43 (.slice p (eachTo t' k).length cap) ∧ OwnG 3 1 ieN wr p cap (eachTo t' k) ∧ (∀ b, inP p cap b → w3.heap.size ≤ b) ∧ TabAt wr Bm 95 t' ∧ Below wa.heap.size wa wr ∧ w3.heap.size ≤ wr.heap.size) (fun i _ => 128 - (intOf i).toNat)
    case atStart => exact ⟨0, none, 0, Nat.zero_le _, rfl, H3.out.2.2.2.2.1, OwnG.nil _ _ _ _ _, fun b hb => (by obtain ⟨x, hx, -⟩ := hb; cases hx), H3.out.1, H3.out.2.1, Nat.le_refl _⟩
    case round =>
      obtain ⟨k, p, cap, hk, rfl, hbx, hown, hfr, hta, hb, hsz⟩ := hrel
      by_cases hlt : k < 128
      · have hlt' : (k : Int) < 128 := by omega
        have hk0 : (0 : Int) ≤ (k : Int) := by omega
        have hkl : k < t'.length := by rw [HLT.out.len]; exact hlt
        obtain ⟨tc, tf⟩ := hta.cell k hkl
        have hgd : t'.getD k 0 = t'[k] := by rw [List.getD_eq_getElem?_getD, List.getElem?_eq_getElem hkl]; rfl
        obtain ⟨a, ha⟩ : ∃ a, t'[k] = a := ⟨_, rfl⟩
        rw [ha] at tc hgd
        by_cases ha0 : a = 0
        · have z0 : (a == 0) = true := by rw [ha0]; rfl
          have HE : Hid (eachTo t' (k + 1) = eachTo t' k) := Lib.hid (eachTo_zero t' k (by rw [hgd]; exact ha0))
          have HS := Lib.hid (And.intro hbx (And.intro hown (And.intro hfr (And.intro hta (And.intro hb hsz)))))
          clear ha0 ha hgd hbx hown hfr hta hb hsz hkl
          gi_wp2
          go_roundw
          case rel => exact ⟨k + 1, p, cap, by omega, by go_num, by rw [HE.out]; exact HS.out⟩
          case measure => simp [intOf]; omega
        · have z0 : (a == 0) = false := beq_eq_false_iff_ne.2 ha0
          have HE : Hid (eachTo t' (k + 1) = eachTo t' k ++ [k]) := Lib.hid (eachTo_new t' k (by rw [hgd]; exact ha0))
          have hbc := hbx.cell
          have hnb : ¬ inP p cap Bw := fun h => by have := hfr Bw h; have := H3.out.2.2.2.2.2; omega
          have hle := eachTo_le t' k
          clear ha0 ha hgd
          gi_wp2_with (
            gi_at_builtin
            refine wpListIn_appG rfl (.tmp 34) (.tmp 36) _ rfl elem_intE (by decide) ieN_len ieN_one p cap (eachTo t' k) [k] rfl (OwnG.below hown (below_allocX wr (.cells #[.int .i64 (k : Int)] 3))) _ 1 1 rfl rfl 3 (0, 0) (World.alloc_heap_new _ _) (Nat.succ_pos _) ⟨by omega, by simp⟩ ?_
            intro p' cap' w' happ
            have hfr2 := AppG.of (Frn.alloc _ wr _) happ
            have hbx2 := hbx.kept (hfr2.2.1.block Bw hbx.lt hnb)
            have hbc2 := hbx2.cell
            have hbf2 := hbx2.free)
          have hnb2 : ¬ inP p' cap' Bw := fun h => (hfr2.2.2 Bw h).elim hnb (fun h => by have := hbx.lt; omega)
          have hfp : ∀ b, inP p' cap' b → w3.heap.size ≤ b := fun b h => (hfr2.2.2 b h).elim (hfr b) (fun h => Nat.le_trans hsz h.1)
          have hn3 := H3.out
          have hs2 := hfr2.2.1.size
          have hbel : Below wa.heap.size wa w' := hb.trans (hfr2.2.1.below hb.size (fun b h => by have := hfr b h; have := hn3.2.1.size; omega))
          have htm2 := hta.keep (hfr2.2.1.block Bm hta.lt (fun h => by have := hfr Bm h; omega))
          go_roundw
          case rel =>
            refine ⟨k + 1, p', cap', by omega, by go_num, ?_, ?_, hfp, ?_, ?_, ?_⟩
            · rw [HE.out, List.length_append]; exact hbx2.set _
            · rw [HE.out]; exact OwnG.keep hfr2.1 (fun b h => heap_setCell_other _ ⟨Bw, 0, none⟩ b _ (by rintro rfl; exact hnb2 h))
            · exact htm2.keep (heap_setCell_other _ ⟨Bw, 0, none⟩ Bm _ (by show Bm ≠ Bw; omega))
            · exact hbel.setCell (p := ⟨Bw, 0, none⟩) (by show wa.heap.size ≤ Bw; omega) _
            · simpa using Nat.le_trans hsz hs2
          case measure => simp [intOf]; omega
      · obtain rfl : k = 128 := by omega
        have HQ : Hid (eachTo (tabOf l) 128 = eachTo t' 128 ∧ (eachTo t' 128).length ≤ 128 ∧ ∀ y ∈ eachTo t' 128, y < 128 ∧ t'.getD y 0 = (tabOf l).getD y 0) := Lib.hid (by
          have e : tabOf l = t' := by unfold tabOf; rw [ho]; rfl
          rw [e]
          exact ⟨rfl, eachTo_le _ _, fun y hy => ⟨eachTo_lt _ _ y hy, rfl⟩⟩)
        have HX : Hid (Box wr Bw 43 (.slice p (eachTo t' 128).length cap) ∧ RdL wr.heap.size wr p cap vnE (eachTo t' 128) ∧ TabAt wr Bm 95 t' ∧ Below wa.heap.size wa wr ∧ w3.heap.size ≤ wr.heap.size) :=
          Lib.hid ⟨hbx, rdl_of_rds (OwnG.rds ieN_len hown), hta, hb, hsz⟩
        clear hbx hown hfr hta hb hsz hlt HTT HLT
        obtain ⟨zs, hzs⟩ : ∃ zs, eachTo t' 128 = zs := ⟨_, rfl⟩
        rw [hzs] at HQ HX
        clear hzs
        have HEA := Lib.hid (eEach_any p0 cap0 l wr (HRD.out.onX (HAA.out.1.trans (HX.out.2.2.2.1.mono HAA.out.2))))
        gi_wp2
        refine wcall HEA.out ?_
        rintro e w4 ⟨Bs, rfl, hbs, hgs, hb4⟩
        gi_wp2
        obtain ⟨W0, hW0⟩ : ∃ W0, w4.alloc (Obj.cells #[Value.int IntKind.i64 0] 3) = W0 := ⟨_, rfl⟩
        obtain ⟨b0, hb0⟩ : ∃ b, w4.heap.size = b := ⟨_, rfl⟩
        have hA0 : PE w (tabOf l) t' zs many Bm Bw Bs b0 p cap 0 W0 := by
          obtain ⟨hbx, hrr, hta, hb, hsz⟩ := HX.out
          have hn3 := H3.out
          have hza := HZA.out
          have hal : Below w4.heap.size w4 W0 := by rw [← hW0]; exact (Below.refl _ _).alloc (Nat.le_refl _) _
          have bW : Below wr.heap.size wr W0 := hb4.trans (hal.mono hb4.size)
          have baW : Below wa.heap.size wa W0 := hb.trans (bW.mono hb.size)
          have h4 := hb4.size
          have hlm := hta.lt
          have hlw := hbx.lt
          have hls := hbs.lt
          subst hb0
          refine ⟨HAA.out.below baW, by omega, by omega, by omega, by omega, by omega, hls, HBM.out.below baW HBM.out.lt, HBR.out.below baW HBR.out.lt, hta.below bW, hbx.below bW hbx.lt, hbs.below hal, by rw [← hW0]; exact Box.new _ _ _, ?_⟩
          exact (hrr.below bW).wide h4
        have HA0 := Lib.hid hA0
        rw [hW0, hb0]
        clear hA0 hW0 hb0 hbs hgs hb4 HEA HX H3 HAA HBM HBR HZA HWA HWM H2 hfn
        refine wpIn_loop_rounds 3 ?_
        rw [roundsIn_succ]
        have hc0 : W0.cell? ⟨b0, 0, none⟩ = some (.int .i64 0) := HA0.out.tn.cell
        gi_wp2
        obtain ⟨U0, hU0⟩ : ∃ U, (W0.alloc (Obj.cells #[Value.int IntKind.i64 0] 3)) = U := ⟨_, rfl⟩
        obtain ⟨N0, hN0⟩ : ∃ N, W0.heap.size = N := ⟨_, rfl⟩
        have hV0 : PE w (tabOf l) t' zs many Bm Bw Bs b0 p cap 0 U0 := by rw [← hU0]; exact HA0.out.kept (X := fun _ => False) (T := fun _ => False) ((Keep.start _ _).alloc _) (fun _ h => h.elim)
        have hbn0 : Box U0 N0 3 (vnE 0) := by rw [← hU0, ← hN0]; exact Box.new _ _ _
        have hlb0 : b0 < N0 := by rw [← hN0]; exact HA0.out.tn.lt
        have hsU0 : U0.heap.size = N0 + 1 := by rw [← hU0, ← hN0]; simp
        have HV0 := Lib.hid hV0
        have HN0 := Lib.hid hbn0
        have HSU0 := Lib.hid hsU0
        rw [hU0, hN0]
        clear hV0 hbn0 hc0 hU0 hsU0
        have hit0 : Iter Try.prog 84 #[.pointer (some ⟨Bs, 0, none⟩)] (encE (tabOf l)) (fun b => b = Bs) U0 := eEach1_iter Bs (tabOf l) U0 (tabOf_ok l) HV0.out.bs
        refine rf_brk (id := 4) (gf := 84) (lb := #[.pointer (some ⟨Bs, 0, none⟩)]) rfl (enters_of Try.func84 (by kernel_rfl) rfl)
          hit0 (by intro x hx; obtain ⟨y, _, rfl⟩ := List.mem_map.1 hx; rfl) ?qhFP0
          (fun k T W => Keep (fun b => b = N0) U0 T W ∧ Box W N0 3 (vnE k) ∧ (k = 0 ∨ (k : Int) < many))
          (fun k T W => Keep (fun b => b = N0) U0 T W ∧ Box W N0 3 (vnE k) ∧ many ≤ k ∧ (k = 1 ∨ (k : Int) ≤ many)) ?qhJ0 ?qhJb0
          (fun D W => PE w (tabOf l) t' zs many Bm Bw Bs b0 p cap 0 W ∧ (∃ m, Box W N0 3 (vnE m) ∧ LeaveAtE many zs.length m) ∧ N0 < D ∧ W.heap[D]? = some (.deferred (some [])) ∧ Frn (fun b => b = N0) U0 W)
          ?qh00 ?qhround0 ?qhdone0 ?qhstop0 ?qhrest0
        case qhFP0 =>
          rintro b rfl
          exact HV0.out.bs.lt
        case qhJ0 =>
          rintro k T W W' ⟨h1, h2, h3⟩ hf
          exact ⟨h1.go hf, h2.kept (h1.own hf HN0.out.lt), h3⟩
        case qhJb0 =>
          rintro k T W W' ⟨h1, h2, h3⟩ hf
          exact ⟨h1.go hf, h2.kept (h1.own hf HN0.out.lt), h3⟩
        case qh00 => exact ⟨Keep.start _ _, HN0.out, .inl rfl⟩
        case qhround0 =>
          clear hit0
          rintro l' k hk T W ⟨hs, hbox, hmk⟩ hTl hTW hkW
          have hk' : k < zs.length := by rw [encE_len, HQ.out.1] at hk; exact hk
          obtain ⟨y, hy⟩ : ∃ y, zs[k] = y := ⟨_, rfl⟩
          have hye : ∀ (h : k < (eachTo (tabOf l) 128).length), (eachTo (tabOf l) 128)[k] = y := fun h => by rw [← hy]; exact List.getElem_of_eq HQ.out.1 h
          obtain ⟨hy8, hyt⟩ := HQ.out.2.2 y (by rw [← hy]; exact List.getElem_mem _)
          rw [encE_get, hye]
          have hyl : y < t'.length := by rw [HTL.out]; exact hy8
          obtain ⟨a, ha⟩ : ∃ a, (tabOf l).getD y 0 = a := ⟨_, rfl⟩
          rw [ha] at hyt ⊢
          gi_wp2
          refine ⟨Kps.refl _ _, fun W2 hf hsz hk2 _ => ?_⟩
          have hs2 := hs.goSame hf hsz
          have hbox2 : Box W2 N0 3 (vnE k) := hbox.kept (hs.own hf HN0.out.lt)
          have hA2 := HV0.out.kept hs2 (by rintro b rfl; omega)
          have hcn : W2.cell? ⟨N0, 0, none⟩ = some (.int .i64 (k : Int)) := hbox2.cell
          have hfz : W2.frozen? ⟨N0, 0, none⟩ = false := hbox2.free
          have hcw := hA2.bw.cell
          have hct : W2.cell? ⟨b0, 0, none⟩ = some (.int .i64 0) := hA2.tn.cell
          have hcm := hA2.bm.cell
          have htc : W2.cell? ⟨Bm, y, none⟩ = some (.int .i64 a) := by
            have := (hA2.mt.cell y hyl).1
            rw [List.getD_eq_getElem?_getD, List.getElem?_eq_getElem hyl] at hyt
            rw [this]; exact congrArg (fun x => some (Value.int .i64 x)) hyt
          obtain ⟨ob, off, hpo, hob, hcx⟩ := hA2.rw.at k hk'
          rw [hpo] at hcw
          rw [hy] at hcx
          replace hcx : W2.cell? ⟨ob, off + k, none⟩ = some (.int .i64 (y : Int)) := hcx
          have hnf : ¬ N0 = Bs ∧ ¬ T N0 := ⟨by
            have := HA0.out.lts
            omega, hs2.notT (by have := HSU0.out; omega)⟩
          have hks : ∀ u, Kps (fun b => b = Bs ∨ T b) W2 (W2.setCell ⟨N0, 0, none⟩ u) := fun u => kps_set ⟨N0, 0, none⟩ hnf.1 hnf.2 u
          have HS2 := Lib.hid hs2
          have HB2 := Lib.hid hbox2
          have hk3 : (k : Int) < (zs.length : Int) := by omega
          have hk4 : (k : Int) ≤ 1000 := by have := HQ.out.2.1; omega
          have hy9 : (y : Int) < 128 := by omega
          have hnn : ((y : Int) != (y : Int)) = false := by simp
          have hna : (a != a) = false := by simp
          have hle5 : decide (zs.length ≤ k) = false := decide_eq_false (by omega)
          have hne2 : b0 ≠ N0 := by omega
          have hne3 : w.heap.size ≠ N0 := by have := HA0.out.lw; have := HA0.out.ltw; omega
          clear hf hkW hk2 hs hbox hs2 hbox2 hA2 hpo hsz hnf ha hyt hye hy
          by_cases hm : many ≤ (k : Int) + 1
          · skip
            gi_wp2
            refine ⟨⟨rfl, HS2.out.set ⟨N0, 0, none⟩ (.inl rfl) _, ?_, by omega⟩, ?_⟩
            · have := (HB2.out.set (vnE (k + 1)))
              have e : Value.int IntKind.i64 ((k : Int) + 1) = vnE (k + 1) := by simp [vnE]
              rw [e]; exact this
            · exact hks _
          · skip
            gi_wp2
            refine ⟨⟨HS2.out.set ⟨N0, 0, none⟩ (.inl rfl) _, ?_, .inr (by omega)⟩, ?_⟩
            · have := (HB2.out.set (vnE (k + 1)))
              have e : Value.int IntKind.i64 ((k : Int) + 1) = vnE (k + 1) := by simp [vnE]
              rw [e]; exact this
            · exact hks _
        case qhdone0 =>
          rintro D T W ⟨hs, hbox, hmk⟩ hTD hTW hkW hD hK
          rw [encE_len, HQ.out.1] at hbox hmk
          have hD' : N0 + 1 ≤ D := by rw [← HSU0.out]; exact hD
          refine ⟨HV0.out.kept hs (by rintro b rfl; omega), ⟨_, hbox, by unfold LeaveAtE; omega⟩, by omega, hK, hs.frn⟩
        case qhstop0 =>
          rintro D k T W hk hk1 ⟨hs, hbox, hmk⟩ hTD hTW hkW hD hK
          rw [encE_len, HQ.out.1] at hk
          have hD' : N0 + 1 ≤ D := by rw [← HSU0.out]; exact hD
          exact ⟨HV0.out.kept hs (by rintro b rfl; omega), ⟨_, hbox, by unfold LeaveAtE; omega⟩, by omega, hK, hs.frn⟩
        rintro D0 V1 ⟨hA1, ⟨m0, hN1', hmm⟩, hD0, hK0, hF0⟩
        clear hit0
        have hc1 : V1.cell? ⟨b0, 0, none⟩ = some (.int .i64 0) := hA1.tn.cell
        have hc2 := hA1.bm.cell
        have hc3 := hA1.bw.cell
        have hc4 : V1.cell? ⟨N0, 0, none⟩ = some (.int .i64 (m0 : Int)) := hN1'.cell
        have HA := Lib.hid hA1
        have HF0 := Lib.hid hF0
        have HM := Lib.hid hmm
        clear hA1 hN1' hF0 hmm
        gi_upto_region 24 with fail
        gi_cut [97] from 77 (fun s97 wx => s97 = .bool false ∧ wx = V1)
        case first =>
          skip
          skip
          gi_wp2
          all_goals first
            | (gi_meet; exact ⟨rfl, rfl⟩)
            | (exfalso; have hmm := HM.out; unfold LeaveAtE at hmm; omega)
        obtain ⟨rfl, rfl⟩ := hcut
        gi_wp2
        clear hc1 hc2 hc3 hc4
        obtain ⟨V1', hW1⟩ : ∃ V', wc.alloc (Obj.cells #[Value.int IntKind.i64 1] 3) = V' := ⟨_, rfl⟩
        have hA1 : PE w (tabOf l) t' zs many Bm Bw Bs wc.heap.size p cap 1 V1' := by rw [← hW1]; exact HA.out.next 1
        have hle0 : wc.heap.size + 1 = V1'.heap.size := by rw [← hW1, World.size_alloc]
        have hk0 : V1'.heap[D0]? = some (.deferred (some [])) := by rw [← hW1]; exact (Below.heap_alloc wc _ _ (Array.getElem?_eq_some_iff.1 hK0).1).trans hK0
        skip
        rw [hW1]
        obtain ⟨b1, hb1⟩ : ∃ b, wc.heap.size = b := ⟨_, rfl⟩
        rw [hb1] at hA1 hle0 ⊢
        have hD0' : D0 < b1 := by have := (Array.getElem?_eq_some_iff.1 hK0).1; omega
        have HA1 := Lib.hid hA1
        have HK0 := Lib.hid hk0
        clear hW1 HA hK0 hk0 
        clear hb1
        clear HF0 HM
        rw [roundsIn_succ]
        have hc1 : V1'.cell? ⟨b1, 0, none⟩ = some (.int .i64 1) := HA1.out.tn.cell
        gi_wp2
        obtain ⟨U1, hU1⟩ : ∃ U, (V1'.alloc (Obj.cells #[Value.int IntKind.i64 0] 3)) = U := ⟨_, rfl⟩
        obtain ⟨N1, hN1⟩ : ∃ N, V1'.heap.size = N := ⟨_, rfl⟩
        have hV1 : PE w (tabOf l) t' zs many Bm Bw Bs b1 p cap 1 U1 := by rw [← hU1]; exact HA1.out.kept (X := fun _ => False) (T := fun _ => False) ((Keep.start _ _).alloc _) (fun _ h => h.elim)
        have hbn1 : Box U1 N1 3 (vnE 0) := by rw [← hU1, ← hN1]; exact Box.new _ _ _
        have hlb1 : b1 < N1 := by rw [← hN1]; exact HA1.out.tn.lt
        have hsU1 : U1.heap.size = N1 + 1 := by rw [← hU1, ← hN1]; simp
        have HKU := Lib.hid (show U1.heap[D0]? = some (.deferred (some [])) from by rw [← hU1]; exact (Below.heap_alloc _ _ _ (Array.getElem?_eq_some_iff.1 HK0.out).1).trans HK0.out)
        have HV1 := Lib.hid hV1
        have HN1 := Lib.hid hbn1
        have HSU1 := Lib.hid hsU1
        rw [hU1, hN1]
        clear hV1 hbn1 hc1 hU1 hsU1
        have hit1 : Iter Try.prog 84 #[.pointer (some ⟨Bs, 0, none⟩)] (encE (tabOf l)) (fun b => b = Bs) U1 := eEach1_iter Bs (tabOf l) U1 (tabOf_ok l) HV1.out.bs
        refine rf_brk (id := 4) (gf := 84) (lb := #[.pointer (some ⟨Bs, 0, none⟩)]) rfl (enters_of Try.func84 (by kernel_rfl) rfl)
          hit1 (by intro x hx; obtain ⟨y, _, rfl⟩ := List.mem_map.1 hx; rfl) ?qhFP1
          (fun k T W => Keep (fun b => b = N1) U1 T W ∧ Box W N1 3 (vnE k) ∧ True)
          (fun k T W => Keep (fun b => b = N1) U1 T W ∧ Box W N1 3 (vnE k) ∧ False) ?qhJ1 ?qhJb1
          (fun D W => PE w (tabOf l) t' zs many Bm Bw Bs b1 p cap 1 W ∧ (∃ m, Box W N1 3 (vnE m) ∧ m = zs.length) ∧ N1 < D ∧ W.heap[D]? = some (.deferred (some [])) ∧ Frn (fun b => b = N1) U1 W)
          ?qh01 ?qhround1 ?qhdone1 ?qhstop1 ?qhrest1
        case qhFP1 =>
          rintro b rfl
          exact HV1.out.bs.lt
        case qhJ1 =>
          rintro k T W W' ⟨h1, h2, h3⟩ hf
          exact ⟨h1.go hf, h2.kept (h1.own hf HN1.out.lt), h3⟩
        case qhJb1 =>
          rintro k T W W' ⟨h1, h2, h3⟩ hf
          exact ⟨h1.go hf, h2.kept (h1.own hf HN1.out.lt), h3⟩
        case qh01 => exact ⟨Keep.start _ _, HN1.out, trivial⟩
        case qhround1 =>
          clear hit1
          rintro l' k hk T W ⟨hs, hbox, hmk⟩ hTl hTW hkW
          have hk' : k < zs.length := by rw [encE_len, HQ.out.1] at hk; exact hk
          obtain ⟨y, hy⟩ : ∃ y, zs[k] = y := ⟨_, rfl⟩
          have hye : ∀ (h : k < (eachTo (tabOf l) 128).length), (eachTo (tabOf l) 128)[k] = y := fun h => by rw [← hy]; exact List.getElem_of_eq HQ.out.1 h
          obtain ⟨hy8, hyt⟩ := HQ.out.2.2 y (by rw [← hy]; exact List.getElem_mem _)
          rw [encE_get, hye]
          have hyl : y < t'.length := by rw [HTL.out]; exact hy8
          obtain ⟨a, ha⟩ : ∃ a, (tabOf l).getD y 0 = a := ⟨_, rfl⟩
          rw [ha] at hyt ⊢
          gi_wp2
          refine ⟨Kps.refl _ _, fun W2 hf hsz hk2 _ => ?_⟩
          have hs2 := hs.goSame hf hsz
          have hbox2 : Box W2 N1 3 (vnE k) := hbox.kept (hs.own hf HN1.out.lt)
          have hA2 := HV1.out.kept hs2 (by rintro b rfl; omega)
          have hcn : W2.cell? ⟨N1, 0, none⟩ = some (.int .i64 (k : Int)) := hbox2.cell
          have hfz : W2.frozen? ⟨N1, 0, none⟩ = false := hbox2.free
          have hcw := hA2.bw.cell
          have hct : W2.cell? ⟨b1, 0, none⟩ = some (.int .i64 1) := hA2.tn.cell
          have hcm := hA2.bm.cell
          have htc : W2.cell? ⟨Bm, y, none⟩ = some (.int .i64 a) := by
            have := (hA2.mt.cell y hyl).1
            rw [List.getD_eq_getElem?_getD, List.getElem?_eq_getElem hyl] at hyt
            rw [this]; exact congrArg (fun x => some (Value.int .i64 x)) hyt
          obtain ⟨ob, off, hpo, hob, hcx⟩ := hA2.rw.at k hk'
          rw [hpo] at hcw
          rw [hy] at hcx
          replace hcx : W2.cell? ⟨ob, off + k, none⟩ = some (.int .i64 (y : Int)) := hcx
          have hnf : ¬ N1 = Bs ∧ ¬ T N1 := ⟨by
            have := HA1.out.lts
            omega, hs2.notT (by have := HSU1.out; omega)⟩
          have hks : ∀ u, Kps (fun b => b = Bs ∨ T b) W2 (W2.setCell ⟨N1, 0, none⟩ u) := fun u => kps_set ⟨N1, 0, none⟩ hnf.1 hnf.2 u
          have HS2 := Lib.hid hs2
          have HB2 := Lib.hid hbox2
          have hk3 : (k : Int) < (zs.length : Int) := by omega
          have hk4 : (k : Int) ≤ 1000 := by have := HQ.out.2.1; omega
          have hy9 : (y : Int) < 128 := by omega
          have hnn : ((y : Int) != (y : Int)) = false := by simp
          have hna : (a != a) = false := by simp
          have hle5 : decide (zs.length ≤ k) = false := decide_eq_false (by omega)
          have hne2 : b1 ≠ N1 := by omega
          have hne3 : w.heap.size ≠ N1 := by have := HA1.out.lw; have := HA1.out.ltw; omega
          clear hf hkW hk2 hs hbox hs2 hbox2 hA2 hpo hsz hnf ha hyt hye hy
          gi_wp2
          refine ⟨⟨HS2.out.set ⟨N1, 0, none⟩ (.inl rfl) _, ?_, trivial⟩, ?_⟩
          · have := (HB2.out.set (vnE (k + 1)))
            have e : Value.int IntKind.i64 ((k : Int) + 1) = vnE (k + 1) := by simp [vnE]
            rw [e]; exact this
          · exact hks _
        case qhdone1 =>
          rintro D T W ⟨hs, hbox, hmk⟩ hTD hTW hkW hD hK
          rw [encE_len, HQ.out.1] at hbox
          have hD' : N1 + 1 ≤ D := by rw [← HSU1.out]; exact hD
          refine ⟨HV1.out.kept hs (by rintro b rfl; omega), ⟨_, hbox, rfl⟩, by omega, hK, hs.frn⟩
        case qhstop1 =>
          rintro D k T W hk hk1 ⟨hs, hbox, hmk⟩ hTD hTW hkW hD hK
          exact hmk.elim
        rintro D1 V2 ⟨hA2, ⟨m1, hN2', hmm⟩, hD1, hK1, hF1⟩
        clear hit1
        have hc1 : V2.cell? ⟨b1, 0, none⟩ = some (.int .i64 1) := hA2.tn.cell
        have hc2 := hA2.bm.cell
        have hc3 := hA2.bw.cell
        have hc4 : V2.cell? ⟨N1, 0, none⟩ = some (.int .i64 (m1 : Int)) := hN2'.cell
        have HA := Lib.hid hA2
        have HF1 := Lib.hid hF1
        have HM := Lib.hid hmm
        clear hA2 hN2' hF1 hmm
        gi_upto_region 24 with fail
        gi_cut [97] from 77 (fun s97 wx => s97 = .bool false ∧ wx = V2)
        case first =>
          have hz : m1 = zs.length := HM.out
          subst hz
          gi_wp2
          all_goals first
            | (gi_meet; exact ⟨rfl, rfl⟩)
            | (exfalso; have hmm := HM.out; unfold LeaveAtE at hmm; omega)
        obtain ⟨rfl, rfl⟩ := hcut
        gi_wp2
        clear hc1 hc2 hc3 hc4
        obtain ⟨V2', hW2⟩ : ∃ V', wc.alloc (Obj.cells #[Value.int IntKind.i64 2] 3) = V' := ⟨_, rfl⟩
        have hA2 : PE w (tabOf l) t' zs many Bm Bw Bs wc.heap.size p cap 2 V2' := by rw [← hW2]; exact HA.out.next 2
        have hle1 : wc.heap.size + 1 = V2'.heap.size := by rw [← hW2, World.size_alloc]
        have hk1 : V2'.heap[D1]? = some (.deferred (some [])) := by rw [← hW2]; exact (Below.heap_alloc wc _ _ (Array.getElem?_eq_some_iff.1 hK1).1).trans hK1
        have hk0' : V2'.heap[D0]? = some (.deferred (some [])) := by rw [← hW2]; exact (Below.heap_alloc wc _ _ (Nat.lt_of_lt_of_le (by have := HSU1.out; omega) HF1.out.size)).trans ((HF1.out.block D0 (by have := HSU1.out; omega) (by intro h; omega)).trans HKU.out)
        rw [hW2]
        obtain ⟨b2, hb2⟩ : ∃ b, wc.heap.size = b := ⟨_, rfl⟩
        rw [hb2] at hA2 hle1 ⊢
        have hD1' : D1 < b2 := by have := (Array.getElem?_eq_some_iff.1 hK1).1; omega
        have HA2 := Lib.hid hA2
        have HK1 := Lib.hid hk1
        clear hW2 HA hK1 hk1 HK0
        clear hb2
        clear HF1 HM
        rw [roundsIn_succ]
        have hc2 : V2'.cell? ⟨b2, 0, none⟩ = some (.int .i64 2) := HA2.out.tn.cell
        skip
        have HK0 := Lib.hid hk0'
        clear hk0'
        have e1 : D1 ≠ w.heap.size + 1 := by have := HA1.out.lw; have := HA1.out.ltw; omega
        have e0 : D0 ≠ w.heap.size + 1 := by have := HA0.out.lw; have := HA0.out.ltw; omega
        have fin : ∀ w4, Below V2'.heap.size V2' w4 → (w4.cell? ⟨w.heap.size + 1, 0, none⟩ = some (.bool false) ∧ w4.frozen? ⟨w.heap.size + 1, 0, none⟩ = false) ∧
            (w4.setCell ⟨w.heap.size + 1, 0, none⟩ (.bool true)).heap[D1]? = some (.deferred (some [])) ∧ (w4.setCell ⟨w.heap.size + 1, 0, none⟩ (.bool true)).heap[D0]? = some (.deferred (some [])) ∧
            (((w4.setCell ⟨w.heap.size + 1, 0, none⟩ (.bool true)).putObj D1 (.deferred none)).putObj D0 (.deferred none)).cell? ⟨w.heap.size + 1, 0, none⟩ = some (.bool true) ∧
            Below w.heap.size w (((w4.setCell ⟨w.heap.size + 1, 0, none⟩ (.bool true)).putObj D1 (.deferred none)).putObj D0 (.deferred none)) := by
          intro w4 hb4
          have hbr4 := HA2.out.br.below hb4 HA2.out.br.lt
          have hkD : ∀ D, D < V2'.heap.size → D ≠ w.heap.size + 1 → (w4.setCell ⟨w.heap.size + 1, 0, none⟩ (.bool true)).heap[D]? = V2'.heap[D]? := fun D hD hne =>
            (Below.heap_setCell w4 ⟨w.heap.size + 1, 0, none⟩ _ D hne).trans (hb4.block D hD)
          have hw : Below w.heap.size w (w4.setCell ⟨w.heap.size + 1, 0, none⟩ (.bool true)) := (HA2.out.at_.below hb4).1.setCell (p := ⟨w.heap.size + 1, 0, none⟩) (by simp) _
          have hbF := hbr4.set (.bool true)
          refine ⟨⟨hbr4.cell, hbr4.free⟩, (hkD D1 (by omega) e1).trans HK1.out, (hkD D0 (by omega) e0).trans HK0.out, ?_, ?_⟩
          · exact (cell_putObj (D := D0) (B := w.heap.size + 1) (o := .deferred none) e0 0).trans ((cell_putObj (o := .deferred none) e1 0).trans hbF.cell)
          · exact below_putObj (below_putObj hw (by have := HA1.out.lw; have := HA1.out.ltw; omega) _) (by have := HA0.out.lw; have := HA0.out.ltw; omega) _
        have FIN := Lib.hid fin
        clear fin
        gi_wp2
        refine wcall (works06_any V2') ?_
        rintro e w9 ⟨rfl, hb9⟩
        have HB9 := Lib.hid hb9
        obtain ⟨⟨hc9, hf9⟩, _⟩ := FIN.out w9 HB9.out
        clear hb9
        gi_wp2
        obtain ⟨_, hd1, hd0, hc, hw⟩ := FIN.out w9 HB9.out
        exact leave2 rfl hd1 hd0 (by omega) (results_cell1 rfl _ _ rfl (v := .bool true) (by simp [go_sem, hc])) ⟨rfl, hw⟩
theorem lawExtentsEach_of {α : Type} {enc : α → List Value} (p : Option Addr) (cap : Nat) (ys : List α) (many : Int) (W : World) (hr : RdS W.heap.size W p cap 3 enc ys) (g : α → Ext3) (hg : ∀ y, enc y = xc (g y)) :
    Calls Try.prog 10 #[.slice p ys.length cap, .int .i64 many] W fun e w' => e = .returned (.bool true) ∧ Below W.heap.size W w' := by
  have := lawExtentsEach p cap (ys.map g) many W (hr.mapX g hg)
  rwa [List.length_map] at this
end Go.Proofs.Ytenmogokbelahaa
