/- The law PmemLasts: the good way. -/
import Derived.Test.YtaflbfmlajbjcaaLastC
import Derived.Laws.Strings
import Derived.OwnWalk
namespace Go.Proofs.Ytaflbfmlajbjcaa
open Go Go.RowKit

def foundB (s : ByteArray) (ss : List ByteArray) : Bool := ss.any fun t => t.toList == s.toList
theorem found_nil (s : ByteArray) : foundB s [] = false := rfl
theorem found_app (s t : ByteArray) (ss : List ByteArray) : foundB s (ss ++ [t]) = (foundB s ss || (t.toList == s.toList)) := by simp [foundB]
theorem found_mem {s : ByteArray} {ss : List ByteArray} (h : s ∈ ss) : foundB s ss = true := List.any_eq_true.2 ⟨s, h, by simp⟩
set_option maxRecDepth 100000 in
set_option maxHeartbeats 16000000 in
theorem lasts_good (p0 p1 p2 : Option Addr) (c0 c1 c2 : Nat) (l : List (BitVec 64)) (sc : List ActA) (pk : List (BitVec 8)) (W : World) (hr0 : RdL W.heap.size W p0 c0 vw l) (hr1 : RdS W.heap.size W p1 c1 3 ac sc) (hr2 : RdL W.heap.size W p2 c2 vb pk)
    (h8 : 8 ≤ l.length) (h32 : l.length ≤ 32) (hmd : l.length % 8 = 0) (h60 : sc.length ≤ 60) (h10 : pk.length ≤ 10) :
    Calls Try.prog 4 #[.slice p0 l.length c0, .slice p1 sc.length c1, .slice p2 pk.length c2] W fun e w' => e = .returned (.bool true) ∧ Below W.heap.size W w' := by
  obtain ⟨n, hn⟩ : ∃ n, l.length = n := ⟨_, rfl⟩
  obtain ⟨K, hK⟩ : ∃ K, sc.length = K := ⟨_, rfl⟩
  obtain ⟨Q, hQ⟩ : ∃ Q, pk.length = Q := ⟨_, rfl⟩
  have HN := Lib.hid (And.intro hn (And.intro hK hQ))
  have H0 := Lib.hid (And.intro hr0 (And.intro hr1 hr2))
  rw [hn] at h8 h32 hmd
  rw [hK] at h60
  rw [hQ] at h10
  rw [hn, hK, hQ]
  clear hr0 hr1 hr2 hn hK hQ
  obtain ⟨L, hL⟩ : ∃ L, n / 8 = L := ⟨_, rfl⟩
  have hL4 : L ≤ 4 := by omega
  have hL0 : 0 < L := by omega
  have HR := Lib.hid (right7_yes n W (by omega))
  have d1 : decide (32 < (n : Int)) = false := decide_eq_false (by omega)
  have d2 : decide (60 < (K : Int)) = false := decide_eq_false (by omega)
  have d3 : decide (10 < (Q : Int)) = false := decide_eq_false (by omega)
  have hq1 : (n : Int).tdiv 8 = (L : Int) := by rw [Int.tdiv_eq_ediv_of_nonneg (by omega)]; omega
  have hq2 : (n : Int) / 8 = (L : Int) := by omega
  have hq3 : IntKind.i64.wrap (L : Int) = (L : Int) := by rw [IntKind.wrap_i64]; omega
  have hof := of_any p0 c0 l W H0.out.1 (by rw [HN.out.1]; omega) (by rw [HN.out.1]; omega) (by rw [HN.out.1]; omega)
  rw [HN.out.1] at hof
  have HOF := Lib.hid hof
  have HLL := Lib.hid (show (Mem.of (linesOf l)).length = L by rw [of_len, linesOf_len, HN.out.1, hL])
  clear hof h8 h32 hmd hL
  go_enter Try.func4, Try.ntmps4
  go_wp2_with fail
  refine HR.out.mono ?_
  rintro e w' ⟨rfl, rfl⟩
  go_wp2_with fail
  refine HOF.out.mono ?_
  rintro e w1 ⟨O, N, rfl, hm, hN, hb1⟩
  have H1 := Lib.hid (And.intro hm (And.intro hN hb1))
  clear hm hN hb1 HOF HR
  go_wp2_with fail
  refine (num7_any _ _).mono ?_
  rintro e w2 ⟨rfl, rfl⟩
  have hmk1 := made_of elem_rows rfl (by decide) L (by omega) w2
  obtain ⟨w3, hw3⟩ : ∃ w3, w2.alloc (.cells (Array.replicate L (.slice none 0 0)) 48) = w3 := ⟨_, rfl⟩
  have hmk2 := made_of elem_intz rfl (by decide) L (by omega) w3
  obtain ⟨w4, hw4⟩ : ∃ w4, w3.alloc (.cells (Array.replicate L (.int .i64 0)) 3) = w4 := ⟨_, rfl⟩
  have hs4 := snc_new hw3 hw4
  have hb4 : Below w2.heap.size w2 w4 := by rw [← hw4, ← hw3]; exact (below_alloc w2 _).trans ((below_alloc _ _).mono (by simp))
  rw [hw3] at hmk1
  rw [hw4] at hmk2
  have hbs := H1.out.2.2.size
  have HS4 : Hid (St9 W w4 O N w2.heap.size w3.heap.size L w2.heap.size (Mem.of (linesOf l)) row0 (fun _ => 0)) := Lib.hid ⟨H1.out.1.below hb4, hs4, H1.out.2.2.trans (hb4.mono hbs), HLL.out, H1.out.2.1, hbs⟩
  obtain ⟨gs, hgs⟩ : ∃ g, w2.heap.size = g := ⟨_, rfl⟩
  obtain ⟨gf, hgf⟩ : ∃ g, w3.heap.size = g := ⟨_, rfl⟩
  rw [hgs] at hmk1 HS4
  rw [hgf] at hmk2 HS4
  clear hw3 hw4 hs4 hb4 hbs H1 hgs hgf
  go_wp2_with fail
  clear hmk1 hmk2 d1 d2 d3
  go_loopw [12] (fun i wr => ∃ (k : Nat) (R : Nat → Row) (fl : Nat → Int), k ≤ L ∧ i = .int .i64 k ∧ St9 W wr O N gs gf L gs (Mem.of (linesOf l)) R fl ∧ Inv0 (Mem.of (linesOf l)) R fl k ∧ (∀ i, k ≤ i → R i = ⟨none, 0, []⟩)) (fun i _ => L - (intOf i).toNat)
  case atStart => exact ⟨0, row0, _, Nat.zero_le _, rfl, HS4.out, fun k hk h => absurd h (Nat.not_lt_zero k), fun _ _ => rfl⟩
  case round =>
    obtain ⟨k, R, fl, hk, rfl, hst, hinv, hnil⟩ := hrel
    by_cases hlt : k < L
    · have hlt' : (k : Int) < (L : Int) := by omega
      have HS := Lib.hid (And.intro hst (And.intro hinv hnil))
      have hkm : k < (Mem.of (linesOf l)).length := by rw [HLL.out]; exact hlt
      have HC := Lib.hid (content_any k wr hst.mat hkm)
      have HQ := Lib.hid (of_line (linesOf l) k)
      have HKM := Lib.hid hkm
      obtain ⟨s, hs⟩ : ∃ s, strL ((Mem.of (linesOf l))[k]'hkm).now = s := ⟨_, rfl⟩
      have HSS : Hid (∀ h, strL ((Mem.of (linesOf l))[k]'h).now = s) := Lib.hid (fun _ => hs)
      rw [hs] at HC
      clear hst hinv hnil hkm hs
      go_wp2_with fail
      refine HC.out.mono ?_
      rintro e w5 ⟨rfl, hb5⟩
      have h5 := HS.out.1.below hb5
      obtain ⟨c5a, c5b⟩ := h5.snc.cellS k hlt
      obtain ⟨f5a, f5b⟩ := h5.snc.cellF k hlt
      have lgs := h5.snc.ltS
      have lgf := h5.snc.ltF
      have ngs : gs ≠ w5.heap.size := by omega
      have ngf : gf ≠ w5.heap.size := by omega
      have ne1 := h5.snc.ne
      have ne2 := Ne.symm ne1
      have h7 := h5.put (w' := w5.alloc (.cells #[.string s] 9)) k hlt (Frn.alloc _ _ _) ⟨some ⟨w5.heap.size, 0, none⟩, 1, [s]⟩ (OwnG.block (ys := [s]) es_len (World.alloc_heap_new w5 _) (by simp [maxLen])) (by rintro b ⟨a, ha, rfl, -⟩; cases ha; exact .inr (Nat.le_refl _))
      have h8 := h7.setF k (-1)
      rw [World.setCell_alloc_past _ _ _ _ lgs, World.setCell_alloc_past _ _ _ _ (by simpa using lgf)] at h8
      have H8 := Lib.hid h8
      clear h5 hb5 h7 h8 HC
      go_wp2_with fail
      go_roundw
      case rel => exact ⟨k + 1, upd R k ⟨some ⟨w5.heap.size, 0, none⟩, 1, [s]⟩, upd fl k (-1), hlt, by go_num, H8.out, inv0_step HS.out.2.1 HKM.out (HQ.out HKM.out).1 (HQ.out HKM.out).2 _ (by show [s] = _; rw [HSS.out HKM.out]), fun i hi => by rw [upd_other _ _ (by omega)]; exact HS.out.2.2 i (by omega)⟩
      case measure => simp [intOf]; omega
    · obtain rfl : k = L := by omega
      have hnl : ¬ (k : Int) < (k : Int) := by omega
      have hi := inv0_done (m := Mem.of (linesOf l)) (by rw [HLL.out]; exact hinv)
      have HS := Lib.hid (And.intro hst hi)
      clear hst hinv hnil hi HS4
      go_wp2_with fail
      clear hq1 hq2 hq3 hlt hnl
      go_loopw [13] (fun i wr => ∃ (j : Nat) (m : Mem) (R : Nat → Row) (fl : Nat → Int), j ≤ K ∧ i = .int .i64 j ∧ St9 W wr O N gs gf k gs m R fl ∧ Inv m R fl (j + 1) ∧ LastTo m R m.length) (fun i _ => K - (intOf i).toNat)
      case atStart => exact ⟨0, _, R, fl, Nat.zero_le _, rfl, HS.out.1, HS.out.2.1, HS.out.2.2⟩
      case round =>
        clear HS R fl
        obtain ⟨j, m, R, fl, hj, rfl, hst, hinv, hlast⟩ := hrel
        by_cases hlt : j < K
        · have hlt' : (j : Int) < (K : Int) := by omega
          obtain ⟨g, o, rfl, hg, a0, a1, a2⟩ := act_at H0.out.2.1 j (by rw [HN.out.2.1]; exact hlt)
          obtain ⟨x, hx⟩ : ∃ x, sc[j]'(by rw [HN.out.2.1]; exact hlt) = x := ⟨_, rfl⟩
          rw [hx] at a0 a1 a2
          obtain ⟨what, at_, V⟩ := x
          simp only at a0 a1 a2
          obtain ⟨v, hv⟩ : ∃ v : Int, (V.toNat : Int) = v := ⟨_, rfl⟩
          replace a2 : W.cell? ⟨g, o + j * 3 + 2, none⟩ = some (.int .u64 v) := by rw [← hv]; exact a2
          have hb := hst.bel
          have b0 := (hb.cell (p := ⟨g, o + j * 3, none⟩) hg).trans a0
          have b1 := (hb.cell (p := ⟨g, o + j * 3 + 1, none⟩) hg).trans a1
          have b2 := (hb.cell (p := ⟨g, o + j * 3 + 2, none⟩) hg).trans a2
          have hgw : g < wr.heap.size := Nat.lt_of_lt_of_le hg hb.size
          have HS := Lib.hid (And.intro hst (And.intro hinv hlast))
          have HV := Lib.hid hv
          clear hst hinv hlast hb hg a0 a1 a2 hx hv
          go_upto_region 17 with fail
          have hx6 := x_new wr what at_ v 38
          have h6 := HS.out.1.below (below_alloc wr (.cells #[.int .i64 what, .int .i64 at_, .int .u64 v] 38))
          obtain ⟨X, hX⟩ : ∃ X, wr.heap.size = X := ⟨_, rfl⟩
          have hXb : gs < X := by rw [← hX]; exact HS.out.1.snc.ltS
          have hXs : X < (wr.alloc (.cells #[.int .i64 what, .int .i64 at_, .int .u64 v] 38)).heap.size := by rw [← hX]; simp
          obtain ⟨w6, hw6⟩ : ∃ w6, wr.alloc (.cells #[.int .i64 what, .int .i64 at_, .int .u64 v] 38) = w6 := ⟨_, rfl⟩
          rw [hX] at hx6
          rw [hw6] at hx6 h6 hXs
          try rw [hX]
          rw [hw6]
          have HS6 := Lib.hid (And.intro h6 (And.intro HS.out.2.1 HS.out.2.2))
          obtain ⟨x0, x1, x2⟩ := hx6
          clear hX hw6 h6 HS b0 b1 b2 hgw
          by_cases e0 : what = 0
          · as_aux_lemma =>
              subst e0
              have HST := Lib.hid (store9 at_ V v HV.out (j + 1) HS6.out.1 HS6.out.2.1)
              go_wp2_with fail
              clear x0 x1 x2
              refine HST.out.mono ?_
              rintro e w7 ⟨r7, m7, rfl, h7, hi7⟩
              have HA := Lib.hid (And.intro h7 hi7)
              clear h7 hi7 HST HS6
              go_wp2_with fail
              (try clear hXb hXs)
              go_loopw [16] (fun i9 wr => ∃ (q : Nat) (R9 : Nat → Row), q ≤ k ∧ i9 = .int .i64 q ∧ St9 W wr O N gs gf k gs (m7) R9 (fl) ∧ InvL (m7) R9 (fl) (j + 1) q) (fun i9 _ => k - (intOf i9).toNat)
              case atStart => exact ⟨0, _, Nat.zero_le _, rfl, HA.out.1, inv_l0 HA.out.2⟩
              case round =>
                clear HA
                obtain ⟨q, R1, hq, rfl, hst, hinv⟩ := hrel
                have hlen := hst.len
                by_cases hqt : q < k
                · have hqt' : (q : Int) < (k : Int) := by omega
                  have hqm : q < (m7).length := by omega
                  have HC := content_any q wr hst.mat hqm
                  have HQM := Lib.hid hqm
                  have HS := Lib.hid (And.intro hst (And.intro hinv hlen))
                  obtain ⟨s, hs⟩ : ∃ s, strL ((m7)[q]'hqm).now = s := ⟨_, rfl⟩
                  rw [hs] at HC
                  have HSS : Hid (∀ h, strL ((m7)[q]'h).now = s) := Lib.hid (fun _ => hs)
                  have HCC := Lib.hid HC
                  have hll := hinv q hqm
                  rw [if_neg (Nat.lt_irrefl q)] at hll
                  have hpos := hll.1.pos
                  have hle := hll.2
                  clear hst hinv hlen hs HC hqm hll
                  go_wp2_with fail
                  refine HCC.out.mono ?_
                  rintro e w8 ⟨rfl, hb8⟩
                  have h8 := HS.out.1.below hb8
                  have H8 := Lib.hid h8
                  obtain ⟨z, hz⟩ : ∃ z, (R1 q).ss.length - 1 = z := ⟨_, rfl⟩
                  have hzl : (R1 q).ss.length = z + 1 := by omega
                  obtain ⟨g8, o8, hp8, hc8⟩ := row_at (h8.snc.own q hqt) z (by omega)
                  obtain ⟨t, ht⟩ : ∃ t, (R1 q).ss[z]'(by omega) = t := ⟨_, rfl⟩
                  rw [ht] at hc8
                  have HT : Hid ((R1 q).ss[z]? = some t ∧ (R1 q).ss.length = z + 1 ∧ z ≤ 100 ∧ (R1 q).p = some ⟨g8, o8, none⟩) := Lib.hid ⟨by rw [← ht]; exact List.getElem?_eq_getElem _, hzl, by omega, hp8⟩
                  obtain ⟨c8a, c8b⟩ := h8.snc.cellS q hqt
                  obtain ⟨C, hC⟩ : ∃ C, (R1 q).c = C := ⟨_, rfl⟩
                  have HCQ := Lib.hid hC
                  obtain ⟨Z, hZ⟩ : ∃ Z, (R1 q).ss.length = Z := ⟨_, rfl⟩
                  have HZ := Lib.hid hZ
                  rw [hp8, hZ, hC] at c8a
                  have hz1 : IntKind.i64.wrap ((Z : Int) - 1) = (z : Int) := by rw [IntKind.wrap_i64]; omega
                  have hz2 : (z : Int) < (Z : Int) := by omega
                  have lgs := h8.snc.ltS
                  clear hb8 h8 hz hzl ht hp8 hC hpos hle hZ HCC
                  by_cases hse : s = t
                  · have HSE := Lib.hid hse
                    have hn1 : (s.toList == t.toList) = true := by rw [hse]; simp
                    clear hse
                    go_wp2_with fail
                    go_quiet (fail)
                    have H9 := Lib.hid (H8.out.below (below_drewN (Below.refl _ w8) nq))
                    clear hc8 c8a c8b hz1 hz2 lgs hn1 H8
                    go_wp2_with fail
                    go_roundw
                    case rel => exact ⟨q + 1, R1, hqt, by go_num, H9.out, invl_same HS.out.2.1 HQM.out (by unfold Lst; rw [HT.out.2.1, Nat.add_sub_cancel, HSS.out HQM.out, HSE.out]; exact HT.out.1)⟩
                    case measure => simp [intOf]; omega
                  · have hn1 : (s.toList == t.toList) = false := by rw [beq_eq_false_iff_ne]; exact fun e => hse (by cases s; cases t; simp [ByteArray.toList_eq] at e; simpa using e)
                    clear hse
                    go_wp2_with fail
                    go_quiet (fail)
                    have h9 := H8.out.below (below_drewN (Below.refl _ w8) nq)
                    obtain ⟨w9, hw9⟩ : ∃ w9, w8.drewN nq = w9 := ⟨_, rfl⟩
                    rw [hw9] at h9
                    rw [hw9]
                    have H9 := Lib.hid h9
                    have c9a : w9.cell? ⟨gs, q, none⟩ = some (.slice (some ⟨g8, o8, none⟩) Z C) := by rw [← hw9]; exact c8a
                    have lgs9 := h9.snc.ltS
                    clear hc8 c8a c8b hz1 hz2 lgs hn1 H8 hw9 h9
                    go_wp2_with (
                      at_builtin
                      go_loud (refine wpList_appG rfl (.tmp 220) (.tmp 222) _ rfl elem_strs (by decide) es_len es_one (some ⟨g8, o8, none⟩) C (R1 q).ss [s] (by rw [HZ.out]; rfl) (by have h := (H9.out.snc.own q hqt).below (below_alloc w9 (.cells #[.string s] 9)); rw [HT.out.2.2.2, HCQ.out] at h; exact h) _ 1 1 rfl rfl 9 (0, 0) (World.alloc_heap_new w9 _) (Nat.succ_pos _) ⟨by have h := HT.out.2.2.1; rw [HT.out.2.1]; omega, by simp⟩ ?_)
                      rw [HZ.out]
                      intro p2 cap2 w3 happ
                      obtain ⟨hown, hf3, hq3⟩ := happ
                      have hf4 : Frn (inRw (R1 q)) w9 w3 := by have h := (Frn.alloc (inP (some ⟨g8, o8, none⟩) C) w9 (.cells #[.string s] 9)).trans hf3; rw [← HT.out.2.2.2, ← HCQ.out] at h; exact h
                      have hgs := hf4.block gs lgs9 (fun hi => (H9.out.snc.blk q hqt gs hi).2.1 rfl)
                      have e3 : w3.cell? ⟨gs, q, none⟩ = some (.slice (some ⟨g8, o8, none⟩) Z C) := (World.cell?_of_block (w := w9) (a := ⟨gs, q, none⟩) hgs).trans c9a
                      have f3 : w3.frozen? ⟨gs, q, none⟩ = false := by have h := (H9.out.snc.cellS q hqt).2; unfold World.frozen? at h ⊢; rw [hgs]; exact h
                      have hput := H9.out.put q hqt hf4 ⟨p2, cap2, (R1 q).ss ++ [s]⟩ hown (fun b hb => (hq3 b hb).imp (fun h => by rw [← HT.out.2.2.2, ← HCQ.out] at h; exact h) (fun h => by have := h.1; simp at this; omega))
                      simp only [List.length_append, List.length_singleton, HZ.out] at hput
                      have HP := Lib.hid hput
                      clear hown hf3 hq3 hf4 hgs hput)
                    go_roundw
                    case rel => exact ⟨q + 1, upd R1 q ⟨p2, cap2, (R1 q).ss ++ [s]⟩, hqt, by go_num, HP.out, invl_app HS.out.2.1 HQM.out _ (by show _ ++ [s] = _; rw [HSS.out HQM.out])⟩
                    case measure => simp [intOf]; omega
                · obtain rfl : q = k := by omega
                  have hnl : ¬ (q : Int) < (q : Int) := by omega
                  have hin := inv_ln (m := m7) (by rw [hlen]; exact hinv)
                  have HI := Lib.hid (And.intro hst hin)
                  clear hst hinv hin hlen hqt
                  go_wp2_with fail
                  clear hnl
                  go_roundw
                  case rel => exact ⟨j + 1, _, R1, _, hlt, by go_num, HI.out.1, HI.out.2.1, HI.out.2.2⟩
                  case measure => simp [intOf]; omega
          · have q0 : (what == 0) = false := beq_eq_false_iff_ne.2 e0
            by_cases e1 : what = 1
            · subst e1
              clear q0 e0
              by_cases hrng : 0 ≤ at_ ∧ at_ < (m.length : Int)
              · as_aux_lemma =>
                  have hlm := HS6.out.1.len
                  obtain ⟨i, rfl⟩ : ∃ i : Nat, at_ = i := ⟨at_.toNat, by omega⟩
                  have hik : i < k := by omega
                  have him : i < m.length := by omega
                  have hik' : (i : Int) < (k : Int) := by omega
                  have HFL := Lib.hid (flush9 i HS6.out.1 him)
                  have HLS := Lib.hid (fun h => HS6.out.2.2 i h h)
                  have HIM := Lib.hid him
                  have hle := (HS6.out.2.1 i him).2
                  clear hrng hlm him
                  go_wp2_with fail
                  refine HFL.out.mono ?_
                  rintro e w7 ⟨rfl, h7, hf7⟩
                  have y1 := (World.cell?_of_block (w := w6) (a := ⟨X, 1, none⟩) (hf7.block X hXs (fun hn => by have := (h7.nb X hn).2; omega))).trans x1
                  clear x0 x1 x2 hf7 HFL
                  go_wp2_with fail
                  refine (num7_any _ _).mono ?_
                  rintro e w8 ⟨rfl, rfl⟩
                  obtain ⟨c7a, c7b⟩ := h7.snc.cellS i hik
                  obtain ⟨f7a, f7b⟩ := h7.snc.cellF i hik
                  have hpos := (HLS.out HIM.out).pos
                  obtain ⟨z, hz⟩ : ∃ z, (R i).ss.length - 1 = z := ⟨_, rfl⟩
                  obtain ⟨Z, hZ⟩ : ∃ Z, (R i).ss.length = Z := ⟨_, rfl⟩
                  obtain ⟨C, hC⟩ : ∃ C, (R i).c = C := ⟨_, rfl⟩
                  obtain ⟨P, hP⟩ : ∃ P, (R i).p = P := ⟨_, rfl⟩
                  rw [hZ, hC, hP] at c7a
                  have hz1 : IntKind.i64.wrap ((Z : Int) - 1) = (z : Int) := by rw [IntKind.wrap_i64]; omega
                  have h8 := (h7.below (below_drewN (Below.refl _ w8) 1)).setF i (z : Int)
                  have HA : Hid (St9 W (w8.drew.setCell ⟨gf, i, none⟩ (.int .i64 z)) O N gs gf k gs (m.flush i) R (upd fl i (z : Int)) ∧ Inv (m.flush i) R (upd fl i (z : Int)) (j + 1)) := Lib.hid ⟨h8, by have h := inv_flush HS6.out.2.1 i HIM.out (HLS.out HIM.out); rw [hz] at h; exact h⟩
                  clear h7 h8 hz hZ hC hP hpos hle HS6 HLS
                  have hi0 : (0 : Int) ≤ (i : Int) := by omega
                  go_upto_region 22 with fail
                  refine wp_region_noPanic ?_
                  refine wp_region_F 11 (fun w' => w'.cell? ⟨X, 1, none⟩ = some (.int .i64 i) ∧ w'.cell? ⟨gs, i, none⟩ = some (.slice P Z C)) (by kernel_rfl) ?_ (fun hHeld => ?_)
                  · exact ⟨y1, c7a⟩
                  refine' wpAnyF_takeT (i := 0) (v := _) rfl (by kernel_rfl) (by kernel_rfl) (by kernel_rfl) (by rfl) (fun _ _ _ h => h) (Or.inl ⟨by rfl, ?hy⟩) (fun _ => hHeld) _
                  case hy => (intro w0 hSw; (try dsimp only at hSw); simp only [List.getElem_toArray, List.getElem_cons_zero]; go_simp; first | done | with_reducible rfl)
                  simp only [Act.put, List.getElem_toArray, List.getElem_cons_zero, List.setIfInBounds_toArray, List.set_cons_zero, List.set_cons_succ]
                  refine' wpAnyF_takeT (i := 1) (v := _) rfl (by kernel_rfl) (by kernel_rfl) (by kernel_rfl) (by rfl) (fun _ _ _ h => h) (Or.inl ⟨by rfl, ?hy⟩) (fun _ => hHeld) _
                  case hy => (intro w0 hSw; (try dsimp only at hSw); simp only [List.getElem_toArray, List.getElem_cons_zero, List.getElem_cons_succ]; go_simp; first | done | with_reducible rfl)
                  simp only [Act.put, List.getElem_toArray, List.getElem_cons_zero, List.getElem_cons_succ, List.setIfInBounds_toArray, List.set_cons_zero, List.set_cons_succ]
                  refine' wpAnyF_take (i := 2) (v := _) rfl (by kernel_rfl) (by kernel_rfl) (by kernel_rfl) (by kernel_rfl) (by rfl) (by kernel_rfl) (fun _ _ _ h => h) (Or.inl ⟨by rfl, ?hy⟩) hHeld _
                  case hy => (intro w0 hSw; (try dsimp only at hSw); simp only [List.getElem_toArray, List.getElem_cons_zero, List.getElem_cons_succ]; go_simp; first | done | with_reducible rfl)
                  simp only [Act.put, List.getElem_toArray, List.getElem_cons_zero, List.getElem_cons_succ, List.setIfInBounds_toArray, List.set_cons_zero, List.set_cons_succ]
                  refine' wpAnyF_takeT (i := 3) (v := _) rfl (by kernel_rfl) (by kernel_rfl) (by kernel_rfl) (by rfl) (fun _ _ _ h => h) (Or.inl ⟨by rfl, ?hy⟩) (fun _ => hHeld) _
                  case hy => (intro w0 hSw; (try dsimp only at hSw); simp only [List.getElem_toArray, List.getElem_cons_zero, List.getElem_cons_succ]; go_simp; first | done | with_reducible rfl)
                  simp only [Act.put, List.getElem_toArray, List.getElem_cons_zero, List.getElem_cons_succ, List.setIfInBounds_toArray, List.set_cons_zero, List.set_cons_succ]
                  refine' wpAnyF_takeT (i := 4) (v := _) rfl (by kernel_rfl) (by kernel_rfl) (by kernel_rfl) (by rfl) (fun _ _ _ h => h) (Or.inl ⟨by rfl, ?hy⟩) (fun _ => hHeld) _
                  case hy => (intro w0 hSw; (try dsimp only at hSw); simp only [List.getElem_toArray, List.getElem_cons_zero, List.getElem_cons_succ]; go_simp; first | done | with_reducible rfl)
                  simp only [Act.put, List.getElem_toArray, List.getElem_cons_zero, List.getElem_cons_succ, List.setIfInBounds_toArray, List.set_cons_zero, List.set_cons_succ]
                  refine' wpAnyF_take (i := 5) (v := _) rfl (by kernel_rfl) (by kernel_rfl) (by kernel_rfl) (by kernel_rfl) (by rfl) (by kernel_rfl) (fun _ _ _ h => h) (Or.inl ⟨by rfl, ?hy⟩) hHeld _
                  case hy => (intro w0 hSw; (try dsimp only at hSw); simp only [List.getElem_toArray, List.getElem_cons_zero, List.getElem_cons_succ]; go_simp; first | done | with_reducible rfl)
                  simp only [Act.put, List.getElem_toArray, List.getElem_cons_zero, List.getElem_cons_succ, List.setIfInBounds_toArray, List.set_cons_zero, List.set_cons_succ]
                  refine' wpAnyF_takeT (i := 6) (v := _) rfl (by kernel_rfl) (by kernel_rfl) (by kernel_rfl) (by rfl) (fun _ _ _ h => h) (Or.inl ⟨by rfl, ?hy⟩) (fun _ => hHeld) _
                  case hy => (intro w0 hSw; (try dsimp only at hSw); simp only [List.getElem_toArray, List.getElem_cons_zero, List.getElem_cons_succ]; go_simp; first | done | with_reducible rfl)
                  simp only [Act.put, List.getElem_toArray, List.getElem_cons_zero, List.getElem_cons_succ, List.setIfInBounds_toArray, List.set_cons_zero, List.set_cons_succ]
                  refine' wpAnyF_take (i := 7) (v := _) rfl (by kernel_rfl) (by kernel_rfl) (by kernel_rfl) (by kernel_rfl) (by rfl) (by kernel_rfl) (fun _ _ _ h => h) (Or.inl ⟨by rfl, ?hy⟩) hHeld _
                  case hy => (intro w0 hSw; (try dsimp only at hSw); simp only [List.getElem_toArray, List.getElem_cons_zero, List.getElem_cons_succ]; go_simp; first | done | with_reducible rfl)
                  simp only [Act.put, List.getElem_toArray, List.getElem_cons_zero, List.getElem_cons_succ, List.setIfInBounds_toArray, List.set_cons_zero, List.set_cons_succ]
                  refine' wpAnyF_takeT (i := 8) (v := _) rfl (by kernel_rfl) (by kernel_rfl) (by kernel_rfl) (by rfl) (fun _ _ _ h => h) (Or.inl ⟨by rfl, ?hy⟩) (fun _ => hHeld) _
                  case hy => (intro w0 hSw; (try dsimp only at hSw); simp only [List.getElem_toArray, List.getElem_cons_zero, List.getElem_cons_succ]; go_simp; first | done | with_reducible rfl)
                  simp only [Act.put, List.getElem_toArray, List.getElem_cons_zero, List.getElem_cons_succ, List.setIfInBounds_toArray, List.set_cons_zero, List.set_cons_succ]
                  refine' wpAnyF_takeT (i := 9) (v := _) rfl (by kernel_rfl) (by kernel_rfl) (by kernel_rfl) (by rfl) (fun _ _ _ h => h) (Or.inl ⟨by rfl, ?hy⟩) (fun _ => hHeld) _
                  case hy => (intro w0 hSw; (try dsimp only at hSw); simp only [List.getElem_toArray, List.getElem_cons_zero, List.getElem_cons_succ]; go_simp; first | done | with_reducible rfl)
                  simp only [Act.put, List.getElem_toArray, List.getElem_cons_zero, List.getElem_cons_succ, List.setIfInBounds_toArray, List.set_cons_zero, List.set_cons_succ]
                  refine' wpAnyF_takeT (i := 10) (v := _) rfl (by kernel_rfl) (by kernel_rfl) (by kernel_rfl) (by rfl) (fun _ _ _ h => h) (Or.inl ⟨by rfl, ?hy⟩) (fun _ => hHeld) _
                  case hy => (intro w0 hSw; (try dsimp only at hSw); simp only [List.getElem_toArray, List.getElem_cons_zero, List.getElem_cons_succ]; go_simp; first | done | with_reducible rfl)
                  simp only [Act.put, List.getElem_toArray, List.getElem_cons_zero, List.getElem_cons_succ, List.setIfInBounds_toArray, List.set_cons_zero, List.set_cons_succ]
                  refine wpAnyF_one (i := 11) (by kernel_rfl) rfl (fun K hK => ?_)
                  go_simp
                  refine hK.out _ _ (fun h => Bool.noConfusion (h.symm.trans (by kernel_rfl : _ = true))) ?_
                  clear hK K
                  try simp only [Act.put, List.getElem_toArray, List.getElem_cons_zero, List.getElem_cons_succ, List.setIfInBounds_toArray, List.set_cons_zero, List.set_cons_succ]
                  refine wpAnyF_done (by kernel_rfl) ?_ _
                  refine NoPanic.normal ?_
                  clear hHeld hz1 y1 c7a c7b f7a f7b hik hik' hi0
                  go_wp2_with fail
                  (try clear hXb hXs)
                  go_loopw [16] (fun i9 wr => ∃ (q : Nat) (R9 : Nat → Row), q ≤ k ∧ i9 = .int .i64 q ∧ St9 W wr O N gs gf k gs (m.flush i) R9 (upd fl i (z : Int)) ∧ InvL (m.flush i) R9 (upd fl i (z : Int)) (j + 1) q) (fun i9 _ => k - (intOf i9).toNat)
                  case atStart => exact ⟨0, _, Nat.zero_le _, rfl, HA.out.1, inv_l0 HA.out.2⟩
                  case round =>
                    clear HA
                    obtain ⟨q, R1, hq, rfl, hst, hinv⟩ := hrel
                    have hlen := hst.len
                    by_cases hqt : q < k
                    · have hqt' : (q : Int) < (k : Int) := by omega
                      have hqm : q < (m.flush i).length := by omega
                      have HC := content_any q wr hst.mat hqm
                      have HQM := Lib.hid hqm
                      have HS := Lib.hid (And.intro hst (And.intro hinv hlen))
                      obtain ⟨s, hs⟩ : ∃ s, strL ((m.flush i)[q]'hqm).now = s := ⟨_, rfl⟩
                      rw [hs] at HC
                      have HSS : Hid (∀ h, strL ((m.flush i)[q]'h).now = s) := Lib.hid (fun _ => hs)
                      have HCC := Lib.hid HC
                      have hll := hinv q hqm
                      rw [if_neg (Nat.lt_irrefl q)] at hll
                      have hpos := hll.1.pos
                      have hle := hll.2
                      clear hst hinv hlen hs HC hqm hll
                      go_wp2_with fail
                      refine HCC.out.mono ?_
                      rintro e w8 ⟨rfl, hb8⟩
                      have h8 := HS.out.1.below hb8
                      have H8 := Lib.hid h8
                      obtain ⟨z, hz⟩ : ∃ z, (R1 q).ss.length - 1 = z := ⟨_, rfl⟩
                      have hzl : (R1 q).ss.length = z + 1 := by omega
                      obtain ⟨g8, o8, hp8, hc8⟩ := row_at (h8.snc.own q hqt) z (by omega)
                      obtain ⟨t, ht⟩ : ∃ t, (R1 q).ss[z]'(by omega) = t := ⟨_, rfl⟩
                      rw [ht] at hc8
                      have HT : Hid ((R1 q).ss[z]? = some t ∧ (R1 q).ss.length = z + 1 ∧ z ≤ 100 ∧ (R1 q).p = some ⟨g8, o8, none⟩) := Lib.hid ⟨by rw [← ht]; exact List.getElem?_eq_getElem _, hzl, by omega, hp8⟩
                      obtain ⟨c8a, c8b⟩ := h8.snc.cellS q hqt
                      obtain ⟨C, hC⟩ : ∃ C, (R1 q).c = C := ⟨_, rfl⟩
                      have HCQ := Lib.hid hC
                      obtain ⟨Z, hZ⟩ : ∃ Z, (R1 q).ss.length = Z := ⟨_, rfl⟩
                      have HZ := Lib.hid hZ
                      rw [hp8, hZ, hC] at c8a
                      have hz1 : IntKind.i64.wrap ((Z : Int) - 1) = (z : Int) := by rw [IntKind.wrap_i64]; omega
                      have hz2 : (z : Int) < (Z : Int) := by omega
                      have lgs := h8.snc.ltS
                      clear hb8 h8 hz hzl ht hp8 hC hpos hle hZ HCC
                      by_cases hse : s = t
                      · have HSE := Lib.hid hse
                        have hn1 : (s.toList == t.toList) = true := by rw [hse]; simp
                        clear hse
                        go_wp2_with fail
                        go_quiet (fail)
                        have H9 := Lib.hid (H8.out.below (below_drewN (Below.refl _ w8) nq))
                        clear hc8 c8a c8b hz1 hz2 lgs hn1 H8
                        go_wp2_with fail
                        go_roundw
                        case rel => exact ⟨q + 1, R1, hqt, by go_num, H9.out, invl_same HS.out.2.1 HQM.out (by unfold Lst; rw [HT.out.2.1, Nat.add_sub_cancel, HSS.out HQM.out, HSE.out]; exact HT.out.1)⟩
                        case measure => simp [intOf]; omega
                      · have hn1 : (s.toList == t.toList) = false := by rw [beq_eq_false_iff_ne]; exact fun e => hse (by cases s; cases t; simp [ByteArray.toList_eq] at e; simpa using e)
                        clear hse
                        go_wp2_with fail
                        go_quiet (fail)
                        have h9 := H8.out.below (below_drewN (Below.refl _ w8) nq)
                        obtain ⟨w9, hw9⟩ : ∃ w9, w8.drewN nq = w9 := ⟨_, rfl⟩
                        rw [hw9] at h9
                        rw [hw9]
                        have H9 := Lib.hid h9
                        have c9a : w9.cell? ⟨gs, q, none⟩ = some (.slice (some ⟨g8, o8, none⟩) Z C) := by rw [← hw9]; exact c8a
                        have lgs9 := h9.snc.ltS
                        clear hc8 c8a c8b hz1 hz2 lgs hn1 H8 hw9 h9
                        go_wp2_with (
                          at_builtin
                          go_loud (refine wpList_appG rfl (.tmp 220) (.tmp 222) _ rfl elem_strs (by decide) es_len es_one (some ⟨g8, o8, none⟩) C (R1 q).ss [s] (by rw [HZ.out]; rfl) (by have h := (H9.out.snc.own q hqt).below (below_alloc w9 (.cells #[.string s] 9)); rw [HT.out.2.2.2, HCQ.out] at h; exact h) _ 1 1 rfl rfl 9 (0, 0) (World.alloc_heap_new w9 _) (Nat.succ_pos _) ⟨by have h := HT.out.2.2.1; rw [HT.out.2.1]; omega, by simp⟩ ?_)
                          rw [HZ.out]
                          intro p2 cap2 w3 happ
                          obtain ⟨hown, hf3, hq3⟩ := happ
                          have hf4 : Frn (inRw (R1 q)) w9 w3 := by have h := (Frn.alloc (inP (some ⟨g8, o8, none⟩) C) w9 (.cells #[.string s] 9)).trans hf3; rw [← HT.out.2.2.2, ← HCQ.out] at h; exact h
                          have hgs := hf4.block gs lgs9 (fun hi => (H9.out.snc.blk q hqt gs hi).2.1 rfl)
                          have e3 : w3.cell? ⟨gs, q, none⟩ = some (.slice (some ⟨g8, o8, none⟩) Z C) := (World.cell?_of_block (w := w9) (a := ⟨gs, q, none⟩) hgs).trans c9a
                          have f3 : w3.frozen? ⟨gs, q, none⟩ = false := by have h := (H9.out.snc.cellS q hqt).2; unfold World.frozen? at h ⊢; rw [hgs]; exact h
                          have hput := H9.out.put q hqt hf4 ⟨p2, cap2, (R1 q).ss ++ [s]⟩ hown (fun b hb => (hq3 b hb).imp (fun h => by rw [← HT.out.2.2.2, ← HCQ.out] at h; exact h) (fun h => by have := h.1; simp at this; omega))
                          simp only [List.length_append, List.length_singleton, HZ.out] at hput
                          have HP := Lib.hid hput
                          clear hown hf3 hq3 hf4 hgs hput)
                        go_roundw
                        case rel => exact ⟨q + 1, upd R1 q ⟨p2, cap2, (R1 q).ss ++ [s]⟩, hqt, by go_num, HP.out, invl_app HS.out.2.1 HQM.out _ (by show _ ++ [s] = _; rw [HSS.out HQM.out])⟩
                        case measure => simp [intOf]; omega
                    · obtain rfl : q = k := by omega
                      have hnl : ¬ (q : Int) < (q : Int) := by omega
                      have hin := inv_ln (m := m.flush i) (by rw [hlen]; exact hinv)
                      have HI := Lib.hid (And.intro hst hin)
                      clear hst hinv hin hlen hqt
                      go_wp2_with fail
                      clear hnl
                      go_roundw
                      case rel => exact ⟨j + 1, _, R1, _, hlt, by go_num, HI.out.1, HI.out.2.1, HI.out.2.2⟩
                      case measure => simp [intOf]; omega
              · as_aux_lemma =>
                  have hlm := HS6.out.1.len
                  have HFL := Lib.hid (flush9_bad at_ HS6.out.1 hrng)
                  clear hlm
                  go_wp2_with fail
                  refine HFL.out.mono ?_
                  rintro e w7 ⟨rfl, h7⟩
                  have HA := Lib.hid (And.intro h7 HS6.out.2.1)
                  clear h7 HFL HS6 x0 x1 x2 hrng
                  go_wp2_with fail
                  refine (num7_any _ _).mono ?_
                  rintro e w8 ⟨rfl, rfl⟩
                  go_wp2_with fail
                  (try clear hXb hXs)
                  go_loopw [16] (fun i9 wr => ∃ (q : Nat) (R9 : Nat → Row), q ≤ k ∧ i9 = .int .i64 q ∧ St9 W wr O N gs gf k gs (m) R9 (fl) ∧ InvL (m) R9 (fl) (j + 1) q) (fun i9 _ => k - (intOf i9).toNat)
                  case atStart => exact ⟨0, _, Nat.zero_le _, rfl, HA.out.1, inv_l0 HA.out.2⟩
                  case round =>
                    clear HA
                    obtain ⟨q, R1, hq, rfl, hst, hinv⟩ := hrel
                    have hlen := hst.len
                    by_cases hqt : q < k
                    · have hqt' : (q : Int) < (k : Int) := by omega
                      have hqm : q < (m).length := by omega
                      have HC := content_any q wr hst.mat hqm
                      have HQM := Lib.hid hqm
                      have HS := Lib.hid (And.intro hst (And.intro hinv hlen))
                      obtain ⟨s, hs⟩ : ∃ s, strL ((m)[q]'hqm).now = s := ⟨_, rfl⟩
                      rw [hs] at HC
                      have HSS : Hid (∀ h, strL ((m)[q]'h).now = s) := Lib.hid (fun _ => hs)
                      have HCC := Lib.hid HC
                      have hll := hinv q hqm
                      rw [if_neg (Nat.lt_irrefl q)] at hll
                      have hpos := hll.1.pos
                      have hle := hll.2
                      clear hst hinv hlen hs HC hqm hll
                      go_wp2_with fail
                      refine HCC.out.mono ?_
                      rintro e w8 ⟨rfl, hb8⟩
                      have h8 := HS.out.1.below hb8
                      have H8 := Lib.hid h8
                      obtain ⟨z, hz⟩ : ∃ z, (R1 q).ss.length - 1 = z := ⟨_, rfl⟩
                      have hzl : (R1 q).ss.length = z + 1 := by omega
                      obtain ⟨g8, o8, hp8, hc8⟩ := row_at (h8.snc.own q hqt) z (by omega)
                      obtain ⟨t, ht⟩ : ∃ t, (R1 q).ss[z]'(by omega) = t := ⟨_, rfl⟩
                      rw [ht] at hc8
                      have HT : Hid ((R1 q).ss[z]? = some t ∧ (R1 q).ss.length = z + 1 ∧ z ≤ 100 ∧ (R1 q).p = some ⟨g8, o8, none⟩) := Lib.hid ⟨by rw [← ht]; exact List.getElem?_eq_getElem _, hzl, by omega, hp8⟩
                      obtain ⟨c8a, c8b⟩ := h8.snc.cellS q hqt
                      obtain ⟨C, hC⟩ : ∃ C, (R1 q).c = C := ⟨_, rfl⟩
                      have HCQ := Lib.hid hC
                      obtain ⟨Z, hZ⟩ : ∃ Z, (R1 q).ss.length = Z := ⟨_, rfl⟩
                      have HZ := Lib.hid hZ
                      rw [hp8, hZ, hC] at c8a
                      have hz1 : IntKind.i64.wrap ((Z : Int) - 1) = (z : Int) := by rw [IntKind.wrap_i64]; omega
                      have hz2 : (z : Int) < (Z : Int) := by omega
                      have lgs := h8.snc.ltS
                      clear hb8 h8 hz hzl ht hp8 hC hpos hle hZ HCC
                      by_cases hse : s = t
                      · have HSE := Lib.hid hse
                        have hn1 : (s.toList == t.toList) = true := by rw [hse]; simp
                        clear hse
                        go_wp2_with fail
                        go_quiet (fail)
                        have H9 := Lib.hid (H8.out.below (below_drewN (Below.refl _ w8) nq))
                        clear hc8 c8a c8b hz1 hz2 lgs hn1 H8
                        go_wp2_with fail
                        go_roundw
                        case rel => exact ⟨q + 1, R1, hqt, by go_num, H9.out, invl_same HS.out.2.1 HQM.out (by unfold Lst; rw [HT.out.2.1, Nat.add_sub_cancel, HSS.out HQM.out, HSE.out]; exact HT.out.1)⟩
                        case measure => simp [intOf]; omega
                      · have hn1 : (s.toList == t.toList) = false := by rw [beq_eq_false_iff_ne]; exact fun e => hse (by cases s; cases t; simp [ByteArray.toList_eq] at e; simpa using e)
                        clear hse
                        go_wp2_with fail
                        go_quiet (fail)
                        have h9 := H8.out.below (below_drewN (Below.refl _ w8) nq)
                        obtain ⟨w9, hw9⟩ : ∃ w9, w8.drewN nq = w9 := ⟨_, rfl⟩
                        rw [hw9] at h9
                        rw [hw9]
                        have H9 := Lib.hid h9
                        have c9a : w9.cell? ⟨gs, q, none⟩ = some (.slice (some ⟨g8, o8, none⟩) Z C) := by rw [← hw9]; exact c8a
                        have lgs9 := h9.snc.ltS
                        clear hc8 c8a c8b hz1 hz2 lgs hn1 H8 hw9 h9
                        go_wp2_with (
                          at_builtin
                          go_loud (refine wpList_appG rfl (.tmp 220) (.tmp 222) _ rfl elem_strs (by decide) es_len es_one (some ⟨g8, o8, none⟩) C (R1 q).ss [s] (by rw [HZ.out]; rfl) (by have h := (H9.out.snc.own q hqt).below (below_alloc w9 (.cells #[.string s] 9)); rw [HT.out.2.2.2, HCQ.out] at h; exact h) _ 1 1 rfl rfl 9 (0, 0) (World.alloc_heap_new w9 _) (Nat.succ_pos _) ⟨by have h := HT.out.2.2.1; rw [HT.out.2.1]; omega, by simp⟩ ?_)
                          rw [HZ.out]
                          intro p2 cap2 w3 happ
                          obtain ⟨hown, hf3, hq3⟩ := happ
                          have hf4 : Frn (inRw (R1 q)) w9 w3 := by have h := (Frn.alloc (inP (some ⟨g8, o8, none⟩) C) w9 (.cells #[.string s] 9)).trans hf3; rw [← HT.out.2.2.2, ← HCQ.out] at h; exact h
                          have hgs := hf4.block gs lgs9 (fun hi => (H9.out.snc.blk q hqt gs hi).2.1 rfl)
                          have e3 : w3.cell? ⟨gs, q, none⟩ = some (.slice (some ⟨g8, o8, none⟩) Z C) := (World.cell?_of_block (w := w9) (a := ⟨gs, q, none⟩) hgs).trans c9a
                          have f3 : w3.frozen? ⟨gs, q, none⟩ = false := by have h := (H9.out.snc.cellS q hqt).2; unfold World.frozen? at h ⊢; rw [hgs]; exact h
                          have hput := H9.out.put q hqt hf4 ⟨p2, cap2, (R1 q).ss ++ [s]⟩ hown (fun b hb => (hq3 b hb).imp (fun h => by rw [← HT.out.2.2.2, ← HCQ.out] at h; exact h) (fun h => by have := h.1; simp at this; omega))
                          simp only [List.length_append, List.length_singleton, HZ.out] at hput
                          have HP := Lib.hid hput
                          clear hown hf3 hq3 hf4 hgs hput)
                        go_roundw
                        case rel => exact ⟨q + 1, upd R1 q ⟨p2, cap2, (R1 q).ss ++ [s]⟩, hqt, by go_num, HP.out, invl_app HS.out.2.1 HQM.out _ (by show _ ++ [s] = _; rw [HSS.out HQM.out])⟩
                        case measure => simp [intOf]; omega
                    · obtain rfl : q = k := by omega
                      have hnl : ¬ (q : Int) < (q : Int) := by omega
                      have hin := inv_ln (m := m) (by rw [hlen]; exact hinv)
                      have HI := Lib.hid (And.intro hst hin)
                      clear hst hinv hin hlen hqt
                      go_wp2_with fail
                      clear hnl
                      go_roundw
                      case rel => exact ⟨j + 1, _, R1, _, hlt, by go_num, HI.out.1, HI.out.2.1, HI.out.2.2⟩
                      case measure => simp [intOf]; omega
            · have q1 : (what == 1) = false := beq_eq_false_iff_ne.2 e1
              by_cases e2 : what = 2
              · subst e2
                clear q0 q1 e0 e1
                as_aux_lemma =>
                  have HFL := Lib.hid (fence9 HS6.out.1)
                  have HIV := Lib.hid (inv_f0 HS6.out.2.1)
                  go_wp2_with fail
                  refine HFL.out.mono ?_
                  rintro e w7 ⟨rfl, h7, hf7⟩
                  have H7 := Lib.hid h7
                  clear x0 x1 x2 h7 hf7 HFL HS6 hXb hXs
                  go_wp2_with fail
                  go_loopw [15] (fun i9 wr => ∃ (q : Nat) (R9 : Nat → Row) (f9 : Nat → Int), q ≤ k ∧ i9 = .int .i64 q ∧ St9 W wr O N gs gf k gs m.fence R9 f9 ∧ InvF m R9 f9 (j + 1) q) (fun i9 _ => k - (intOf i9).toNat)
                  case atStart => exact ⟨0, R, fl, Nat.zero_le _, rfl, H7.out, HIV.out⟩
                  case round =>
                    clear H7 HIV
                    obtain ⟨q, R1, f1, hq, rfl, hst, hinv⟩ := hrel
                    have hlen := hst.len
                    rw [fence_len] at hlen
                    by_cases hqt : q < k
                    · have hqt' : (q : Int) < (k : Int) := by omega
                      have hqm : q < m.length := by omega
                      obtain ⟨c7a, c7b⟩ := hst.snc.cellS q hqt
                      obtain ⟨f7a, f7b⟩ := hst.snc.cellF q hqt
                      by_cases hf : f1 q < 0
                      · have H8 := Lib.hid (And.intro hst (invf_skip hinv hqm hf))
                        obtain ⟨F, hF⟩ : ∃ F, f1 q = F := ⟨_, rfl⟩
                        rw [hF] at f7a hf
                        have d0 : decide (0 ≤ F) = false := decide_eq_false (by omega)
                        clear hst hinv hlen hqm hF hf c7a c7b
                        go_wp2_with fail
                        go_roundw
                        case rel => exact ⟨q + 1, R1, f1, hqt, by go_num, H8.out.1, H8.out.2⟩
                        case measure => simp [intOf]; omega
                      · obtain ⟨z, hz, hzl, hcut⟩ := invf_cut hinv hqm (by omega)
                        have hle := (hinv q hqm).2
                        obtain ⟨g8, o8, hp8, hzc, hlc, hcm, hown, hin⟩ := row_drop (hst.snc.own q hqt) z hzl
                        obtain ⟨Z, hZ⟩ : ∃ Z, (R1 q).ss.length = Z := ⟨_, rfl⟩
                        obtain ⟨C, hC⟩ : ∃ C, (R1 q).c = C := ⟨_, rfl⟩
                        rw [hp8, hZ, hC] at c7a
                        rw [hz] at f7a
                        rw [hZ] at hzl hlc hle
                        rw [hC] at hzc hlc hcm hown hin
                        have h8 := ((hst.put q hqt (Frn.refl _ _) ⟨some ⟨g8, o8 + z, none⟩, C - z, (R1 q).ss.drop z⟩ hown (fun b hb => .inl (hin b hb))).setF q (-1)).below (below_drewN (Below.refl _ _) 1)
                        simp only [List.length_drop, hZ] at h8
                        have H8 := Lib.hid (And.intro h8 (hcut ⟨some ⟨g8, o8 + z, none⟩, C - z, (R1 q).ss.drop z⟩ rfl))
                        have d0 : (0 : Int) ≤ (z : Int) := by omega
                        have z1 : (z : Int) ≤ (Z : Int) := by omega
                        have z2 : ¬ C = z := by omega
                        have z3 : (Z : Int) ≤ (C : Int) := by omega
                        unfold maxLen at hcm
                        have ne1 := hst.snc.ne
                        have ne2 := Ne.symm ne1
                        clear hst hinv hlen hqm hz hcut hp8 hown hin hZ hC h8 hf
                        go_upto_region 29 with fail
                        refine wp_region_noPanic ?_
                        refine wp_region_FP (fun kx w' => kx = 14 → (w'.cell? ⟨gs, q, none⟩ = some (.slice (some ⟨g8, o8, none⟩) Z C) ∧ w'.cell? ⟨gf, q, none⟩ = some (.int .i64 z))) (by kernel_rfl) (fun kx => fun _ => ⟨c7a, f7a⟩) ?_
                        intro hTill
                        clear hTill
                        have hall : ∀ kx : Nat, (fun kx w' => kx = 14 → (w'.cell? ⟨gs, q, none⟩ = some (.slice (some ⟨g8, o8, none⟩) Z C) ∧ w'.cell? ⟨gf, q, none⟩ = some (.int .i64 z))) kx wr.drew := fun kx => fun _ => ⟨c7a, f7a⟩
                        refine' wpAnyFP_take (i := 0) (v := _) 14 rfl (by kernel_rfl) (by kernel_rfl) (by kernel_rfl) (by kernel_rfl) (by rfl) (by rfl) (fun _ _ _ h => h) (fun _ h => absurd h (by decide)) (Or.inl ⟨by rfl, ?hy⟩) (fun kx _ => hall kx) _
                        case hy => (intro w0 hC; replace hC := hC rfl; (try dsimp only at hC); simp only [List.getElem_toArray, List.getElem_cons_zero]; go_simp; first | done | with_reducible rfl)
                        try simp only [Act.put, List.getElem_toArray, List.getElem_cons_zero, List.setIfInBounds_toArray, List.set_cons_zero, List.set_cons_succ]
                        refine' wpAnyFP_take (i := 1) (v := _) 14 rfl (by kernel_rfl) (by kernel_rfl) (by kernel_rfl) (by kernel_rfl) (by rfl) (by rfl) (fun _ _ _ h => h) (fun _ h => absurd h (by decide)) (Or.inl ⟨by rfl, ?hy⟩) (fun kx _ => hall kx) _
                        case hy => (intro w0 hC; replace hC := hC rfl; (try dsimp only at hC); simp only [List.getElem_toArray, List.getElem_cons_zero, List.getElem_cons_succ]; go_simp; first | done | with_reducible rfl)
                        try simp only [Act.put, List.getElem_toArray, List.getElem_cons_zero, List.getElem_cons_succ, List.setIfInBounds_toArray, List.set_cons_zero, List.set_cons_succ]
                        refine' wpAnyFP_take (i := 2) (v := _) 16 rfl (by kernel_rfl) (by kernel_rfl) (by kernel_rfl) (by kernel_rfl) (by rfl) (by rfl) (fun _ _ _ h => h) (fun _ h => absurd h (by decide)) (Or.inl ⟨by rfl, ?hy⟩) (fun kx _ => hall kx) _
                        case hy => (intro w0 hC; (try dsimp only at hC); simp only [List.getElem_toArray, List.getElem_cons_zero, List.getElem_cons_succ]; go_simp; first | done | with_reducible rfl)
                        try simp only [Act.put, List.getElem_toArray, List.getElem_cons_zero, List.getElem_cons_succ, List.setIfInBounds_toArray, List.set_cons_zero, List.set_cons_succ]
                        refine' wpAnyFP_take (i := 3) (v := _) 16 rfl (by kernel_rfl) (by kernel_rfl) (by kernel_rfl) (by kernel_rfl) (by rfl) (by rfl) (fun _ _ _ h => h) (fun _ h => absurd h (by decide)) (Or.inl ⟨by rfl, ?hy⟩) (fun kx _ => hall kx) _
                        case hy => (intro w0 hC; (try dsimp only at hC); simp only [List.getElem_toArray, List.getElem_cons_zero, List.getElem_cons_succ]; go_simp; first | done | with_reducible rfl)
                        try simp only [Act.put, List.getElem_toArray, List.getElem_cons_zero, List.getElem_cons_succ, List.setIfInBounds_toArray, List.set_cons_zero, List.set_cons_succ]
                        refine' wpAnyFP_take (i := 4) (v := _) 14 rfl (by kernel_rfl) (by kernel_rfl) (by kernel_rfl) (by kernel_rfl) (by rfl) (by rfl) (fun _ _ _ h => h) (fun _ h => absurd h (by decide)) (Or.inl ⟨by rfl, ?hy⟩) (fun kx _ => hall kx) _
                        case hy => (intro w0 hC; replace hC := hC rfl; (try dsimp only at hC); simp only [List.getElem_toArray, List.getElem_cons_zero, List.getElem_cons_succ]; go_simp; first | done | with_reducible rfl)
                        try simp only [Act.put, List.getElem_toArray, List.getElem_cons_zero, List.getElem_cons_succ, List.setIfInBounds_toArray, List.set_cons_zero, List.set_cons_succ]
                        refine' wpAnyFP_take (i := 5) (v := _) 14 rfl (by kernel_rfl) (by kernel_rfl) (by kernel_rfl) (by kernel_rfl) (by rfl) (by rfl) (fun _ _ _ h => h) (fun _ h => absurd h (by decide)) (Or.inl ⟨by rfl, ?hy⟩) (fun kx _ => hall kx) _
                        case hy => (intro w0 hC; replace hC := hC rfl; (try dsimp only at hC); simp only [List.getElem_toArray, List.getElem_cons_zero, List.getElem_cons_succ]; go_simp; first | done | with_reducible rfl)
                        try simp only [Act.put, List.getElem_toArray, List.getElem_cons_zero, List.getElem_cons_succ, List.setIfInBounds_toArray, List.set_cons_zero, List.set_cons_succ]
                        refine' wpAnyFP_take (i := 6) (v := _) 14 rfl (by kernel_rfl) (by kernel_rfl) (by kernel_rfl) (by kernel_rfl) (by rfl) (by rfl) (fun _ _ _ h => h) (fun _ h => absurd h (by decide)) (Or.inl ⟨by rfl, ?hy⟩) (fun kx _ => hall kx) _
                        case hy => (intro w0 hC; replace hC := hC rfl; (try dsimp only at hC); simp only [List.getElem_toArray, List.getElem_cons_zero, List.getElem_cons_succ]; go_simp; first | done | with_reducible rfl)
                        try simp only [Act.put, List.getElem_toArray, List.getElem_cons_zero, List.getElem_cons_succ, List.setIfInBounds_toArray, List.set_cons_zero, List.set_cons_succ]
                        refine' wpAnyFP_take (i := 7) (v := _) 14 rfl (by kernel_rfl) (by kernel_rfl) (by kernel_rfl) (by kernel_rfl) (by rfl) (by rfl) (fun _ _ _ h => h) (fun _ h => absurd h (by decide)) (Or.inl ⟨by rfl, ?hy⟩) (fun kx _ => hall kx) _
                        case hy => (intro w0 hC; replace hC := hC rfl; (try dsimp only at hC); simp only [List.getElem_toArray, List.getElem_cons_zero, List.getElem_cons_succ]; go_simp; first | done | with_reducible rfl)
                        try simp only [Act.put, List.getElem_toArray, List.getElem_cons_zero, List.getElem_cons_succ, List.setIfInBounds_toArray, List.set_cons_zero, List.set_cons_succ]
                        refine' wpAnyFP_take (i := 8) (v := _) 14 rfl (by kernel_rfl) (by kernel_rfl) (by kernel_rfl) (by kernel_rfl) (by rfl) (by rfl) (fun _ _ _ h => h) (fun _ h => absurd h (by decide)) (Or.inl ⟨by rfl, ?hy⟩) (fun kx _ => hall kx) _
                        case hy => (intro w0 hC; replace hC := hC rfl; (try dsimp only at hC); simp only [List.getElem_toArray, List.getElem_cons_zero, List.getElem_cons_succ]; go_simp; first | done | with_reducible rfl)
                        try simp only [Act.put, List.getElem_toArray, List.getElem_cons_zero, List.getElem_cons_succ, List.setIfInBounds_toArray, List.set_cons_zero, List.set_cons_succ]
                        refine' wpAnyFP_take (i := 9) (v := _) 14 rfl (by kernel_rfl) (by kernel_rfl) (by kernel_rfl) (by kernel_rfl) (by rfl) (by rfl) (fun _ _ _ h => h) (fun _ h => absurd h (by decide)) (Or.inl ⟨by rfl, ?hy⟩) (fun kx _ => hall kx) _
                        case hy => (intro w0 hC; replace hC := hC rfl; (try dsimp only at hC); simp only [List.getElem_toArray, List.getElem_cons_zero, List.getElem_cons_succ]; go_simp; first | done | with_reducible rfl)
                        try simp only [Act.put, List.getElem_toArray, List.getElem_cons_zero, List.getElem_cons_succ, List.setIfInBounds_toArray, List.set_cons_zero, List.set_cons_succ]
                        refine' wpAnyFP_take (i := 10) (v := _) 14 rfl (by kernel_rfl) (by kernel_rfl) (by kernel_rfl) (by kernel_rfl) (by rfl) (by rfl) (fun _ _ _ h => h) (fun _ h => absurd h (by decide)) (Or.inl ⟨by rfl, ?hy⟩) (fun kx _ => hall kx) _
                        case hy => (intro w0 hC; replace hC := hC rfl; (try dsimp only at hC); simp only [List.getElem_toArray, List.getElem_cons_zero, List.getElem_cons_succ]; go_simp; first | done | with_reducible rfl)
                        try simp only [Act.put, List.getElem_toArray, List.getElem_cons_zero, List.getElem_cons_succ, List.setIfInBounds_toArray, List.set_cons_zero, List.set_cons_succ]
                        refine' wpAnyFP_take (i := 11) (v := _) 14 rfl (by kernel_rfl) (by kernel_rfl) (by kernel_rfl) (by kernel_rfl) (by rfl) (by rfl) (fun _ _ _ h => h) (fun _ h => absurd h (by decide)) (Or.inl ⟨by rfl, ?hy⟩) (fun kx _ => hall kx) _
                        case hy => (intro w0 hC; replace hC := hC rfl; (try dsimp only at hC); simp only [List.getElem_toArray, List.getElem_cons_zero, List.getElem_cons_succ]; go_simp; first | done | with_reducible rfl)
                        try simp only [Act.put, List.getElem_toArray, List.getElem_cons_zero, List.getElem_cons_succ, List.setIfInBounds_toArray, List.set_cons_zero, List.set_cons_succ]
                        refine' wpAnyFP_take (i := 12) (v := _) 14 rfl (by kernel_rfl) (by kernel_rfl) (by kernel_rfl) (by kernel_rfl) (by rfl) (by rfl) (fun _ _ _ h => h) (fun _ h => absurd h (by decide)) (Or.inl ⟨by rfl, ?hy⟩) (fun kx _ => hall kx) _
                        case hy => (intro w0 hC; replace hC := hC rfl; (try dsimp only at hC); simp only [List.getElem_toArray, List.getElem_cons_zero, List.getElem_cons_succ]; go_simp; first | done | with_reducible rfl)
                        try simp only [Act.put, List.getElem_toArray, List.getElem_cons_zero, List.getElem_cons_succ, List.setIfInBounds_toArray, List.set_cons_zero, List.set_cons_succ]
                        refine' wpAnyFP_take (i := 13) (v := _) 14 rfl (by kernel_rfl) (by kernel_rfl) (by kernel_rfl) (by kernel_rfl) (by rfl) (by rfl) (fun _ _ _ h => h) (fun _ h => absurd h (by decide)) (Or.inl ⟨by rfl, ?hy⟩) (fun kx _ => hall kx) _
                        case hy => (intro w0 hC; replace hC := hC rfl; (try dsimp only at hC); simp only [List.getElem_toArray, List.getElem_cons_zero, List.getElem_cons_succ]; go_simp; first | done | with_reducible rfl)
                        try simp only [Act.put, List.getElem_toArray, List.getElem_cons_zero, List.getElem_cons_succ, List.setIfInBounds_toArray, List.set_cons_zero, List.set_cons_succ]
                        clear hall
                        refine wpAnyFP_one (i := 14) (by kernel_rfl) rfl ?_
                        intro K' hK
                        rw [if_pos (by kernel_rfl)]
                        go_simp
                        refine hK.out _ _ (fun kx hk h => Bool.noConfusion (hk.symm.trans (by subst h; kernel_rfl : _ = true))) ?_
                        clear hK K'
                        try simp only [Act.put, List.getElem_toArray, List.getElem_cons_zero, List.getElem_cons_succ, List.setIfInBounds_toArray, List.set_cons_zero, List.set_cons_succ]
                        refine wpAnyFP_one (i := 15) (by kernel_rfl) rfl ?_
                        intro K' hK
                        rw [if_pos (by kernel_rfl)]
                        go_simp
                        refine hK.out _ _ (fun kx hk h => Bool.noConfusion (hk.symm.trans (by subst h; kernel_rfl : _ = true))) ?_
                        clear hK K'
                        try simp only [Act.put, List.getElem_toArray, List.getElem_cons_zero, List.getElem_cons_succ, List.setIfInBounds_toArray, List.set_cons_zero, List.set_cons_succ]
                        refine wpAnyFP_one (i := 16) (by kernel_rfl) rfl ?_
                        intro K' hK
                        rw [if_pos (by kernel_rfl)]
                        go_simp
                        refine hK.out _ _ (fun kx hk h => Bool.noConfusion (hk.symm.trans (by subst h; kernel_rfl : _ = true))) ?_
                        clear hK K'
                        try simp only [Act.put, List.getElem_toArray, List.getElem_cons_zero, List.getElem_cons_succ, List.setIfInBounds_toArray, List.set_cons_zero, List.set_cons_succ]
                        refine wpAnyFP_done (by kernel_rfl) ?_ _
                        refine NoPanic.normal ?_
                        clear c7a c7b f7a f7b d0 z1 z2 z3 ne1 ne2 hcm hzl hzc hlc hle
                        go_wp2_with fail
                        go_roundw
                        case rel => exact ⟨q + 1, _, _, hqt, by go_num, H8.out.1, H8.out.2⟩
                        case measure => simp [intOf]; omega
                    · obtain rfl : k = q := by omega
                      have hnl : ¬ (k : Int) < (k : Int) := by omega
                      have hiv := inv_fn (m := m) (by rw [hlen]; exact hinv)
                      have HA := Lib.hid (And.intro hst hiv)
                      clear hst hinv hiv hlen hqt
                      go_wp2_with fail
                      (try clear hXb hXs)
                      go_loopw [16] (fun i9 wr => ∃ (q : Nat) (R9 : Nat → Row), q ≤ k ∧ i9 = .int .i64 q ∧ St9 W wr O N gs gf k gs (m.fence) R9 (f1) ∧ InvL (m.fence) R9 (f1) (j + 1) q) (fun i9 _ => k - (intOf i9).toNat)
                      case atStart => exact ⟨0, _, Nat.zero_le _, rfl, HA.out.1, inv_l0 HA.out.2⟩
                      case round =>
                        clear HA
                        obtain ⟨q, R1, hq, rfl, hst, hinv⟩ := hrel
                        have hlen := hst.len
                        by_cases hqt : q < k
                        · have hqt' : (q : Int) < (k : Int) := by omega
                          have hqm : q < (m.fence).length := by omega
                          have HC := content_any q wr hst.mat hqm
                          have HQM := Lib.hid hqm
                          have HS := Lib.hid (And.intro hst (And.intro hinv hlen))
                          obtain ⟨s, hs⟩ : ∃ s, strL ((m.fence)[q]'hqm).now = s := ⟨_, rfl⟩
                          rw [hs] at HC
                          have HSS : Hid (∀ h, strL ((m.fence)[q]'h).now = s) := Lib.hid (fun _ => hs)
                          have HCC := Lib.hid HC
                          have hll := hinv q hqm
                          rw [if_neg (Nat.lt_irrefl q)] at hll
                          have hpos := hll.1.pos
                          have hle := hll.2
                          clear hst hinv hlen hs HC hqm hll
                          go_wp2_with fail
                          refine HCC.out.mono ?_
                          rintro e w8 ⟨rfl, hb8⟩
                          have h8 := HS.out.1.below hb8
                          have H8 := Lib.hid h8
                          obtain ⟨z, hz⟩ : ∃ z, (R1 q).ss.length - 1 = z := ⟨_, rfl⟩
                          have hzl : (R1 q).ss.length = z + 1 := by omega
                          obtain ⟨g8, o8, hp8, hc8⟩ := row_at (h8.snc.own q hqt) z (by omega)
                          obtain ⟨t, ht⟩ : ∃ t, (R1 q).ss[z]'(by omega) = t := ⟨_, rfl⟩
                          rw [ht] at hc8
                          have HT : Hid ((R1 q).ss[z]? = some t ∧ (R1 q).ss.length = z + 1 ∧ z ≤ 100 ∧ (R1 q).p = some ⟨g8, o8, none⟩) := Lib.hid ⟨by rw [← ht]; exact List.getElem?_eq_getElem _, hzl, by omega, hp8⟩
                          obtain ⟨c8a, c8b⟩ := h8.snc.cellS q hqt
                          obtain ⟨C, hC⟩ : ∃ C, (R1 q).c = C := ⟨_, rfl⟩
                          have HCQ := Lib.hid hC
                          obtain ⟨Z, hZ⟩ : ∃ Z, (R1 q).ss.length = Z := ⟨_, rfl⟩
                          have HZ := Lib.hid hZ
                          rw [hp8, hZ, hC] at c8a
                          have hz1 : IntKind.i64.wrap ((Z : Int) - 1) = (z : Int) := by rw [IntKind.wrap_i64]; omega
                          have hz2 : (z : Int) < (Z : Int) := by omega
                          have lgs := h8.snc.ltS
                          clear hb8 h8 hz hzl ht hp8 hC hpos hle hZ HCC
                          by_cases hse : s = t
                          · have HSE := Lib.hid hse
                            have hn1 : (s.toList == t.toList) = true := by rw [hse]; simp
                            clear hse
                            go_wp2_with fail
                            go_quiet (fail)
                            have H9 := Lib.hid (H8.out.below (below_drewN (Below.refl _ w8) nq))
                            clear hc8 c8a c8b hz1 hz2 lgs hn1 H8
                            go_wp2_with fail
                            go_roundw
                            case rel => exact ⟨q + 1, R1, hqt, by go_num, H9.out, invl_same HS.out.2.1 HQM.out (by unfold Lst; rw [HT.out.2.1, Nat.add_sub_cancel, HSS.out HQM.out, HSE.out]; exact HT.out.1)⟩
                            case measure => simp [intOf]; omega
                          · have hn1 : (s.toList == t.toList) = false := by rw [beq_eq_false_iff_ne]; exact fun e => hse (by cases s; cases t; simp [ByteArray.toList_eq] at e; simpa using e)
                            clear hse
                            go_wp2_with fail
                            go_quiet (fail)
                            have h9 := H8.out.below (below_drewN (Below.refl _ w8) nq)
                            obtain ⟨w9, hw9⟩ : ∃ w9, w8.drewN nq = w9 := ⟨_, rfl⟩
                            rw [hw9] at h9
                            rw [hw9]
                            have H9 := Lib.hid h9
                            have c9a : w9.cell? ⟨gs, q, none⟩ = some (.slice (some ⟨g8, o8, none⟩) Z C) := by rw [← hw9]; exact c8a
                            have lgs9 := h9.snc.ltS
                            clear hc8 c8a c8b hz1 hz2 lgs hn1 H8 hw9 h9
                            go_wp2_with (
                              at_builtin
                              go_loud (refine wpList_appG rfl (.tmp 220) (.tmp 222) _ rfl elem_strs (by decide) es_len es_one (some ⟨g8, o8, none⟩) C (R1 q).ss [s] (by rw [HZ.out]; rfl) (by have h := (H9.out.snc.own q hqt).below (below_alloc w9 (.cells #[.string s] 9)); rw [HT.out.2.2.2, HCQ.out] at h; exact h) _ 1 1 rfl rfl 9 (0, 0) (World.alloc_heap_new w9 _) (Nat.succ_pos _) ⟨by have h := HT.out.2.2.1; rw [HT.out.2.1]; omega, by simp⟩ ?_)
                              rw [HZ.out]
                              intro p2 cap2 w3 happ
                              obtain ⟨hown, hf3, hq3⟩ := happ
                              have hf4 : Frn (inRw (R1 q)) w9 w3 := by have h := (Frn.alloc (inP (some ⟨g8, o8, none⟩) C) w9 (.cells #[.string s] 9)).trans hf3; rw [← HT.out.2.2.2, ← HCQ.out] at h; exact h
                              have hgs := hf4.block gs lgs9 (fun hi => (H9.out.snc.blk q hqt gs hi).2.1 rfl)
                              have e3 : w3.cell? ⟨gs, q, none⟩ = some (.slice (some ⟨g8, o8, none⟩) Z C) := (World.cell?_of_block (w := w9) (a := ⟨gs, q, none⟩) hgs).trans c9a
                              have f3 : w3.frozen? ⟨gs, q, none⟩ = false := by have h := (H9.out.snc.cellS q hqt).2; unfold World.frozen? at h ⊢; rw [hgs]; exact h
                              have hput := H9.out.put q hqt hf4 ⟨p2, cap2, (R1 q).ss ++ [s]⟩ hown (fun b hb => (hq3 b hb).imp (fun h => by rw [← HT.out.2.2.2, ← HCQ.out] at h; exact h) (fun h => by have := h.1; simp at this; omega))
                              simp only [List.length_append, List.length_singleton, HZ.out] at hput
                              have HP := Lib.hid hput
                              clear hown hf3 hq3 hf4 hgs hput)
                            go_roundw
                            case rel => exact ⟨q + 1, upd R1 q ⟨p2, cap2, (R1 q).ss ++ [s]⟩, hqt, by go_num, HP.out, invl_app HS.out.2.1 HQM.out _ (by show _ ++ [s] = _; rw [HSS.out HQM.out])⟩
                            case measure => simp [intOf]; omega
                        · obtain rfl : q = k := by omega
                          have hnl : ¬ (q : Int) < (q : Int) := by omega
                          have hin := inv_ln (m := m.fence) (by rw [hlen]; exact hinv)
                          have HI := Lib.hid (And.intro hst hin)
                          clear hst hinv hin hlen hqt
                          go_wp2_with fail
                          clear hnl
                          go_roundw
                          case rel => exact ⟨j + 1, _, R1, _, hlt, by go_num, HI.out.1, HI.out.2.1, HI.out.2.2⟩
                          case measure => simp [intOf]; omega
              · have q2 : (what == 2) = false := beq_eq_false_iff_ne.2 e2
                by_cases e3 : what = 3
                · subst e3
                  clear q0 q1 q2 e0 e1 e2
                  by_cases hrng : 0 ≤ at_ ∧ at_ < (m.length : Int)
                  · as_aux_lemma =>
                      have hlm := HS6.out.1.len
                      obtain ⟨i, rfl⟩ : ∃ i : Nat, at_ = i := ⟨at_.toNat, by omega⟩
                      have hik : i < k := by omega
                      have him : i < m.length := by omega
                      have hik' : (i : Int) < (k : Int) := by omega
                      have HFL := Lib.hid (evict9 i HS6.out.1 him)
                      have HLS := Lib.hid (fun h => HS6.out.2.2 i h h)
                      have HIM := Lib.hid him
                      have hle := (HS6.out.2.1 i him).2
                      clear hrng hlm him
                      go_wp2_with fail
                      refine HFL.out.mono ?_
                      rintro e w7 ⟨rfl, h7, hf7⟩
                      have y1 := (World.cell?_of_block (w := w6) (a := ⟨X, 1, none⟩) (hf7.block X hXs (fun hn => by have := (h7.nb X hn).2; omega))).trans x1
                      clear x0 x1 x2 hf7 HFL
                      go_wp2_with fail
                      refine (num7_any _ _).mono ?_
                      rintro e w8 ⟨rfl, rfl⟩
                      obtain ⟨c7a, c7b⟩ := h7.snc.cellS i hik
                      obtain ⟨f7a, f7b⟩ := h7.snc.cellF i hik
                      have hpos := (HLS.out HIM.out).pos
                      obtain ⟨z, hz⟩ : ∃ z, (R i).ss.length - 1 = z := ⟨_, rfl⟩
                      have hzl : z < (R i).ss.length := by omega
                      obtain ⟨g8, o8, hp8, hzc, hlc, hcm, hown, hin⟩ := row_drop (h7.snc.own i hik) z hzl
                      obtain ⟨Z, hZ⟩ : ∃ Z, (R i).ss.length = Z := ⟨_, rfl⟩
                      obtain ⟨C, hC⟩ : ∃ C, (R i).c = C := ⟨_, rfl⟩
                      have hcut := inv_evict HS6.out.2.1 i HIM.out (HLS.out HIM.out) ⟨some ⟨g8, o8 + z, none⟩, C - z, (R i).ss.drop z⟩ (by show _ = List.drop _ _; rw [hz])
                      rw [hp8, hZ, hC] at c7a
                      rw [hZ] at hzl hlc hle hz
                      rw [hC] at hzc hlc hcm hown hin
                      have h8 := ((h7.put i hik (Frn.refl _ _) ⟨some ⟨g8, o8 + z, none⟩, C - z, (R i).ss.drop z⟩ hown (fun b hb => .inl (hin b hb))).setF i (-1)).below (below_drewN (Below.refl _ _) 1)
                      simp only [List.length_drop, hZ] at h8
                      have hz1 : IntKind.i64.wrap ((Z : Int) - 1) = (z : Int) := by rw [IntKind.wrap_i64]; omega
                      have HA := Lib.hid (And.intro h8 hcut)
                      have d0 : (0 : Int) ≤ (z : Int) := by omega
                      have z1 : (z : Int) ≤ (Z : Int) := by omega
                      have z2 : ¬ C = z := by omega
                      have z3 : (Z : Int) ≤ (C : Int) := by omega
                      unfold maxLen at hcm
                      have ne1 := h7.snc.ne
                      have ne2 := Ne.symm ne1
                      have ne3 : X ≠ gs := by omega
                      clear h7 h8 hz hZ hC hp8 hown hin hcut hpos hle HS6 HLS
                      have hi0 : (0 : Int) ≤ (i : Int) := by omega
                      go_upto_region 32 with fail
                      refine wp_region_noPanic ?_
                      refine wp_region_FP (fun kx w' => (kx = 20 → (w'.cell? ⟨X, 1, none⟩ = some (.int .i64 i) ∧ w'.cell? ⟨gs, i, none⟩ = some (.slice (some ⟨g8, o8, none⟩) Z C))) ∧ (kx = 22 → w'.cell? ⟨X, 1, none⟩ = some (.int .i64 i))) (by kernel_rfl) (fun kx => ⟨fun _ => ⟨y1, c7a⟩, fun _ => y1⟩) ?_
                      intro hTill
                      clear hTill
                      have hall : ∀ kx : Nat, (fun kx w' => (kx = 20 → (w'.cell? ⟨X, 1, none⟩ = some (.int .i64 i) ∧ w'.cell? ⟨gs, i, none⟩ = some (.slice (some ⟨g8, o8, none⟩) Z C))) ∧ (kx = 22 → w'.cell? ⟨X, 1, none⟩ = some (.int .i64 i))) kx w8.drew := fun kx => ⟨fun _ => ⟨y1, c7a⟩, fun _ => y1⟩
                      refine' wpAnyFP_take (i := 0) (v := _) 20 rfl (by kernel_rfl) (by kernel_rfl) (by kernel_rfl) (by kernel_rfl) (by rfl) (by rfl) (fun _ _ _ h => h) (fun _ => ⟨fun h => absurd h (by decide), fun h => absurd h (by decide)⟩) (Or.inl ⟨by rfl, ?hy⟩) (fun kx _ => hall kx) _
                      case hy => (intro w0 hC; replace hC := hC.1 rfl; (try dsimp only at hC); simp only [List.getElem_toArray, List.getElem_cons_zero]; go_simp; first | done | with_reducible rfl)
                      try simp only [Act.put, List.getElem_toArray, List.getElem_cons_zero, List.setIfInBounds_toArray, List.set_cons_zero, List.set_cons_succ]
                      refine' wpAnyFP_take (i := 1) (v := _) 20 rfl (by kernel_rfl) (by kernel_rfl) (by kernel_rfl) (by kernel_rfl) (by rfl) (by rfl) (fun _ _ _ h => h) (fun _ => ⟨fun h => absurd h (by decide), fun h => absurd h (by decide)⟩) (Or.inl ⟨by rfl, ?hy⟩) (fun kx _ => hall kx) _
                      case hy => (intro w0 hC; replace hC := hC.1 rfl; (try dsimp only at hC); simp only [List.getElem_toArray, List.getElem_cons_zero, List.getElem_cons_succ]; go_simp; first | done | with_reducible rfl)
                      try simp only [Act.put, List.getElem_toArray, List.getElem_cons_zero, List.getElem_cons_succ, List.setIfInBounds_toArray, List.set_cons_zero, List.set_cons_succ]
                      refine' wpAnyFP_take (i := 2) (v := _) 20 rfl (by kernel_rfl) (by kernel_rfl) (by kernel_rfl) (by kernel_rfl) (by rfl) (by rfl) (fun _ _ _ h => h) (fun _ => ⟨fun h => absurd h (by decide), fun h => absurd h (by decide)⟩) (Or.inl ⟨by rfl, ?hy⟩) (fun kx _ => hall kx) _
                      case hy => (intro w0 hC; replace hC := hC.1 rfl; (try dsimp only at hC); simp only [List.getElem_toArray, List.getElem_cons_zero, List.getElem_cons_succ]; go_simp; first | done | with_reducible rfl)
                      try simp only [Act.put, List.getElem_toArray, List.getElem_cons_zero, List.getElem_cons_succ, List.setIfInBounds_toArray, List.set_cons_zero, List.set_cons_succ]
                      refine' wpAnyFP_take (i := 3) (v := _) 22 rfl (by kernel_rfl) (by kernel_rfl) (by kernel_rfl) (by kernel_rfl) (by rfl) (by rfl) (fun _ _ _ h => h) (fun _ => ⟨fun h => absurd h (by decide), fun h => absurd h (by decide)⟩) (Or.inl ⟨by rfl, ?hy⟩) (fun kx _ => hall kx) _
                      case hy => (intro w0 hC; (try dsimp only at hC); simp only [List.getElem_toArray, List.getElem_cons_zero, List.getElem_cons_succ]; go_simp; first | done | with_reducible rfl)
                      try simp only [Act.put, List.getElem_toArray, List.getElem_cons_zero, List.getElem_cons_succ, List.setIfInBounds_toArray, List.set_cons_zero, List.set_cons_succ]
                      refine' wpAnyFP_take (i := 4) (v := _) 22 rfl (by kernel_rfl) (by kernel_rfl) (by kernel_rfl) (by kernel_rfl) (by rfl) (by rfl) (fun _ _ _ h => h) (fun _ => ⟨fun h => absurd h (by decide), fun h => absurd h (by decide)⟩) (Or.inl ⟨by rfl, ?hy⟩) (fun kx _ => hall kx) _
                      case hy => (intro w0 hC; (try dsimp only at hC); simp only [List.getElem_toArray, List.getElem_cons_zero, List.getElem_cons_succ]; go_simp; first | done | with_reducible rfl)
                      try simp only [Act.put, List.getElem_toArray, List.getElem_cons_zero, List.getElem_cons_succ, List.setIfInBounds_toArray, List.set_cons_zero, List.set_cons_succ]
                      refine' wpAnyFP_take (i := 5) (v := _) 22 rfl (by kernel_rfl) (by kernel_rfl) (by kernel_rfl) (by kernel_rfl) (by rfl) (by rfl) (fun _ _ _ h => h) (fun _ => ⟨fun h => absurd h (by decide), fun h => absurd h (by decide)⟩) (Or.inl ⟨by rfl, ?hy⟩) (fun kx _ => hall kx) _
                      case hy => (intro w0 hC; replace hC := hC.2 rfl; (try dsimp only at hC); simp only [List.getElem_toArray, List.getElem_cons_zero, List.getElem_cons_succ]; go_simp; first | done | with_reducible rfl)
                      try simp only [Act.put, List.getElem_toArray, List.getElem_cons_zero, List.getElem_cons_succ, List.setIfInBounds_toArray, List.set_cons_zero, List.set_cons_succ]
                      refine' wpAnyFP_take (i := 6) (v := _) 20 rfl (by kernel_rfl) (by kernel_rfl) (by kernel_rfl) (by kernel_rfl) (by rfl) (by rfl) (fun _ _ _ h => h) (fun _ => ⟨fun h => absurd h (by decide), fun h => absurd h (by decide)⟩) (Or.inl ⟨by rfl, ?hy⟩) (fun kx _ => hall kx) _
                      case hy => (intro w0 hC; replace hC := hC.1 rfl; (try dsimp only at hC); simp only [List.getElem_toArray, List.getElem_cons_zero, List.getElem_cons_succ]; go_simp; first | done | with_reducible rfl)
                      try simp only [Act.put, List.getElem_toArray, List.getElem_cons_zero, List.getElem_cons_succ, List.setIfInBounds_toArray, List.set_cons_zero, List.set_cons_succ]
                      refine' wpAnyFP_take (i := 7) (v := _) 20 rfl (by kernel_rfl) (by kernel_rfl) (by kernel_rfl) (by kernel_rfl) (by rfl) (by rfl) (fun _ _ _ h => h) (fun _ => ⟨fun h => absurd h (by decide), fun h => absurd h (by decide)⟩) (Or.inl ⟨by rfl, ?hy⟩) (fun kx _ => hall kx) _
                      case hy => (intro w0 hC; replace hC := hC.1 rfl; (try dsimp only at hC); simp only [List.getElem_toArray, List.getElem_cons_zero, List.getElem_cons_succ]; go_simp; first | done | with_reducible rfl)
                      try simp only [Act.put, List.getElem_toArray, List.getElem_cons_zero, List.getElem_cons_succ, List.setIfInBounds_toArray, List.set_cons_zero, List.set_cons_succ]
                      refine' wpAnyFP_take (i := 8) (v := _) 20 rfl (by kernel_rfl) (by kernel_rfl) (by kernel_rfl) (by kernel_rfl) (by rfl) (by rfl) (fun _ _ _ h => h) (fun _ => ⟨fun h => absurd h (by decide), fun h => absurd h (by decide)⟩) (Or.inl ⟨by rfl, ?hy⟩) (fun kx _ => hall kx) _
                      case hy => (intro w0 hC; replace hC := hC.1 rfl; (try dsimp only at hC); simp only [List.getElem_toArray, List.getElem_cons_zero, List.getElem_cons_succ]; go_simp; first | done | with_reducible rfl)
                      try simp only [Act.put, List.getElem_toArray, List.getElem_cons_zero, List.getElem_cons_succ, List.setIfInBounds_toArray, List.set_cons_zero, List.set_cons_succ]
                      refine' wpAnyFP_take (i := 9) (v := _) 20 rfl (by kernel_rfl) (by kernel_rfl) (by kernel_rfl) (by kernel_rfl) (by rfl) (by rfl) (fun _ _ _ h => h) (fun _ => ⟨fun h => absurd h (by decide), fun h => absurd h (by decide)⟩) (Or.inl ⟨by rfl, ?hy⟩) (fun kx _ => hall kx) _
                      case hy => (intro w0 hC; replace hC := hC.1 rfl; (try dsimp only at hC); simp only [List.getElem_toArray, List.getElem_cons_zero, List.getElem_cons_succ]; go_simp; first | done | with_reducible rfl)
                      try simp only [Act.put, List.getElem_toArray, List.getElem_cons_zero, List.getElem_cons_succ, List.setIfInBounds_toArray, List.set_cons_zero, List.set_cons_succ]
                      refine' wpAnyFP_take (i := 10) (v := _) 20 rfl (by kernel_rfl) (by kernel_rfl) (by kernel_rfl) (by kernel_rfl) (by rfl) (by rfl) (fun _ _ _ h => h) (fun _ => ⟨fun h => absurd h (by decide), fun h => absurd h (by decide)⟩) (Or.inl ⟨by rfl, ?hy⟩) (fun kx _ => hall kx) _
                      case hy => (intro w0 hC; replace hC := hC.1 rfl; (try dsimp only at hC); simp only [List.getElem_toArray, List.getElem_cons_zero, List.getElem_cons_succ]; go_simp; first | done | with_reducible rfl)
                      try simp only [Act.put, List.getElem_toArray, List.getElem_cons_zero, List.getElem_cons_succ, List.setIfInBounds_toArray, List.set_cons_zero, List.set_cons_succ]
                      refine' wpAnyFP_take (i := 11) (v := _) 20 rfl (by kernel_rfl) (by kernel_rfl) (by kernel_rfl) (by kernel_rfl) (by rfl) (by rfl) (fun _ _ _ h => h) (fun _ => ⟨fun h => absurd h (by decide), fun h => absurd h (by decide)⟩) (Or.inl ⟨by rfl, ?hy⟩) (fun kx _ => hall kx) _
                      case hy => (intro w0 hC; replace hC := hC.1 rfl; (try dsimp only at hC); simp only [List.getElem_toArray, List.getElem_cons_zero, List.getElem_cons_succ]; go_simp; first | done | with_reducible rfl)
                      try simp only [Act.put, List.getElem_toArray, List.getElem_cons_zero, List.getElem_cons_succ, List.setIfInBounds_toArray, List.set_cons_zero, List.set_cons_succ]
                      refine' wpAnyFP_take (i := 12) (v := _) 20 rfl (by kernel_rfl) (by kernel_rfl) (by kernel_rfl) (by kernel_rfl) (by rfl) (by rfl) (fun _ _ _ h => h) (fun _ => ⟨fun h => absurd h (by decide), fun h => absurd h (by decide)⟩) (Or.inl ⟨by rfl, ?hy⟩) (fun kx _ => hall kx) _
                      case hy => (intro w0 hC; replace hC := hC.1 rfl; (try dsimp only at hC); simp only [List.getElem_toArray, List.getElem_cons_zero, List.getElem_cons_succ]; go_simp; first | done | with_reducible rfl)
                      try simp only [Act.put, List.getElem_toArray, List.getElem_cons_zero, List.getElem_cons_succ, List.setIfInBounds_toArray, List.set_cons_zero, List.set_cons_succ]
                      refine' wpAnyFP_take (i := 13) (v := _) 20 rfl (by kernel_rfl) (by kernel_rfl) (by kernel_rfl) (by kernel_rfl) (by rfl) (by rfl) (fun _ _ _ h => h) (fun _ => ⟨fun h => absurd h (by decide), fun h => absurd h (by decide)⟩) (Or.inl ⟨by rfl, ?hy⟩) (fun kx _ => hall kx) _
                      case hy => (intro w0 hC; replace hC := hC.1 rfl; (try dsimp only at hC); simp only [List.getElem_toArray, List.getElem_cons_zero, List.getElem_cons_succ]; go_simp; first | done | with_reducible rfl)
                      try simp only [Act.put, List.getElem_toArray, List.getElem_cons_zero, List.getElem_cons_succ, List.setIfInBounds_toArray, List.set_cons_zero, List.set_cons_succ]
                      refine' wpAnyFP_take (i := 14) (v := _) 20 rfl (by kernel_rfl) (by kernel_rfl) (by kernel_rfl) (by kernel_rfl) (by rfl) (by rfl) (fun _ _ _ h => h) (fun _ => ⟨fun h => absurd h (by decide), fun h => absurd h (by decide)⟩) (Or.inl ⟨by rfl, ?hy⟩) (fun kx _ => hall kx) _
                      case hy => (intro w0 hC; replace hC := hC.1 rfl; (try dsimp only at hC); simp only [List.getElem_toArray, List.getElem_cons_zero, List.getElem_cons_succ]; go_simp; first | done | with_reducible rfl)
                      try simp only [Act.put, List.getElem_toArray, List.getElem_cons_zero, List.getElem_cons_succ, List.setIfInBounds_toArray, List.set_cons_zero, List.set_cons_succ]
                      refine' wpAnyFP_take (i := 15) (v := _) 20 rfl (by kernel_rfl) (by kernel_rfl) (by kernel_rfl) (by kernel_rfl) (by rfl) (by rfl) (fun _ _ _ h => h) (fun _ => ⟨fun h => absurd h (by decide), fun h => absurd h (by decide)⟩) (Or.inl ⟨by rfl, ?hy⟩) (fun kx _ => hall kx) _
                      case hy => (intro w0 hC; replace hC := hC.1 rfl; (try dsimp only at hC); simp only [List.getElem_toArray, List.getElem_cons_zero, List.getElem_cons_succ]; go_simp; first | done | with_reducible rfl)
                      try simp only [Act.put, List.getElem_toArray, List.getElem_cons_zero, List.getElem_cons_succ, List.setIfInBounds_toArray, List.set_cons_zero, List.set_cons_succ]
                      refine' wpAnyFP_take (i := 16) (v := _) 20 rfl (by kernel_rfl) (by kernel_rfl) (by kernel_rfl) (by kernel_rfl) (by rfl) (by rfl) (fun _ _ _ h => h) (fun _ => ⟨fun h => absurd h (by decide), fun h => absurd h (by decide)⟩) (Or.inl ⟨by rfl, ?hy⟩) (fun kx _ => hall kx) _
                      case hy => (intro w0 hC; replace hC := hC.1 rfl; (try dsimp only at hC); simp only [List.getElem_toArray, List.getElem_cons_zero, List.getElem_cons_succ]; go_simp; first | done | with_reducible rfl)
                      try simp only [Act.put, List.getElem_toArray, List.getElem_cons_zero, List.getElem_cons_succ, List.setIfInBounds_toArray, List.set_cons_zero, List.set_cons_succ]
                      refine' wpAnyFP_take (i := 17) (v := _) 20 rfl (by kernel_rfl) (by kernel_rfl) (by kernel_rfl) (by kernel_rfl) (by rfl) (by rfl) (fun _ _ _ h => h) (fun _ => ⟨fun h => absurd h (by decide), fun h => absurd h (by decide)⟩) (Or.inl ⟨by rfl, ?hy⟩) (fun kx _ => hall kx) _
                      case hy => (intro w0 hC; replace hC := hC.1 rfl; (try dsimp only at hC); simp only [List.getElem_toArray, List.getElem_cons_zero, List.getElem_cons_succ]; go_simp; first | done | with_reducible rfl)
                      try simp only [Act.put, List.getElem_toArray, List.getElem_cons_zero, List.getElem_cons_succ, List.setIfInBounds_toArray, List.set_cons_zero, List.set_cons_succ]
                      refine' wpAnyFP_take (i := 18) (v := _) 20 rfl (by kernel_rfl) (by kernel_rfl) (by kernel_rfl) (by kernel_rfl) (by rfl) (by rfl) (fun _ _ _ h => h) (fun _ => ⟨fun h => absurd h (by decide), fun h => absurd h (by decide)⟩) (Or.inl ⟨by rfl, ?hy⟩) (fun kx _ => hall kx) _
                      case hy => (intro w0 hC; replace hC := hC.1 rfl; (try dsimp only at hC); simp only [List.getElem_toArray, List.getElem_cons_zero, List.getElem_cons_succ]; go_simp; first | done | with_reducible rfl)
                      try simp only [Act.put, List.getElem_toArray, List.getElem_cons_zero, List.getElem_cons_succ, List.setIfInBounds_toArray, List.set_cons_zero, List.set_cons_succ]
                      refine' wpAnyFP_take (i := 19) (v := _) 20 rfl (by kernel_rfl) (by kernel_rfl) (by kernel_rfl) (by kernel_rfl) (by rfl) (by rfl) (fun _ _ _ h => h) (fun _ => ⟨fun h => absurd h (by decide), fun h => absurd h (by decide)⟩) (Or.inl ⟨by rfl, ?hy⟩) (fun kx _ => hall kx) _
                      case hy => (intro w0 hC; replace hC := hC.1 rfl; (try dsimp only at hC); simp only [List.getElem_toArray, List.getElem_cons_zero, List.getElem_cons_succ]; go_simp; first | done | with_reducible rfl)
                      try simp only [Act.put, List.getElem_toArray, List.getElem_cons_zero, List.getElem_cons_succ, List.setIfInBounds_toArray, List.set_cons_zero, List.set_cons_succ]
                      clear hall
                      refine wpAnyFP_one (i := 20) (by kernel_rfl) rfl ?_
                      intro K' hK
                      rw [if_pos (by kernel_rfl)]
                      go_simp
                      refine hK.out _ _ (fun kx hk => ⟨fun h => Bool.noConfusion (hk.symm.trans (by subst h; kernel_rfl : _ = true)), fun _ => (World.cell?_of_block (heap_setCell_other _ ⟨gs, i, none⟩ X _ ne3)).trans y1⟩) ?_
                      clear hK K'
                      try simp only [Act.put, List.getElem_toArray, List.getElem_cons_zero, List.getElem_cons_succ, List.setIfInBounds_toArray, List.set_cons_zero, List.set_cons_succ]
                      refine wpAnyFP_one (i := 21) (by kernel_rfl) rfl ?_
                      intro K' hK
                      rw [if_pos (by kernel_rfl)]
                      go_simp
                      refine hK.out _ _ (fun kx hk => ⟨fun h => Bool.noConfusion (hk.symm.trans (by subst h; kernel_rfl : _ = true)), fun _ => (World.cell?_of_block (heap_setCell_other _ ⟨gs, i, none⟩ X _ ne3)).trans y1⟩) ?_
                      clear hK K'
                      try simp only [Act.put, List.getElem_toArray, List.getElem_cons_zero, List.getElem_cons_succ, List.setIfInBounds_toArray, List.set_cons_zero, List.set_cons_succ]
                      refine wpAnyFP_one (i := 22) (by kernel_rfl) rfl ?_
                      intro K' hK
                      rw [if_pos (by kernel_rfl)]
                      go_simp
                      refine hK.out _ _ (fun kx hk => ⟨fun h => Bool.noConfusion (hk.symm.trans (by subst h; kernel_rfl : _ = true)), fun h => Bool.noConfusion (hk.symm.trans (by subst h; kernel_rfl : _ = true))⟩) ?_
                      clear hK K'
                      try simp only [Act.put, List.getElem_toArray, List.getElem_cons_zero, List.getElem_cons_succ, List.setIfInBounds_toArray, List.set_cons_zero, List.set_cons_succ]
                      refine wpAnyFP_done (by kernel_rfl) ?_ _
                      refine NoPanic.normal ?_
                      clear hz1 y1 c7a c7b f7a f7b hik hik' hi0 d0 z1 z2 z3 ne1 ne2 ne3 hcm hzl hzc hlc
                      go_wp2_with fail
                      (try clear hXb hXs)
                      go_loopw [16] (fun i9 wr => ∃ (q : Nat) (R9 : Nat → Row), q ≤ k ∧ i9 = .int .i64 q ∧ St9 W wr O N gs gf k gs (m.evict i) R9 (upd fl i (-1)) ∧ InvL (m.evict i) R9 (upd fl i (-1)) (j + 1) q) (fun i9 _ => k - (intOf i9).toNat)
                      case atStart => exact ⟨0, _, Nat.zero_le _, rfl, HA.out.1, inv_l0 HA.out.2⟩
                      case round =>
                        clear HA
                        obtain ⟨q, R1, hq, rfl, hst, hinv⟩ := hrel
                        have hlen := hst.len
                        by_cases hqt : q < k
                        · have hqt' : (q : Int) < (k : Int) := by omega
                          have hqm : q < (m.evict i).length := by omega
                          have HC := content_any q wr hst.mat hqm
                          have HQM := Lib.hid hqm
                          have HS := Lib.hid (And.intro hst (And.intro hinv hlen))
                          obtain ⟨s, hs⟩ : ∃ s, strL ((m.evict i)[q]'hqm).now = s := ⟨_, rfl⟩
                          rw [hs] at HC
                          have HSS : Hid (∀ h, strL ((m.evict i)[q]'h).now = s) := Lib.hid (fun _ => hs)
                          have HCC := Lib.hid HC
                          have hll := hinv q hqm
                          rw [if_neg (Nat.lt_irrefl q)] at hll
                          have hpos := hll.1.pos
                          have hle := hll.2
                          clear hst hinv hlen hs HC hqm hll
                          go_wp2_with fail
                          refine HCC.out.mono ?_
                          rintro e w8 ⟨rfl, hb8⟩
                          have h8 := HS.out.1.below hb8
                          have H8 := Lib.hid h8
                          obtain ⟨z, hz⟩ : ∃ z, (R1 q).ss.length - 1 = z := ⟨_, rfl⟩
                          have hzl : (R1 q).ss.length = z + 1 := by omega
                          obtain ⟨g8, o8, hp8, hc8⟩ := row_at (h8.snc.own q hqt) z (by omega)
                          obtain ⟨t, ht⟩ : ∃ t, (R1 q).ss[z]'(by omega) = t := ⟨_, rfl⟩
                          rw [ht] at hc8
                          have HT : Hid ((R1 q).ss[z]? = some t ∧ (R1 q).ss.length = z + 1 ∧ z ≤ 100 ∧ (R1 q).p = some ⟨g8, o8, none⟩) := Lib.hid ⟨by rw [← ht]; exact List.getElem?_eq_getElem _, hzl, by omega, hp8⟩
                          obtain ⟨c8a, c8b⟩ := h8.snc.cellS q hqt
                          obtain ⟨C, hC⟩ : ∃ C, (R1 q).c = C := ⟨_, rfl⟩
                          have HCQ := Lib.hid hC
                          obtain ⟨Z, hZ⟩ : ∃ Z, (R1 q).ss.length = Z := ⟨_, rfl⟩
                          have HZ := Lib.hid hZ
                          rw [hp8, hZ, hC] at c8a
                          have hz1 : IntKind.i64.wrap ((Z : Int) - 1) = (z : Int) := by rw [IntKind.wrap_i64]; omega
                          have hz2 : (z : Int) < (Z : Int) := by omega
                          have lgs := h8.snc.ltS
                          clear hb8 h8 hz hzl ht hp8 hC hpos hle hZ HCC
                          by_cases hse : s = t
                          · have HSE := Lib.hid hse
                            have hn1 : (s.toList == t.toList) = true := by rw [hse]; simp
                            clear hse
                            go_wp2_with fail
                            go_quiet (fail)
                            have H9 := Lib.hid (H8.out.below (below_drewN (Below.refl _ w8) nq))
                            clear hc8 c8a c8b hz1 hz2 lgs hn1 H8
                            go_wp2_with fail
                            go_roundw
                            case rel => exact ⟨q + 1, R1, hqt, by go_num, H9.out, invl_same HS.out.2.1 HQM.out (by unfold Lst; rw [HT.out.2.1, Nat.add_sub_cancel, HSS.out HQM.out, HSE.out]; exact HT.out.1)⟩
                            case measure => simp [intOf]; omega
                          · have hn1 : (s.toList == t.toList) = false := by rw [beq_eq_false_iff_ne]; exact fun e => hse (by cases s; cases t; simp [ByteArray.toList_eq] at e; simpa using e)
                            clear hse
                            go_wp2_with fail
                            go_quiet (fail)
                            have h9 := H8.out.below (below_drewN (Below.refl _ w8) nq)
                            obtain ⟨w9, hw9⟩ : ∃ w9, w8.drewN nq = w9 := ⟨_, rfl⟩
                            rw [hw9] at h9
                            rw [hw9]
                            have H9 := Lib.hid h9
                            have c9a : w9.cell? ⟨gs, q, none⟩ = some (.slice (some ⟨g8, o8, none⟩) Z C) := by rw [← hw9]; exact c8a
                            have lgs9 := h9.snc.ltS
                            clear hc8 c8a c8b hz1 hz2 lgs hn1 H8 hw9 h9
                            go_wp2_with (
                              at_builtin
                              go_loud (refine wpList_appG rfl (.tmp 220) (.tmp 222) _ rfl elem_strs (by decide) es_len es_one (some ⟨g8, o8, none⟩) C (R1 q).ss [s] (by rw [HZ.out]; rfl) (by have h := (H9.out.snc.own q hqt).below (below_alloc w9 (.cells #[.string s] 9)); rw [HT.out.2.2.2, HCQ.out] at h; exact h) _ 1 1 rfl rfl 9 (0, 0) (World.alloc_heap_new w9 _) (Nat.succ_pos _) ⟨by have h := HT.out.2.2.1; rw [HT.out.2.1]; omega, by simp⟩ ?_)
                              rw [HZ.out]
                              intro p2 cap2 w3 happ
                              obtain ⟨hown, hf3, hq3⟩ := happ
                              have hf4 : Frn (inRw (R1 q)) w9 w3 := by have h := (Frn.alloc (inP (some ⟨g8, o8, none⟩) C) w9 (.cells #[.string s] 9)).trans hf3; rw [← HT.out.2.2.2, ← HCQ.out] at h; exact h
                              have hgs := hf4.block gs lgs9 (fun hi => (H9.out.snc.blk q hqt gs hi).2.1 rfl)
                              have e3 : w3.cell? ⟨gs, q, none⟩ = some (.slice (some ⟨g8, o8, none⟩) Z C) := (World.cell?_of_block (w := w9) (a := ⟨gs, q, none⟩) hgs).trans c9a
                              have f3 : w3.frozen? ⟨gs, q, none⟩ = false := by have h := (H9.out.snc.cellS q hqt).2; unfold World.frozen? at h ⊢; rw [hgs]; exact h
                              have hput := H9.out.put q hqt hf4 ⟨p2, cap2, (R1 q).ss ++ [s]⟩ hown (fun b hb => (hq3 b hb).imp (fun h => by rw [← HT.out.2.2.2, ← HCQ.out] at h; exact h) (fun h => by have := h.1; simp at this; omega))
                              simp only [List.length_append, List.length_singleton, HZ.out] at hput
                              have HP := Lib.hid hput
                              clear hown hf3 hq3 hf4 hgs hput)
                            go_roundw
                            case rel => exact ⟨q + 1, upd R1 q ⟨p2, cap2, (R1 q).ss ++ [s]⟩, hqt, by go_num, HP.out, invl_app HS.out.2.1 HQM.out _ (by show _ ++ [s] = _; rw [HSS.out HQM.out])⟩
                            case measure => simp [intOf]; omega
                        · obtain rfl : q = k := by omega
                          have hnl : ¬ (q : Int) < (q : Int) := by omega
                          have hin := inv_ln (m := m.evict i) (by rw [hlen]; exact hinv)
                          have HI := Lib.hid (And.intro hst hin)
                          clear hst hinv hin hlen hqt
                          go_wp2_with fail
                          clear hnl
                          go_roundw
                          case rel => exact ⟨j + 1, _, R1, _, hlt, by go_num, HI.out.1, HI.out.2.1, HI.out.2.2⟩
                          case measure => simp [intOf]; omega
                  · as_aux_lemma =>
                      have hlm := HS6.out.1.len
                      have HFL := Lib.hid (evict9_bad at_ HS6.out.1 hrng)
                      clear hlm
                      go_wp2_with fail
                      refine HFL.out.mono ?_
                      rintro e w7 ⟨rfl, h7⟩
                      have HA := Lib.hid (And.intro h7 HS6.out.2.1)
                      clear h7 HFL HS6 x0 x1 x2 hrng
                      go_wp2_with fail
                      refine (num7_any _ _).mono ?_
                      rintro e w8 ⟨rfl, rfl⟩
                      go_wp2_with fail
                      (try clear hXb hXs)
                      go_loopw [16] (fun i9 wr => ∃ (q : Nat) (R9 : Nat → Row), q ≤ k ∧ i9 = .int .i64 q ∧ St9 W wr O N gs gf k gs (m) R9 (fl) ∧ InvL (m) R9 (fl) (j + 1) q) (fun i9 _ => k - (intOf i9).toNat)
                      case atStart => exact ⟨0, _, Nat.zero_le _, rfl, HA.out.1, inv_l0 HA.out.2⟩
                      case round =>
                        clear HA
                        obtain ⟨q, R1, hq, rfl, hst, hinv⟩ := hrel
                        have hlen := hst.len
                        by_cases hqt : q < k
                        · have hqt' : (q : Int) < (k : Int) := by omega
                          have hqm : q < (m).length := by omega
                          have HC := content_any q wr hst.mat hqm
                          have HQM := Lib.hid hqm
                          have HS := Lib.hid (And.intro hst (And.intro hinv hlen))
                          obtain ⟨s, hs⟩ : ∃ s, strL ((m)[q]'hqm).now = s := ⟨_, rfl⟩
                          rw [hs] at HC
                          have HSS : Hid (∀ h, strL ((m)[q]'h).now = s) := Lib.hid (fun _ => hs)
                          have HCC := Lib.hid HC
                          have hll := hinv q hqm
                          rw [if_neg (Nat.lt_irrefl q)] at hll
                          have hpos := hll.1.pos
                          have hle := hll.2
                          clear hst hinv hlen hs HC hqm hll
                          go_wp2_with fail
                          refine HCC.out.mono ?_
                          rintro e w8 ⟨rfl, hb8⟩
                          have h8 := HS.out.1.below hb8
                          have H8 := Lib.hid h8
                          obtain ⟨z, hz⟩ : ∃ z, (R1 q).ss.length - 1 = z := ⟨_, rfl⟩
                          have hzl : (R1 q).ss.length = z + 1 := by omega
                          obtain ⟨g8, o8, hp8, hc8⟩ := row_at (h8.snc.own q hqt) z (by omega)
                          obtain ⟨t, ht⟩ : ∃ t, (R1 q).ss[z]'(by omega) = t := ⟨_, rfl⟩
                          rw [ht] at hc8
                          have HT : Hid ((R1 q).ss[z]? = some t ∧ (R1 q).ss.length = z + 1 ∧ z ≤ 100 ∧ (R1 q).p = some ⟨g8, o8, none⟩) := Lib.hid ⟨by rw [← ht]; exact List.getElem?_eq_getElem _, hzl, by omega, hp8⟩
                          obtain ⟨c8a, c8b⟩ := h8.snc.cellS q hqt
                          obtain ⟨C, hC⟩ : ∃ C, (R1 q).c = C := ⟨_, rfl⟩
                          have HCQ := Lib.hid hC
                          obtain ⟨Z, hZ⟩ : ∃ Z, (R1 q).ss.length = Z := ⟨_, rfl⟩
                          have HZ := Lib.hid hZ
                          rw [hp8, hZ, hC] at c8a
                          have hz1 : IntKind.i64.wrap ((Z : Int) - 1) = (z : Int) := by rw [IntKind.wrap_i64]; omega
                          have hz2 : (z : Int) < (Z : Int) := by omega
                          have lgs := h8.snc.ltS
                          clear hb8 h8 hz hzl ht hp8 hC hpos hle hZ HCC
                          by_cases hse : s = t
                          · have HSE := Lib.hid hse
                            have hn1 : (s.toList == t.toList) = true := by rw [hse]; simp
                            clear hse
                            go_wp2_with fail
                            go_quiet (fail)
                            have H9 := Lib.hid (H8.out.below (below_drewN (Below.refl _ w8) nq))
                            clear hc8 c8a c8b hz1 hz2 lgs hn1 H8
                            go_wp2_with fail
                            go_roundw
                            case rel => exact ⟨q + 1, R1, hqt, by go_num, H9.out, invl_same HS.out.2.1 HQM.out (by unfold Lst; rw [HT.out.2.1, Nat.add_sub_cancel, HSS.out HQM.out, HSE.out]; exact HT.out.1)⟩
                            case measure => simp [intOf]; omega
                          · have hn1 : (s.toList == t.toList) = false := by rw [beq_eq_false_iff_ne]; exact fun e => hse (by cases s; cases t; simp [ByteArray.toList_eq] at e; simpa using e)
                            clear hse
                            go_wp2_with fail
                            go_quiet (fail)
                            have h9 := H8.out.below (below_drewN (Below.refl _ w8) nq)
                            obtain ⟨w9, hw9⟩ : ∃ w9, w8.drewN nq = w9 := ⟨_, rfl⟩
                            rw [hw9] at h9
                            rw [hw9]
                            have H9 := Lib.hid h9
                            have c9a : w9.cell? ⟨gs, q, none⟩ = some (.slice (some ⟨g8, o8, none⟩) Z C) := by rw [← hw9]; exact c8a
                            have lgs9 := h9.snc.ltS
                            clear hc8 c8a c8b hz1 hz2 lgs hn1 H8 hw9 h9
                            go_wp2_with (
                              at_builtin
                              go_loud (refine wpList_appG rfl (.tmp 220) (.tmp 222) _ rfl elem_strs (by decide) es_len es_one (some ⟨g8, o8, none⟩) C (R1 q).ss [s] (by rw [HZ.out]; rfl) (by have h := (H9.out.snc.own q hqt).below (below_alloc w9 (.cells #[.string s] 9)); rw [HT.out.2.2.2, HCQ.out] at h; exact h) _ 1 1 rfl rfl 9 (0, 0) (World.alloc_heap_new w9 _) (Nat.succ_pos _) ⟨by have h := HT.out.2.2.1; rw [HT.out.2.1]; omega, by simp⟩ ?_)
                              rw [HZ.out]
                              intro p2 cap2 w3 happ
                              obtain ⟨hown, hf3, hq3⟩ := happ
                              have hf4 : Frn (inRw (R1 q)) w9 w3 := by have h := (Frn.alloc (inP (some ⟨g8, o8, none⟩) C) w9 (.cells #[.string s] 9)).trans hf3; rw [← HT.out.2.2.2, ← HCQ.out] at h; exact h
                              have hgs := hf4.block gs lgs9 (fun hi => (H9.out.snc.blk q hqt gs hi).2.1 rfl)
                              have e3 : w3.cell? ⟨gs, q, none⟩ = some (.slice (some ⟨g8, o8, none⟩) Z C) := (World.cell?_of_block (w := w9) (a := ⟨gs, q, none⟩) hgs).trans c9a
                              have f3 : w3.frozen? ⟨gs, q, none⟩ = false := by have h := (H9.out.snc.cellS q hqt).2; unfold World.frozen? at h ⊢; rw [hgs]; exact h
                              have hput := H9.out.put q hqt hf4 ⟨p2, cap2, (R1 q).ss ++ [s]⟩ hown (fun b hb => (hq3 b hb).imp (fun h => by rw [← HT.out.2.2.2, ← HCQ.out] at h; exact h) (fun h => by have := h.1; simp at this; omega))
                              simp only [List.length_append, List.length_singleton, HZ.out] at hput
                              have HP := Lib.hid hput
                              clear hown hf3 hq3 hf4 hgs hput)
                            go_roundw
                            case rel => exact ⟨q + 1, upd R1 q ⟨p2, cap2, (R1 q).ss ++ [s]⟩, hqt, by go_num, HP.out, invl_app HS.out.2.1 HQM.out _ (by show _ ++ [s] = _; rw [HSS.out HQM.out])⟩
                            case measure => simp [intOf]; omega
                        · obtain rfl : q = k := by omega
                          have hnl : ¬ (q : Int) < (q : Int) := by omega
                          have hin := inv_ln (m := m) (by rw [hlen]; exact hinv)
                          have HI := Lib.hid (And.intro hst hin)
                          clear hst hinv hin hlen hqt
                          go_wp2_with fail
                          clear hnl
                          go_roundw
                          case rel => exact ⟨j + 1, _, R1, _, hlt, by go_num, HI.out.1, HI.out.2.1, HI.out.2.2⟩
                          case measure => simp [intOf]; omega
                · have q3 : (what == 3) = false := beq_eq_false_iff_ne.2 e3
                  clear e0 e1 e2 e3
                  as_aux_lemma =>
                    have HA := Lib.hid (And.intro HS6.out.1 HS6.out.2.1)
                    clear HS6
                    go_wp2_with fail
                    (try clear hXb hXs)
                    go_loopw [16] (fun i9 wr => ∃ (q : Nat) (R9 : Nat → Row), q ≤ k ∧ i9 = .int .i64 q ∧ St9 W wr O N gs gf k gs (m) R9 (fl) ∧ InvL (m) R9 (fl) (j + 1) q) (fun i9 _ => k - (intOf i9).toNat)
                    case atStart => exact ⟨0, _, Nat.zero_le _, rfl, HA.out.1, inv_l0 HA.out.2⟩
                    case round =>
                      clear HA
                      obtain ⟨q, R1, hq, rfl, hst, hinv⟩ := hrel
                      have hlen := hst.len
                      by_cases hqt : q < k
                      · have hqt' : (q : Int) < (k : Int) := by omega
                        have hqm : q < (m).length := by omega
                        have HC := content_any q wr hst.mat hqm
                        have HQM := Lib.hid hqm
                        have HS := Lib.hid (And.intro hst (And.intro hinv hlen))
                        obtain ⟨s, hs⟩ : ∃ s, strL ((m)[q]'hqm).now = s := ⟨_, rfl⟩
                        rw [hs] at HC
                        have HSS : Hid (∀ h, strL ((m)[q]'h).now = s) := Lib.hid (fun _ => hs)
                        have HCC := Lib.hid HC
                        have hll := hinv q hqm
                        rw [if_neg (Nat.lt_irrefl q)] at hll
                        have hpos := hll.1.pos
                        have hle := hll.2
                        clear hst hinv hlen hs HC hqm hll
                        go_wp2_with fail
                        refine HCC.out.mono ?_
                        rintro e w8 ⟨rfl, hb8⟩
                        have h8 := HS.out.1.below hb8
                        have H8 := Lib.hid h8
                        obtain ⟨z, hz⟩ : ∃ z, (R1 q).ss.length - 1 = z := ⟨_, rfl⟩
                        have hzl : (R1 q).ss.length = z + 1 := by omega
                        obtain ⟨g8, o8, hp8, hc8⟩ := row_at (h8.snc.own q hqt) z (by omega)
                        obtain ⟨t, ht⟩ : ∃ t, (R1 q).ss[z]'(by omega) = t := ⟨_, rfl⟩
                        rw [ht] at hc8
                        have HT : Hid ((R1 q).ss[z]? = some t ∧ (R1 q).ss.length = z + 1 ∧ z ≤ 100 ∧ (R1 q).p = some ⟨g8, o8, none⟩) := Lib.hid ⟨by rw [← ht]; exact List.getElem?_eq_getElem _, hzl, by omega, hp8⟩
                        obtain ⟨c8a, c8b⟩ := h8.snc.cellS q hqt
                        obtain ⟨C, hC⟩ : ∃ C, (R1 q).c = C := ⟨_, rfl⟩
                        have HCQ := Lib.hid hC
                        obtain ⟨Z, hZ⟩ : ∃ Z, (R1 q).ss.length = Z := ⟨_, rfl⟩
                        have HZ := Lib.hid hZ
                        rw [hp8, hZ, hC] at c8a
                        have hz1 : IntKind.i64.wrap ((Z : Int) - 1) = (z : Int) := by rw [IntKind.wrap_i64]; omega
                        have hz2 : (z : Int) < (Z : Int) := by omega
                        have lgs := h8.snc.ltS
                        clear hb8 h8 hz hzl ht hp8 hC hpos hle hZ HCC
                        by_cases hse : s = t
                        · have HSE := Lib.hid hse
                          have hn1 : (s.toList == t.toList) = true := by rw [hse]; simp
                          clear hse
                          go_wp2_with fail
                          go_quiet (fail)
                          have H9 := Lib.hid (H8.out.below (below_drewN (Below.refl _ w8) nq))
                          clear hc8 c8a c8b hz1 hz2 lgs hn1 H8
                          go_wp2_with fail
                          go_roundw
                          case rel => exact ⟨q + 1, R1, hqt, by go_num, H9.out, invl_same HS.out.2.1 HQM.out (by unfold Lst; rw [HT.out.2.1, Nat.add_sub_cancel, HSS.out HQM.out, HSE.out]; exact HT.out.1)⟩
                          case measure => simp [intOf]; omega
                        · have hn1 : (s.toList == t.toList) = false := by rw [beq_eq_false_iff_ne]; exact fun e => hse (by cases s; cases t; simp [ByteArray.toList_eq] at e; simpa using e)
                          clear hse
                          go_wp2_with fail
                          go_quiet (fail)
                          have h9 := H8.out.below (below_drewN (Below.refl _ w8) nq)
                          obtain ⟨w9, hw9⟩ : ∃ w9, w8.drewN nq = w9 := ⟨_, rfl⟩
                          rw [hw9] at h9
                          rw [hw9]
                          have H9 := Lib.hid h9
                          have c9a : w9.cell? ⟨gs, q, none⟩ = some (.slice (some ⟨g8, o8, none⟩) Z C) := by rw [← hw9]; exact c8a
                          have lgs9 := h9.snc.ltS
                          clear hc8 c8a c8b hz1 hz2 lgs hn1 H8 hw9 h9
                          go_wp2_with (
                            at_builtin
                            go_loud (refine wpList_appG rfl (.tmp 220) (.tmp 222) _ rfl elem_strs (by decide) es_len es_one (some ⟨g8, o8, none⟩) C (R1 q).ss [s] (by rw [HZ.out]; rfl) (by have h := (H9.out.snc.own q hqt).below (below_alloc w9 (.cells #[.string s] 9)); rw [HT.out.2.2.2, HCQ.out] at h; exact h) _ 1 1 rfl rfl 9 (0, 0) (World.alloc_heap_new w9 _) (Nat.succ_pos _) ⟨by have h := HT.out.2.2.1; rw [HT.out.2.1]; omega, by simp⟩ ?_)
                            rw [HZ.out]
                            intro p2 cap2 w3 happ
                            obtain ⟨hown, hf3, hq3⟩ := happ
                            have hf4 : Frn (inRw (R1 q)) w9 w3 := by have h := (Frn.alloc (inP (some ⟨g8, o8, none⟩) C) w9 (.cells #[.string s] 9)).trans hf3; rw [← HT.out.2.2.2, ← HCQ.out] at h; exact h
                            have hgs := hf4.block gs lgs9 (fun hi => (H9.out.snc.blk q hqt gs hi).2.1 rfl)
                            have e3 : w3.cell? ⟨gs, q, none⟩ = some (.slice (some ⟨g8, o8, none⟩) Z C) := (World.cell?_of_block (w := w9) (a := ⟨gs, q, none⟩) hgs).trans c9a
                            have f3 : w3.frozen? ⟨gs, q, none⟩ = false := by have h := (H9.out.snc.cellS q hqt).2; unfold World.frozen? at h ⊢; rw [hgs]; exact h
                            have hput := H9.out.put q hqt hf4 ⟨p2, cap2, (R1 q).ss ++ [s]⟩ hown (fun b hb => (hq3 b hb).imp (fun h => by rw [← HT.out.2.2.2, ← HCQ.out] at h; exact h) (fun h => by have := h.1; simp at this; omega))
                            simp only [List.length_append, List.length_singleton, HZ.out] at hput
                            have HP := Lib.hid hput
                            clear hown hf3 hq3 hf4 hgs hput)
                          go_roundw
                          case rel => exact ⟨q + 1, upd R1 q ⟨p2, cap2, (R1 q).ss ++ [s]⟩, hqt, by go_num, HP.out, invl_app HS.out.2.1 HQM.out _ (by show _ ++ [s] = _; rw [HSS.out HQM.out])⟩
                          case measure => simp [intOf]; omega
                      · obtain rfl : q = k := by omega
                        have hnl : ¬ (q : Int) < (q : Int) := by omega
                        have hin := inv_ln (m := m) (by rw [hlen]; exact hinv)
                        have HI := Lib.hid (And.intro hst hin)
                        clear hst hinv hin hlen hqt
                        go_wp2_with fail
                        clear hnl
                        go_roundw
                        case rel => exact ⟨j + 1, _, R1, _, hlt, by go_num, HI.out.1, HI.out.2.1, HI.out.2.2⟩
                        case measure => simp [intOf]; omega
        · as_aux_lemma =>
            obtain rfl : K = j := by omega
            have hnl : ¬ (K : Int) < (K : Int) := by omega
            have HC := Lib.hid (And.intro hst (And.intro hinv hlast))
            clear hst hinv hlast
            go_wp2_with fail
            have hcr := crash_any p2 c2 pk wr HC.out.1.mat HC.out.1.bnd ((H0.out.2.2.below HC.out.1.bel).wide HC.out.1.bel.size) (by rw [HN.out.2.2]; omega)
            rw [HN.out.2.2] at hcr
            have HCR := Lib.hid hcr
            clear hcr
            refine HCR.out.mono ?_
            rintro e w4 ⟨O2, N2, rfl, hm4, hN4, hb4⟩
            have H4 := Lib.hid (And.intro hm4 (HC.out.1.below hb4))
            clear hm4 hN4 hb4 HCR
            go_wp2_with fail
            refine (num7_any _ _).mono ?_
            rintro e w5 ⟨rfl, rfl⟩
            go_wp2_with fail
            go_loopw [20] (fun i9 wr => ∃ q : Nat, q ≤ k ∧ i9 = .int .i64 q ∧ MAt wr O2 (m.crash pk) N2 ∧ St9 W wr O N gs gf k gs m R fl) (fun i9 _ => k - (intOf i9).toNat)
            case atStart => exact ⟨0, Nat.zero_le _, rfl, H4.out.1, H4.out.2⟩
            case round =>
              clear H4
              obtain ⟨q, hq, rfl, hmt, hst⟩ := hrel
              by_cases hqt : q < k
              · have hqt' : (q : Int) < (k : Int) := by omega
                have hqm : q < m.length := by have := hst.len; omega
                have hqc : q < (m.crash pk).length := by rw [crash_len]; exact hqm
                have HCT := content_any q wr hmt hqc
                have hhas := crash_has HC.out.2.1 HC.out.2.2 pk q hqm
                obtain ⟨s, hs⟩ : ∃ s, strL ((m.crash pk)[q]'hqc).now = s := ⟨_, rfl⟩
                rw [hs] at HCT hhas
                have HCC := Lib.hid HCT
                have HH := Lib.hid hhas
                have HS := Lib.hid (And.intro hmt hst)
                have hle := (HC.out.2.1 q hqm).2
                clear hmt hst HCT hhas hs hqc hqm
                go_wp2_with fail
                refine HCC.out.mono ?_
                rintro e w8 ⟨rfl, hb8⟩
                have H8 := Lib.hid (And.intro (HS.out.1.below hb8) (HS.out.2.below hb8))
                obtain ⟨c8a, c8b⟩ := H8.out.2.snc.cellS q hqt
                obtain ⟨Z, hZ⟩ : ∃ Z, (R q).ss.length = Z := ⟨_, rfl⟩
                rw [hZ] at c8a hle
                have HZ := Lib.hid hZ
                clear hb8 HCC HS hZ
                go_wp2_with fail
                go_loopw [22, 23] (fun f9 i9 wr => ∃ n9 : Nat, n9 ≤ Z ∧ f9 = .bool (foundB s ((R q).ss.take n9)) ∧ i9 = .int .i64 n9 ∧ wr = w8) (fun _ i9 _ => Z - (intOf i9).toNat)
                case atStart => exact ⟨0, Nat.zero_le _, rfl, rfl, rfl⟩
                case round =>
                  obtain ⟨n9, hn9, rfl, rfl, rfl⟩ := hrel
                  by_cases hnz : n9 < Z
                  · have hnz' : (n9 : Int) < (Z : Int) := by omega
                    have hz9 : n9 < (R q).ss.length := by rw [HZ.out]; exact hnz
                    obtain ⟨g8, o8, hp8, hc8⟩ := row_at (H8.out.2.snc.own q hqt) n9 hz9
                    obtain ⟨t, ht⟩ : ∃ t, (R q).ss[n9]'hz9 = t := ⟨_, rfl⟩
                    rw [ht] at hc8
                    have HT : Hid (foundB s ((R q).ss.take (n9 + 1)) = (foundB s ((R q).ss.take n9) || (t.toList == s.toList))) := Lib.hid (by rw [← found_app, ← ht, ← List.take_succ_eq_append_getElem hz9])
                    rw [hp8] at c8a
                    clear ht hp8 hz9
                    obtain ⟨F, hF⟩ : ∃ F, foundB s ((R q).ss.take n9) = F := ⟨_, rfl⟩
                    rw [hF] at HT ⊢
                    clear hF
                    cases F
                    · obtain ⟨B, hB⟩ : ∃ B, (t.toList == s.toList) = B := ⟨_, rfl⟩
                      rw [hB] at HT
                      go_wp2_with fail
                      go_roundw
                      case rel => exact ⟨n9 + 1, hnz, by rw [HT.out]; rfl, by go_num, trivial⟩
                      case measure => simp [intOf]; omega
                    · go_wp2_with fail
                      go_roundw
                      case rel => exact ⟨n9 + 1, hnz, by rw [HT.out]; rfl, by go_num, trivial⟩
                      case measure => simp [intOf]; omega
                  · obtain rfl : Z = n9 := by omega
                    have hnl9 : ¬ (Z : Int) < (Z : Int) := by omega
                    rw [found_mem (show s ∈ (R q).ss.take Z by rw [← HZ.out, List.take_length]; exact HH.out)]
                    clear hnz
                    go_wp2_with fail
                    go_roundw
                    case rel => exact ⟨q + 1, hqt, by go_num, H8.out.1, H8.out.2⟩
                    case measure => simp [intOf]; omega
              · obtain rfl : k = q := by omega
                have hnl9 : ¬ (k : Int) < (k : Int) := by omega
                have HB := Lib.hid hst.bel
                clear hmt hst hqt
                go_wp2_with fail
                refine (works7_any _).mono ?_
                rintro e w9 ⟨rfl, hb9⟩
                have H9 := Lib.hid (HB.out.trans (hb9.mono HB.out.size))
                clear hb9
                go_wp2_with fail
                go_ret
                exact ⟨rfl, H9.out⟩
end Go.Proofs.Ytaflbfmlajbjcaa
