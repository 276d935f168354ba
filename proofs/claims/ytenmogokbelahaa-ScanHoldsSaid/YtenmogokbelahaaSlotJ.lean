/- The walk of ScanHolds' own function between: a reader beside the stores. -/
import Derived.Test.YtenmogokbelahaaSlotI
namespace Go.Proofs.Ytenmogokbelahaa
open Go Go.RowKit

/-- How it stands behind k turns, t of them stores. -/
structure BtSt (w : World) (way : Nat) (left : BitVec 64) (s : List (BitVec 64)) (key : BitVec 64) (l : List St) (nt O k t : Nat) (r : Rd) (q' : Option Addr) (d' : Nat) (W : World) : Prop where
  tl : t ≤ l.length
  tt : t ≤ nt ∧ k = t + r.loads
  rd : RdL W.heap.size W q' d' vw (rowT s l t)
  ap : ∀ b, inP q' d' b → w.heap.size ≤ b ∧ b ≠ O
  at_ : RAt W O r (fun b => w.heap.size ≤ b)
  ok : OkR r
  sl : r.slots = s.length / 2
  rch : Rch (fun i t => atW left (rowT s l t) i) l.length (newR way (s.length / 2) key) r t
  bel : Below w.heap.size w W
theorem RdS.one {B : Nat} {w : World} {b off d : Nat} {ys : List St} (h : RdS B w (some ⟨b, off, none⟩) d 2 sc ys) (t : Nat) (ht : t < ys.length) (d' : Nat) (hd : 1 ≤ d') (hd' : d' ≤ 9223372036854775807) : RdS B w (some ⟨b, off + t * 2, none⟩) d' 2 sc [ys[t]] := by
  obtain ⟨h1, h2, h3⟩ := h
  refine ⟨hd, hd', .inr ?_⟩
  rcases h3 with rfl | ⟨b', off', hp, hb, hc⟩
  · omega
  · cases hp
    refine ⟨b, off + t * 2, rfl, hb, fun i hi j v hv => ?_⟩
    obtain rfl : i = 0 := by simpa using hi
    have := hc t ht j v hv
    rw [Nat.zero_mul, Nat.zero_add, Nat.add_assoc]
    exact this
set_option maxRecDepth 100000 in
set_option maxHeartbeats 8000000 in
theorem between_any (way : Nat) (hway : way = 1 ∨ way = 2) (left : BitVec 64) (p : Option Addr) (cap : Nat) (s : List (BitVec 64)) (key : BitVec 64) (q : Option Addr) (d : Nat) (l : List St) (pt : Option Addr) (ct : Nat) (ts : List (BitVec 8)) (w : World)
    (hrd : RdL w.heap.size w p cap vw s) (hrs : RdS w.heap.size w q d 2 sc l) (hrt : RdL w.heap.size w pt ct vb ts) (h4 : 4 ≤ s.length) (hl : s.length ≤ 56) (hev : s.length % 2 = 0) (hl2 : l.length ≤ 200) (hlt : ts.length ≤ 300) (hin : ∀ x ∈ l, x.1 < s.length) :
    Calls Try.prog 28 #[.int .i64 way, vw left, .slice p s.length cap, vw key, .slice q l.length d, .slice pt ts.length ct] w fun e w' => ∃ r t, Rch (mkTm left s l).at l.length (newR way (s.length / 2) key) r t ∧ r.done = true ∧ e = .returned (.tuple #[vw r.found.1, .bool r.found.2, .bool true]) ∧ Below w.heap.size w w' := by
  obtain ⟨m, hm⟩ : ∃ m, s.length / 2 = m := ⟨_, rfl⟩
  obtain ⟨d1, d2⟩ := half (n := s.length) (by omega)
  have d3 : (s.length : Int) / 2 = (m : Int) := by omega
  rw [d3] at d1 d2
  have HNEW := Lib.hid (new_ok way m key w hway (by omega) (by omega))
  have HRD := Lib.hid hrd
  have HRS := Lib.hid hrs
  have HRT := Lib.hid hrt
  have HIN := Lib.hid hin
  have HM := Lib.hid (show 2 * m = s.length ∧ s.length / 2 = m by omega)
  clear hrd hrs hrt hin hm
  go_enter Try.func28, Try.ntmps28
  go_wp2_with fail
  refine HNEW.out.mono ?_
  rintro e w1 ⟨O, rfl, hr1, hb1⟩
  have hA1 : At w.heap.size w w1 := ⟨hb1, hb1.size⟩
  have HOO := Lib.hid (And.intro hr1.own hr1.lt)
  have HR1 := Lib.hid hr1
  have HS := Lib.hid ((hA1.alloc (.cells #[] 23)).rdl HRD.out)
  have HAt := Lib.hid hA1
  clear hr1 hb1 hA1 HNEW
  go_wp2_with fail
  refine (num10_any _ _).mono ?_
  rintro e w' ⟨rfl, rfl⟩
  go_wp2_with (at_builtin
               refine wpList_append0 rfl (.tmp 34) (.tmp 35) _ rfl elem_s64 vw w1.heap.size s _ rfl _ _ _ rfl (own_empty w1 _ _ _ (Nat.le_refl _)) HS.out (fun _ => rfl) ?_ ?_ ?_ ?_
               · omega
               · omega
               · simp
               intro v w2 hown hg _
               have HB2 := Lib.hid (show Below w1.heap.size w1 w2 from below_grown ((Below.refl _ w1).alloc (Nat.le_refl _) _) hg (by simp) (by intro b hb; cases hb; exact Nat.le_refl _))
               have HO2 := Lib.hid hown
               clear hg hown)
  obtain ⟨g, c, rfl, hg0, hc, hcm⟩ := own_pos HO2.out (by omega)
  have hst0 : BtSt w way left s key l ts.length O 0 0 (newR way m key) (some ⟨g, 0, none⟩) c w2 := by
    refine ⟨Nat.zero_le _, ⟨Nat.zero_le _, rfl⟩, rdl_own HO2.out hc hcm (own_lt HO2.out), ?_, HR1.out.keep HB2.out.size (fun b _ hb => HB2.out.block b hb), newR_ok hway (by have := HM.out; omega) (by have := HM.out; omega), HM.out.2.symm, ?_, HAt.out.1.trans (HB2.out.mono HAt.out.1.size)⟩
    · rintro b ⟨a, ha, hab, -⟩
      cases ha
      have := HAt.out.1.size
      have := HOO.out.2
      simp only at hab
      omega
    · rw [HM.out.2]
      exact Rch.start _ _ _
  have HST0 := Lib.hid hst0
  clear hst0 hg0 hc hcm HS HAt HR1 HO2 HB2
  go_loopw [17, 18, 19] (fun x17 x18 x19 wr => ∃ (k t : Nat) (r : Rd) (q' : Option Addr) (d' : Nat), x17 = .slice q' s.length d' ∧ x18 = .int .i64 t ∧ x19 = .int .i64 k ∧ BtSt w way left s key l ts.length O k t r q' d' wr)
    (fun _ _ x19 _ => ts.length + 5 * s.length - (intOf x19).toNat)
  case atStart => exact ⟨0, 0, _, _, _, rfl, rfl, rfl, HST0.out⟩
  case round =>
    obtain ⟨k, t, r, q', d', rfl, rfl, rfl, hst⟩ := hrel
    have HST := Lib.hid hst
    have HWANT := Lib.hid (wantsR_any wr hst.at_)
    have HFND := Lib.hid (foundR_any wr hst.at_)
    have hload : r.loads ≤ 2 * s.length := by
      have h1 := hst.ok.rem
      have h2 := hst.sl
      have h3 := HM.out
      omega
    have hk5 : k < ts.length + 5 * s.length := by
      have h1 := hst.tt
      omega
    have hk5' : (k : Int) < (ts.length : Int) + 5 * (s.length : Int) := by omega
    have hw1 : IntKind.i64.wrap (5 * (s.length : Int)) = 5 * (s.length : Int) := by rw [IntKind.wrap_i64]; omega
    have hw2 : IntKind.i64.wrap ((ts.length : Int) + 5 * (s.length : Int)) = (ts.length : Int) + 5 * (s.length : Int) := by rw [IntKind.wrap_i64]; omega
    have hw3 : IntKind.i64.wrap ((k : Int) + 1) = (k : Int) + 1 := by rw [IntKind.wrap_i64]; omega
    clear hload
    cases hd : r.done with
    | true =>
      have hwv : wantV r = .tuple #[.int .i64 0, .bool false] := by unfold wantV; rw [hd]; rfl
      have hfv : foundV r = .tuple #[vw r.found.1, .bool r.found.2, .bool true] := by unfold foundV; rw [hd]
      rw [hwv] at HWANT
      rw [hfv] at HFND
      have HD := Lib.hid hd
      clear hst hd hwv hfv
      go_wp2_with fail
      refine HWANT.out.mono ?_
      rintro e w' ⟨rfl, rfl⟩
      go_wp2_with fail
      refine HFND.out.mono ?_
      rintro e w' ⟨rfl, rfl⟩
      go_wp2_with fail
      go_ret3
      exact ⟨r, t, by rw [mkTm_at]; exact HST.out.rch, HD.out, rfl, HST.out.bel⟩
    | false =>
      have hwv : wantV r = .tuple #[.int .i64 r.wants, .bool true] := by unfold wantV; rw [hd]; rfl
      rw [hwv] at HWANT
      have hwin := wants_in hst.ok hd
      have hsl := hst.sl
      obtain ⟨x, hx⟩ : ∃ x, r.wants = x := ⟨_, rfl⟩
      rw [hx] at HWANT hwin
      have hm2 := HM.out
      have hxl : x < (s.length : Int) := by omega
      have hx1 : decide (x < -1) = false := decide_eq_false (by omega)
      have hx2 : ¬ x < -1 := by omega
      have hx3 : decide ((s.length : Int) ≤ x) = false := decide_eq_false (by omega)
      have hx4 : ¬ (s.length : Int) ≤ x := by omega
      obtain ⟨v, hv⟩ : ∃ v, atW left (rowT s l t) x = v := ⟨_, rfl⟩
      have hAT := refAt_any left q' d' (rowT s l t) x wr hst.rd (by rw [rowT_len]; exact hxl)
      rw [rowT_len, hv] at hAT
      have HAT := Lib.hid hAT
      have HGV := Lib.hid (give_any v wr hst.at_ hst.ok hd)
      have HNEXT : Hid (∀ w3, RAt w3 O (r.give v) (fun b => w.heap.size ≤ b ∨ wr.heap.size ≤ b) → Frn (fun b => b = O) wr w3 → BtSt w way left s key l ts.length O (k + 1) t (r.give v) q' d' w3) := Lib.hid (by
        intro w3 hr3 hf3
        have hg := give_ok hst.ok hd v
        have hrc := hst.rch.load hst.tl hd
        rw [hx, hv] at hrc
        exact ⟨hst.tl, ⟨hst.tt.1, by have := hst.tt.2; omega⟩, (hst.rd.keep (fun a ha h0 => hf3.block _ (hst.rd.lt ha h0) (hst.ap _ ⟨a, ha, rfl, h0⟩).2)).wide hf3.size, hst.ap, hr3.mono (fun b hb _ => hb.elim id (fun hb => Nat.le_trans hst.bel.size hb)), hg.1, (give_same r v).2.1.trans hst.sl, hrc,
          hst.bel.trans (hf3.below hst.bel.size (fun b hb => by rw [hb]; exact HOO.out.1))⟩)
      have hk1 := hst.tt
      have htl := hst.tl
      have hbel := hst.bel
      have HX := Lib.hid (And.intro hx (And.intro hv hd))
      have HSL := Lib.hid hsl
      clear hst hd hwv hsl hx hm2 hwin hv hAT HFND
      by_cases hkn : k < ts.length
      · have hkn' : (k : Int) < (ts.length : Int) := by omega
        obtain ⟨b, off, hpo, hbl, hc⟩ := HRT.out.at k hkn
        have hc := (hbel.cell (p := ⟨b, off + k, none⟩) hbl).trans hc
        obtain ⟨Y, hY⟩ : ∃ Y : Nat, ts[k].toNat = Y := ⟨_, rfl⟩
        have hvb : vb ts[k] = .int .u8 (Y : Int) := by rw [← hY]
        rw [hvb] at hc
        have hY8 : Y < 256 := by rw [← hY]; exact ts[k].isLt
        have HTB := Lib.hid (And.intro htl hk1)
        subst hpo
        clear hY hvb hbel
        rcases Nat.mod_two_eq_zero_or_one Y with hp | hp
        · have hp1 : IntKind.u8.wrap ((Y : Int).tmod 2) = 0 := by rw [IntKind.wrap_u8, Int.tmod_eq_emod_of_nonneg (by omega)]; omega
          have hp2 : (Y : Int) % 2 = 0 := by omega
          have hp3 : (Y : Int).tmod 2 = 0 := by rw [Int.tmod_eq_emod_of_nonneg (by omega)]; omega
          have hp4 : IntKind.u8.wrap 0 = 0 := rfl
          clear hp htl hk1
          go_wp2_with fail
          refine HWANT.out.mono ?_
          rintro e w' ⟨rfl, rfl⟩
          go_wp2_with fail
          refine HAT.out.mono ?_
          rintro e w' ⟨rfl, rfl⟩
          go_wp2_with fail
          refine HGV.out.mono ?_
          rintro e w3 ⟨rfl, hr3, hf3⟩
          have HNX := Lib.hid (HNEXT.out w3 hr3 hf3)
          clear hr3 hf3
          go_wp2_with fail
          go_roundw
          case rel => exact ⟨k + 1, t, r.give v, q', d', rfl, rfl, by go_num, HNX.out⟩
          case measure => simp [intOf]; omega
        · have hp1 : IntKind.u8.wrap ((Y : Int).tmod 2) = 1 := by rw [IntKind.wrap_u8, Int.tmod_eq_emod_of_nonneg (by omega)]; omega
          have hp2 : (Y : Int) % 2 = 1 := by omega
          have hp3 : (Y : Int).tmod 2 = 1 := by rw [Int.tmod_eq_emod_of_nonneg (by omega)]; omega
          have hp4 : IntKind.u8.wrap 1 = 1 := rfl
          clear hp hk1
          by_cases htn : t < l.length
          · have htn' : (t : Int) < (l.length : Int) := by omega
            have hwt : IntKind.i64.wrap ((t : Int) + 1) = (t : Int) + 1 := by rw [IntKind.wrap_i64]; omega
            obtain ⟨b2, off2, hq, hbl2, -⟩ := HRS.out.sts t htn
            subst hq
            have hdc := HRS.out.1
            have hrw : RdS wr.heap.size wr (some ⟨b2, off2, none⟩) d 2 sc l := RdS.wideB (RdS.keep HRS.out (fun b hi => HST.out.bel.block b (HRS.out.inlt hi))) HST.out.bel.size
            have hap := apply_any q' d' (rowT s l t) (some ⟨b2, off2 + t * 2, none⟩) (d - t) [l[t]] wr HST.out.rd (hrw.one t htn (d - t) (by omega) (by have := HRS.out.2.1; unfold maxLen at this; omega)) (by rw [rowT_len]; omega) (by rw [rowT_len]; omega) (by simp) (by intro y hy; rw [List.mem_singleton] at hy; subst hy; rw [rowT_len]; exact HIN.out _ (List.getElem_mem htn))
            have hone : rowT (rowT s l t) [l[t]] [l[t]].length = rowT s l (t + 1) := by rw [rowT_succ s l t htn]; rfl
            rw [hone, rowT_len] at hap
            simp only [List.length_singleton] at hap
            have HAP := Lib.hid hap
            have HTN := Lib.hid htn
            clear hrw hap hone hbl2
            go_wp2_with fail
            refine HWANT.out.mono ?_
            rintro e w' ⟨rfl, rfl⟩
            go_wp2_with fail
            refine HAP.out.mono ?_
            rintro e w3 ⟨q3, d3', rfl, hr3, hq3, hb3⟩
            have hnew : BtSt w way left s key l ts.length O (k + 1) (t + 1) r q3 d3' w3 := by
              have h := HST.out
              have h1 := h.tt
              have h2 := h.at_.lt
              refine ⟨HTN.out, ⟨by omega, by omega⟩, hr3, fun b hb => ⟨Nat.le_trans h.bel.size (hq3 b hb), by have := hq3 b hb; omega⟩, h.at_.keep hb3.size (fun b _ hl => hb3.block b hl), h.ok, h.sl, h.rch.store HTN.out, h.bel.trans (hb3.mono h.bel.size)⟩
            have HNX := Lib.hid hnew
            clear hr3 hq3 hb3 hnew
            go_wp2_with fail
            go_roundw
            case rel => exact ⟨k + 1, t + 1, r, q3, d3', rfl, by go_num, by go_num, HNX.out⟩
            case measure => simp [intOf]; omega
          · have htn' : ¬ (t : Int) < (l.length : Int) := by omega
            have htn2 : decide ((t : Int) < (l.length : Int)) = false := decide_eq_false htn'
            clear htn htl
            go_wp2_with fail
            refine HWANT.out.mono ?_
            rintro e w' ⟨rfl, rfl⟩
            go_wp2_with fail
            refine HAT.out.mono ?_
            rintro e w' ⟨rfl, rfl⟩
            go_wp2_with fail
            refine HGV.out.mono ?_
            rintro e w3 ⟨rfl, hr3, hf3⟩
            have HNX := Lib.hid (HNEXT.out w3 hr3 hf3)
            clear hr3 hf3
            go_wp2_with fail
            go_roundw
            case rel => exact ⟨k + 1, t, r.give v, q', d', rfl, rfl, by go_num, HNX.out⟩
            case measure => simp [intOf]; omega
      · have hkn' : ¬ (k : Int) < (ts.length : Int) := by omega
        have hkn2 : decide ((k : Int) < (ts.length : Int)) = false := decide_eq_false hkn'
        clear hkn htl hk1 hbel
        go_wp2_with fail
        refine HWANT.out.mono ?_
        rintro e w' ⟨rfl, rfl⟩
        go_wp2_with fail
        refine HAT.out.mono ?_
        rintro e w' ⟨rfl, rfl⟩
        go_wp2_with fail
        refine HGV.out.mono ?_
        rintro e w3 ⟨rfl, hr3, hf3⟩
        have HNX := Lib.hid (HNEXT.out w3 hr3 hf3)
        clear hr3 hf3
        go_wp2_with fail
        go_roundw
        case rel => exact ⟨k + 1, t, r.give v, q', d', rfl, rfl, by go_num, HNX.out⟩
        case measure => simp [intOf]; omega
end Go.Proofs.Ytenmogokbelahaa
