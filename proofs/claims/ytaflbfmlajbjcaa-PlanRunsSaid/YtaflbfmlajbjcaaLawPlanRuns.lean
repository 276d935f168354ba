/- The law PlanRuns: acts done to a memory, or none. -/
import Derived.Test.YtaflbfmlajbjcaaRunC
import Derived.Test.YtaflbfmlajbjcaaPmemR
namespace Go.Proofs.Ytaflbfmlajbjcaa
open Go Go.RowKit

def fineK (n : Nat) (xs : List Act3) (k : Nat) : Bool := (xs.take k).all (fineA n)
theorem fineK_zero (n : Nat) (xs : List Act3) : fineK n xs 0 = true := by simp [fineK]
theorem fineK_succ (n : Nat) (xs : List Act3) (k : Nat) (h : k < xs.length) : fineK n xs (k + 1) = (fineK n xs k && fineA n xs[k]) := by
  unfold fineK
  rw [List.take_succ_eq_append_getElem h, List.all_append]
  simp
theorem fineK_all (n : Nat) (xs : List Act3) : fineK n xs xs.length = true ↔ ∀ x ∈ xs, fineA n x = true := by
  unfold fineK
  rw [List.take_length, List.all_eq_true]
set_option maxRecDepth 100000 in
set_option maxHeartbeats 8000000 in
theorem runs_good (p0 p1 : Option Addr) (c0 c1 : Nat) (l : List (BitVec 64)) (xs : List Act3) (W : World) (hr0 : RdL W.heap.size W p0 c0 vw l) (hr1 : RdS W.heap.size W p1 c1 3 ac3 xs)
    (h8 : 8 ≤ l.length) (h64 : l.length ≤ 64) (hmd : l.length % 8 = 0) (h60 : xs.length ≤ 60) :
    Calls Try.prog 9 #[.slice p0 l.length c0, .slice p1 xs.length c1] W fun e w' => e = .returned (.bool true) ∧ Below W.heap.size W w'  := by
  obtain ⟨n, hn⟩ : ∃ n, l.length = n := ⟨_, rfl⟩
  obtain ⟨K, hK⟩ : ∃ K, xs.length = K := ⟨_, rfl⟩
  obtain ⟨L, hL⟩ : ∃ L, n / 8 = L := ⟨_, rfl⟩
  have HN := Lib.hid (And.intro hn hK)
  have H0 := Lib.hid (And.intro hr0 hr1)
  rw [hn] at h8 h64 hmd
  rw [hK] at h60
  rw [hn, hK]
  clear hr0 hr1 hn hK
  have HLL := Lib.hid (show (Mem.of (linesOf l)).length = L by rw [of_len, linesOf_len, HN.out.1, hL])
  have HL8 := Lib.hid (show n = 8 * L ∧ 0 < L ∧ L ≤ 20000 by omega)
  have HR := Lib.hid (right8_yes n W (by omega))
  have d1 : decide (64 < (n : Int)) = false := decide_eq_false (by omega)
  have d2 : decide (60 < (K : Int)) = false := decide_eq_false (by omega)
  have HOF : Hid (∀ U, Below W.heap.size W U → Calls Try.prog 13 #[.slice p0 n c0] U fun e w' => ∃ O N, e = .returned (.tuple #[.pointer (some ⟨O, 0, none⟩), .int .i64 0]) ∧ MAt w' O (Mem.of (linesOf l)) N ∧ (∀ x, N x → U.heap.size ≤ x ∧ x < w'.heap.size) ∧ Below U.heap.size U w') := Lib.hid (fun U hU => by have h := of_any p0 c0 l U ((H0.out.1.below hU).wide hU.size) (by rw [HN.out.1]; omega) (by rw [HN.out.1]; omega) (by rw [HN.out.1]; omega); rwa [HN.out.1] at h)
  have HFX : Hid (∀ k (h : k < xs.length), fineK L xs (k + 1) = (fineK L xs k && fineA L xs[k])) := Lib.hid (fun k h => fineK_succ L xs k h)
  have hK60 : (K : Int) ≤ 60 := by omega
  clear h8 h64 hmd hL h60
  go_enter Try.func9, Try.ntmps9
  go_wp2_with fail
  refine HR.out.mono ?_
  rintro e w' ⟨rfl, rfl⟩
  go_wp2_with fail
  refine (HOF.out W (Below.refl _ _)).mono ?_
  rintro e w1 ⟨O1, N1, rfl, hm1, hN1, hb1⟩
  have H1 := Lib.hid (And.intro hm1 (And.intro hN1 hb1))
  clear hm1 hN1 hb1
  go_wp2_with fail
  refine (HOF.out w1 H1.out.2.2).mono ?_
  rintro e w2 ⟨O2, N2, rfl, hm2, hN2, hb2⟩
  have H2 : Hid (MAt w2 O1 (Mem.of (linesOf l)) N1 ∧ MAt w2 O2 (Mem.of (linesOf l)) N2 ∧ Below W.heap.size W w2) := Lib.hid ⟨H1.out.1.below hb2, hm2, H1.out.2.2.trans (hb2.mono H1.out.2.2.size)⟩
  have HNN : Hid ((∀ x, N1 x → W.heap.size ≤ x ∧ x < w1.heap.size) ∧ (∀ x, N2 x → w1.heap.size ≤ x ∧ x < w2.heap.size) ∧ W.heap.size ≤ w1.heap.size ∧ w1.heap.size ≤ w2.heap.size) := Lib.hid ⟨H1.out.2.1, hN2, H1.out.2.2.size, hb2.size⟩
  clear hm2 hN2 hb2
  go_wp2_with fail
  go_loopw [9, 10] (fun f9 i9 wr => ∃ k : Nat, k ≤ K ∧ f9 = .bool (fineK L xs k) ∧ i9 = .int .i64 k ∧ Below w2.heap.size w2 wr) (fun _ i9 _ => K - (intOf i9).toNat)
  case atStart => exact ⟨0, Nat.zero_le _, by rw [fineK_zero], rfl, Below.refl _ _⟩
  case round =>
    obtain ⟨k, hk, rfl, rfl, hb⟩ := hrel
    by_cases hlt : k < K
    · have hlt' : (k : Int) < (K : Int) := by omega
      have HB := Lib.hid hb
      replace hb := H2.out.2.2.trans (hb.mono H2.out.2.2.size)
      obtain ⟨g, o, rfl, hg, a0, a1, a2⟩ := H0.out.2.rows3 k (by rw [HN.out.2]; exact hlt)
      obtain ⟨x, hx⟩ : ∃ x, xs[k]'(by rw [HN.out.2]; exact hlt) = x := ⟨_, rfl⟩
      rw [hx] at a0 a1 a2
      have hsx := HFX.out k (by rw [HN.out.2]; exact hlt)
      rw [hx] at hsx
      obtain ⟨kd, a, V⟩ := x
      simp only at a0 a1 a2
      obtain ⟨v, hv⟩ : ∃ v : Int, (V.toNat : Int) = v := ⟨_, rfl⟩
      replace a2 : W.cell? ⟨g, o + k * 3 + 2, none⟩ = some (.int .u64 v) := by rw [← hv]; exact a2
      have b0 := (hb.cell (p := ⟨g, o + k * 3, none⟩) hg).trans a0
      have b1 := (hb.cell (p := ⟨g, o + k * 3 + 1, none⟩) hg).trans a1
      have b2 := (hb.cell (p := ⟨g, o + k * 3 + 2, none⟩) hg).trans a2
      have hgw : g < wr.heap.size := Nat.lt_of_lt_of_le hg hb.size
      have HRL : Hid (∀ U, Calls Try.prog 37 #[.agg #[.int .i64 kd, .int .i64 a, .int .u64 v], .int .i64 (n : Int)] U fun e w' => e = .returned (.bool (fineA L (kd, a, V))) ∧ Below U.heap.size U w') := Lib.hid (fun U => by have h := rightL_any (kd, a, V) L HL8.out.2.2 U; rw [← HL8.out.1] at h; unfold av3 at h; rw [← hv]; exact h)
      obtain ⟨B, hB⟩ : ∃ B, fineA L (kd, a, V) = B := ⟨_, rfl⟩
      rw [hB] at HRL hsx
      obtain ⟨F, hF⟩ : ∃ F, fineK L xs k = F := ⟨_, rfl⟩
      rw [hF] at hsx ⊢
      have HSX := Lib.hid hsx
      clear a0 a1 a2 hx hb hv hg hsx hB hF
      cases F
      · clear b0 b1 b2 hgw HRL
        go_wp2_with fail
        go_roundw
        case rel => exact ⟨k + 1, hlt, by rw [HSX.out]; rfl, by go_num, HB.out⟩
        case measure => simp [intOf]; omega
      · go_wp2_with fail
        refine (HRL.out _).mono ?_
        rintro e w3 ⟨rfl, hb3⟩
        have HB3 := Lib.hid (HB.out.trans (hb3.mono HB.out.size))
        clear hb3 b0 b1 b2 hgw HRL
        go_wp2_with fail
        go_roundw
        case rel => exact ⟨k + 1, hlt, by rw [HSX.out]; cases B <;> rfl, by go_num, HB3.out⟩
        case measure => simp [intOf]; omega
    · obtain rfl : K = k := by omega
      have hnl : ¬ (K : Int) < (K : Int) := by omega
      have H3 : Hid (MAt wr O1 (Mem.of (linesOf l)) N1 ∧ MAt wr O2 (Mem.of (linesOf l)) N2 ∧ Below W.heap.size W wr ∧ w2.heap.size ≤ wr.heap.size) := Lib.hid ⟨H2.out.1.below hb, H2.out.2.1.below hb, H2.out.2.2.trans (hb.mono H2.out.2.2.size), hb.size⟩
      have hfa := fineK_all L xs
      rw [HN.out.2] at hfa
      clear hb hlt H2
      by_cases hfine : ∀ x ∈ xs, fineA L x = true
      · rw [hfa.2 hfine]
        have hrun := run_good p1 c1 xs wr H3.out.1 ((H0.out.2.kept H3.out.2.2.1).wide H3.out.2.2.1.size) (by rw [HLL.out]; exact hfine) (fun x hx => by have := HNN.out.1 x hx; have := HNN.out.2.2.2; have := H3.out.2.2.2; omega) (fun b hb hn => by have := H0.out.2.inlt hb; have := (HNN.out.1 b hn).1; omega)
        rw [HN.out.2] at hrun
        have HRUN := Lib.hid hrun
        have HFINE := Lib.hid hfine
        clear hrun hfa hfine
        go_wp2_with fail
        refine HRUN.out.mono ?_
        rintro e w4 ⟨rfl, hm4, hf4⟩
        have H4 : Hid (MAt w4 O1 (doL (Mem.of (linesOf l)) xs) N1 ∧ MAt w4 O2 (Mem.of (linesOf l)) N2 ∧ Below W.heap.size W w4 ∧ w2.heap.size ≤ w4.heap.size) := Lib.hid ⟨hm4, H3.out.2.1.keep (fun x hx hl => hf4.block x hl (fun h1 => by have := (HNN.out.1 x h1).2; have := (HNN.out.2.1 x hx).1; omega)), H3.out.2.2.1.trans (hf4.below H3.out.2.2.1.size (fun b h1 => (HNN.out.1 b h1).1)), Nat.le_trans H3.out.2.2.2 hf4.size⟩
        clear hm4 hf4 HRUN H3
        go_wp2_with fail
        refine (num08_any _ _).mono ?_
        rintro e w5 ⟨rfl, rfl⟩
        go_wp2_with fail
        refine (num08_any _ _).mono ?_
        rintro e w5 ⟨rfl, rfl⟩
        go_wp2_with fail
        refine (num08_any _ _).mono ?_
        rintro e w5 ⟨rfl, rfl⟩
        go_wp2_with fail
        refine (run_nil _ _ _ _).mono ?_
        rintro e w6 ⟨rfl, rfl⟩
        go_wp2_with fail
        refine (num08_any _ _).mono ?_
        rintro e w7 ⟨rfl, rfl⟩
        go_wp2_with fail
        go_loopw [12] (fun i9 wr => ∃ k : Nat, k ≤ K ∧ i9 = .int .i64 k ∧ MAt wr O1 (doL (Mem.of (linesOf l)) xs) N1 ∧ MAt wr O2 (doL (Mem.of (linesOf l)) (xs.take k)) N2 ∧ Below W.heap.size W wr ∧ w2.heap.size ≤ wr.heap.size) (fun i9 _ => K - (intOf i9).toNat)
        case atStart => exact ⟨0, Nat.zero_le _, rfl, H4.out.1, H4.out.2.1, H4.out.2.2⟩
        case round =>
          clear H4
          obtain ⟨k, hk, rfl, hm1, hm2, hb, hsz⟩ := hrel
          by_cases hlt : k < K
          · have hlt' : (k : Int) < (K : Int) := by omega
            obtain ⟨g, o, rfl, hg, a0, a1, a2⟩ := H0.out.2.rows3 k (by rw [HN.out.2]; exact hlt)
            obtain ⟨x, hx⟩ : ∃ x, xs[k]'(by rw [HN.out.2]; exact hlt) = x := ⟨_, rfl⟩
            rw [hx] at a0 a1 a2
            obtain ⟨kd, a, V⟩ := x
            simp only at a0 a1 a2
            obtain ⟨v, hv⟩ : ∃ v : Int, (V.toNat : Int) = v := ⟨_, rfl⟩
            replace a2 : W.cell? ⟨g, o + k * 3 + 2, none⟩ = some (.int .u64 v) := by rw [← hv]; exact a2
            have b0 := (hb.cell (p := ⟨g, o + k * 3, none⟩) hg).trans a0
            have b1 := (hb.cell (p := ⟨g, o + k * 3 + 1, none⟩) hg).trans a1
            have b2 := (hb.cell (p := ⟨g, o + k * 3 + 2, none⟩) hg).trans a2
            have hgw : g < wr.heap.size := Nat.lt_of_lt_of_le hg hb.size
            have hfi := HFINE.out _ (List.getElem_mem (by rw [HN.out.2]; exact hlt : k < xs.length))
            rw [hx] at hfi
            have htk := doL_take (Mem.of (linesOf l)) xs k (by rw [HN.out.2]; exact hlt)
            rw [hx] at htk
            have HD : Hid (Calls Try.prog 40 #[.pointer (some ⟨O2, 0, none⟩), .agg #[.int .i64 kd, .int .i64 a, .int .u64 v]] wr fun e w' => e = .returned (.bool true) ∧ MAt w' O2 (doL (Mem.of (linesOf l)) (xs.take (k + 1))) N2 ∧ Frn N2 wr w') := Lib.hid (by rw [htk, ← hv]; exact done_any (kd, a, V) wr hm2 (fun x hx => by have := (HNN.out.2.1 x hx).2; omega) (by rw [doL_len, HLL.out]; exact hfi))
            have HM := Lib.hid (And.intro hm1 (And.intro hb hsz))
            clear a0 a1 a2 hx hb hv hg hm1 hm2 hsz hfi htk
            go_wp2_with fail
            refine HD.out.mono ?_
            rintro e w8 ⟨rfl, hm8, hf8⟩
            have H8 : Hid (MAt w8 O1 (doL (Mem.of (linesOf l)) xs) N1 ∧ MAt w8 O2 (doL (Mem.of (linesOf l)) (xs.take (k + 1))) N2 ∧ Below W.heap.size W w8 ∧ w2.heap.size ≤ w8.heap.size) := Lib.hid ⟨HM.out.1.keep (fun x hx hl => hf8.block x hl (fun h1 => by have := (HNN.out.1 x hx).2; have := (HNN.out.2.1 x h1).1; omega)), hm8, HM.out.2.1.trans (hf8.below HM.out.2.1.size (fun b h1 => by have := (HNN.out.2.1 b h1).1; have := HNN.out.2.2.1; omega)), Nat.le_trans HM.out.2.2 hf8.size⟩
            clear hm8 hf8 HD b0 b1 b2 hgw
            go_wp2_with fail
            go_roundw
            case rel => exact ⟨k + 1, hlt, by go_num, H8.out⟩
            case measure => simp [intOf]; omega
          · obtain rfl : K = k := by omega
            have hnl2 : ¬ (K : Int) < (K : Int) := by omega
            have HM : Hid (MAt wr O1 (doL (Mem.of (linesOf l)) xs) N1 ∧ MAt wr O2 (doL (Mem.of (linesOf l)) xs) N2 ∧ Below W.heap.size W wr) := Lib.hid ⟨hm1, by rw [← HN.out.2, List.take_length] at hm2; exact hm2, hb⟩
            clear hm1 hm2 hb hsz hlt
            go_wp2_with fail
            refine (sameM_any wr HM.out.1 HM.out.2.1 rfl).mono ?_
            rintro e w9 ⟨r, rfl, hr, hb9⟩
            obtain rfl : r = true := hr.2 rfl
            have H9 := Lib.hid (HM.out.2.2.trans (hb9.mono HM.out.2.2.size))
            clear hr hb9
            go_wp2_with fail
            refine (works08_any _).mono ?_
            rintro e w' ⟨rfl, hb⟩
            have HBW := Lib.hid (H9.out.trans (hb.mono H9.out.size))
            clear hb
            go_wp2_with fail
            go_ret
            exact ⟨rfl, HBW.out⟩
      · rw [Bool.eq_false_iff.2 (fun h => hfine (hfa.1 h))]
        have hrun := run_bad p1 c1 xs wr H3.out.1 ((H0.out.2.kept H3.out.2.2.1).wide H3.out.2.2.1.size) (by rw [HLL.out]; exact hfine)
        rw [HN.out.2] at hrun
        have HRUN := Lib.hid hrun
        clear hrun hfa hfine
        go_wp2_with fail
        refine HRUN.out.mono ?_
        rintro e w4 ⟨rfl, hb4⟩
        have H4 : Hid (MAt w4 O1 (Mem.of (linesOf l)) N1 ∧ MAt w4 O2 (Mem.of (linesOf l)) N2 ∧ Below W.heap.size W w4) := Lib.hid ⟨H3.out.1.below hb4, H3.out.2.1.below hb4, H3.out.2.2.1.trans (hb4.mono H3.out.2.2.1.size)⟩
        clear hb4 HRUN H3
        go_wp2_with fail
        refine (num08_any _ _).mono ?_
        rintro e w5 ⟨rfl, rfl⟩
        go_wp2_with fail
        refine (num08_any _ _).mono ?_
        rintro e w5 ⟨rfl, rfl⟩
        go_wp2_with fail
        refine (num08_any _ _).mono ?_
        rintro e w5 ⟨rfl, rfl⟩
        go_wp2_with fail
        refine (run_nil _ _ _ _).mono ?_
        rintro e w6 ⟨rfl, rfl⟩
        go_wp2_with fail
        refine (num08_any _ _).mono ?_
        rintro e w7 ⟨rfl, rfl⟩
        go_wp2_with fail
        refine (sameM_any w7 H4.out.1 H4.out.2.1 rfl).mono ?_
        rintro e w9 ⟨r, rfl, hr, hb9⟩
        obtain rfl : r = true := hr.2 rfl
        have H9 := Lib.hid (H4.out.2.2.trans (hb9.mono H4.out.2.2.size))
        clear hr hb9
        go_wp2_with fail
        refine (works08_any _).mono ?_
        rintro e w' ⟨rfl, hb⟩
        have HBW := Lib.hid (H9.out.trans (hb.mono H9.out.size))
        clear hb
        go_wp2_with fail
        go_ret
        exact ⟨rfl, HBW.out⟩
set_option maxRecDepth 100000 in
set_option maxHeartbeats 8000000 in
theorem lawPlanRuns (p0 p1 : Option Addr) (c0 c1 : Nat) (l : List (BitVec 64)) (xs : List Act3) (W : World) (hr0 : RdL W.heap.size W p0 c0 vw l) (hr1 : RdS W.heap.size W p1 c1 3 ac3 xs) :
    Calls Try.prog 9 #[.slice p0 l.length c0, .slice p1 xs.length c1] W fun e w' => e = .returned (.bool true) ∧ Below W.heap.size W w'  := by
  by_cases hg : (8 ≤ l.length ∧ l.length ≤ 64 ∧ l.length % 8 = 0) ∧ xs.length ≤ 60
  · exact runs_good p0 p1 c0 c1 l xs W hr0 hr1 hg.1.1 hg.1.2.1 hg.1.2.2 hg.2
  clear hr0 hr1
  obtain ⟨n, hn⟩ : ∃ n, l.length = n := ⟨_, rfl⟩
  obtain ⟨K, hK⟩ : ∃ K, xs.length = K := ⟨_, rfl⟩
  rw [hn, hK] at hg
  rw [hn, hK]
  clear hn hK
  by_cases h64 : 64 < n
  · have d1 : decide (64 < (n : Int)) = true := decide_eq_true (by omega)
    clear h64 hg
    go_enter Try.func9, Try.ntmps9
    go_wp2_with fail
    refine (works08_any _).mono ?_
    rintro e w' ⟨rfl, hb⟩
    have HB := Lib.hid hb
    clear hb
    go_wp2_with fail
    go_ret
    exact ⟨rfl, HB.out⟩
  · have d1 : decide (64 < (n : Int)) = false := decide_eq_false (by omega)
    by_cases hr : 8 ≤ n ∧ n ≤ 131072 ∧ n % 8 = 0
    · have HR := Lib.hid (right8_yes n W hr)
      have d2 : decide (60 < (K : Int)) = true := decide_eq_true (by omega)
      clear h64 hr hg
      go_enter Try.func9, Try.ntmps9
      go_wp2_with fail
      refine HR.out.mono ?_
      rintro e w' ⟨rfl, rfl⟩
      go_wp2_with fail
      refine (works08_any _).mono ?_
      rintro e w' ⟨rfl, hb⟩
      have HB := Lib.hid hb
      clear hb
      go_wp2_with fail
      go_ret
      exact ⟨rfl, HB.out⟩
    · have HR := Lib.hid (right8_no n W hr)
      clear h64 hr hg
      go_enter Try.func9, Try.ntmps9
      go_wp2_with fail
      refine HR.out.mono ?_
      rintro e w' ⟨rfl, rfl⟩
      go_wp2_with fail
      refine (works08_any _).mono ?_
      rintro e w' ⟨rfl, hb⟩
      have HB := Lib.hid hb
      clear hb
      go_wp2_with fail
      go_ret
      exact ⟨rfl, HB.out⟩
theorem lawPlanRuns_of {α : Type} {enc : α → List Value} (p0 : Option Addr) (c0 : Nat) (l : List (BitVec 64)) (p1 : Option Addr) (c1 : Nat) (ys : List α) (W : World) (hr0 : RdL W.heap.size W p0 c0 vw l) (hr1 : RdS W.heap.size W p1 c1 3 enc ys) (f : α → Act3) (hf : ∀ y, enc y = ac3 (f y)) :
    Calls Try.prog 9 #[.slice p0 l.length c0, .slice p1 ys.length c1] W fun e w' => e = .returned (.bool true) ∧ Below W.heap.size W w' := by
  have := lawPlanRuns p0 p1 c0 c1 l (ys.map f) W hr0 (hr1.mapR f hf)
  rwa [List.length_map] at this
end Go.Proofs.Ytaflbfmlajbjcaa
