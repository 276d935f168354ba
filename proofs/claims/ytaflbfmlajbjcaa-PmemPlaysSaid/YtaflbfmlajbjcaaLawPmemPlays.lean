/- The law PmemPlays. -/
import Derived.Test.YtaflbfmlajbjcaaPmeD
namespace Go.Proofs.Ytaflbfmlajbjcaa
open Go Go.RowKit

set_option maxRecDepth 100000 in
set_option maxHeartbeats 8000000 in
theorem lawPmemPlays (p0 p1 : Option Addr) (c0 c1 : Nat) (l : List (BitVec 64)) (sc : List ActA) (W : World) (hr0 : RdL W.heap.size W p0 c0 vw l) (hr1 : RdS W.heap.size W p1 c1 3 ac sc) :
    Calls Try.prog 5 #[.slice p0 l.length c0, .slice p1 sc.length c1] W fun e w' => e = .returned (.bool true) ∧ Below W.heap.size W w' := by
  obtain ⟨n, hn⟩ : ∃ n, l.length = n := ⟨_, rfl⟩
  obtain ⟨K, hK⟩ : ∃ K, sc.length = K := ⟨_, rfl⟩
  have HN := Lib.hid (And.intro hn hK)
  have H0 := Lib.hid (And.intro hr0 hr1)
  rw [hn, hK]
  clear hr0 hr1 hn hK
  by_cases h64 : 64 < n
  · have d1 : decide (64 < (n : Int)) = true := decide_eq_true (by omega)
    clear h64
    go_enter Try.func5, Try.ntmps5
    go_wp2_with fail
    refine (works7_any _).mono ?_
    rintro e w' ⟨rfl, hb⟩
    have HB := Lib.hid hb
    clear hb
    go_wp2_with fail
    go_ret
    exact ⟨rfl, HB.out⟩
  · have d1 : decide (64 < (n : Int)) = false := decide_eq_false (by omega)
    by_cases hr : 8 ≤ n ∧ n ≤ 131072 ∧ n % 8 = 0
    · have HR := Lib.hid (right7_yes n W hr)
      by_cases h60 : 60 < K
      · have d2 : decide (60 < (K : Int)) = true := decide_eq_true (by omega)
        clear h64 hr h60
        go_enter Try.func5, Try.ntmps5
        go_wp2_with fail
        refine HR.out.mono ?_
        rintro e w' ⟨rfl, rfl⟩
        go_wp2_with fail
        refine (works7_any _).mono ?_
        rintro e w' ⟨rfl, hb⟩
        have HB := Lib.hid hb
        clear hb
        go_wp2_with fail
        go_ret
        exact ⟨rfl, HB.out⟩
      · have d2 : decide (60 < (K : Int)) = false := decide_eq_false (by omega)
        have hK60 : K ≤ 60 := by omega
        have hof := of_any p0 c0 l W H0.out.1 (by rw [HN.out.1]; omega) (by rw [HN.out.1]; omega) (by rw [HN.out.1]; omega)
        rw [HN.out.1] at hof
        have HOF := Lib.hid hof
        have HST := Lib.hid (show 0 < (linesOf l).length ∧ (linesOf l).length ≤ 1000 by rw [linesOf_len, HN.out.1]; omega)
        have HMD := Lib.hid (show l.length % 8 = 0 ∧ l.length ≤ 1000 by rw [HN.out.1]; omega)
        clear hof h64 hr h60
        go_enter Try.func5, Try.ntmps5
        go_wp2_with fail
        refine HR.out.mono ?_
        rintro e w' ⟨rfl, rfl⟩
        go_wp2_with fail
        refine HOF.out.mono ?_
        rintro e w1 ⟨O, N, rfl, hm, hN, hb1⟩
        have H1 := Lib.hid (And.intro hm (And.intro hN hb1))
        have hrf := of7_any p0 c0 l w1 ((H0.out.1.below hb1).wide hb1.size) HMD.out.1 HMD.out.2
        rw [HN.out.1] at hrf
        have HRF := Lib.hid hrf
        clear hm hN hb1 hrf
        go_wp2_with fail
        refine HRF.out.mono ?_
        rintro e w2 ⟨p, c, rfl, ho, hp, hb2⟩
        have H2 := Lib.hid (And.intro (two_start HST.out.1 HST.out.2 H1.out.1 H1.out.2.1 ho hp hb2) (And.intro (show ∀ x, N x → W.heap.size ≤ x from fun x hx => (H1.out.2.1 x hx).1) (H1.out.2.2.trans (hb2.mono H1.out.2.2.size))))
        clear ho hp hb2
        go_wp2_with fail
        refine (num7_any _ _).mono ?_
        rintro e w3 ⟨rfl, rfl⟩
        go_wp2_with fail
        refine (is7_any w3 H2.out.1).mono ?_
        rintro e w4 ⟨rfl, hb4⟩
        have H4 := Lib.hid (And.intro (H2.out.1.below hb4) (And.intro H2.out.2.1 (H2.out.2.2.trans (hb4.mono H2.out.2.2.size))))
        clear hb4
        go_wp2_with fail
        go_loopw [5, 7, 8] (fun x5 x7 i wr => ∃ (k O : Nat) (p : Option Addr) (c : Nat) (m : Mem) (N : Nat → Prop), k ≤ K ∧ i = .int .i64 k ∧ x5 = .pointer (some ⟨O, 0, none⟩) ∧ x7 = .slice p m.length c ∧ Two wr O p c m N ∧ (∀ x, N x → W.heap.size ≤ x) ∧ Below W.heap.size W wr) (fun _ _ i _ => K - (intOf i).toNat)
        case atStart => exact ⟨0, O, p, c, _, N, Nat.zero_le _, rfl, rfl, rfl, H4.out⟩
        case round =>
          clear H4 H2 H1
          obtain ⟨k, O, p, c, m, N, hk, rfl, rfl, rfl, ht, hN, hb⟩ := hrel
          by_cases hlt : k < K
          · have hlt' : (k : Int) < (K : Int) := by omega
            have hk9 : (k : Int) ≤ 60 := by omega
            obtain ⟨g, o, rfl, hg, a0, a1, a2⟩ := act_at H0.out.2 k (by rw [HN.out.2]; exact hlt)
            obtain ⟨x, hx⟩ : ∃ x, sc[k]'(by rw [HN.out.2]; exact hlt) = x := ⟨_, rfl⟩
            rw [hx] at a0 a1 a2
            have b0 := (hb.cell (p := ⟨g, o + k * 3, none⟩) hg).trans a0
            have b1 := (hb.cell (p := ⟨g, o + k * 3 + 1, none⟩) hg).trans a1
            have b2 := (hb.cell (p := ⟨g, o + k * 3 + 2, none⟩) hg).trans a2
            have HA := Lib.hid (And.intro hg a0)
            have HT := Lib.hid (And.intro ht (And.intro hN hb))
            have HACT := Lib.hid (show Calls Try.prog 16 #[.pointer (some ⟨O, 0, none⟩), .slice p m.length c, .agg #[.int .i64 x.what, .int .i64 x.at_, vw x.value]] wr fun e w' => ActPost wr O (stepM m x) N e w' from act7_any x wr ht)
            clear ht hN hb hg a0 a1 a2 hx
            go_wp2_with fail
            refine HACT.out.mono ?_
            rintro e w5 ⟨p', c', rfl, ht5, hf5⟩
            have HB5 := Lib.hid (HT.out.2.2.trans (hf5.below HT.out.2.2.size HT.out.2.1))
            have HT5 := Lib.hid ht5
            clear ht5 hf5 b0 b1 b2 HACT
            go_wp2_with fail
            refine (is7_any w5 HT5.out).mono ?_
            rintro e w6 ⟨rfl, hb6⟩
            have HT6 := Lib.hid (And.intro (HT5.out.below hb6) (And.intro HT.out.2.1 (HB5.out.trans (hb6.mono HB5.out.size))))
            have b0 := (HT6.out.2.2.cell (p := ⟨g, o + k * 3, none⟩) HA.out.1).trans HA.out.2
            clear hb6 HT5 HB5 HT
            by_cases h5 : x.what = 5
            · rw [h5] at b0
              go_wp2_with fail
              refine (copyM_any w6 HT6.out.1.mat).mono ?_
              rintro e w7 ⟨O', rfl, hm7, hb7⟩
              have HT7 := Lib.hid (And.intro (HT6.out.1.copied hm7 hb7) (And.intro (show ∀ y, (w6.heap.size ≤ y ∧ y < w7.heap.size) → W.heap.size ≤ y from fun y hy => Nat.le_trans HT6.out.2.2.size hy.1) (HT6.out.2.2.trans (hb7.mono HT6.out.2.2.size))))
              clear hm7 hb7 b0
              go_wp2_with fail
              go_roundw
              case rel => exact ⟨k + 1, O', p', c', _, _, hlt, by go_num, rfl, rfl, HT7.out⟩
              case measure => simp [intOf]; omega
            · obtain ⟨q, hq⟩ : ∃ q, x.what = q := ⟨_, rfl⟩
              rw [hq] at b0 h5
              have h5' : (q == 5) = false := beq_eq_false_iff_ne.2 h5
              clear h5 hq
              go_wp2_with fail
              go_roundw
              case rel => exact ⟨k + 1, O, p', c', _, _, hlt, by go_num, rfl, rfl, HT6.out⟩
              case measure => simp [intOf]; omega
          · obtain rfl : k = K := by omega
            have hnl : ¬ (k : Int) < (k : Int) := by omega
            have HT := Lib.hid hb
            clear ht hN hb
            go_wp2_with fail
            refine (works7_any _).mono ?_
            rintro e w9 ⟨rfl, hb9⟩
            have HB9 := Lib.hid (HT.out.trans (hb9.mono HT.out.size))
            clear hb9
            go_wp2_with fail
            go_ret
            exact ⟨rfl, HB9.out⟩
    · have HR := Lib.hid (right7_no n W hr)
      clear h64 hr
      go_enter Try.func5, Try.ntmps5
      go_wp2_with fail
      refine HR.out.mono ?_
      rintro e w' ⟨rfl, rfl⟩
      go_wp2_with fail
      refine (works7_any _).mono ?_
      rintro e w' ⟨rfl, hb⟩
      have HB := Lib.hid hb
      clear hb
      go_wp2_with fail
      go_ret
      exact ⟨rfl, HB.out⟩
theorem lawPmemPlays_of {α : Type} {enc : α → List Value} (p0 : Option Addr) (c0 : Nat) (l : List (BitVec 64)) (p1 : Option Addr) (c1 : Nat) (ys : List α) (W : World) (hr0 : RdL W.heap.size W p0 c0 vw l) (hr1 : RdS W.heap.size W p1 c1 3 enc ys) (f : α → ActA) (hf : ∀ y, enc y = ac (f y)) :
    Calls Try.prog 5 #[.slice p0 l.length c0, .slice p1 ys.length c1] W fun e w' => e = .returned (.bool true) ∧ Below W.heap.size W w' := by
  have := lawPmemPlays p0 p1 c0 c1 l (ys.map f) W hr0 (hr1.mapE f hf)
  rwa [List.length_map] at this
end Go.Proofs.Ytaflbfmlajbjcaa
