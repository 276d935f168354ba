/- The walk of the reference's Check. -/
import Derived.Test.YtenmogokbelahaaSlotC
namespace Go.Proofs.Ytenmogokbelahaa
open Go Go.RowKit

/-- What a row tells where Check tells no error. -/
def SetR (left : BitVec 64) (s : List (BitVec 64)) : Prop := Settled left s (rawS s) ∧ readL left s = allP s (rawS s)
set_option maxRecDepth 100000 in
set_option maxHeartbeats 8000000 in
theorem check_any (left : BitVec 64) (p : Option Addr) (cap : Nat) (s : List (BitVec 64)) (w : World) (hrd : RdL w.heap.size w p cap vw s) (hl : s.length ≤ 1000) :
    Calls Try.prog 21 #[vw left, .slice p s.length cap] w fun e w' => ∃ v : Int, e = .returned (.int .i64 v) ∧ (v = 0 → SetR left s) ∧ Below w.heap.size w w' := by
  obtain ⟨d1, d2⟩ := half (n := s.length) (by omega)
  have HR := Lib.hid hrd
  have HRI := Lib.hid (refRight09_any left p cap s)
  have HRE := Lib.hid (read_any left p cap s w hrd (by omega))
  have HRA := Lib.hid (fun W (hb : Below w.heap.size w W) => raw_any p cap s W ((hrd.below hb).wide hb.size) (by omega))
  have hn := readN_len left s (rawS s)
  have hrl := (rawS_ok s).1
  have hfin : ¬ ((0 : Int) = 1) := by decide
  clear hrd
  cases hr : rightR09 left s.length with
  | false =>
    rw [hr] at HRI
    clear hr
    go_enter Try.func21, Try.ntmps21
    go_wp2_with fail
    refine (HRI.out w).mono ?_
    rintro e w' ⟨rfl, rfl⟩
    go_wp2_with fail
    go_ret
    exact ⟨2, rfl, fun h => absurd h (by decide), Below.refl _ _⟩
  | true =>
    rw [hr] at HRI
    have hr' := of_decide_eq_true hr
    obtain ⟨ll, hll⟩ : ∃ ll, readL left s = ll := ⟨_, rfl⟩
    have hn' : ll.length ≤ rawS s := by rw [← hll]; exact hn
    rw [hll] at HRE
    have HRR := Lib.hid (And.intro hr' hll)
    clear hr hr' hn hll
    go_enter Try.func21, Try.ntmps21
    go_wp2_with fail
    refine (HRI.out w).mono ?_
    rintro e w' ⟨rfl, rfl⟩
    go_wp2_with fail
    refine HRE.out.mono ?_
    rintro e w1 ⟨q, d, v2, rfl, hown, hqd, hb1⟩
    have HF := Lib.hid (fine_any left q d ll w1 (hown.rds pc_len) (by omega))
    have HB1 := Lib.hid hb1
    clear hown hqd hb1 HRE
    go_wp2_with fail
    refine HF.out.mono ?_
    rintro e w2 ⟨r, rfl, hfine, hb2⟩
    have HB2 := Lib.hid (HB1.out.trans (hb2.mono HB1.out.size))
    have HFI := Lib.hid hfine
    clear hfine hb2 HF HB1
    cases r with
    | false =>
      go_wp2_with fail
      go_ret
      exact ⟨190, rfl, fun h => absurd h (by decide), HB2.out⟩
    | true =>
      by_cases he : ll.length = rawS s
      · have he' : ((ll.length : Int) != (rawS s : Int)) = false := by simp [he]
        have HE := Lib.hid he
        by_cases hm : ll.length < s.length / 2
        · have hm' : (ll.length : Int) < (s.length : Int) / 2 := by omega
          have HM := Lib.hid hm
          clear he hm
          go_wp2_with fail
          refine (HRA.out w2 HB2.out).mono ?_
          rintro e w' ⟨rfl, rfl⟩
          go_wp2_with fail
          go_loopw [7] (fun i wr => ∃ k : Nat, ll.length ≤ k ∧ k ≤ s.length / 2 ∧ i = .int .i64 k ∧ (∀ j, ll.length ≤ j → j < k → ptrS s j = 0#64) ∧ wr = w2) (fun i _ => s.length - (intOf i).toNat)
          case atStart => exact ⟨ll.length, Nat.le_refl _, Nat.le_of_lt HM.out, rfl, fun j h1 h2 => by omega, rfl⟩
          case round =>
            obtain ⟨k, hk1, hk2, rfl, hz, rfl⟩ := hrel
            by_cases hlt : k < s.length / 2
            · have hlt' : (k : Int) < (s.length : Int) / 2 := by omega
              have hk9 : (k : Int) ≤ 1000 := by omega
              obtain ⟨b, off, hpo, hbl, hc⟩ := HR.out.at (2 * k + 1) (by omega)
              have hc := (HB2.out.cell (p := ⟨b, off + (2 * k + 1), none⟩) hbl).trans hc
              have hps : s[2 * k + 1] = ptrS s k := by unfold ptrS; simp [show 2 * k + 1 < s.length by omega]
              rw [hps] at hc
              subst hpo
              by_cases hp : ptrS s k = 0#64
              · have HN := Lib.hid (show ∀ j, ll.length ≤ j → j < k + 1 → ptrS s j = 0#64 from fun j h1 h2 => by
                  rcases Nat.lt_succ_iff_lt_or_eq.1 h2 with h2 | rfl
                  · exact hz j h1 h2
                  · exact hp)
                rw [hp] at hc
                have e0 : vw 0#64 = .int .u64 0 := rfl
                rw [e0] at hc
                clear hps hp hz e0
                go_wp2_with fail
                go_roundw
                case rel => exact ⟨k + 1, by omega, by omega, by go_num, HN.out, by trivial⟩
                case measure => simp [intOf]; omega
              · obtain ⟨V, hV⟩ : ∃ V : Int, ((ptrS s k).toNat : Int) = V := ⟨_, rfl⟩
                have hv0 : (V != 0) = true := bne_iff_ne.2 (fun h => hp (word_eq0.1 (hV.trans h)))
                rw [vwi, hV] at hc
                clear hps hp hz hV
                go_wp2_with fail
                go_ret
                exact ⟨190, rfl, fun h => absurd h (by decide), HB2.out⟩
            · have hlt' : (s.length : Int) / 2 ≤ (k : Int) := by omega
              have HZ := Lib.hid (show ∀ j, ll.length ≤ j → j < s.length / 2 → ptrS s j = 0#64 from fun j h1 h2 => hz j h1 (by omega))
              clear hz
              go_wp2_with fail
              go_ret
              refine ⟨0, rfl, fun _ => ?_, HB2.out⟩
              have hll := HRR.out.2
              obtain ⟨a1, a2, a3, a4⟩ := HRR.out.1
              have h1 := HFI.out (by trivial)
              have h2 := HE.out
              have h3 := HM.out
              have h4 := HZ.out
              rw [← hll] at h1 h2 h3 h4
              exact settled_of a1 a2 a3 a4 h1 h2 h3 h4
        · have hm' : (s.length : Int) / 2 ≤ (ll.length : Int) := by omega
          clear he hm
          go_wp2_with fail
          refine (HRA.out w2 HB2.out).mono ?_
          rintro e w' ⟨rfl, rfl⟩
          go_wp2_with fail
          go_ret
          exact ⟨190, rfl, fun h => absurd h (by decide), HB2.out⟩
      · have he' : ((ll.length : Int) != (rawS s : Int)) = true := bne_iff_ne.2 (by omega)
        clear he
        go_wp2_with fail
        refine (HRA.out w2 HB2.out).mono ?_
        rintro e w' ⟨rfl, rfl⟩
        go_wp2_with fail
        go_ret
        exact ⟨190, rfl, fun h => absurd h (by decide), HB2.out⟩
end Go.Proofs.Ytenmogokbelahaa
