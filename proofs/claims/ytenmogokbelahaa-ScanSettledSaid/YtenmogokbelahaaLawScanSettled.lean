/- ScanSettled: what a reader finds in a settled row that stays. -/
import Derived.Test.YtenmogokbelahaaSlotD
namespace Go.Proofs.Ytenmogokbelahaa
open Go Go.RowKit

theorem look_settled {left : BitVec 64} {s : List (BitVec 64)} (h : SetR left s) (way : Int) (hw : way = 1 ∨ way = 2) (key : BitVec 64) : lookV way left s key = pairP (readL left s) key := by
  have hf : FineR way left s := ⟨hw, h.1.l0, h.1.ev, by have := h.1.l4; omega, by have := h.1.l56; omega⟩
  unfold lookV ofR
  rw [if_pos hf, h.2]
  exact end_settled h.1 way.toNat (by omega) key
set_option maxRecDepth 100000 in
set_option maxHeartbeats 8000000 in
theorem lawScanSettled (left : BitVec 64) (p : Option Addr) (cap : Nat) (s : List (BitVec 64)) (key : BitVec 64) (w : World) (hrd : RdL w.heap.size w p cap vw s) :
    Calls Try.prog 4 #[vw left, .slice p s.length cap, vw key] w fun e w' => e = .returned (.bool true) ∧ Below w.heap.size w w' := by
  by_cases hl : s.length ≤ 56
  · have hl' : (s.length : Int) ≤ 56 := by omega
    have HC := Lib.hid (check_any left p cap s w hrd (by omega))
    have HR := Lib.hid hrd
    clear hrd
    go_enter Try.func4, Try.ntmps4
    go_wp2_with fail
    refine HC.out.mono ?_
    rintro e w1 ⟨v, rfl, hset, hb1⟩
    have HB1 := Lib.hid hb1
    clear hb1 HC
    by_cases hv : v = 0
    · have HS := Lib.hid (hset hv)
      subst hv
      clear hset
      have HRE := Lib.hid (read_any left p cap s w1 ((HR.out.below HB1.out).wide HB1.out.size) (by omega))
      have hrl : (readL left s).length ≤ 100000 := by
        have h1 := readN_len left s (rawS s)
        have h2 := (rawS_ok s).1
        have h3 : readL left s = readN left s (rawS s) := rfl
        rw [h3]
        omega
      have L1 := fun W hrd => look_any 1 left p cap s key W hrd (by omega)
      have L2 := fun W hrd => look_any 2 left p cap s key W hrd (by omega)
      rw [look_settled HS.out 1 (.inl rfl) key] at L1
      rw [look_settled HS.out 2 (.inr rfl) key] at L2
      obtain ⟨ll, hll⟩ : ∃ ll, readL left s = ll := ⟨_, rfl⟩
      rw [hll] at HRE L1 L2 hrl
      have HP := Lib.hid (fun q d W hrd => pair_any q d ll key W hrd hrl)
      obtain ⟨f1, hf1⟩ : ∃ f1, (pairP ll key).1 = f1 := ⟨_, rfl⟩
      obtain ⟨f2, hf2⟩ : ∃ f2, (pairP ll key).2 = f2 := ⟨_, rfl⟩
      rw [hf1, hf2] at L1 L2 HP
      have HL1 := Lib.hid L1
      have HL2 := Lib.hid L2
      clear L1 L2 hll hf1 hf2 HS
      go_wp2_with fail
      refine HRE.out.mono ?_
      rintro e w2 ⟨q, d, v2, rfl, hown, -, hb2⟩
      have HB2 := Lib.hid (HB1.out.trans (hb2.mono HB1.out.size))
      have HPP := Lib.hid (HP.out q d w2 (hown.rds pc_len))
      clear hown hb2
      go_wp2_with fail
      refine HPP.out.mono ?_
      rintro e w' ⟨rfl, rfl⟩
      go_wp2_with fail
      refine (HL1.out w2 ((HR.out.below HB2.out).wide HB2.out.size)).mono ?_
      rintro e w3 ⟨rfl, hb3⟩
      have HB3 := Lib.hid (HB2.out.trans (hb3.mono HB2.out.size))
      clear hb3
      go_wp2_with fail
      refine (HL2.out w3 ((HR.out.below HB3.out).wide HB3.out.size)).mono ?_
      rintro e w4 ⟨rfl, hb4⟩
      have HB4 := Lib.hid (HB3.out.trans (hb4.mono HB3.out.size))
      clear hb4
      go_wp2_with fail
      refine (works10_any _).mono ?_
      rintro e w5 ⟨rfl, hb5⟩
      go_wp2_with fail
      go_ret
      exact ⟨rfl, HB4.out.trans (hb5.mono HB4.out.size)⟩
    · have hv' : (v != 0) = true := bne_iff_ne.2 hv
      clear hset hv
      go_wp2_with fail
      refine (works10_any _).mono ?_
      rintro e w5 ⟨rfl, hb5⟩
      go_wp2_with fail
      go_ret
      exact ⟨rfl, HB1.out.trans (hb5.mono HB1.out.size)⟩
  · have hl' : (56 : Int) < (s.length : Int) := by omega
    clear hl hrd
    go_enter Try.func4, Try.ntmps4
    go_wp2_with fail
    refine (works10_any _).mono ?_
    rintro e w5 ⟨rfl, hb5⟩
    go_wp2_with fail
    go_ret
    exact ⟨rfl, hb5⟩
end Go.Proofs.Ytenmogokbelahaa
