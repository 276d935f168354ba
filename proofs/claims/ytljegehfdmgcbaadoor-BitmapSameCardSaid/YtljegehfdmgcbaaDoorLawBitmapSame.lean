/- The walk of the law BitmapSame. -/
import Derived.Test.YtljegehfdmgcbaaDoorBmJ
namespace Go.Proofs.YtljegehfdmgcbaaDoor
open Go Go.RowKit

theorem putN_one (ws : List (BitVec 64)) (a : Nat) (s : Bool) : putN ws a s 1 = putW ws a s := by
  simp [putN]
theorem right64 (l : List (BitVec 64)) : RightW (64 * l.length) l := ⟨by omega, fun j h1 h2 => by omega⟩
theorem ok64 (l : List (BitVec 64)) (h1 : 1 ≤ l.length) (h2 : l.length ≤ 1000) : OfOkB ((64 * l.length : Nat) : Int) l := ⟨64 * l.length, rfl, by omega, by omega, right64 l⟩
theorem putW_ne (l : List (BitVec 64)) (i : Nat) (hi : i < 64 * l.length) : l ≠ putW l i (!bitW l i) := by
  intro h
  have := putW_bit l i (!bitW l i) hi i
  rw [← h, if_pos rfl] at this
  cases hb : bitW l i <;> rw [hb] at this <;> cases this

set_option maxRecDepth 100000 in
set_option maxHeartbeats 8000000 in
theorem bsame_out (p q : Option Addr) (cp cq : Nat) (a b : List (BitVec 64)) (at_ : Int) (w : World) (hT : TabAt w) (hn : ¬ (1 ≤ a.length ∧ a.length ≤ 4 ∧ 1 ≤ b.length ∧ b.length ≤ 4 ∧ 0 ≤ at_ ∧ at_ < 64 * a.length)) (ha : a.length ≤ 9223372036854775807) (hb : b.length ≤ 9223372036854775807)
    (hwr : a.length ≤ 4 → True) :
    Calls Tryd.prog 7 #[.slice p a.length cp, .slice q b.length cq, .int .i64 at_] w fun e w' => e = .returned (.bool true) ∧ Below w.heap.size w w' := by
  have HT := Lib.hid hT
  have HN := Lib.hid hn
  clear hT hn
  have K : ∀ (w' : World), (∃ v, Ending.returned (.bool true) = .returned v ∧ Below w.heap.size w w') → True := fun _ _ => trivial
  by_cases c1 : (a.length : Int) < 1
  case pos =>
    go_enter Tryd.func7, Tryd.ntmps7
    go_wp2_with fail
    refine (works05_any w HT.out).mono ?_
    rintro e w1 ⟨rfl, hb1⟩
    have HB := Lib.hid hb1
    clear hb1
    go_wp2_with fail
    go_ret
    exact ⟨rfl, HB.out⟩
  by_cases c2 : (4 : Int) < (a.length : Int)
  case pos =>
    go_enter Tryd.func7, Tryd.ntmps7
    go_wp2_with fail
    refine (works05_any w HT.out).mono ?_
    rintro e w1 ⟨rfl, hb1⟩
    have HB := Lib.hid hb1
    clear hb1
    go_wp2_with fail
    go_ret
    exact ⟨rfl, HB.out⟩
  by_cases c3 : (b.length : Int) < 1
  case pos =>
    go_enter Tryd.func7, Tryd.ntmps7
    go_wp2_with fail
    refine (works05_any w HT.out).mono ?_
    rintro e w1 ⟨rfl, hb1⟩
    have HB := Lib.hid hb1
    clear hb1
    go_wp2_with fail
    go_ret
    exact ⟨rfl, HB.out⟩
  by_cases c4 : (4 : Int) < (b.length : Int)
  case pos =>
    go_enter Tryd.func7, Tryd.ntmps7
    go_wp2_with fail
    refine (works05_any w HT.out).mono ?_
    rintro e w1 ⟨rfl, hb1⟩
    have HB := Lib.hid hb1
    clear hb1
    go_wp2_with fail
    go_ret
    exact ⟨rfl, HB.out⟩
  by_cases c5 : at_ < 0
  case pos =>
    go_enter Tryd.func7, Tryd.ntmps7
    go_wp2_with fail
    refine (works05_any w HT.out).mono ?_
    rintro e w1 ⟨rfl, hb1⟩
    have HB := Lib.hid hb1
    clear hb1
    go_wp2_with fail
    go_ret
    exact ⟨rfl, HB.out⟩
  have c6 : 64 * (a.length : Int) ≤ at_ := by
    have := HN.out
    omega
  go_enter Tryd.func7, Tryd.ntmps7
  go_wp2_with fail
  refine (works05_any w HT.out).mono ?_
  rintro e w1 ⟨rfl, hb1⟩
  have HB := Lib.hid hb1
  clear hb1
  go_wp2_with fail
  go_ret
  exact ⟨rfl, HB.out⟩

set_option maxRecDepth 100000 in
set_option maxHeartbeats 8000000 in
theorem bsame_in (p q : Option Addr) (cp cq : Nat) (a b : List (BitVec 64)) (i : Nat) (w : World) (hT : TabAt w) (hra : RdL w.heap.size w p cp vw a) (hrb : RdL w.heap.size w q cq vw b) (h1 : 1 ≤ a.length) (h2 : a.length ≤ 4) (h3 : 1 ≤ b.length) (h4 : b.length ≤ 4) (hi : i < 64 * a.length) :
    Calls Tryd.prog 7 #[.slice p a.length cp, .slice q b.length cq, .int .i64 i] w fun e w' => e = .returned (.bool true) ∧ Below w.heap.size w w' := by
  have h0 := hT.lt
  have HT := Lib.hid hT
  have HRA := Lib.hid hra
  have HRB := Lib.hid hrb
  have hk1 : (1 : Int) ≤ (a.length : Int) := by omega
  have hk2 : (a.length : Int) ≤ 4 := by omega
  have hk3 : (1 : Int) ≤ (b.length : Int) := by omega
  have hk4 : (b.length : Int) ≤ 4 := by omega
  have hk5 : (i : Int) < 64 * (a.length : Int) := by omega
  have hea : ((64 * a.length : Nat) : Int) = 64 * (a.length : Int) := by omega
  have heb : ((64 * b.length : Nat) : Int) = 64 * (b.length : Int) := by omega
  have HO := Lib.hid (ofBm_any ((64 * a.length : Nat) : Int) p cp a w hra (by omega))
  rw [hea] at HO
  have HOK := Lib.hid (And.intro (ok64 a h1 (by omega)) (ok64 b h3 (by omega)))
  rw [hea, heb] at HOK
  have HE := Lib.hid (And.intro hea heb)
  clear hT hra hrb hea heb
  go_enter Tryd.func7, Tryd.ntmps7
  go_wp2_with fail
  refine HO.out.mono ?_
  rintro e w1 (⟨v, n, rfl, hmn, _, O, g, c, rfl, hbm, hO, hg, hb1⟩ | ⟨rfl, hno, _⟩)
  case inr => exact absurd HOK.out.1 hno
  have hn : n = 64 * a.length := by omega
  subst hn
  have H1 : Hid (BmAt w1 O g c a (64 * a.length) ∧ Below w.heap.size w w1 ∧ w.heap.size ≤ g) := Lib.hid ⟨hbm, hb1, hg⟩
  have HO2 := Lib.hid (ofBm_any ((64 * b.length : Nat) : Int) q cq b w1 ((HRB.out.below hb1).wide hb1.size) (by omega))
  rw [HE.out.2] at HO2
  clear hmn hbm hO hg hb1 HO
  go_wp2_with fail
  refine HO2.out.mono ?_
  rintro e w2 (⟨v, n, rfl, hmn, _, O2, g2, c2, rfl, hbm, hO, hg, hb2⟩ | ⟨rfl, hno, _⟩)
  case inr => exact absurd HOK.out.2 hno
  have hn : n = 64 * b.length := by omega
  subst hn
  have H2 : Hid (BmAt w2 O g c a (64 * a.length) ∧ Below w.heap.size w w2 ∧ BmAt w2 O2 g2 c2 b (64 * b.length)) := Lib.hid ⟨H1.out.1.below hb2, H1.out.2.1.trans (hb2.mono H1.out.2.1.size), hbm⟩
  have HS1 := Lib.hid (same_bm w2 H2.out.1 H2.out.2.2)
  clear hmn hbm hO hg hb2 HO2
  go_wp2_with (go_at_call 11; refine (num_any05 _ _).mono ?_; rintro e w' ⟨rfl, rfl⟩)
  refine HS1.out.mono ?_
  rintro e w3 ⟨rfl, hb3⟩
  have hdec : decide (64 * a.length = 64 * b.length ∧ a = b) = sameB a b := by
    unfold sameB
    apply decide_eq_decide.2
    constructor
    · exact fun h => h.2
    · rintro rfl; exact ⟨rfl, rfl⟩
  rw [hdec]
  have H3 : Hid (BmAt w3 O g c a (64 * a.length) ∧ Below w.heap.size w w3) := Lib.hid ⟨H2.out.1.below hb3, H2.out.2.1.trans (hb3.mono H2.out.2.1.size)⟩
  have HS2 := Lib.hid (same_any p q cp cq a b w3 ((HRA.out.below H3.out.2).wide H3.out.2.size) ((HRB.out.below H3.out.2).wide H3.out.2.size))
  obtain ⟨sb, hsb⟩ : ∃ sb, sameB a b = sb := ⟨_, rfl⟩
  rw [hsb] at HS2 ⊢
  clear hdec hsb hb3 HS1 H2
  go_wp2_with fail
  refine HS2.out.mono ?_
  rintro e w4 ⟨rfl, nq, hw4⟩
  have hb4 : Below w3.heap.size w3 w4 := by rw [← hw4]; exact below_drewN (Below.refl _ _) nq
  have H4 : Hid (BmAt w4 O g c a (64 * a.length) ∧ Below w.heap.size w w4) := Lib.hid ⟨H3.out.1.below hb4, H3.out.2.trans (hb4.mono H3.out.2.size)⟩
  have hss : (sb != sb) = false := by cases sb <;> rfl
  have HC := Lib.hid (copy_bm w4 H4.out.1)
  clear hw4 hb4 HS2 H3
  go_wp2_with fail
  refine HC.out.mono ?_
  rintro e w5 ⟨v, rfl, O3, g3, c3, rfl, hbm, hO, hg, hb5⟩
  have H5 : Hid (BmAt w5 O g c a (64 * a.length) ∧ Below w.heap.size w w5 ∧ BmAt w5 O3 g3 c3 a (64 * a.length) ∧ w4.heap.size ≤ g3 ∧ O < w4.heap.size ∧ g < w4.heap.size ∧ w.heap.size ≤ w4.heap.size) := Lib.hid ⟨H4.out.1.below hb5, H4.out.2.trans (hb5.mono H4.out.2.size), hbm, hg, H4.out.1.ltO, H4.out.1.ltg, H4.out.2.size⟩
  have HG := get_bm (i : Int) w5 H5.out.1
  have hgl : getL a (64 * a.length) (i : Int) = (bitW a i, 0) := by
    unfold getL
    rw [if_pos ⟨by omega, by omega⟩, Int.toNat_natCast]
  rw [hgl] at HG
  have HGG := Lib.hid HG
  clear hss hbm hO hg hb5 HC HG hgl
  go_wp2_with fail
  refine HGG.out.mono ?_
  rintro e w' ⟨rfl, rfl⟩
  have hput : ∀ s, putL a (64 * a.length) (i : Int) 1 s = (putW a i s, 0) := by
    intro s
    unfold putL
    rw [if_pos (by unfold thereB; rw [decide_eq_true_eq]; omega), Int.toNat_natCast]
    rw [show (1 : Int).toNat = 1 from rfl, putN_one]
  have HNE := Lib.hid (putW_ne a i hi)
  have fin : ∀ s w6, BmAt w6 O3 g3 c3 (putW a i s) (64 * a.length) → Frn (fun b => b = g3) w5 w6 → BmAt w6 O g c a (64 * a.length) ∧ Below w.heap.size w w6 := by
    intro s w6 hb hf
    have h5 := H5.out
    exact ⟨h5.1.frn hf (by omega) (by omega), h5.2.1.trans (hf.below h5.2.1.size (by rintro b rfl; omega))⟩
  have FIN := Lib.hid fin
  clear fin
  cases hbit : bitW a i with
  | true =>
    rw [hbit] at HNE
    have HF := free_bm (i : Int) 1 w5 H5.out.2.2.1
    rw [hput] at HF
    have HFF := Lib.hid HF
    clear hput hbit HF
    go_wp2_with fail
    refine HFF.out.mono ?_
    rintro e w6 ⟨rfl, hb6, hf6⟩
    have H6 := Lib.hid (And.intro hb6 (FIN.out false w6 hb6 hf6))
    have HS3 := Lib.hid (same_bm w6 H6.out.2.1 H6.out.1)
    rw [decide_eq_false (fun h => HNE.out h.2)] at HS3
    clear hb6 hf6 HFF FIN
    go_wp2_with (go_at_call 11; refine (num_any05 _ _).mono ?_; rintro e w' ⟨rfl, rfl⟩)
    refine HS3.out.mono ?_
    rintro e w7 ⟨rfl, hb7⟩
    have H7 : Hid (BmAt w7 O g c a (64 * a.length) ∧ Below w.heap.size w w7) := Lib.hid ⟨H6.out.2.1.below hb7, H6.out.2.2.trans (hb7.mono H6.out.2.2.size)⟩
    have HW := Lib.hid (words_bm w7 H7.out.1)
    clear hb7 HS3 H6
    go_wp2_with fail
    refine HW.out.mono ?_
    rintro e w8 ⟨v, rfl, hown, hb8⟩
    obtain ⟨p8, c8, rfl, hr8, _⟩ := rdl_of_owns hown
    have H8 := Lib.hid (H7.out.2.trans (hb8.mono H7.out.2.size))
    have HSM := Lib.hid (same_any p8 p c8 cp a a w8 hr8 ((HRA.out.below H8.out).wide H8.out.size))
    rw [sameB_self] at HSM
    clear hown hr8 hb8 HW H7
    go_wp2_with fail
    refine HSM.out.mono ?_
    rintro e w9 ⟨rfl, nq9, hw9⟩
    have H9 : Hid (Below w.heap.size w w9) := Lib.hid (by rw [← hw9]; exact below_drewN H8.out nq9)
    have HWK := Lib.hid (works05_any w9 (HT.out.below h0 H9.out))
    clear hw9 HSM
    go_wp2_with fail
    refine HWK.out.mono ?_
    rintro e w14 ⟨rfl, hb14⟩
    have H14 := Lib.hid (H9.out.trans (hb14.mono H9.out.size))
    clear hb14
    go_wp2_with fail
    go_ret
    exact ⟨rfl, H14.out⟩
  | false =>
    rw [hbit] at HNE
    have HF := set_bm (i : Int) 1 w5 H5.out.2.2.1
    rw [hput] at HF
    have HFF := Lib.hid HF
    clear hput hbit HF
    go_wp2_with fail
    refine HFF.out.mono ?_
    rintro e w6 ⟨rfl, hb6, hf6⟩
    have H6 := Lib.hid (And.intro hb6 (FIN.out true w6 hb6 hf6))
    have HS3 := Lib.hid (same_bm w6 H6.out.2.1 H6.out.1)
    rw [decide_eq_false (fun h => HNE.out h.2)] at HS3
    clear hb6 hf6 HFF FIN
    go_wp2_with (go_at_call 11; refine (num_any05 _ _).mono ?_; rintro e w' ⟨rfl, rfl⟩)
    refine HS3.out.mono ?_
    rintro e w7 ⟨rfl, hb7⟩
    have H7 : Hid (BmAt w7 O g c a (64 * a.length) ∧ Below w.heap.size w w7) := Lib.hid ⟨H6.out.2.1.below hb7, H6.out.2.2.trans (hb7.mono H6.out.2.2.size)⟩
    have HW := Lib.hid (words_bm w7 H7.out.1)
    clear hb7 HS3 H6
    go_wp2_with fail
    refine HW.out.mono ?_
    rintro e w8 ⟨v, rfl, hown, hb8⟩
    obtain ⟨p8, c8, rfl, hr8, _⟩ := rdl_of_owns hown
    have H8 := Lib.hid (H7.out.2.trans (hb8.mono H7.out.2.size))
    have HSM := Lib.hid (same_any p8 p c8 cp a a w8 hr8 ((HRA.out.below H8.out).wide H8.out.size))
    rw [sameB_self] at HSM
    clear hown hr8 hb8 HW H7
    go_wp2_with fail
    refine HSM.out.mono ?_
    rintro e w9 ⟨rfl, nq9, hw9⟩
    have H9 : Hid (Below w.heap.size w w9) := Lib.hid (by rw [← hw9]; exact below_drewN H8.out nq9)
    have HWK := Lib.hid (works05_any w9 (HT.out.below h0 H9.out))
    clear hw9 HSM
    go_wp2_with fail
    refine HWK.out.mono ?_
    rintro e w14 ⟨rfl, hb14⟩
    have H14 := Lib.hid (H9.out.trans (hb14.mono H9.out.size))
    clear hb14
    go_wp2_with fail
    go_ret
    exact ⟨rfl, H14.out⟩
theorem lawBitmapSame (p q : Option Addr) (cp cq : Nat) (a b : List (BitVec 64)) (at_ : Int) (w : World) (hT : TabAt w) (hra : RdL w.heap.size w p cp vw a) (hrb : RdL w.heap.size w q cq vw b) :
    Calls Tryd.prog 7 #[.slice p a.length cp, .slice q b.length cq, .int .i64 at_] w fun e w' => e = .returned (.bool true) ∧ Below w.heap.size w w' := by
  by_cases h : 1 ≤ a.length ∧ a.length ≤ 4 ∧ 1 ≤ b.length ∧ b.length ≤ 4 ∧ 0 ≤ at_ ∧ at_ < 64 * a.length
  · obtain ⟨h1, h2, h3, h4, h5, h6⟩ := h
    obtain ⟨i, rfl⟩ : ∃ i : Nat, at_ = i := ⟨at_.toNat, by omega⟩
    exact bsame_in p q cp cq a b i w hT hra hrb h1 h2 h3 h4 (by omega)
  · exact bsame_out p q cp cq a b at_ w hT h hra.len hrb.len (fun _ => trivial)
end Go.Proofs.YtljegehfdmgcbaaDoor
