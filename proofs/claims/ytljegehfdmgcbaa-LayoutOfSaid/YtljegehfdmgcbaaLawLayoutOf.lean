/- The walk of the law LayoutOf. -/
import Derived.Test.YtljegehfdmgcbaaLayoutN
namespace Go.Proofs.Ytljegehfdmgcbaa
open Go Go.RowKit

set_option maxRecDepth 100000 in
set_option maxHeartbeats 4000000 in
theorem lawLayoutOf (B I R T : Int) (k0 k1 : BitVec 64) (w : World) : Calls Try.prog 3 #[.agg #[.int .i64 B, .int .i64 I, .int .i64 R, .int .i64 T], .agg #[vw k0, vw k1]] w fun e w' => e = .returned (.bool true) ∧ Below w.heap.size w w' := by
  obtain ⟨wa, hwa, hF, hK, hbA, hzA⟩ := form_key w B I R T k0 k1
  obtain ⟨l, hl⟩ : ∃ l, ofL B I R T k0 k1 = l := ⟨_, rfl⟩
  obtain ⟨no, hno⟩ : ∃ no, ofNo B I R T = no := ⟨_, rfl⟩
  have hcase : (RightL l ∧ no = 0) ∨ (¬ RightL l ∧ no = 2) := by
    subst hl hno
    by_cases h : OfOk B I R T
    · exact .inl ⟨right_of h, by unfold ofNo; rw [if_pos h]⟩
    · refine .inr ⟨?_, by unfold ofNo; rw [if_neg h]⟩
      unfold ofL
      rw [if_neg h]
      decide
  have HCASE := Lib.hid hcase
  obtain ⟨f0, f1, f2, f3⟩ := hF.cells
  obtain ⟨g0, g1⟩ := hK.cells
  have HA := Lib.hid (And.intro hF (And.intro hK (And.intro hbA hzA)))
  have HL := Lib.hid hl
  have HNO := Lib.hid hno
  clear hF hK hbA hzA hcase hl hno
  go_enter Try.func3, Try.ntmps3
  go_wp2_with fail
  refine (of_any B I R T k0 k1 _).mono ?_
  rintro e w1 ⟨rfl, hb1⟩
  rw [HL.out, HNO.out]
  clear hwa f0 f1 f2 f3 g0 g1
  obtain ⟨hF, hK, hbA, hzA⟩ := HA.out
  obtain ⟨w2, hw2, hl2, hb2⟩ := lay_made w1 l
  have hs1 := hb1.size
  have hF2 : FAt w2 w.heap.size B I R T := (hF.below hF.lt hb1).below (hF.below hF.lt hb1).lt hb2
  have hK2 : KAt w2 (w.heap.size + 1) k0 k1 := (hK.below hK.lt hb1).below (hK.below hK.lt hb1).lt hb2
  have H2 := Lib.hid (And.intro hl2 (hbA.trans ((hb1.trans (hb2.mono hb1.size)).mono (by omega))))
  obtain ⟨f0, f1, f2, f3⟩ := hF2.cells
  obtain ⟨g0, g1⟩ := hK2.cells
  clear hF hK hbA hzA hb1 hb2 hs1 hF2 hK2 hl2
  unfold lv
  go_wp2_with fail
  refine (refOf_any B I R T k0 k1 _).mono ?_
  rintro e w3 ⟨rfl, hb3⟩
  rw [HL.out, HNO.out]
  clear hw2 f0 f1 f2 f3 g0 g1
  obtain ⟨w4, hw4, hl4, hb4⟩ := lay_made w3 l
  have hL2 : LayAt w4 w1.heap.size l := (H2.out.1.below H2.out.1.lt hb3).below (H2.out.1.below H2.out.1.lt hb3).lt hb4
  have hs3 := hb3.size
  have H4 := Lib.hid (show LayAt w4 w1.heap.size l ∧ Below w.heap.size w w4 from ⟨hL2, H2.out.2.trans ((hb3.trans (hb4.mono hb3.size)).mono H2.out.2.size)⟩)
  obtain ⟨m0, m1, m2, m3, m4, m5, m6, m7, m8, m9, mf⟩ := lay_cells hL2
  obtain ⟨n0, n1, n2, n3, n4, n5, n6, n7, n8, n9, nf⟩ := lay_cells hl4
  have heq : ∀ W, (binOp .neq 27 (.agg #[.int .i64 l.B, .int .i64 l.I, .int .i64 l.R, .int .i64 l.T, vw l.k0, vw l.k1, .int .i64 l.i, .int .i64 l.r, .int .i64 l.m, .int .i64 l.d]) (.agg #[.int .i64 l.B, .int .i64 l.I, .int .i64 l.R, .int .i64 l.T, vw l.k0, vw l.k1, .int .i64 l.i, .int .i64 l.r, .int .i64 l.m, .int .i64 l.d])).run Try.prog W = .ok (.bool false) W := fun W => by
    have := lv_neq l l W
    simpa [lv] using this
  clear hL2 hl4 hb3 hb4 hs3
  unfold lv
  go_wp2_with (go_at_call 11; refine (num_any13 _ _).mono ?_; rintro e w' ⟨rfl, rfl⟩)
  clear heq n0 n1 n2 n3 n4 n5 n6 n7 n8 n9 nf
  rcases HCASE.out with ⟨hr, h0⟩ | ⟨hr, h0⟩
  · have hsr := super_right l w4 hr
    unfold lv at hsr
    have HSR := Lib.hid hsr
    have HR := Lib.hid hr
    clear hsr hr
    subst h0
    try simp only [HW4]
    refine HSR.out.mono ?_
    rintro e w5 ⟨v, rfl, hown, hb5⟩
    obtain ⟨p, cap, rfl, hrd⟩ := super_rd hown
    have hL5 := H4.out.1.below H4.out.1.lt hb5
    have H5 := Lib.hid (And.intro hL5 (And.intro (H4.out.2.trans (hb5.mono H4.out.2.size)) hrd))
    clear m0 m1 m2 m3 m4 m5 m6 m7 m8 m9 mf hw4 hown hb5 hrd
    obtain ⟨m0, m1, m2, m3, m4, m5, m6, m7, m8, m9, mf⟩ := lay_cells hL5
    clear hL5
    go_wp2_with (go_at_call 11; refine (num_any13 _ _).mono ?_; rintro e w' ⟨rfl, rfl⟩)
    have hrs := refSuper_any l w5 HR.out
    unfold lv at hrs
    refine hrs.mono ?_
    rintro e w6 ⟨v, rfl, hown, hb6⟩
    obtain ⟨q, cq, rfl, hrq⟩ := super_rd hown
    have hr6 := (H5.out.2.2.below hb6).wide hb6.size
    have H6 := Lib.hid (And.intro (H5.out.2.1.trans (hb6.mono H5.out.2.1.size)) (And.intro hr6 hrq))
    clear hrs m0 m1 m2 m3 m4 m5 m6 m7 m8 m9 mf hown hb6 hr6 hrq
    go_wp2_with fail
    refine (sameSuper p q cap cq l w6 H6.out.2.1 H6.out.2.2).mono ?_
    rintro e w7 ⟨rfl, hb7⟩
    have H7 := Lib.hid (H6.out.1.trans (hb7.mono H6.out.1.size))
    clear hb7
    go_wp2_with fail
    refine (works13_any _).mono ?_
    rintro e w8 ⟨rfl, hb8⟩
    have H8 := Lib.hid (H7.out.trans (hb8.mono H7.out.size))
    clear hb8
    go_wp2_with fail
    go_ret
    exact ⟨rfl, H8.out⟩
  · have hsr := super_wrong l w4 hr
    unfold lv at hsr
    have HSR := Lib.hid hsr
    clear hsr hr
    subst h0
    refine HSR.out.mono ?_
    rintro e w5 ⟨rfl, hb5⟩
    have H5 := Lib.hid (H4.out.2.trans (hb5.mono H4.out.2.size))
    clear m0 m1 m2 m3 m4 m5 m6 m7 m8 m9 mf hw4 hb5
    go_wp2_with (go_at_call 11; refine (num_any13 _ _).mono ?_; rintro e w' ⟨rfl, rfl⟩)
    refine (works13_any _).mono ?_
    rintro e w8 ⟨rfl, hb8⟩
    have H8 := Lib.hid (H5.out.trans (hb8.mono H5.out.size))
    clear hb8
    go_wp2_with fail
    go_ret
    exact ⟨rfl, H8.out⟩
end Go.Proofs.Ytljegehfdmgcbaa
