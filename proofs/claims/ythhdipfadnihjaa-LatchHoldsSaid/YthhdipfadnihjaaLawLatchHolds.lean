/- The walk of the law LatchHolds. -/
import Derived.Test.YthhdipfadnihjaaLatchS
namespace Go.Proofs.Ythhdipfadnihjaa
open Go Go.RowKit

/-- What holds between the rounds. -/
structure HInv (n : Nat) (w0 : World) (T : Nat → Prop) (W : World) (L : Nat) (s : List Turn × List Turn) (me : Turn) (p : Option Addr) (c : Nat) (ah : List Turn) : Prop where
  lt : Lt n w0 T W L s
  ok : OkS s
  wf : WfS s
  fr : Front s ah me
  rd : RdS W.heap.size W p c 2 tc ah
  nT : ∀ b, inP p c b → ¬ T b
  le : ah.length ≤ 8
theorem HInv.below {n : Nat} {w0 : World} {T : Nat → Prop} {W W' : World} {L : Nat} {s : List Turn × List Turn} {me : Turn} {p : Option Addr} {c : Nat} {ah : List Turn} (h : HInv n w0 T W L s me p c ah) (hb : Below W.heap.size W W') : HInv n w0 T W' L s me p c ah :=
  ⟨h.lt.below hb, h.ok, h.wf, h.fr, (h.rd.kept hb).wide hb.size, h.nT, h.le⟩
theorem HInv.some {n : Nat} {w0 : World} {T : Nat → Prop} {W : World} {L : Nat} {s : List Turn × List Turn} {me : Turn} {p : Option Addr} {c : Nat} {ah : List Turn} (h : HInv n w0 T W L s me p c ah) : s.1 ≠ [] := by
  intro h1
  obtain ⟨pre, post, he, _⟩ := h.fr
  rw [h1, h.wf.1 h1] at he
  simp at he
/-- Another client's call. -/
theorem HInv.acted {n : Nat} {w0 : World} {T T' : Nat → Prop} {W W' : World} {L : Nat} {s : List Turn × List Turn} {me : Turn} {p : Option Addr} {c : Nat} {ah : List Turn} (h : HInv n w0 T W L s me p c ah) (what k : Int) (hk : me.1 ≠ k)
    (hl : Lt n w0 T' W' L (actS s what k).1) (hT : ∀ b, T' b → T b ∨ W.heap.size ≤ b) (hf : Frn T W W') : RdS W'.heap.size W' p c 2 tc ah ∧ (∀ b, inP p c b → ¬ T' b) ∧ Front (actS s what k).1 (if what = 2 then withoutT ah k else ah) me ∧ OkS (actS s what k).1 ∧ WfS (actS s what k).1 := by
  refine ⟨(h.rd.keep fun b hb => hf.block b (h.rd.inlt hb) (h.nT b hb)).wide hf.size, fun b hb ht => ?_, h.fr.act h.ok what k hk, h.ok.act _ _, h.wf.act _ _⟩
  rcases hT b ht with h' | h'
  · exact h.nT b hb h'
  · have := h.rd.inlt hb; omega

set_option maxRecDepth 100000 in
set_option maxHeartbeats 2000000 in
theorem lawLatchHolds_out (p : Option Addr) (cap : Nat) (ys : List ActT) (cl : Int) (b : Bool) (q : Option Addr) (capq : Nat) (zs : List ActT) (w : World) (hly : ys.length ≤ 9223372036854775807) (hlz : zs.length ≤ 9223372036854775807)
    (h : 60 < ys.length ∨ 60 < zs.length ∨ cl < 0 ∨ 7 < cl) :
    Calls Try.prog 5 #[.slice p ys.length cap, .int .i64 cl, .bool b, .slice q zs.length capq] w fun e w' => e = .returned (.bool true) ∧ Below w.heap.size w w' := by
  by_cases h1 : 60 < ys.length
  · have h1' : (60 : Int) < (ys.length : Int) := by omega
    clear h h1
    go_enter Try.func5, Try.ntmps5
    go_wp2_with fail
    refine (works25_any _).mono ?_
    rintro e w1 ⟨rfl, b1⟩
    have HB := Lib.hid b1
    clear b1
    go_wp2_with fail
    go_ret
    exact ⟨rfl, HB.out⟩
  have h1' : (ys.length : Int) ≤ 60 := by omega
  by_cases h2 : 60 < zs.length
  · have h2' : (60 : Int) < (zs.length : Int) := by omega
    clear h h1 h2
    go_enter Try.func5, Try.ntmps5
    go_wp2_with fail
    refine (works25_any _).mono ?_
    rintro e w1 ⟨rfl, b1⟩
    have HB := Lib.hid b1
    clear b1
    go_wp2_with fail
    go_ret
    exact ⟨rfl, HB.out⟩
  have h2' : (zs.length : Int) ≤ 60 := by omega
  by_cases h3 : cl < 0
  · clear h h1 h2
    go_enter Try.func5, Try.ntmps5
    go_wp2_with fail
    refine (works25_any _).mono ?_
    rintro e w1 ⟨rfl, b1⟩
    have HB := Lib.hid b1
    clear b1
    go_wp2_with fail
    go_ret
    exact ⟨rfl, HB.out⟩
  have h4 : 7 < cl := by omega
  have h3' : 0 ≤ cl := by omega
  clear h h1 h2 h3
  go_enter Try.func5, Try.ntmps5
  go_wp2_with fail
  refine (works25_any _).mono ?_
  rintro e w1 ⟨rfl, b1⟩
  have HB := Lib.hid b1
  clear b1
  go_wp2_with fail
  go_ret
  exact ⟨rfl, HB.out⟩

set_option maxRecDepth 100000 in
set_option maxHeartbeats 4000000 in
theorem lawLatchHolds_in (p : Option Addr) (cap : Nat) (ys : List ActT) (cl : Int) (wr_b : Bool) (q : Option Addr) (capq : Nat) (zs : List ActT) (w : World) (hry : RdS w.heap.size w p cap 2 ac ys) (hrz : RdS w.heap.size w q capq 2 ac zs)
    (h1 : (ys.length : Int) ≤ 60) (h2 : (zs.length : Int) ≤ 60) (h3 : 0 ≤ cl) (h4 : cl ≤ 7) :
    Calls Try.prog 5 #[.slice p ys.length cap, .int .i64 cl, .bool wr_b, .slice q zs.length capq] w fun e w' => e = .returned (.bool true) ∧ Below w.heap.size w w' := by
  have HPL := Lib.hid (played_any p cap ys w hry)
  have HZ := Lib.hid hrz
  have hok := runS_ok ys
  have hwf := runS_wf ys
  obtain ⟨s0, hs0⟩ : ∃ s0, runS ys = s0 := ⟨_, rfl⟩
  rw [hs0] at HPL hok hwf
  have HOK := Lib.hid hok
  have HWF := Lib.hid hwf
  have HL8 := Lib.hid hok.len
  clear hry hrz hs0 hok hwf
  go_enter Try.func5, Try.ntmps5
  go_wp2_with fail
  refine HPL.out.mono ?_
  rintro e w1 ⟨L, T1, rfl, h1t⟩
  have H1 := Lib.hid h1t
  clear h1t HPL
  go_wp2_with fail
  refine (wt_any T1 L s0.1 s0.2 w1 H1.out.own (by have := HL8.out; omega)).mono ?_
  rintro e w2 ⟨p2, c2, rfl, ho2, hq2, hb2⟩
  have H2 := Lib.hid (H1.out.below hb2)
  have O2 := Lib.hid ho2
  have Q2 := Lib.hid hq2
  have hbe : Below w2.heap.size w2 (w2.alloc (.cells #[] 53)) := (Below.refl _ _).alloc (Nat.le_refl _) _
  have HE := Lib.hid hbe
  have HHD := Lib.hid (held_any T1 L s0.1 s0.2 (w2.alloc (.cells #[] 53)) (H2.out.own.below hbe) (by have := HL8.out; omega))
  have HLT2 := Lib.hid hb2.size
  clear ho2 hq2 hb2 hbe
  go_wp2_with fail
  refine HHD.out.mono ?_
  rintro e w3 ⟨p3, c3, rfl, ho3, hq3, hb3⟩
  have hb23 : Below w2.heap.size w2 w3 := HE.out.trans (hb3.mono HE.out.size)
  have hown3 := own_below (own_empty w2 w2.heap.size 53 2 (Nat.le_refl _)) hb3
  have HOW := Lib.hid hown3
  have O3 := Lib.hid ho3
  have B3 := Lib.hid hb23
  obtain ⟨A0, hA0⟩ : ∃ A0, s0.1 ++ s0.2 = A0 := ⟨_, rfl⟩
  have HA0 := Lib.hid hA0
  have HLA := Lib.hid (show A0.length ≤ 8 by rw [← hA0, List.length_append]; exact HL8.out)
  clear ho3 hq3 hb3 hb23 hown3 hA0 HHD HE
  go_wp2_with (first
    | (at_builtin
       refine wpList_append_src rfl (.tmp 44) (.tmp 46) _ rfl elem_turn w2.heap.size _ 0 [] rfl HOW.out _ s0.1.length (s0.1.flatMap tc) rfl (src_rds tc_len O3.out.rds) (flat_len tc_len _) (tc_one _) (by have := HL8.out; unfold maxLen; omega) (by have := HL8.out; omega) B3.out.size ?_
       intro v4 w4 hown hg _ _
       have B4 := Lib.hid (below_grown B3.out hg B3.out.size (fun b hb => (HOW.out.lt b hb).1))
       have O4 := Lib.hid (show w4.ownsRow w2.heap.size 53 2 v4 s0.1.length (s0.1.flatMap tc) by simpa using hown)
       clear hown hg)
    | (at_builtin
       refine wpList_append_src rfl (.tmp 47) (.tmp 48) _ rfl elem_turn w2.heap.size v4 s0.1.length (s0.1.flatMap tc) rfl O4.out _ s0.2.length (s0.2.flatMap tc) rfl (src_rds tc_len (O2.out.below B4.out).rds) (flat_len tc_len _) (tc_one _) (by have := HL8.out; unfold maxLen; omega) (by have := HL8.out; omega) B4.out.size ?_
       intro v5 w5 hown hg _ _
       have B5 := Lib.hid (below_grown B4.out hg B4.out.size (fun b hb => (O4.out.lt b hb).1))
       have hown5 : w5.ownsRow w2.heap.size 53 2 v5 A0.length (A0.flatMap tc) := by
         rw [← HA0.out, List.length_append, List.flatMap_append]; exact hown
       obtain ⟨p5, c5, rfl, ho5, hq5⟩ := ownT_of hown5
       have O5 := Lib.hid ho5
       have Q5 := Lib.hid hq5
       have h8 : (A0.length : Int) ≤ 8 := by have := HLA.out; omega
       clear hown hg hown5 ho5 hq5))
  have H5 := Lib.hid (H2.out.below B5.out)
  have hq5T : ∀ b, inP p5 c5 b → ¬ T1 b := fun b hb ht => by have := Q5.out b hb; have := H1.out.lt b ht; have := HLT2.out; omega
  have HQT := Lib.hid hq5T
  clear hq5T h8
  obtain ⟨z, hz⟩ : ∃ z, askS s0 cl wr_b = z := ⟨_, rfl⟩
  have hak := lt_ask H5.out HOK.out cl wr_b
  rw [hz] at hak
  have HAK := Lib.hid hak
  have HZQ := Lib.hid hz
  clear hak hz
  refine HAK.out.mono ?_
  rintro e w6 ⟨rfl, h6, f6⟩
  have H6 := Lib.hid h6
  have hr6 : RdS w6.heap.size w6 p5 c5 2 tc A0 := (O5.out.rds.keep fun b hb => f6.block b (O5.out.lt hb) (HQT.out b hb)).wide f6.size
  have HR6 := Lib.hid hr6
  have hT6 : ∀ b, inP p5 c5 b → ¬ grow T1 w5 w6 b := fun b hb ht => by
    rcases ht with h' | h'
    · exact HQT.out b hb h'
    · have := O5.out.lt hb; have := h'.1; omega
  have HT6 := Lib.hid hT6
  clear h6 f6 hr6 hT6 HAK
  by_cases hno : z.2 = 0
  · have hfr := ask_front (s := s0) (c := cl) (b := wr_b) (by rw [HZQ.out]; exact hno)
    rw [HZQ.out, HA0.out] at hfr
    have hok1 := HOK.out.ask cl wr_b
    have hwf1 := HWF.out.ask cl wr_b
    rw [HZQ.out] at hok1 hwf1
    have HI0 := Lib.hid (show HInv w.heap.size w (grow T1 w5 w6) w6 L z.1 (cl, wr_b) p5 c5 A0 from ⟨H6.out, hok1, hwf1, hfr, HR6.out, HT6.out, HLA.out⟩)
    rw [hno]
    clear hno hfr hok1 hwf1
    go_wp2_with fail
    refine (num25_any _ _).mono ?_
    rintro e w6' ⟨rfl, rfl⟩
    go_wp2_with fail
    obtain ⟨T6, hT6e⟩ : ∃ T6, grow T1 w5 w6 = T6 := ⟨_, rfl⟩
    rw [hT6e] at HI0
    clear hT6e
    go_loopw [12, 13] (fun a i wr => ∃ (k : Nat) (T : Nat → Prop) (p' : Option Addr) (c' : Nat) (ah : List Turn) (s : List Turn × List Turn), k ≤ zs.length + 1 ∧ a = .slice p' ah.length c' ∧ i = .int .i64 k ∧ HInv w.heap.size w T wr L s (cl, wr_b) p' c' ah) (fun _ i _ => zs.length + 1 - (intOf i).toNat)
    case atStart => exact ⟨0, T6, p5, c5, A0, z.1, Nat.zero_le _, rfl, rfl, HI0.out⟩
    case round =>
      obtain ⟨k, T, p', c', ah, s, hk, rfl, rfl, hI⟩ := hrel
      by_cases hle : k ≤ zs.length
      · have hle' : (k : Int) ≤ (zs.length : Int) := by omega
        have HI := Lib.hid hI
        have hlen := hI.ok.len
        have hla := hI.le
        have hls : ((s.1.length : Int) == 0) = false := by
          rw [beq_eq_false_iff_ne]
          have : s.1.length ≠ 0 := fun h => hI.some (List.eq_nil_of_length_eq_zero h)
          omega
        clear hI
        go_wp2_with fail
        refine (held_any T L s.1 s.2 wr HI.out.lt.own (by omega)).mono ?_
        rintro e w7 ⟨p7, c7, rfl, ho7, _, hb7⟩
        have I7 := Lib.hid (HI.out.below hb7)
        have O7 := Lib.hid ho7
        clear ho7 hb7
        go_wp2_with fail
        refine (wt_any T L s.1 s.2 w7 I7.out.lt.own (by omega)).mono ?_
        rintro e w8 ⟨p8, c8, rfl, _, _, hb8⟩
        have I8 := Lib.hid (I7.out.below hb8)
        have O8 := Lib.hid (O7.out.below hb8).rds
        clear hb8
        go_wp2_with fail
        go_loopw [17] (fun j wq => ∃ m : Nat, m ≤ s.1.length ∧ j = .int .i64 m ∧ wq = w8) (fun j _ => s.1.length - (intOf j).toNat)
        case atStart => exact ⟨0, Nat.zero_le _, rfl, rfl⟩
        case round =>
          obtain ⟨m, hm, rfl, rfl⟩ := hrel
          by_cases hlt : m < s.1.length
          · obtain ⟨b9, off9, rfl, _, _, g1⟩ := O8.out.rows m hlt
            have hlt' : (m : Int) < (s.1.length : Int) := by omega
            have hal := I8.out.wf.2 s.1[m] (List.getElem_mem hlt)
            obtain ⟨x, hx⟩ : ∃ x, s.1[m].2 = x := ⟨_, rfl⟩
            rw [hx] at g1 hal
            clear hx
            cases x with
            | true =>
              have h11 : (s.1.length : Int) ≤ 1 := by have := hal rfl; omega
              clear hal
              go_wp2_with fail
              refine ⟨⟨m + 1, by omega, by go_num, by first | rfl | trivial⟩, by simp [intOf]; omega⟩
            | false =>
              clear hal
              go_wp2_with fail
              refine ⟨⟨m + 1, by omega, by go_num, by first | rfl | trivial⟩, by simp [intOf]; omega⟩
          · obtain rfl : m = s.1.length := by omega
            by_cases has : ah = []
            · subst has
              have hh := holds_any T L s.1 s.2 cl wr I8.out.lt.own I8.out.ok.held
              have hcl : hasT s.1 cl = true := I8.out.fr.holds I8.out.wf
              rw [hcl] at hh
              have HH := Lib.hid hh
              clear hh hcl
              go_wp2_with fail
              refine HH.out.mono ?_
              rintro e wv ⟨rfl, hbv⟩
              have IV := Lib.hid (I8.out.below hbv)
              clear hbv HH
              by_cases hkl : k = zs.length
              · subst hkl
                go_wp2_with fail
                refine ⟨⟨zs.length + 1, T, p', c', [], s, by omega, rfl, by go_num, IV.out⟩, by simp [intOf]⟩
              · have hkn : ((k : Int) == (zs.length : Int)) = false := by rw [beq_eq_false_iff_ne]; omega
                have hklt : k < zs.length := by omega
                have hklt' : (k : Int) < (zs.length : Int) := by omega
                obtain ⟨b, off, rfl, hbl, s0', s1'⟩ := (hrd_at HZ.out IV.out.lt.at_).acts k hklt
                obtain ⟨y1, hy1⟩ : ∃ y, zs[k].1 = y := ⟨_, rfl⟩
                obtain ⟨y2, hy2⟩ : ∃ y, zs[k].2 = y := ⟨_, rfl⟩
                rw [hy1] at s0'
                rw [hy2] at s1'
                have HBL := Lib.hid (Nat.lt_of_lt_of_le hbl IV.out.lt.at_.2)
                have HS01 := Lib.hid (And.intro s0' s1')
                have HBO := Lib.hid hbl
                clear hkl hy1 hy2 hbl
                by_cases hcl : y2 = cl
                · subst hcl
                  go_wp2_with fail
                  refine ⟨⟨k + 1, T, p', c', [], s, by omega, rfl, by go_num, IV.out⟩, by simp [intOf]; omega⟩
                · have hcl' : (y2 == cl) = false := by simpa using hcl
                  have hact := act_any T L s.1 s.2 none 0 [] none 0 [] y1 y2 wv IV.out.lt.own IV.out.lt.lt (by omega) ⟨Nat.le_refl _, by simp [maxLen], .inl rfl⟩ ⟨Nat.le_refl _, by simp [maxLen], .inl rfl⟩ (by simp)
                    (by rintro b (⟨a, ha, _⟩ | ⟨a, ha, _⟩) <;> cases ha)
                  rw [show ((s.1, s.2) : List Turn × List Turn) = s from rfl] at hact
                  have HACT := Lib.hid hact
                  have HNE := Lib.hid (show cl ≠ y2 from fun e => hcl e.symm)
                  clear hact hcl
                  go_wp2_with fail
                  refine HACT.out.mono ?_
                  rintro e wu ha
                  obtain ⟨T', v, rfl, hlu, hTu, hfu⟩ := IV.out.lt.acted ha
                  obtain ⟨u1, u2, u3, u4, u5⟩ := IV.out.acted y1 y2 HNE.out hlu hTu hfu
                  have hsc : ∀ o, wu.cell? ⟨b, o, none⟩ = wv.cell? ⟨b, o, none⟩ := fun o => World.cell?_of_block (w := wv) (a := ⟨b, o, none⟩) (hfu.block b HBL.out (fun ht => by have := IV.out.lt.ge b ht; have := HBO.out; omega))
                  have t0 := (hsc _).trans HS01.out.1
                  have t1 := (hsc _).trans HS01.out.2
                  have hbu : b < wu.heap.size := Nat.lt_of_lt_of_le HBL.out hfu.size
                  have HU := Lib.hid (And.intro hlu (And.intro u1 (And.intro u2 (And.intro u3 (And.intro u4 u5)))))
                  have HBU := Lib.hid (And.intro hbu (And.intro t0 t1))
                  clear ha hlu hTu hfu u1 u2 u3 u4 u5 hsc s0' s1' t1 hbu HACT
                  by_cases hw2 : y1 = 2
                  · subst hw2
                    have t1 := HBU.out.2.2
                    go_wp2_with fail
                    go_loopw [18, 19] (fun v j wq => ∃ (m : Nat) (q2 : Option Addr) (d2 : Nat), m ≤ 0 ∧ j = .int .i64 m ∧ v = .slice q2 (withoutT (List.take m []) y2).length d2 ∧ OwnT wq q2 d2 (withoutT (List.take m []) y2) ∧ (∀ b, inP q2 d2 b → wu.heap.size ≤ b) ∧ Below wu.heap.size wu wq) (fun _ j _ => 0 - (intOf j).toNat)
                    case atStart => exact ⟨0, none, 0, Nat.zero_le _, rfl, rfl, OwnT.nil _ _, (by rintro b ⟨a, ha, _⟩; cases ha), Below.refl _ _⟩
                    case round =>
                      obtain ⟨m, q2, d2, hm, rfl, rfl, hown, hqd, hb⟩ := hrel
                      obtain rfl : m = 0 := by simpa using hm
                      obtain ⟨hlu, u1, u2, u3, u4, u5⟩ := HU.out
                      first | rw [if_pos rfl] at u3 | rw [if_pos trivial] at u3
                      have HF := Lib.hid (show HInv w.heap.size w T' wr L (actS s 2 y2).1 (cl, wr_b) q2 d2 (withoutT (List.take 0 []) y2) from ⟨hlu.below hb, u4, u5, u3, hown.rds, fun b hi ht => by have := hqd b hi; have := hlu.lt b ht; omega, by simp [withoutT]⟩)
                      clear hlu u1 u2 u3 u4 u5 hown hqd hb
                      go_wp2_with fail
                      refine ⟨⟨k + 1, T', q2, d2, _, (actS s 2 y2).1, by omega, rfl, by go_num, HF.out⟩, by simp [intOf]; omega⟩
                  · have hw2' : (y1 == 2) = false := by simpa using hw2
                    obtain ⟨hlu, u1, u2, u3, u4, u5⟩ := HU.out
                    rw [if_neg hw2] at u3
                    have HF := Lib.hid (show HInv w.heap.size w T' wu L (actS s y1 y2).1 (cl, wr_b) p' c' [] from ⟨hlu, u4, u5, u3, u1, u2, IV.out.le⟩)
                    clear hlu u1 u2 u3 u4 u5 hw2
                    go_wp2_with fail
                    refine ⟨⟨k + 1, T', p', c', [], (actS s y1 y2).1, by omega, rfl, by go_num, HF.out⟩, by simp [intOf]; omega⟩
            · have hane : ((ah.length : Int) == 0) = false := by
                rw [beq_eq_false_iff_ne]
                have : ah.length ≠ 0 := fun h => has (List.eq_nil_of_length_eq_zero h)
                omega
              have IV := I8
              obtain ⟨wv, hwv⟩ : ∃ wv, wr = wv := ⟨_, rfl⟩
              rw [hwv] at IV ⊢
              clear has hwv
              by_cases hkl : k = zs.length
              · subst hkl
                go_wp2_with fail
                refine ⟨⟨zs.length + 1, T, p', c', ah, s, by omega, rfl, by go_num, IV.out⟩, by simp [intOf]⟩
              · have hkn : ((k : Int) == (zs.length : Int)) = false := by rw [beq_eq_false_iff_ne]; omega
                have hklt : k < zs.length := by omega
                have hklt' : (k : Int) < (zs.length : Int) := by omega
                obtain ⟨b, off, rfl, hbl, s0', s1'⟩ := (hrd_at HZ.out IV.out.lt.at_).acts k hklt
                obtain ⟨y1, hy1⟩ : ∃ y, zs[k].1 = y := ⟨_, rfl⟩
                obtain ⟨y2, hy2⟩ : ∃ y, zs[k].2 = y := ⟨_, rfl⟩
                rw [hy1] at s0'
                rw [hy2] at s1'
                have HBL := Lib.hid (Nat.lt_of_lt_of_le hbl IV.out.lt.at_.2)
                have HS01 := Lib.hid (And.intro s0' s1')
                have HBO := Lib.hid hbl
                clear hkl hy1 hy2 hbl
                by_cases hcl : y2 = cl
                · subst hcl
                  go_wp2_with fail
                  refine ⟨⟨k + 1, T, p', c', ah, s, by omega, rfl, by go_num, IV.out⟩, by simp [intOf]; omega⟩
                · have hcl' : (y2 == cl) = false := by simpa using hcl
                  have hact := act_any T L s.1 s.2 none 0 [] none 0 [] y1 y2 wv IV.out.lt.own IV.out.lt.lt (by omega) ⟨Nat.le_refl _, by simp [maxLen], .inl rfl⟩ ⟨Nat.le_refl _, by simp [maxLen], .inl rfl⟩ (by simp)
                    (by rintro b (⟨a, ha, _⟩ | ⟨a, ha, _⟩) <;> cases ha)
                  rw [show ((s.1, s.2) : List Turn × List Turn) = s from rfl] at hact
                  have HACT := Lib.hid hact
                  have HNE := Lib.hid (show cl ≠ y2 from fun e => hcl e.symm)
                  clear hact hcl
                  go_wp2_with fail
                  refine HACT.out.mono ?_
                  rintro e wu ha
                  obtain ⟨T', v, rfl, hlu, hTu, hfu⟩ := IV.out.lt.acted ha
                  obtain ⟨u1, u2, u3, u4, u5⟩ := IV.out.acted y1 y2 HNE.out hlu hTu hfu
                  have hsc : ∀ o, wu.cell? ⟨b, o, none⟩ = wv.cell? ⟨b, o, none⟩ := fun o => World.cell?_of_block (w := wv) (a := ⟨b, o, none⟩) (hfu.block b HBL.out (fun ht => by have := IV.out.lt.ge b ht; have := HBO.out; omega))
                  have t0 := (hsc _).trans HS01.out.1
                  have t1 := (hsc _).trans HS01.out.2
                  have hbu : b < wu.heap.size := Nat.lt_of_lt_of_le HBL.out hfu.size
                  have HU := Lib.hid (And.intro hlu (And.intro u1 (And.intro u2 (And.intro u3 (And.intro u4 u5)))))
                  have HBU := Lib.hid (And.intro hbu (And.intro t0 t1))
                  clear ha hlu hTu hfu u1 u2 u3 u4 u5 hsc s0' s1' t1 hbu HACT
                  by_cases hw2 : y1 = 2
                  · subst hw2
                    have t1 := HBU.out.2.2
                    go_wp2_with fail
                    go_loopw [18, 19] (fun v j wq => ∃ (m : Nat) (q2 : Option Addr) (d2 : Nat), m ≤ ah.length ∧ j = .int .i64 m ∧ v = .slice q2 (withoutT (List.take m ah) y2).length d2 ∧ OwnT wq q2 d2 (withoutT (List.take m ah) y2) ∧ (∀ b, inP q2 d2 b → wu.heap.size ≤ b) ∧ Below wu.heap.size wu wq) (fun _ j _ => ah.length - (intOf j).toNat)
                    case atStart => exact ⟨0, none, 0, Nat.zero_le _, rfl, rfl, OwnT.nil _ _, (by rintro b ⟨a, ha, _⟩; cases ha), Below.refl _ _⟩
                    case round =>
                      obtain ⟨m, q2, d2, hm, rfl, rfl, hown, hqd, hb⟩ := hrel
                      by_cases hmt : m < ah.length
                      · obtain ⟨b8, off8, rfl, hb8, a0, a1⟩ := (HU.out.2.1.kept hb).rows m hmt
                        have hmt' : (m : Int) < (ah.length : Int) := by omega
                        have t1' : wr.drew.cell? ⟨b, off + k * 2 + 1, none⟩ = some (.int .i64 y2) := (hb.cell (p := ⟨b, off + k * 2 + 1, none⟩) HBU.out.1).trans HBU.out.2.2
                        obtain ⟨y, hy⟩ : ∃ y, ah[m] = y := ⟨_, rfl⟩
                        rw [hy] at a0 a1
                        obtain ⟨x1, x2⟩ := y
                        simp only at a0 a1
                        have hln : (withoutT (ah.take m) y2).length < 1000000 := by
                          have : (withoutT (ah.take m) y2).length ≤ (ah.take m).length := List.length_filter_le _ _
                          rw [List.length_take] at this; omega
                        have hts : withoutT (ah.take (m + 1)) y2 = withoutT (ah.take m) y2 ++ (if x1 = y2 then [] else [(x1, x2)]) := by
                          rw [List.take_succ_eq_append_getElem hmt, hy]
                          unfold withoutT
                          rw [List.filter_append]
                          by_cases h : x1 = y2 <;> simp [h]
                        have a0d : wr.drew.cell? ⟨b8, off8 + m * 2, none⟩ = some (.int .i64 x1) := a0
                        have a1d : wr.drew.cell? ⟨b8, off8 + m * 2 + 1, none⟩ = some (.bool x2) := a1
                        have HTS := Lib.hid hts
                        have HO := Lib.hid hown
                        have HQ := Lib.hid hqd
                        have HB := Lib.hid hb
                        have HLN := Lib.hid hln
                        clear hy hts hown hqd hb hln a0 a1
                        generalize withoutT (ah.take m) y2 = us at *
                        by_cases hc : x1 = y2
                        · have HC := Lib.hid hc
                          subst hc
                          go_wp2_with fail
                          go_region_held3 (fun w' => w'.cell? ⟨b8, off8 + m * 2, none⟩ = some (.int .i64 x1) ∧ w'.cell? ⟨b, off + k * 2 + 1, none⟩ = some (.int .i64 x1)) (first | exact ⟨a0d, t1'⟩) (fail)
                          go_wp2_with fail
                          refine ⟨⟨m + 1, q2, d2, by omega, by go_num, ?_, ?_, HQ.out, HB.out.drew⟩, by simp [intOf]; omega⟩
                          · first | rw [HTS.out, if_pos rfl, List.append_nil] | rw [HTS.out, if_pos trivial, List.append_nil]
                          · first | rw [HTS.out, if_pos rfl, List.append_nil] | rw [HTS.out, if_pos trivial, List.append_nil]
                            exact HO.out.below (Below.refl _ _).drew
                        · have hc' : (x1 = y2) = False := by simp [hc]
                          go_wp2_with fail
                          go_region_held3 (fun w' => w'.cell? ⟨b8, off8 + m * 2, none⟩ = some (.int .i64 x1) ∧ w'.cell? ⟨b, off + k * 2 + 1, none⟩ = some (.int .i64 y2)) (first | exact ⟨a0d, t1'⟩) (fail)
                          go_wp2_with (
                            at_builtin
                            refine wpList_appT rfl (.tmp 162) (.tmp 167) _ rfl elem_turn q2 d2 us (x1, x2) rfl ((HO.out.below (Below.refl _ _).drew).below ((Below.refl _ _).alloc (Nat.le_refl _) _)) wr.heap.size 1 rfl 53 (0, 0) (World.alloc_heap_new wr.drew _) HLN.out ?_
                            intro q3 d3 w3' hown3 hf3 hq3
                            have HB2 := Lib.hid (Below.trans (HB.out.drew.alloc HB.out.size _) (hf3.below (by have := HB.out.size; simp; omega) HQ.out))
                            have HO2 := Lib.hid hown3
                            have HQ2 := Lib.hid (show ∀ b, inP q3 d3 b → wu.heap.size ≤ b from fun b hb => (hq3 b hb).elim (HQ.out b) (fun h => by have := HB.out.size; have := h.1; simp at this; omega))
                            clear hown3 hf3 hq3)
                          refine ⟨⟨m + 1, q3, d3, by omega, by go_num, ?_, ?_, HQ2.out, HB2.out⟩, by simp [intOf]; omega⟩
                          · rw [HTS.out, if_neg hc]; simp
                          · rw [HTS.out, if_neg hc]; exact HO2.out
                      · obtain rfl : m = ah.length := by omega
                        rw [List.take_length] at hown ⊢
                        obtain ⟨hlu, u1, u2, u3, u4, u5⟩ := HU.out
                        first | rw [if_pos rfl] at u3 | rw [if_pos trivial] at u3
                        have hlw : (withoutT ah y2).length ≤ 8 := Nat.le_trans (List.length_filter_le _ _) hla
                        have HF := Lib.hid (show HInv w.heap.size w T' wr L (actS s 2 y2).1 (cl, wr_b) q2 d2 (withoutT ah y2) from ⟨hlu.below hb, u4, u5, u3, hown.rds, fun b hi ht => by have := hqd b hi; have := hlu.lt b ht; omega, hlw⟩)
                        clear hlu u1 u2 u3 u4 u5 hown hqd hb
                        go_wp2_with fail
                        refine ⟨⟨k + 1, T', q2, d2, _, (actS s 2 y2).1, by omega, rfl, by go_num, HF.out⟩, by simp [intOf]; omega⟩
                  · have hw2' : (y1 == 2) = false := by simpa using hw2
                    obtain ⟨hlu, u1, u2, u3, u4, u5⟩ := HU.out
                    rw [if_neg hw2] at u3
                    have HF := Lib.hid (show HInv w.heap.size w T' wu L (actS s y1 y2).1 (cl, wr_b) p' c' ah from ⟨hlu, u4, u5, u3, u1, u2, IV.out.le⟩)
                    clear hlu u1 u2 u3 u4 u5 hw2
                    go_wp2_with fail
                    refine ⟨⟨k + 1, T', p', c', ah, (actS s y1 y2).1, by omega, rfl, by go_num, HF.out⟩, by simp [intOf]; omega⟩
      · obtain rfl : k = zs.length + 1 := by omega
        have HI := Lib.hid hI
        clear hI
        go_wp2_with fail
        refine (works25_any _).mono ?_
        rintro e w9 ⟨rfl, b9⟩
        have HB := Lib.hid (HI.out.lt.at_.1.trans (b9.mono HI.out.lt.at_.2))
        clear b9
        go_wp2_with fail
        go_ret
        exact ⟨rfl, HB.out⟩
  · have hhas := ask_has (s := s0) (c := cl) (b := wr_b) ⟨h3, by omega⟩ (by rw [HZQ.out]; exact hno)
    rw [HA0.out] at hhas
    obtain ⟨n, hn⟩ : ∃ n, z.2 = n := ⟨_, rfl⟩
    have hra := refHas_any p5 c5 A0 cl w6 HR6.out
    rw [hhas] at hra
    have HRA := Lib.hid hra
    rw [hn] at hno ⊢
    have hno' : (n == 0) = false := by simpa using hno
    clear hra hhas hn hno
    go_wp2_with fail
    refine (num25_any _ _).mono ?_
    rintro e w6' ⟨rfl, rfl⟩
    go_wp2_with fail
    refine HRA.out.mono ?_
    rintro e w7 ⟨rfl, rfl⟩
    go_wp2_with fail
    refine (works25_any _).mono ?_
    rintro e w9 ⟨rfl, b9⟩
    have HB := Lib.hid (H6.out.at_.1.trans (b9.mono H6.out.at_.2))
    clear b9
    go_wp2_with fail
    go_ret
    exact ⟨rfl, HB.out⟩
theorem lawLatchHolds (p : Option Addr) (cap : Nat) (ys : List ActT) (cl : Int) (b : Bool) (q : Option Addr) (capq : Nat) (zs : List ActT) (w : World) (hry : RdS w.heap.size w p cap 2 ac ys) (hrz : RdS w.heap.size w q capq 2 ac zs) :
    Calls Try.prog 5 #[.slice p ys.length cap, .int .i64 cl, .bool b, .slice q zs.length capq] w fun e w' => e = .returned (.bool true) ∧ Below w.heap.size w w' := by
  by_cases h : 60 < ys.length ∨ 60 < zs.length ∨ cl < 0 ∨ 7 < cl
  · exact lawLatchHolds_out p cap ys cl b q capq zs w hry.len hrz.len h
  · exact lawLatchHolds_in p cap ys cl b q capq zs w hry hrz (by omega) (by omega) (by omega) (by omega)
theorem lawLatchHolds_of {α : Type} {enc : α → List Value} (p : Option Addr) (cap : Nat) (ys : List α) (cl : Int) (b : Bool) (q : Option Addr) (capq : Nat) (zs : List α) (w : World) (hry : RdS w.heap.size w p cap 2 enc ys) (hrz : RdS w.heap.size w q capq 2 enc zs) (f : α → ActT) (he : ∀ y, enc y = ac (f y)) :
    Calls Try.prog 5 #[.slice p ys.length cap, .int .i64 cl, .bool b, .slice q zs.length capq] w fun e w' => e = .returned (.bool true) ∧ Below w.heap.size w w' := by
  have := lawLatchHolds p cap (ys.map f) cl b q capq (zs.map f) w (hry.map f he) (hrz.map f he)
  rwa [List.length_map, List.length_map] at this
end Go.Proofs.Ythhdipfadnihjaa
