/- The law PmemCrashes. -/
import Derived.Test.YtaflbfmlajbjcaaPmeD
namespace Go.Proofs.Ytaflbfmlajbjcaa
open Go Go.RowKit

def eb (b : BitVec 8) : List Value := [vb b]
theorem eb_len (b : BitVec 8) : (eb b).length = 1 := rfl
theorem eb_one (b : BitVec 8) : ∀ u ∈ eb b, u.oneCell' = true := by
  intro u hu
  rw [eb, List.mem_singleton] at hu
  subst hu; rfl
theorem elem_b8 : ElemIs Try.prog 45 5 (.int .u8 0) 1 1 := ⟨by kernel_rfl, by kernel_rfl, rfl, by decide⟩
theorem rds_of_rdl {B : Nat} {w : World} {p : Option Addr} {cap : Nat} {ys : List (BitVec 8)} (h : RdL B w p cap vb ys) : RdS B w p cap 1 eb ys := by
  obtain ⟨h1, h2, h3⟩ := h
  refine ⟨h1, h2, h3.imp id ?_⟩
  rintro ⟨b, off, hp, hb, hc⟩
  refine ⟨b, off, hp, hb, fun i hi j v hv => ?_⟩
  have hj : j = 0 := by have := (List.getElem?_eq_some_iff.1 hv).1; simp [eb] at this; exact this
  subst hj
  rw [Nat.mul_one, Nat.add_zero, hc i hi]
  exact hv
theorem rdl_of_eb {B : Nat} {w : World} {p : Option Addr} {cap : Nat} {ys : List (BitVec 8)} (h : RdS B w p cap 1 eb ys) : RdL B w p cap vb ys := by
  obtain ⟨h1, h2, h3⟩ := h
  refine ⟨h1, h2, h3.imp id ?_⟩
  rintro ⟨b, off, hp, hb, hc⟩
  refine ⟨b, off, hp, hb, fun i hi => ?_⟩
  have := hc i hi 0 _ rfl
  rwa [Nat.mul_one, Nat.add_zero] at this
/-- Behind a crash all lines last as they stand. -/
theorem crash_crash (m : Mem) (pk : List (BitVec 8)) : (m.crash pk).crash pk = m.crash pk := by
  have h : ∀ (vs : List V8), (Mem.of vs).crash pk = Mem.of vs := by
    intro vs
    have e : crashV (Mem.of vs) pk = vs := by
      apply List.ext_getElem
      · simp [crashV, Mem.of]
      · intro i h1 h2
        simp only [crashV, List.getElem_mapIdx]
        have hno : isOpen (Mem.of vs) i = false := by
          rw [isOpen_get _ _ (by simpa [crashV] using h1)]
          simp [Mem.of, Ln.open]
        unfold crashL
        rw [hno, if_neg Bool.false_ne_true]
        simp [Mem.of]
    unfold Mem.crash
    rw [e]
  exact h (crashV m pk)
set_option maxRecDepth 100000 in
set_option maxHeartbeats 8000000 in
theorem lawPmemCrashes (p0 p1 p2 : Option Addr) (c0 c1 c2 : Nat) (l : List (BitVec 64)) (sc : List ActA) (pk : List (BitVec 8)) (W : World) (hr0 : RdL W.heap.size W p0 c0 vw l) (hr1 : RdS W.heap.size W p1 c1 3 ac sc) (hr2 : RdL W.heap.size W p2 c2 vb pk) :
    Calls Try.prog 6 #[.slice p0 l.length c0, .slice p1 sc.length c1, .slice p2 pk.length c2] W fun e w' => e = .returned (.bool true) ∧ Below W.heap.size W w' := by
  obtain ⟨n, hn⟩ : ∃ n, l.length = n := ⟨_, rfl⟩
  obtain ⟨K, hK⟩ : ∃ K, sc.length = K := ⟨_, rfl⟩
  obtain ⟨Q, hQ⟩ : ∃ Q, pk.length = Q := ⟨_, rfl⟩
  have HN := Lib.hid (And.intro hn (And.intro hK hQ))
  have H0 := Lib.hid (And.intro hr0 (And.intro hr1 hr2))
  rw [hn, hK, hQ]
  clear hr0 hr1 hr2 hn hK hQ
  by_cases h64 : 64 < n
  · have d1 : decide (64 < (n : Int)) = true := decide_eq_true (by omega)
    clear h64
    go_enter Try.func6, Try.ntmps6
    go_wp2_with fail
    refine (works7_any _).mono ?_
    rintro e w' ⟨rfl, hb⟩
    have HB := Lib.hid hb
    clear hb
    go_wp2_with fail
    go_ret
    exact ⟨rfl, HB.out⟩
  · have d1 : decide (64 < (n : Int)) = false := decide_eq_false (by omega)
    by_cases hr : 8 ≤ n ∧ n ≤ 131072 ∧ n % 8 = 0
    · have HR := Lib.hid (right7_yes n W hr)
      by_cases h60 : 60 < K
      · have d2 : decide (60 < (K : Int)) = true := decide_eq_true (by omega)
        clear h64 hr h60
        go_enter Try.func6, Try.ntmps6
        go_wp2_with fail
        refine HR.out.mono ?_
        rintro e w' ⟨rfl, rfl⟩
        go_wp2_with fail
        refine (works7_any _).mono ?_
        rintro e w' ⟨rfl, hb⟩
        have HB := Lib.hid hb
        clear hb
        go_wp2_with fail
        go_ret
        exact ⟨rfl, HB.out⟩
      · have d2 : decide (60 < (K : Int)) = false := decide_eq_false (by omega)
        by_cases h20 : 20 < Q
        · have d3 : decide (20 < (Q : Int)) = true := decide_eq_true (by omega)
          clear h64 hr h60 h20
          go_enter Try.func6, Try.ntmps6
          go_wp2_with fail
          refine HR.out.mono ?_
          rintro e w' ⟨rfl, rfl⟩
          go_wp2_with fail
          refine (works7_any _).mono ?_
          rintro e w' ⟨rfl, hb⟩
          have HB := Lib.hid hb
          clear hb
          go_wp2_with fail
          go_ret
          exact ⟨rfl, HB.out⟩
        · have d3 : decide (20 < (Q : Int)) = false := decide_eq_false (by omega)
          have hK60 : K ≤ 60 := by omega
          have hQ20 : Q ≤ 20 := by omega
          have hof := of_any p0 c0 l W H0.out.1 (by rw [HN.out.1]; omega) (by rw [HN.out.1]; omega) (by rw [HN.out.1]; omega)
          rw [HN.out.1] at hof
          have HOF := Lib.hid hof
          have HST := Lib.hid (show 0 < (linesOf l).length ∧ (linesOf l).length ≤ 1000 by rw [linesOf_len, HN.out.1]; omega)
          have HMD := Lib.hid (show l.length % 8 = 0 ∧ l.length ≤ 1000 by rw [HN.out.1]; omega)
          clear hof
          clear h64 hr h60 h20
          go_enter Try.func6, Try.ntmps6
          go_wp2_with fail
          refine HR.out.mono ?_
          rintro e w' ⟨rfl, rfl⟩
          go_wp2_with fail
          refine HOF.out.mono ?_
          rintro e w1 ⟨O, N, rfl, hm, hN, hb1⟩
          have H1 := Lib.hid (And.intro hm (And.intro hN hb1))
          have hrf := of7_any p0 c0 l w1 ((H0.out.1.below hb1).wide hb1.size) HMD.out.1 HMD.out.2
          rw [HN.out.1] at hrf
          have HRF := Lib.hid hrf
          clear hm hN hb1 hrf
          go_wp2_with fail
          refine HRF.out.mono ?_
          rintro e w2 ⟨p, c, rfl, ho, hp, hb2⟩
          have H2 := Lib.hid (And.intro (two_start HST.out.1 HST.out.2 H1.out.1 H1.out.2.1 ho hp hb2) (And.intro (show ∀ x, N x → W.heap.size ≤ x from fun x hx => (H1.out.2.1 x hx).1) (H1.out.2.2.trans (hb2.mono H1.out.2.2.size))))
          clear ho hp hb2
          go_wp2_with fail
          refine (num7_any _ _).mono ?_
          rintro e w3 ⟨rfl, rfl⟩
          go_wp2_with fail
          go_loopw [9, 10] (fun x9 i wr => ∃ (k : Nat) (p : Option Addr) (c : Nat) (m : Mem), k ≤ K ∧ i = .int .i64 k ∧ x9 = .slice p m.length c ∧ m.length = n / 8 ∧ Two wr O p c m N ∧ Below W.heap.size W wr) (fun _ i _ => K - (intOf i).toNat)
          case atStart => exact ⟨0, p, c, _, Nat.zero_le _, rfl, rfl, by rw [of_len, linesOf_len, HN.out.1], H2.out.1, H2.out.2.2⟩
          case round =>
            obtain ⟨k, p, c, m, hk, rfl, rfl, hml, ht, hb⟩ := hrel
            by_cases hlt : k < K
            · have hlt' : (k : Int) < (K : Int) := by omega
              have hk9 : (k : Int) ≤ 60 := by omega
              obtain ⟨g, o, rfl, hg, a0, a1, a2⟩ := act_at H0.out.2.1 k (by rw [HN.out.2.1]; exact hlt)
              obtain ⟨x, hx⟩ : ∃ x, sc[k]'(by rw [HN.out.2.1]; exact hlt) = x := ⟨_, rfl⟩
              rw [hx] at a0 a1 a2
              have b0 := (hb.cell (p := ⟨g, o + k * 3, none⟩) hg).trans a0
              have b1 := (hb.cell (p := ⟨g, o + k * 3 + 1, none⟩) hg).trans a1
              have b2 := (hb.cell (p := ⟨g, o + k * 3 + 2, none⟩) hg).trans a2
              have HT := Lib.hid (And.intro ht (And.intro hml hb))
              have HACT := Lib.hid (show Calls Try.prog 16 #[.pointer (some ⟨O, 0, none⟩), .slice p m.length c, .agg #[.int .i64 x.what, .int .i64 x.at_, vw x.value]] wr fun e w' => ActPost wr O (stepM m x) N e w' from act7_any x wr ht)
              clear ht hb hg a0 a1 a2 hx hml
              go_wp2_with fail
              refine HACT.out.mono ?_
              rintro e w5 ⟨p', c', rfl, ht5, hf5⟩
              have HB5 := Lib.hid (And.intro (show (stepM m x).length = n / 8 by rw [stepM_len]; exact HT.out.2.1) (And.intro ht5 (HT.out.2.2.trans (hf5.below HT.out.2.2.size H2.out.2.1))))
              clear ht5 hf5 b0 b1 b2 HACT
              go_wp2_with fail
              go_roundw
              case rel => exact ⟨k + 1, p', c', _, hlt, by go_num, rfl, HB5.out⟩
              case measure => simp [intOf]; omega
            · obtain rfl : k = K := by omega
              have hnl : ¬ (k : Int) < (k : Int) := by omega
              have HT := Lib.hid (And.intro ht (And.intro hml hb))
              clear ht hb hml
              have HPK := Lib.hid ((rds_of_rdl (H0.out.2.2.kps (Nat.le_refl _) (Kps.of_below (T := fun b => b < W.heap.size) HT.out.2.2 (fun _ h => h)) (fun b hb => H0.out.2.2.inlt hb))))
              go_wp2_with (
                at_builtin; refine wpList_copyG rfl (.tmp 68) (.tmp 69) _ rfl elem_b8 (by decide) eb_len eb_one wr.heap.size _ rfl (own_empty wr wr.heap.size 5 1 (Nat.le_refl _)) p2 c2 pk W.heap.size (by rw [HN.out.2.2]; rfl) (HPK.out.keep (fun b hb => ((Below.refl wr.heap.size wr).alloc (Nat.le_refl _) _).block b (Nat.lt_of_lt_of_le (HPK.out.inlt hb) HT.out.2.2.size))) (by rw [HN.out.2.2]; omega) (by simp) ?_
                rw [HN.out.2.2]
                intro pc cc wc hown hpc hg
                have hbc : Below wr.heap.size wr wc := below_grown ((Below.refl _ wr).alloc (Nat.le_refl _) _) hg (by simp) (by intro b hb; cases hb; exact Nat.le_refl _)
                have HC := Lib.hid (And.intro (rdl_of_eb (OwnG.rds eb_len hown)) (And.intro hbc (HT.out.1.below hbc)))
                clear hown hpc hg hbc)
              have hcr := crash_any pc cc pk wc HC.out.2.2.mat HC.out.2.2.bnd HC.out.1 (by rw [HN.out.2.2]; omega)
              rw [HN.out.2.2] at hcr
              have HCR := Lib.hid hcr
              clear hcr
              refine HCR.out.mono ?_
              rintro e w4 ⟨O2, N2, rfl, hm4, hN4, hb4⟩
              have hrW : ∀ V, Below W.heap.size W V → RdL V.heap.size V p2 c2 vb pk := fun V hV => (H0.out.2.2.below hV).wide hV.size
              have HRW := Lib.hid hrW
              have H4 := Lib.hid (And.intro hm4 (And.intro hN4 (And.intro (HC.out.2.2.below hb4) (HT.out.2.2.trans ((HC.out.2.1.mono HT.out.2.2.size).trans (hb4.mono (Nat.le_trans HT.out.2.2.size HC.out.2.1.size)))))))
              clear hm4 hN4 hb4 hrW HCR
              go_wp2_with fail
              have hcr := crash_any p2 c2 pk w4 H4.out.1 (fun x hx => (H4.out.2.1 x hx).2) (HRW.out w4 H4.out.2.2.2) (by rw [HN.out.2.2]; omega)
              rw [HN.out.2.2] at hcr
              have HCR := Lib.hid hcr
              clear hcr
              refine HCR.out.mono ?_
              rintro e w5 ⟨O3, N3, rfl, hm5, hN5, hb5⟩
              have H5 := Lib.hid (And.intro hm5 (And.intro (H4.out.1.below hb5) (And.intro (H4.out.2.2.1.below hb5) (H4.out.2.2.2.trans (hb5.mono H4.out.2.2.2.size)))))
              have HN4 := Lib.hid (show ∀ x, N2 x → x < w5.heap.size from fun x hx => Nat.lt_of_lt_of_le (H4.out.2.1 x hx).2 hb5.size)
              clear hm5 hN5 hb5 HCR
              go_wp2_with fail
              refine (num7_any _ _).mono ?_
              rintro e w6 ⟨rfl, rfl⟩
              go_wp2_with fail
              refine (num7_any _ _).mono ?_
              rintro e w6 ⟨rfl, rfl⟩
              go_wp2_with fail
              have hcr := crash7_any p p2 c c2 m pk w6 H5.out.2.2.1.ref (HRW.out w6 H5.out.2.2.2) H5.out.2.2.1.pos (by have := H5.out.2.2.1.le; omega) (by rw [HN.out.2.2]; omega)
              rw [HN.out.2.2] at hcr
              have HCR := Lib.hid hcr
              clear hcr
              refine HCR.out.mono ?_
              rintro e w7 ⟨p7, c7, rfl, ho7, hp7, hb7⟩
              have hcl : (m.crash pk).length = m.length := crash_len m pk
              have H7 : Hid (Two w7 O2 p7 c7 (m.crash pk) N2 ∧ MAt w7 O3 ((m.crash pk).crash pk) N3 ∧ Two w7 O p c m N ∧ Below W.heap.size W w7) := Lib.hid ⟨⟨H5.out.2.1.below hb7, fun x hx => Nat.lt_of_lt_of_le (HN4.out x hx) hb7.size, OwnG.rds lc_len ho7, fun b hb hx => by have := hp7 b hb; have := HN4.out b hx; omega, by rw [hcl]; exact H5.out.2.2.1.le, by rw [hcl]; exact H5.out.2.2.1.pos⟩, H5.out.1.below hb7, H5.out.2.2.1.below hb7, H5.out.2.2.2.trans (hb7.mono H5.out.2.2.2.size)⟩
              have HIS := is7_any w7 H7.out.1
              rw [hcl] at HIS
              have HI := Lib.hid HIS
              clear ho7 hp7 hb7 HCR hcl HIS
              go_wp2_with fail
              refine HI.out.mono ?_
              rintro e w8 ⟨rfl, hb8⟩
              have H8 := Lib.hid (And.intro (H7.out.1.below hb8).mat (And.intro (H7.out.2.1.below hb8) (And.intro (H7.out.2.2.1.below hb8) (H7.out.2.2.2.trans (hb8.mono H7.out.2.2.2.size)))))
              clear hb8
              go_wp2_with fail
              refine (is7_any w8 H8.out.2.2.1).mono ?_
              rintro e w9 ⟨rfl, hb9⟩
              have HSM := Lib.hid (sameM_any w9 (H8.out.1.below hb9) (H8.out.2.1.below hb9) (by rw [crash_len, crash_len, crash_len]))
              have H9 := Lib.hid (H8.out.2.2.2.trans (hb9.mono H8.out.2.2.2.size))
              clear hb9
              go_wp2_with fail
              refine HSM.out.mono ?_
              rintro e w10 ⟨r, rfl, hr, hb10⟩
              obtain rfl : r = true := hr.2 (by rw [crash_crash])
              have H10 := Lib.hid (H9.out.trans (hb10.mono H9.out.size))
              clear hr hb10
              go_wp2_with fail
              refine (works7_any _).mono ?_
              rintro e w11 ⟨rfl, hb11⟩
              have H11 := Lib.hid (H10.out.trans (hb11.mono H10.out.size))
              clear hb11
              go_wp2_with fail
              go_ret
              exact ⟨rfl, H11.out⟩
    · have HR := Lib.hid (right7_no n W hr)
      clear h64 hr
      go_enter Try.func6, Try.ntmps6
      go_wp2_with fail
      refine HR.out.mono ?_
      rintro e w' ⟨rfl, rfl⟩
      go_wp2_with fail
      refine (works7_any _).mono ?_
      rintro e w' ⟨rfl, hb⟩
      have HB := Lib.hid hb
      clear hb
      go_wp2_with fail
      go_ret
      exact ⟨rfl, HB.out⟩
theorem lawPmemCrashes_of {α : Type} {enc : α → List Value} (p0 : Option Addr) (c0 : Nat) (l : List (BitVec 64)) (p1 : Option Addr) (c1 : Nat) (ys : List α) (p2 : Option Addr) (c2 : Nat) (pk : List (BitVec 8)) (W : World) (hr0 : RdL W.heap.size W p0 c0 vw l) (hr1 : RdS W.heap.size W p1 c1 3 enc ys) (hr2 : RdL W.heap.size W p2 c2 vb pk) (f : α → ActA) (hf : ∀ y, enc y = ac (f y)) :
    Calls Try.prog 6 #[.slice p0 l.length c0, .slice p1 ys.length c1, .slice p2 pk.length c2] W fun e w' => e = .returned (.bool true) ∧ Below W.heap.size W w' := by
  have := lawPmemCrashes p0 p1 p2 c0 c1 c2 l (ys.map f) pk W hr0 (hr1.mapE f hf) hr2
  rwa [List.length_map] at this
end Go.Proofs.Ytaflbfmlajbjcaa
