/- The walk of what layout.Each goes over. -/
import Derived.Test.YtljegehfdmgcbaaLayoutG
import Derived.Test.YtljegehfdmgcbaaHeldI
import Derived.Test.YtljegehfdmgcbaaKeep
import Derived.Sort.CutIn
import Derived.Laws.EntriesVeiled
namespace Go.Proofs.Ytljegehfdmgcbaa
open Go Go.RowKit
attribute [local go_sem] Oper.semAt_some

def itA (it : Itm) : Array Value := #[.int .i64 it.1, .agg #[.int .i64 it.2.1, .int .i64 it.2.2]]
def encI (its : List Itm) : List (Array Value) := its.map itA
theorem encI_len (its : List Itm) : (encI its).length = its.length := by simp [encI]
theorem encI_get (its : List Itm) (k : Nat) (h : k < (encI its).length) : (encI its)[k] = itA (its[k]'(by simpa [encI] using h)) := by simp [encI]

set_option maxRecDepth 100000 in
set_option maxHeartbeats 2000000 in
theorem each13_iter (O : Nat) (l : Lay) (w : World) (hO : LayAt w O l) :
    Iter Try.prog 33 #[.pointer (some ⟨O, 0, none⟩)] (encI (itemsL l)) (fun b => b = O) w := by
  intro L J Jx W T hW hT hJ hJx hY h0
  have hlt := hO.lt
  have hO' : LayAt W O l := (hW.block O rfl hlt).trans hO
  rw [encI_len]
  have HY := Lib.hid hY
  have HJ := Lib.hid hJ
  have HO := Lib.hid hO'
  obtain ⟨q0, q1, q2, q3, q4, q5, q6, q7, q8, q9, qf⟩ := lay_cells hO'
  clear hY hJ hJx hO hO'
  refine callsIn_of_wp Try.func33 rfl trivial ?_ rfl
  simp only [Try.ntmps33, List.size_toArray, List.length_cons, List.length_nil, Nat.reduceAdd, Nat.reduceSub, Array.replicate_succ, Array.replicate_zero, List.push_toArray, List.append_toArray, List.nil_append, List.cons_append]
  gi_wp2
  apply wpIn_scope_wide
  gi_wp2
  refine wcall (right_any l W) ?_
  rintro e w1 ⟨rfl, hb1⟩
  by_cases hr : RightL l
  case neg =>
    have hi0 : itemsL l = [] := by unfold itemsL; rw [if_neg hr]
    rw [decide_eq_false hr]
    have HJ1 := Lib.hid (HJ.out 0 T W w1 h0 (Frn.of_below hb1))
    have HS1 := Lib.hid hb1.size
    clear hb1 q0 q1 q2 q3 q4 q5 q6 q7 q8 q9 qf
    gi_wp2
    rw [Exit.noGoto_ret]
    gi_wp2
    refine bodyPost_ret (results_none rfl _ _ _) rfl ?_
    exact ⟨⟨_, rfl⟩, .inl ⟨_, by rw [hi0]; exact HJ1.out, by
      rintro b (hb | hb)
      · exact Nat.lt_of_lt_of_le (hT b hb) HS1.out
      · exact hb.2⟩⟩
  case pos =>
    rw [decide_eq_true hr]
    have HR := Lib.hid hr
    have hlen := itemsL_len hr
    have hm6 : ∀ k, 0 ≤ pMany l k ∧ pMany l k ≤ 2048 := pMany_nn hr
    have HM6 := Lib.hid hm6
    obtain ⟨w2, hw2⟩ : ∃ w2, w1.alloc (.cells #[.int .i64 l.B, .int .i64 l.I, .int .i64 l.R, .int .i64 l.T, vw l.k0, vw l.k1, .int .i64 l.i, .int .i64 l.r, .int .i64 l.m, .int .i64 l.d] 73) = w2 := ⟨_, rfl⟩
    have hz2 : w2.heap.size = w1.heap.size + 1 := by rw [← hw2]; simp
    have hU2 : UAt w2 w1.heap.size l := by rw [← hw2]; exact World.alloc_heap_new _ _
    obtain ⟨w3, hw3⟩ : ∃ w3, w2.alloc (.cells (pcs 0 ++ pcs 1 ++ pcs 2 ++ pcs 3 ++ pcs 4 ++ pcs 5).toArray 78) = w3 := ⟨_, rfl⟩
    have hz3 : w3.heap.size = w2.heap.size + 1 := by rw [← hw3]; simp
    have hU3 : UAt w3 w1.heap.size l := by rw [← hw3]; exact (Below.heap_alloc _ _ _ (by omega)).trans hU2
    have hQ3 : QAt w3 w2.heap.size := by rw [← hw3]; exact World.alloc_heap_new _ _
    have hbW : Below W.heap.size W w3 := by
      rw [← hw3, ← hw2]
      exact (hb1.alloc hb1.size _).alloc (Nat.le_trans hb1.size (by simp)) _
    have hs1 := hb1.size
    have hJ3 := HJ.out 0 T W w3 h0 (Frn.of_below hbW)
    have hT3 : ∀ b, grow T W w3 b → b < w3.heap.size := by
      rintro b (hb | hb)
      · exact Nat.lt_of_lt_of_le (hT b hb) hbW.size
      · exact hb.2
    have hK3 : Kps (fun b => b = O) W w3 := Kps.of_below hbW (by rintro b rfl; exact HO.out.lt)
    have hg1 : grow T W w3 w1.heap.size := .inr ⟨by omega, by omega⟩
    have hg2 : grow T W w3 w2.heap.size := .inr ⟨by omega, by omega⟩
    have HS := Lib.hid (show J 0 (grow T W w3) w3 ∧ (∀ b, grow T W w3 b → b < w3.heap.size) ∧ Kps (fun b => b = O) W w3 ∧ UAt w3 w1.heap.size l ∧ QAt w3 w2.heap.size ∧ grow T W w3 w1.heap.size ∧ grow T W w3 w2.heap.size from ⟨hJ3, hT3, hK3, hU3, hQ3, hg1, hg2⟩)
    have HLEN := Lib.hid hlen
    have HW3 := Lib.hid hw3
    have hL1 : LayAt w1 O l := (hb1.block O HO.out.lt).trans HO.out
    obtain ⟨v0, v1, v2, v3, v4, v5, v6, v7, v8, v9, vf⟩ := lay_cells hL1
    clear hL1 hz2 hU2 hz3 hU3 hQ3 hbW hs1 hJ3 hT3 hK3 hg1 hg2 hb1 hlen hw3 hm6 hr h0 hT
    gi_wp2
    apply wpIn_label
    gi_wp2
    refine wcall (parts_any w2) ?_
    rintro e w3' ⟨rfl, rfl⟩
    rw [HW3.out]
    clear v0 v1 v2 v3 v4 v5 v6 v7 v8 v9 vf hw2 q0 q1 q2 q3 q4 q5 q6 q7 q8 q9 qf
    gi_wp2
    gi_loopw [14] (fun i wr => ∃ (k : Nat) (T' : Nat → Prop), k ≤ 6 ∧ i = .int .i64 k ∧ J (preL l k) T' wr ∧ (∀ b, T' b → b < wr.heap.size) ∧ Kps (fun b => b = O) W wr ∧ UAt wr w1.heap.size l ∧ QAt wr w2.heap.size ∧ T' w1.heap.size ∧ T' w2.heap.size)
      (fun i _ => 6 - (intOf i).toNat)
    case atStart =>
      obtain ⟨h1, h2, h3, h4, h5, h6, h7⟩ := HS.out
      exact ⟨0, _, by omega, rfl, h1, h2, h3, h4, h5, h6, h7⟩
    case round =>
      clear HS
      obtain ⟨wo, hwo⟩ : ∃ wo, wo = wr := ⟨_, rfl⟩
      subst hwo
      obtain ⟨k, T', hk, rfl, hJs, hTs, hnx, hU, hQ, hg1, hg2⟩ := hrel
      by_cases hk6 : k < 6
      · obtain ⟨p0, p1, p2, p3, p4⟩ := hQ.cells k hk6
        obtain ⟨w4, hw4⟩ : ∃ w4, wo.alloc (.cells #[.int .i64 (pKind k), .func (.func (fromF k)) #[] #[], .func (.func (manyF k)) #[] #[], .int .i64 (pWide k), .int .i64 (pFirst k)] 78) = w4 := ⟨_, rfl⟩
        have hz4 : w4.heap.size = wo.heap.size + 1 := by rw [← hw4]; simp
        have hP4 : PAt w4 wo.heap.size k := by rw [← hw4]; exact World.alloc_heap_new _ _
        have hU4 : UAt w4 w1.heap.size l := by rw [← hw4]; exact (Below.heap_alloc _ _ _ (hTs _ hg1)).trans hU
        have hQ4 : QAt w4 w2.heap.size := by rw [← hw4]; exact (Below.heap_alloc _ _ _ (hTs _ hg2)).trans hQ
        have hb4 : Below wo.heap.size wo w4 := by rw [← hw4]; exact (Below.refl _ _).alloc (Nat.le_refl _) _
        obtain ⟨m0, m1, m2, m3, m4⟩ := hP4.cells
        obtain ⟨u0, u1, u2, u3, u4, u5, u6, u7, u8, u9, uf⟩ := lay_cells hU4
        have hcf := call_many k
        have HT := Lib.hid (And.intro hJs (And.intro hTs (And.intro hnx (And.intro hg1 hg2))))
        have HB4 := Lib.hid hb4
        have HPUQ := Lib.hid (And.intro hP4 (And.intro hU4 hQ4))
        have HZ4 := Lib.hid hz4
        clear hJs hTs hnx hU hQ hg1 hg2 hz4 hP4 hU4 hQ4 hb4
        gi_wp2
        clear p0 p1 p2 p3 p4 m0 m1 m2 m3 m4 u0 u1 u2 u3 u4 u5 u6 u7 u8 u9 uf hcf hw4
        refine wcall (many_any k l HR.out w4) ?_
        rintro e w5 ⟨rfl, hb5⟩
        obtain ⟨c, hc⟩ : ∃ c : Nat, pMany l k = c := ⟨(pMany l k).toNat, by have := HM6.out k; omega⟩
        have hc2 : c ≤ 2048 := by have := HM6.out k; omega
        have hcN : (pMany l k).toNat = c := by omega
        rw [hc]
        have HC := Lib.hid hc
        have HCN := Lib.hid hcN
        have hbx : Below wo.heap.size wo w5 := HB4.out.trans (hb5.mono (by rw [HZ4.out]; omega))
        have hst5 : ∃ T1, J (preL l k + 0) T1 w5 ∧ (∀ b, T1 b → b < w5.heap.size) ∧ Kps (fun b => b = O) W w5 ∧ UAt w5 w1.heap.size l ∧ QAt w5 w2.heap.size ∧ PAt w5 wo.heap.size k ∧ T1 w1.heap.size ∧ T1 w2.heap.size ∧ T1 wo.heap.size := by
          obtain ⟨hJs, hTs, hnx, hg1, hg2⟩ := HT.out
          obtain ⟨hP4, hU4, hQ4⟩ := HPUQ.out
          have hsz := hb5.size
          have hz4 := HZ4.out
          refine ⟨grow T' wo w5, HJ.out _ _ _ _ hJs (Frn.of_below hbx), ?_, hnx.trans (Kps.of_below hbx ?_), (hb5.block _ (by have := hTs _ hg1; omega)).trans hU4, (hb5.block _ (by have := hTs _ hg2; omega)).trans hQ4, (hb5.block _ (by omega)).trans hP4, .inl hg1, .inl hg2, .inr ⟨Nat.le_refl _, by omega⟩⟩
          · rintro b (hb | hb)
            · exact Nat.lt_of_lt_of_le (hTs b hb) hbx.size
            · exact hb.2
          · rintro b rfl
            exact Nat.lt_of_lt_of_le HO.out.lt hnx.size
        have HST := Lib.hid hst5
        clear hc hcN hbx hst5 hb5
        gi_wp2
        gi_loopw [22] (fun i wz => ∃ (n : Nat) (T1 : Nat → Prop), n ≤ c ∧ i = .int .i64 n ∧ J (preL l k + n) T1 wz ∧ (∀ b, T1 b → b < wz.heap.size) ∧ Kps (fun b => b = O) W wz ∧ UAt wz w1.heap.size l ∧ QAt wz w2.heap.size ∧ PAt wz wo.heap.size k ∧ T1 w1.heap.size ∧ T1 w2.heap.size ∧ T1 wo.heap.size)
          (fun i _ => c - (intOf i).toNat)
        case atStart =>
          obtain ⟨T1, h⟩ := HST.out
          exact ⟨0, T1, by omega, rfl, h⟩
        case round =>
          clear HST HT HB4 HPUQ HZ4
          obtain ⟨n, T1, hn, rfl, hJs, hTs, hnx, hU, hQ, hP, hg1, hg2, hg3⟩ := hrel
          by_cases hnc : n < c
          · have hn0 : (0 : Int) ≤ n ∧ (n : Int) ≤ 2048 := by omega
            have HS := Lib.hid (And.intro hJs (And.intro hTs (And.intro hnx (And.intro hU (And.intro hQ (And.intro hP (And.intro hg1 (And.intro hg2 hg3))))))))
            have HN0 := Lib.hid hn0
            clear hJs hTs hnx hQ hg1 hg2 hg3 hn0
            gi_wp2
            refine wpIn_region_HI (fun W' => UAt W' w1.heap.size l ∧ PAt W' wo.heap.size k) (by kernel_rfl) ⟨hU, hP⟩ ?_
            intro hSd
            refine wpAnyHI_take (i := 0) (v := (.func (.yield L) #[] #[])) (by kernel_rfl) rfl (by kernel_rfl) (by kernel_rfl) (by kernel_rfl) (fun _ _ _ h => h) ⟨Or.inl ⟨by rfl, ?hy0⟩, fun _ => rfl⟩ hSd ?_
            case hy0 =>
              rintro W' ⟨hU', hP'⟩
              obtain ⟨m0, m1, m2, m3, m4⟩ := hP'.cells
              obtain ⟨u0, u1, u2, u3, u4, u5, u6, u7, u8, u9, uf⟩ := lay_cells hU'
              clear hU' hP'
              go_simp
            refine wpAnyHI_take (i := 1) (v := (.agg #[.int .i64 (pKind k), .func (.func (fromF k)) #[] #[], .func (.func (manyF k)) #[] #[], .int .i64 (pWide k), .int .i64 (pFirst k)])) (by kernel_rfl) rfl (by kernel_rfl) (by kernel_rfl) (by kernel_rfl) (fun _ _ _ h => h) ⟨Or.inl ⟨by rfl, ?hy1⟩, fun _ => rfl⟩ hSd ?_
            case hy1 =>
              rintro W' ⟨hU', hP'⟩
              obtain ⟨m0, m1, m2, m3, m4⟩ := hP'.cells
              obtain ⟨u0, u1, u2, u3, u4, u5, u6, u7, u8, u9, uf⟩ := lay_cells hU'
              clear hU' hP'
              go_simp
            refine wpAnyHI_take (i := 2) (v := (.agg #[.int .i64 l.B, .int .i64 l.I, .int .i64 l.R, .int .i64 l.T, vw l.k0, vw l.k1, .int .i64 l.i, .int .i64 l.r, .int .i64 l.m, .int .i64 l.d])) (by kernel_rfl) rfl (by kernel_rfl) (by kernel_rfl) (by kernel_rfl) (fun _ _ _ h => h) ⟨Or.inl ⟨by rfl, ?hy2⟩, fun _ => rfl⟩ hSd ?_
            case hy2 =>
              rintro W' ⟨hU', hP'⟩
              obtain ⟨m0, m1, m2, m3, m4⟩ := hP'.cells
              obtain ⟨u0, u1, u2, u3, u4, u5, u6, u7, u8, u9, uf⟩ := lay_cells hU'
              clear hU' hP'
              go_simp
            refine wpAnyHI_take (i := 3) (v := (.int .i64 n)) (by kernel_rfl) rfl (by kernel_rfl) (by kernel_rfl) (by kernel_rfl) (fun _ _ _ h => h) ⟨Or.inl ⟨by rfl, ?hy3⟩, fun _ => rfl⟩ hSd ?_
            case hy3 =>
              rintro W' ⟨hU', hP'⟩
              obtain ⟨m0, m1, m2, m3, m4⟩ := hP'.cells
              obtain ⟨u0, u1, u2, u3, u4, u5, u6, u7, u8, u9, uf⟩ := lay_cells hU'
              clear hU' hP'
              go_simp
            refine wpAnyHI_take (i := 5) (v := (.pointer (some ⟨wo.heap.size, 0, none⟩))) (by kernel_rfl) rfl (by kernel_rfl) (by kernel_rfl) (by kernel_rfl) (fun _ _ _ h => h) ⟨Or.inl ⟨by rfl, ?hy5⟩, fun _ => rfl⟩ hSd ?_
            case hy5 =>
              rintro W' ⟨hU', hP'⟩
              obtain ⟨m0, m1, m2, m3, m4⟩ := hP'.cells
              obtain ⟨u0, u1, u2, u3, u4, u5, u6, u7, u8, u9, uf⟩ := lay_cells hU'
              clear hU' hP'
              go_simp
            refine wpAnyHI_take (i := 6) (v := (.int .i64 (pKind k))) (by kernel_rfl) rfl (by kernel_rfl) (by kernel_rfl) (by kernel_rfl) (fun _ _ _ h => h) ⟨Or.inl ⟨by rfl, ?hy6⟩, fun _ => rfl⟩ hSd ?_
            case hy6 =>
              rintro W' ⟨hU', hP'⟩
              obtain ⟨m0, m1, m2, m3, m4⟩ := hP'.cells
              obtain ⟨u0, u1, u2, u3, u4, u5, u6, u7, u8, u9, uf⟩ := lay_cells hU'
              clear hU' hP'
              go_simp
            refine wpAnyHI_take (i := 7) (v := (.agg #[.int .i64 (pKind k), .func (.func (fromF k)) #[] #[], .func (.func (manyF k)) #[] #[], .int .i64 (pWide k), .int .i64 (pFirst k)])) (by kernel_rfl) rfl (by kernel_rfl) (by kernel_rfl) (by kernel_rfl) (fun _ _ _ h => h) ⟨Or.inl ⟨by rfl, ?hy7⟩, fun _ => rfl⟩ hSd ?_
            case hy7 =>
              rintro W' ⟨hU', hP'⟩
              obtain ⟨m0, m1, m2, m3, m4⟩ := hP'.cells
              obtain ⟨u0, u1, u2, u3, u4, u5, u6, u7, u8, u9, uf⟩ := lay_cells hU'
              clear hU' hP'
              go_simp
            refine wpAnyHI_take (i := 8) (v := (.agg #[.int .i64 l.B, .int .i64 l.I, .int .i64 l.R, .int .i64 l.T, vw l.k0, vw l.k1, .int .i64 l.i, .int .i64 l.r, .int .i64 l.m, .int .i64 l.d])) (by kernel_rfl) rfl (by kernel_rfl) (by kernel_rfl) (by kernel_rfl) (fun _ _ _ h => h) ⟨Or.inl ⟨by rfl, ?hy8⟩, fun _ => rfl⟩ hSd ?_
            case hy8 =>
              rintro W' ⟨hU', hP'⟩
              obtain ⟨m0, m1, m2, m3, m4⟩ := hP'.cells
              obtain ⟨u0, u1, u2, u3, u4, u5, u6, u7, u8, u9, uf⟩ := lay_cells hU'
              clear hU' hP'
              go_simp
            refine wpAnyHI_take (i := 9) (v := (.int .i64 n)) (by kernel_rfl) rfl (by kernel_rfl) (by kernel_rfl) (by kernel_rfl) (fun _ _ _ h => h) ⟨Or.inl ⟨by rfl, ?hy9⟩, fun _ => rfl⟩ hSd ?_
            case hy9 =>
              rintro W' ⟨hU', hP'⟩
              obtain ⟨m0, m1, m2, m3, m4⟩ := hP'.cells
              obtain ⟨u0, u1, u2, u3, u4, u5, u6, u7, u8, u9, uf⟩ := lay_cells hU'
              clear hU' hP'
              go_simp
            try simp only [Act.put, List.getElem_toArray, List.getElem_cons_zero, List.getElem_cons_succ, List.setIfInBounds_toArray, List.set_cons_zero, List.set_cons_succ]
            refine wpAnyHI_one (i := 4) (by kernel_rfl) rfl ?_
            intro K' hK
            rw [if_pos (by kernel_rfl)]
            gi_wp2
            refine wcall (at_any k hk6 l HR.out n HN0.out _) ?_
            rintro e w6 ⟨rfl, hb6⟩
            obtain ⟨hJs, hTs, hnx, hU, hQ, hP, hg1, hg2, hg3⟩ := HS.out
            have hx6 : Below wr.heap.size wr w6 := (Below.refl _ wr).drew.trans hb6
            have hU6 : UAt w6 w1.heap.size l := (hx6.block _ (hTs _ hg1)).trans hU
            have hP6 : PAt w6 wo.heap.size k := (hx6.block _ (hTs _ hg3)).trans hP
            refine hK.out _ _ ⟨hU6, hP6⟩ ?_
            clear hK K' hSd hb6
            have hS6 : UAt w6 w1.heap.size l ∧ PAt w6 wo.heap.size k := ⟨hU6, hP6⟩
            clear hU6 hP6
            try simp only [Act.put, List.getElem_toArray, List.getElem_cons_zero, List.getElem_cons_succ, List.setIfInBounds_toArray, List.set_cons_zero, List.set_cons_succ]
            refine wpAnyHI_one (i := 10) (by kernel_rfl) rfl ?_
            intro K' hK
            rw [if_pos (by kernel_rfl)]
            gi_wp2
            refine wcall (number_any k hk6 l HR.out n HN0.out _) ?_
            rintro e w7 ⟨rfl, hb7⟩
            have hx7 : Below wr.heap.size wr w7 := hx6.trans (hb7.mono hx6.size)
            have hU7 : UAt w7 w1.heap.size l := (hx7.block _ (hTs _ hg1)).trans hU
            have hP7 : PAt w7 wo.heap.size k := (hx7.block _ (hTs _ hg3)).trans hP
            have hS7 : UAt w7 w1.heap.size l ∧ PAt w7 wo.heap.size k := ⟨hU7, hP7⟩
            refine hK.out _ _ hS7 ?_
            clear hK K' hS6 hb7 hx6
            try simp only [Act.put, List.getElem_toArray, List.getElem_cons_zero, List.getElem_cons_succ, List.setIfInBounds_toArray, List.set_cons_zero, List.set_cons_succ]
            refine wpAnyHI_take (i := 11) (v := (.agg #[.int .i64 (pKind k), .int .i64 (pNum l k n)])) (by kernel_rfl) rfl (by kernel_rfl) (by kernel_rfl) (by kernel_rfl) (fun _ _ _ h => h) ⟨Or.inl ⟨by rfl, ?hy11⟩, fun _ => rfl⟩ hS7 ?_
            case hy11 =>
              rintro W' ⟨hU', hP'⟩
              clear hU' hP'
              go_simp
            try simp only [Act.put, List.getElem_toArray, List.getElem_cons_zero, List.getElem_cons_succ, List.setIfInBounds_toArray, List.set_cons_zero, List.set_cons_succ]
            obtain ⟨hil, hig⟩ := itemsL_get HR.out hk6 (show n < (pMany l k).toNat by rw [HCN.out]; exact hnc)
            have hJ7 := HJ.out _ _ _ _ hJs (Frn.of_below hx7)
            have hT7 : ∀ b, grow T1 wr w7 b → b < w7.heap.size := by
              rintro b (hb | hb)
              · exact Nat.lt_of_lt_of_le (hTs b hb) hx7.size
              · exact hb.2
            have hnx7 : Kps (fun b => b = O) W w7 := hnx.trans (Kps.of_below hx7 (by rintro b rfl; exact Nat.lt_of_lt_of_le HO.out.lt hnx.size))
            have hQ7 : QAt w7 w2.heap.size := (hx7.block _ (hTs _ hg2)).trans hQ
            have hyy := HY.out (preL l k + n) (by rw [encI_len]; exact hil) _ _ hT7 hJ7
            rw [encI_get, hig] at hyy
            obtain ⟨fn, tmps, assign, body, hy, hR⟩ := hyy
            unfold itA pItem at hy
            simp only at hy
            have HIL := Lib.hid (show preL l k + n + 1 ≤ (itemsL l).length from hil)
            have H7 := Lib.hid (And.intro hT7 (And.intro hnx7 (And.intro hU7 (And.intro hQ7 hP7))))
            have HG := Lib.hid (show grow T1 wr w7 w1.heap.size ∧ grow T1 wr w7 w2.heap.size ∧ grow T1 wr w7 wo.heap.size from ⟨.inl hg1, .inl hg2, .inl hg3⟩)
            have HR2 := Lib.hid hR
            clear hR HY HS hJs hTs hnx hU hQ hP hg1 hg2 hg3 hJ7 hT7 hnx7 hQ7 hU7 hP7 hx7 hil hig
            refine wpAnyHI_one (i := 12) (by kernel_rfl) rfl ?_
            intro K' hK
            rw [if_pos (by kernel_rfl)]
            gi_wp2
            refine ⟨rfl, HR2.out.mono ?_⟩
            clear hy HR2
            rintro e w8 (⟨rfl, hJ8, hk8⟩ | ⟨rfl, hJx8, hk8⟩)
            · skip
              obtain ⟨hT7, hnx7, hU7, hQ7, hP7⟩ := H7.out
              obtain ⟨hg1, hg2, hg3⟩ := HG.out
              have hU8 : UAt w8 w1.heap.size l := (hk8.block _ (.inr hg1) (hT7 _ hg1)).trans hU7
              have hQ8 : QAt w8 w2.heap.size := (hk8.block _ (.inr hg2) (hT7 _ hg2)).trans hQ7
              have hP8 : PAt w8 wo.heap.size k := (hk8.block _ (.inr hg3) (hT7 _ hg3)).trans hP7
              have hS8 : UAt w8 w1.heap.size l ∧ PAt w8 wo.heap.size k := ⟨hU8, hP8⟩
              refine hK.out _ _ hS8 ?_
              clear hK K' hS7
              try simp only [Act.put, List.getElem_toArray, List.getElem_cons_zero, List.getElem_cons_succ, List.setIfInBounds_toArray, List.set_cons_zero, List.set_cons_succ]
              refine wpAnyHI_take (i := 13) (v := (.bool false)) (by kernel_rfl) rfl (by kernel_rfl) (by kernel_rfl) (by kernel_rfl) (fun _ _ _ h => h) ⟨Or.inl ⟨by rfl, ?hy13⟩, fun _ => rfl⟩ hS8 ?_
              case hy13 =>
                rintro W' ⟨hU', hP'⟩
                clear hU' hP'
                go_simp
              try simp only [Act.put, List.getElem_toArray, List.getElem_cons_zero, List.getElem_cons_succ, List.setIfInBounds_toArray, List.set_cons_zero, List.set_cons_succ]
              refine wpAnyHI_done (by kernel_rfl) ?_ _
              have H8 := Lib.hid (show J (preL l k + (n + 1)) (grow T1 wr w7) w8 ∧ (∀ b, grow T1 wr w7 b → b < w8.heap.size) ∧ Kps (fun b => b = O) W w8 ∧ UAt w8 w1.heap.size l ∧ QAt w8 w2.heap.size ∧ PAt w8 wo.heap.size k ∧ grow T1 wr w7 w1.heap.size ∧ grow T1 wr w7 w2.heap.size ∧ grow T1 wr w7 wo.heap.size from
                ⟨hJ8, fun b hb => Nat.lt_of_lt_of_le (hT7 b hb) hk8.size, hnx7.trans (hk8.mono fun b hb => .inl hb), hU8, hQ8, hP8, hg1, hg2, hg3⟩)
              clear hS8 hU8 hQ8 hP8 hT7 hnx7 hU7 hQ7 hP7 hg1 hg2 hg3 hJ8 hk8
              gi_wp2
              go_roundw
              case rel => exact ⟨n + 1, _, by omega, by go_num, H8.out⟩
              case measure => simp [intOf]; omega
            · skip
              obtain ⟨hT7, hnx7, hU7, hQ7, hP7⟩ := H7.out
              obtain ⟨hg1, hg2, hg3⟩ := HG.out
              have hU8 : UAt w8 w1.heap.size l := (hk8.block _ (.inr hg1) (hT7 _ hg1)).trans hU7
              have hQ8 : QAt w8 w2.heap.size := (hk8.block _ (.inr hg2) (hT7 _ hg2)).trans hQ7
              have hP8 : PAt w8 wo.heap.size k := (hk8.block _ (.inr hg3) (hT7 _ hg3)).trans hP7
              have hS8 : UAt w8 w1.heap.size l ∧ PAt w8 wo.heap.size k := ⟨hU8, hP8⟩
              refine hK.out _ _ hS8 ?_
              clear hK K' hS7
              try simp only [Act.put, List.getElem_toArray, List.getElem_cons_zero, List.getElem_cons_succ, List.setIfInBounds_toArray, List.set_cons_zero, List.set_cons_succ]
              refine wpAnyHI_take (i := 13) (v := (.bool true)) (by kernel_rfl) rfl (by kernel_rfl) (by kernel_rfl) (by kernel_rfl) (fun _ _ _ h => h) ⟨Or.inl ⟨by rfl, ?hy13⟩, fun _ => rfl⟩ hS8 ?_
              case hy13 =>
                rintro W' ⟨hU', hP'⟩
                clear hU' hP'
                go_simp
              try simp only [Act.put, List.getElem_toArray, List.getElem_cons_zero, List.getElem_cons_succ, List.setIfInBounds_toArray, List.set_cons_zero, List.set_cons_succ]
              refine wpAnyHI_done (by kernel_rfl) ?_ _
              have H8 := Lib.hid (show Jx (preL l k + n + 1) (grow T1 wr w7) w8 ∧ (∀ b, grow T1 wr w7 b → b < w8.heap.size) from
                ⟨hJx8, fun b hb => Nat.lt_of_lt_of_le (hT7 b hb) hk8.size⟩)
              clear hS8 hU8 hQ8 hP8 hT7 hnx7 hU7 hQ7 hP7 hg1 hg2 hg3 hJx8 hk8
              gi_wp2
              rw [Exit.noGoto_normal]
              gi_wp2
              go_end0
              exact ⟨⟨_, rfl⟩, .inr ⟨preL l k + n + 1, _, HIL.out, by omega, H8.out.1, H8.out.2⟩⟩
          · obtain rfl : n = c := by omega
            have H8 := Lib.hid (show J (preL l (k + 1)) T1 wr ∧ (∀ b, T1 b → b < wr.heap.size) ∧ Kps (fun b => b = O) W wr ∧ UAt wr w1.heap.size l ∧ QAt wr w2.heap.size ∧ T1 w1.heap.size ∧ T1 w2.heap.size from
              ⟨by rw [preL_succ, HCN.out]; exact hJs, hTs, hnx, hU, hQ, hg1, hg2⟩)
            clear HY hJs hTs hnx hU hQ hP hg1 hg2 hg3
            gi_wp2
            go_roundw
            case rel => exact ⟨k + 1, T1, by omega, by go_num, H8.out⟩
            case measure => simp [intOf]; omega
      · obtain rfl : k = 6 := by omega
        have H8 := Lib.hid (show J (itemsL l).length T' wo ∧ (∀ b, T' b → b < wo.heap.size) from ⟨by rw [HLEN.out]; exact hJs, hTs⟩)
        clear HY hJs hTs hnx hU hQ hg1 hg2
        gi_wp2
        rw [Exit.noGoto_normal]
        gi_wp2
        go_end0
        exact ⟨⟨_, rfl⟩, .inl ⟨T', H8.out⟩⟩
end Go.Proofs.Ytljegehfdmgcbaa
