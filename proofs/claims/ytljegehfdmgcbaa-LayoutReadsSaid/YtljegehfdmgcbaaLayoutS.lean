/- The walk of device: a device's words, one of them bent. -/
import Derived.Test.YtljegehfdmgcbaaLayoutQ
import Derived.Laws.MakeOwn
import Derived.Laws.CopyOwn
namespace Go.Proofs.Ytljegehfdmgcbaa
open Go Go.RowKit

theorem made_words (k : Nat) (hk : k ≤ 10000) (w : World) : (Instr.makeSlice 34 (.int .i64 (k : Int)) (.int .i64 (k : Int))).run Try.prog w =
    .ok (.slice (some ⟨w.heap.size, 0, none⟩) k k) (w.alloc (.cells (Array.replicate k (vw 0#64)) 24)) := by
  obtain ⟨i0, hi0, hz0, hz1, hz2⟩ := info_parts (elem_u64).info
  have h := run_makeSlice (P := Try.prog) (w := w) 34 24 i0 (.int .u64 0) (elem_u64).under hi0 hz0 .i64 .i64 (k : Int) (k : Int) (by omega) (by omega) (by rw [hz1]; simp; omega) (by rw [hz2]; simp; omega) (by omega)
  rw [h, hz1]
  have e : madeCells (Value.int .u64 0).cells ((k : Int).toNat * 1) = Array.replicate k (vw 0#64) := by
    apply Array.ext
    · simp [madeCells]
    · intro i h1 h2
      simp [madeCells, Value.cells, Nat.mod_one]
  rw [e]
  simp

set_option maxRecDepth 100000 in
set_option maxHeartbeats 8000000 in
theorem device_bad (B I R T : Int) (k0 k1 : BitVec 64) (more n : Int) (y : BitVec 64) (w : World) (hbad : ¬ (OfOk B I R T ∧ B ≤ 64 ∧ -1 ≤ more ∧ more ≤ 1 ∧ 0 ≤ n ∧ n ≤ 63)) :
    Calls Try.prog 24 #[.agg #[.int .i64 B, .int .i64 I, .int .i64 R, .int .i64 T], .agg #[vw k0, vw k1], .int .i64 more, .int .i64 n, vw y] w fun e w' => e = .returned (.tuple #[.slice none 0 0, .bool false]) ∧ Below w.heap.size w w' := by
  obtain ⟨wa, hwa, hF, hK, hbA, hzA⟩ := form_key w B I R T k0 k1
  obtain ⟨l, hl⟩ : ∃ l, ofL B I R T k0 k1 = l := ⟨_, rfl⟩
  obtain ⟨no, hno⟩ : ∃ no, ofNo B I R T = no := ⟨_, rfl⟩
  obtain ⟨f0, f1, f2, f3⟩ := hF.cells
  obtain ⟨g0, g1⟩ := hK.cells
  have HA := Lib.hid (And.intro hF (And.intro hbA hzA))
  have HL := Lib.hid hl
  have HNO := Lib.hid hno
  have HBAD := Lib.hid hbad
  clear hF hK hbA hzA hl hno hbad
  go_enter Try.func24, Try.ntmps24
  go_wp2_with fail
  refine (refOf_any B I R T k0 k1 _).mono ?_
  rintro e w1 ⟨rfl, hb1⟩
  rw [HL.out, HNO.out]
  clear hwa f0 f1 f2 f3 g0 g1
  obtain ⟨hF, hbA, hzA⟩ := HA.out
  obtain ⟨w2, hw2, hl2, hb2⟩ := lay_made w1 l
  have hs1 := hb1.size
  have hb12 : Below wa.heap.size wa w2 := hb1.trans (hb2.mono hb1.size)
  have H2 : Hid (FAt w2 w.heap.size B I R T ∧ Below w.heap.size w w2) := Lib.hid ⟨hF.below hF.lt hb12, hbA.trans (hb12.mono (by omega))⟩
  have f0 := H2.out.1.cells.1
  clear hF hbA hzA hb1 hb2 hs1 hb12 hl2
  unfold lv
  by_cases hok : OfOk B I R T
  case neg =>
    have hno : no = 2 := by rw [← HNO.out]; unfold ofNo; rw [if_neg hok]
    subst hno
    clear hok
    go_wp2_with fail
    go_ret2
    exact ⟨rfl, H2.out.2⟩
  have hno : no = 0 := by rw [← HNO.out]; unfold ofNo; rw [if_pos hok]
  subst hno
  have HOK := Lib.hid hok
  clear hok
  by_cases h1 : 64 < B
  case pos =>
    go_wp2_with fail
    go_ret2
    exact ⟨rfl, H2.out.2⟩
  by_cases h2 : more < -1
  case pos =>
    go_wp2_with fail
    go_ret2
    exact ⟨rfl, H2.out.2⟩
  by_cases h3 : 1 < more
  case pos =>
    go_wp2_with fail
    go_ret2
    exact ⟨rfl, H2.out.2⟩
  by_cases h4 : n < 0
  case pos =>
    go_wp2_with fail
    go_ret2
    exact ⟨rfl, H2.out.2⟩
  by_cases h5 : 63 < n
  case pos =>
    go_wp2_with fail
    go_ret2
    exact ⟨rfl, H2.out.2⟩
  exact absurd ⟨HOK.out, by omega, by omega, by omega, by omega, by omega⟩ HBAD.out

set_option maxRecDepth 100000 in
set_option maxHeartbeats 8000000 in
theorem device_good (B I R T : Int) (k0 k1 : BitVec 64) (more : Int) (k : Nat) (y : BitVec 64) (w : World) (hok : OfOk B I R T) (hB : B ≤ 64) (hm1 : -1 ≤ more) (hm2 : more ≤ 1) (hk : k ≤ 63) :
    Calls Try.prog 24 #[.agg #[.int .i64 B, .int .i64 I, .int .i64 R, .int .i64 T], .agg #[vw k0, vw k1], .int .i64 more, .int .i64 k, vw y] w fun e w' => ∃ b cap ws, e = .returned (.tuple #[.slice (some ⟨b, 0, none⟩) (List.length ws) cap, .bool true]) ∧ RdL w'.heap.size w' (some ⟨b, 0, none⟩) cap vw ws ∧ Below w.heap.size w w' ∧ w.heap.size ≤ b := by
  obtain ⟨wa, hwa, hF, hK, hbA, hzA⟩ := form_key w B I R T k0 k1
  obtain ⟨l, hl⟩ : ∃ l, ofL B I R T k0 k1 = l := ⟨_, rfl⟩
  have hno : ofNo B I R T = 0 := by unfold ofNo; rw [if_pos hok]
  have hr : RightL l := by rw [← hl]; exact right_of hok
  have hB1 : 32 ≤ B := hok.1.1
  obtain ⟨N, hN⟩ : ∃ N : Nat, 64 * B + more = N := ⟨(64 * B + more).toNat, by omega⟩
  have hN1 : 2047 ≤ N := by omega
  have hN2 : N ≤ 4097 := by omega
  obtain ⟨f0, f1, f2, f3⟩ := hF.cells
  obtain ⟨g0, g1⟩ := hK.cells
  have HA := Lib.hid (And.intro hF (And.intro hbA hzA))
  have HL := Lib.hid hl
  have HNO := Lib.hid hno
  have HR := Lib.hid hr
  clear hF hK hbA hzA hl hno hok hr
  go_enter Try.func24, Try.ntmps24
  go_wp2_with fail
  refine (refOf_any B I R T k0 k1 _).mono ?_
  rintro e w1 ⟨rfl, hb1⟩
  rw [HL.out, HNO.out]
  clear hwa f0 f1 f2 f3 g0 g1
  obtain ⟨hF, hbA, hzA⟩ := HA.out
  obtain ⟨w2, hw2, hl2, hb2⟩ := lay_made w1 l
  have hs1 := hb1.size
  have hb12 : Below wa.heap.size wa w2 := hb1.trans (hb2.mono hb1.size)
  have H2 : Hid (FAt w2 w.heap.size B I R T ∧ Below w.heap.size w w2 ∧ LayAt w2 w1.heap.size l) := Lib.hid ⟨hF.below hF.lt hb12, hbA.trans (hb12.mono (by omega)), hl2⟩
  have f0 := H2.out.1.cells.1
  obtain ⟨w3, hw3⟩ : ∃ w3, w2.alloc (.cells (Array.replicate N (vw 0#64)) 24) = w3 := ⟨_, rfl⟩
  have hmk := made_words N (by omega) w2
  rw [hw3] at hmk
  have hg3 : w3.heap[w2.heap.size]? = some (.cells (Array.replicate N (vw 0#64)) 24 (0, 0)) := by rw [← hw3]; exact World.alloc_heap_new _ _
  have hb3 : Below w2.heap.size w2 w3 := by rw [← hw3]; exact (Below.refl _ _).alloc (Nat.le_refl _) _
  have hl3 : LayAt w3 w1.heap.size l := hl2.below hl2.lt hb3
  obtain ⟨q0, q1, q2, q3, q4, q5, q6, q7, q8, q9, qf⟩ := lay_cells hl3
  have hrs := refSuper_any l w3 HR.out
  unfold lv at hrs ⊢
  have HRS := Lib.hid hrs
  have HG3 := Lib.hid hg3
  have HB3 := Lib.hid (H2.out.2.1.trans (hb3.mono H2.out.2.1.size))
  have hz3 : w2.heap.size < w3.heap.size := (Array.getElem?_eq_some_iff.1 hg3).1
  clear hF hbA hzA hb1 hb2 hs1 hb12 hl2 hg3 hb3 hl3 hrs
  go_wp2_with fail
  refine HRS.out.mono ?_
  rintro e w4 ⟨v, rfl, hown, hb4⟩
  obtain ⟨q, cq, rfl, hq⟩ := super_rd hown
  obtain ⟨bq, oq, rfl, _⟩ : ∃ bq oq, q = some ⟨bq, oq, none⟩ ∧ True := by
    obtain ⟨b, o, hp, _⟩ := hq.at 0 (by rw [superL_len]; omega)
    exact ⟨b, o, hp, trivial⟩
  have hg4 := (hb4.block _ hz3).trans HG3.out
  have hsrc : ∀ j v, ((superL l).map vw)[j]? = some v → w4.cell? ((⟨bq, oq, none⟩ : Addr).add j) = some v := by
    intro j v hj
    have hjl : j < (superL l).length := by
      have := (List.getElem?_eq_some_iff.1 hj).1
      simpa using this
    obtain ⟨b', o', hp, _, hc⟩ := hq.at j hjl
    cases hp
    rw [List.getElem?_map, List.getElem?_eq_getElem hjl] at hj
    simp only [Option.map_some, Option.some.injEq] at hj
    rw [← hj]
    have hadd : (⟨bq, oq, none⟩ : Addr).add j = ⟨bq, oq + j, none⟩ := by unfold Addr.add; split <;> simp_all
    rw [hadd]
    exact hc
  have HG4 := Lib.hid hg4
  have HSRC := Lib.hid hsrc
  have HB4 := Lib.hid (HB3.out.trans (hb4.mono HB3.out.size))
  have HC2 := Lib.hid H2.out.2.1.size
  clear hw2 hw3 hmk q0 q1 q2 q3 q4 q5 q6 q7 q8 q9 qf f0 hown hq hb4 hg4 hsrc hz3
  have hlen64 : ((superL l).map vw).length = 64 := by rw [List.length_map, superL_len]
  have hrun := run_copy_row (P := Try.prog) w4 34 34 3 24 w2.heap.size 0 N N ⟨bq, oq, none⟩ 64 cq (Array.replicate N (vw 0#64)) 24 ((superL l).map vw) Try.underlying34 (by kernel_rfl) HG4.out (by rw [hlen64]; exact (Nat.min_eq_left (by omega)).symm) HSRC.out (by rw [hlen64]; simp; omega) (by intro v hv; obtain ⟨x, _, rfl⟩ := List.mem_map.1 hv; rfl)
  have hlist : (Array.replicate N (vw 0#64)).toList.take 0 ++ (superL l).map vw ++ (Array.replicate N (vw 0#64)).toList.drop (0 + ((superL l).map vw).length) = (devL l (N - 64)).map vw := by
    rw [hlen64]
    unfold devL
    simp
  rw [hlist, hlen64] at hrun
  obtain ⟨w5, hw5⟩ : ∃ w5, w4.setRow w2.heap.size ((devL l (N - 64)).map vw).toArray = w5 := ⟨_, rfl⟩
  rw [hw5] at hrun
  have hdl : (devL l (N - 64)).length = N := by rw [devL_len]; omega
  have hg5 : w5.heap[w2.heap.size]? = some (.cells ((devL l (N - 64)).map vw).toArray 24 (0, 0)) := by rw [← hw5]; exact setRow_heap w4 _ _ _ _ _ HG4.out
  have hown5 : w5.ownsRow w2.heap.size 24 1 (.slice (some ⟨w2.heap.size, 0, none⟩) N N) N ((devL l (N - 64)).map vw) := by
    refine ⟨by simp [hdl], .inr ⟨w2.heap.size, N, _, rfl, Nat.le_refl _, hg5, Nat.le_refl _, by unfold maxLen; omega, by simp [hdl], ?_⟩⟩
    simp only [Nat.mul_one]
    exact List.take_of_length_le (by simp [hdl])
  have hb5 : Below w.heap.size w w5 := by rw [← hw5]; exact below_setRow HB4.out HC2.out _
  have hkl : k < (devL l (N - 64)).length := by omega
  obtain ⟨z, hz⟩ : ∃ z, (devL l (N - 64))[k]'hkl = z := ⟨_, rfl⟩
  have hcell := own_at hown5 k hkl
  rw [hz] at hcell
  have hfree := hown5.frozenAt k
  have hxor := bits_xor_w z y
  have hk1 : (k : Int) < (N : Int) := by omega
  have HO5 := Lib.hid hown5
  have HB5 := Lib.hid hb5
  have HDL := Lib.hid hdl
  clear hlen64 hlist hw5 hdl hg5 hown5 hb5 hz
  go_wp2_with fail
  have ho6 := own_set HO5.out k (xorw z y)
  have hb6 : Below w.heap.size w (w5.setCell ⟨w2.heap.size, k, none⟩ (vw (xorw z y))) := HB5.out.setCell (p := ⟨w2.heap.size, k, none⟩) HC2.out _
  go_ret2
  obtain ⟨p6, c6, hp6, hr6, _⟩ := rdl_of_owns (ys := (devL l (N - 64)).set k (xorw z y)) (by rw [List.length_set, HDL.out]; exact ho6)
  have hls : ((devL l (N - 64)).set k (xorw z y)).length = N := by rw [List.length_set, HDL.out]
  rw [hls] at hp6
  injection hp6 with e1 e2 e3
  subst e1 e3
  refine ⟨w2.heap.size, N, (devL l (N - 64)).set k (xorw z y), ?_, hr6, hb6, HC2.out⟩
  rw [hls]
  rfl
end Go.Proofs.Ytljegehfdmgcbaa
