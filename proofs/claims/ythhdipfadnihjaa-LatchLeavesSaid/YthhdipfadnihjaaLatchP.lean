/- The walk of the law's is. -/
import Derived.Test.YthhdipfadnihjaaLatchO
namespace Go.Proofs.Ythhdipfadnihjaa
open Go Go.RowKit

theorem sameT_refl (xs : List Turn) : sameT xs xs = true := decide_eq_true rfl
set_option maxRecDepth 100000 in
set_option maxHeartbeats 4000000 in
theorem is_any (T : Nat → Prop) (L : Nat) (xs ys : List Turn) (p : Option Addr) (c : Nat) (q : Option Addr) (d : Nat) (w : World) (h : LOwn T w L xs ys) (hok : ∀ t ∈ xs, 0 ≤ t.1 ∧ t.1 < 8) (hn : xs.length ≤ 1000 ∧ ys.length ≤ 1000)
    (hx : RdS w.heap.size w p c 2 tc xs) (hy : RdS w.heap.size w q d 2 tc ys) :
    Calls Try.prog 30 #[.pointer (some ⟨L, 0, none⟩), .agg #[.slice p xs.length c, .slice q ys.length d]] w fun e w' => e = .returned (.bool true) ∧ Below w.heap.size w w' := by
  obtain ⟨wa, hwa⟩ : ∃ wa, w.alloc (.cells #[.slice p xs.length c, .slice q ys.length d] 62) = wa := ⟨_, rfl⟩
  have hba : Below w.heap.size w wa := by rw [← hwa]; exact (Below.refl _ _).alloc (Nat.le_refl _) _
  have hpa : PairAt wa w.heap.size p c xs q d ys := ⟨by rw [← hwa]; exact World.alloc_heap_new w _, (hx.kept hba).wide hba.size, (hy.kept hba).wide hba.size⟩
  have hla := h.below hba
  have hwt := wt_any T L xs ys wa hla (by omega)
  have HWT := Lib.hid hwt
  have HP := Lib.hid hpa
  have HL := Lib.hid hla
  have HBA := Lib.hid hba
  have HWA := Lib.hid hwa
  have HOK := Lib.hid hok
  clear h hx hy hwt hpa hla hba hwa hok
  go_enter Try.func30, Try.ntmps30
  go_wp2_with fail
  rw [HWA.out]
  refine HWT.out.mono ?_
  rintro e w1 ⟨p1, c1, rfl, ho1, hq1, hb1⟩
  have hp1 := HP.out.below hb1
  have hl1 := HL.out.below hb1
  have hpd := hp1.below (Below.refl _ _).drew
  have m0 := hpd.c0
  have m1 := hpd.c1
  have hs1 := refSame_any p1 q c1 d ys ys w1.drew ((ho1.below (Below.refl _ _).drew).rds) hpd.ry
  rw [sameT_refl] at hs1
  have HS1 := Lib.hid hs1
  have HP1 := Lib.hid hp1
  have HL1 := Lib.hid hl1
  have HB1 := Lib.hid hb1
  clear ho1 hq1 hb1 hp1 hl1 hs1 hpd
  go_wp2_with fail
  go_region_held3 (fun w' => w'.cell? ⟨w.heap.size, 0, none⟩ = some (.slice p xs.length c) ∧ w'.cell? ⟨w.heap.size, 1, none⟩ = some (.slice q ys.length d))
    (first | exact ⟨m0, m1⟩ | exact ⟨n0, n1⟩ | exact ⟨o0, o1⟩ | exact ⟨q0, q1⟩)
    (first
    | (go_at_call 23
       refine (held_any T L xs ys w2 (HL1.out.below HB2.out) (by omega)).mono ?_
       rintro e w3 ⟨p3, c3, rfl, ho3, hq3, hb3⟩
       have HB3 := Lib.hid (HB2.out.trans (hb3.mono HB2.out.size))
       have HO3 := Lib.hid ho3
       have o0 := (HP1.out.below HB3.out).c0
       have o1 := (HP1.out.below HB3.out).c1
       clear ho3 hq3 hb3)
    | (go_at_call_of 57 (Value.slice p1 ys.length c1)
       refine HS1.out.mono ?_
       rintro e w2 ⟨rfl, n2, h2⟩
       have HB2 := Lib.hid (show Below w1.heap.size w1 w2 from by rw [h2]; exact below_drewN (Below.refl _ _).drew n2)
       have n0 := (HP1.out.below HB2.out).c0
       have n1 := (HP1.out.below HB2.out).c1
       clear h2)
    | (go_at_call 57
       have hs3 := refSame_any p3 p c3 c xs xs w3 HO3.out.rds (HP1.out.below HB3.out).rx
       rw [sameT_refl] at hs3
       refine hs3.mono ?_
       clear hs3
       rintro e w4 ⟨rfl, n4, h4⟩
       have HB4 := Lib.hid (show Below w1.heap.size w1 w4 from by rw [h4]; exact below_drewN HB3.out n4)
       have q0 := (HP1.out.below HB4.out).c0
       have q1 := (HP1.out.below HB4.out).c1
       clear h4))
  go_wp2_with fail
  clear m0 m1 n0 n1 o0 o1 q0 q1
  go_loopw [7] (fun i wr => ∃ k : Int, i = .int .i64 k ∧ -1 ≤ k ∧ k ≤ 9 ∧ Below w1.heap.size w1 wr) (fun i _ => (9 - intOf i).toNat)
  case atStart => exact ⟨-1, rfl, by omega, by omega, HB4.out⟩
  case round =>
    obtain ⟨k, rfl, hk0, hk9, hb⟩ := hrel
    have HB := Lib.hid hb
    clear hb
    by_cases hlt : k ≤ 8
    · have hbd := Lib.hid (HB.out.drew)
      have hh := holds_any T L xs ys k wr.drew (HL1.out.below HB.out.drew) HOK.out
      have m0 := (HP1.out.below HB.out.drew).c0
      have hw9 : IntKind.i64.wrap (k + 1) = k + 1 := IntWalk.i64_in _ (by omega)
      obtain ⟨b, hb⟩ : ∃ b, hasT xs k = b := ⟨_, rfl⟩
      rw [hb] at hh
      have HH := Lib.hid hh
      have HBV := Lib.hid hb
      clear hh hb
      cases b with
      | true =>
        go_wp2_with fail
        go_region_held3 (fun w' => w'.cell? ⟨w.heap.size, 0, none⟩ = some (.slice p xs.length c))
          (first | exact m0 | exact n0 | exact o0)
          (first
          | (go_at_call 27
             refine HH.out.mono ?_
             rintro e w5 ⟨rfl, hb5⟩
             have HB5 := Lib.hid (show Below w1.heap.size w1 w5 from hbd.out.trans (hb5.mono HB.out.size))
             have n0 := (HP1.out.below HB5.out).c0
             clear hb5)
          | (go_at_call 26
             have hr := refHas_any p c xs k w5 (HP1.out.below HB5.out).rx
             rw [HBV.out] at hr
             refine hr.mono ?_
             clear hr
             rintro e w6 ⟨rfl, rfl⟩
             have o0 := n0))
        go_wp2_with fail
        refine ⟨⟨k + 1, by go_num, by omega, by omega, HB5.out⟩, by simp [intOf]; omega⟩
      | false =>
        go_wp2_with fail
        go_region_held3 (fun w' => w'.cell? ⟨w.heap.size, 0, none⟩ = some (.slice p xs.length c))
          (first | exact m0 | exact n0 | exact o0)
          (first
          | (go_at_call 27
             refine HH.out.mono ?_
             rintro e w5 ⟨rfl, hb5⟩
             have HB5 := Lib.hid (show Below w1.heap.size w1 w5 from hbd.out.trans (hb5.mono HB.out.size))
             have n0 := (HP1.out.below HB5.out).c0
             clear hb5)
          | (go_at_call 26
             have hr := refHas_any p c xs k w5 (HP1.out.below HB5.out).rx
             rw [HBV.out] at hr
             refine hr.mono ?_
             clear hr
             rintro e w6 ⟨rfl, rfl⟩
             have o0 := n0))
        go_wp2_with fail
        refine ⟨⟨k + 1, by go_num, by omega, by omega, HB5.out⟩, by simp [intOf]; omega⟩
    · go_wp2_with fail
      go_ret
      exact ⟨rfl, (HBA.out.trans (HB1.out.mono HBA.out.size)).trans (HB.out.mono (Nat.le_trans HBA.out.size HB1.out.size))⟩
end Go.Proofs.Ythhdipfadnihjaa
