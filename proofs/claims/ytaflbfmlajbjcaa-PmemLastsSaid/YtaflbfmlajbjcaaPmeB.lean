/- The law's same, is, word. -/
import Derived.Test.YtaflbfmlajbjcaaPmeA
import Derived.Test.YtaflbfmlajbjcaaSame
namespace Go.Proofs.Ytaflbfmlajbjcaa
open Go Go.RowKit

set_option maxRecDepth 100000 in
set_option maxHeartbeats 1000000 in
theorem same7_self (p q : Option Addr) (cp cq : Nat) (xs : List Nat) (w : World) (hx : RdS w.heap.size w p cp 1 ei xs) (hy : RdS w.heap.size w q cq 1 ei xs) (hn : xs.length ≤ 100000) :
    Calls Try.prog 64 #[.slice p xs.length cp, .slice q xs.length cq] w fun e w' => e = .returned (.bool true) ∧ ∃ n, w.drewN n = w' := by
  have HX := Lib.hid hx
  have HY := Lib.hid hy
  have hl0 : ((xs.length : Int) != (xs.length : Int)) = false := by simp
  have hno : (xs.length : Int) ≤ 100000 := by omega
  clear hx hy
  go_enter Try.func64, Try.ntmps64
  go_wp2
  clear hl0
  go_loopw [5] (fun i wr => ∃ k n : Nat, k ≤ xs.length ∧ i = .int .i64 k ∧ w.drewN n = wr) (fun i _ => xs.length - (intOf i).toNat)
  case atStart => exact ⟨0, 0, Nat.zero_le _, rfl, rfl⟩
  case round =>
    obtain ⟨k, n, hk, rfl, rfl⟩ := hrel
    by_cases hlt : k < xs.length
    · obtain ⟨b, off, hp, hcx⟩ : ∃ b o, p = some ⟨b, o, none⟩ ∧ w.cell? ⟨b, o + k, none⟩ = some (.int .i64 ((xs[k] : Nat) : Int)) := by
        rcases HX.out.2.2 with h | ⟨b, o, h1, h2, h3⟩
        · have := HX.out.1; omega
        · refine ⟨b, o, h1, ?_⟩
          have := h3 k hlt 0 (.int .i64 ((xs[k] : Nat) : Int)) rfl
          rwa [Nat.mul_one, Nat.add_zero] at this
      obtain ⟨b', off', hq, hcy⟩ : ∃ b o, q = some ⟨b, o, none⟩ ∧ w.cell? ⟨b, o + k, none⟩ = some (.int .i64 ((xs[k] : Nat) : Int)) := by
        rcases HY.out.2.2 with h | ⟨b, o, h1, h2, h3⟩
        · have := HY.out.1; omega
        · refine ⟨b, o, h1, ?_⟩
          have := h3 k hlt 0 (.int .i64 ((xs[k] : Nat) : Int)) rfl
          rwa [Nat.mul_one, Nat.add_zero] at this
      subst hp
      subst hq
      have hcx' : (w.drewN n).cell? ⟨b, off + k, none⟩ = some (.int .i64 ((xs[k] : Nat) : Int)) := hcx
      have hcy' : (w.drewN n).cell? ⟨b', off' + k, none⟩ = some (.int .i64 ((xs[k] : Nat) : Int)) := hcy
      have h1 : (k : Int) < (xs.length : Int) := by omega
      have hne : (((xs[k] : Nat) : Int) != ((xs[k] : Nat) : Int)) = false := by simp
      go_wp2
      go_quiet (fail)
      go_wp2
      go_roundw
      case rel => exact ⟨k + 1, n + nq, by omega, by go_num, by first | rfl | rw [World.drewN_drewN]⟩
      case measure => simp [intOf]; omega
    · obtain rfl : k = xs.length := by omega
      go_wp2
      go_ret
      exact ⟨rfl, n, rfl⟩
theorem rds_own {α : Type} {e : TypeId} {c : Nat} {enc : α → List Value} (he : ∀ y, (enc y).length = c) {w w' : World} {p : Option Addr} {cap : Nat} {ys : List α} (h : OwnG e c enc w p cap ys) (hb : Below w.heap.size w w') : RdS w'.heap.size w' p cap c enc ys :=
  OwnG.rds he (OwnG.below h hb)
theorem rdl_below {B : Nat} {w w' : World} {p : Option Addr} {cap : Nat} {ys : List (BitVec 64)} (h : RdL B w p cap vw ys) (hB : B ≤ w.heap.size) (hb : Below w.heap.size w w') : RdL w'.heap.size w' p cap vw ys :=
  ((h.wide hB).below hb).wide hb.size
set_option maxRecDepth 100000 in
set_option maxHeartbeats 4000000 in
theorem is7_any {O : Nat} {p : Option Addr} {c : Nat} {m : Mem} {N : Nat → Prop} (W : World) (h : Two W O p c m N) :
    Calls Try.prog 25 #[.pointer (some ⟨O, 0, none⟩), .slice p m.length c] W fun e w' => e = .returned (.bool true) ∧ Below W.heap.size W w' := by
  have hle := h.le
  obtain ⟨p1, c1, p2, c2, b, n, hr⟩ := h.mat
  have hln := hr.len
  have HLEN := lenM_any W hr.cells.1 hr.pos hr.le
  have HI := Lib.hid (image_any W h.mat)
  have H := Lib.hid h
  rw [← hln] at HLEN
  have HL := Lib.hid HLEN
  have hw8 : IntKind.i64.wrap (8 * (m.length : Int)) = ((8 * m.length : Nat) : Int) := by rw [IntKind.wrap_i64]; omega
  obtain ⟨A, hA⟩ : ∃ A, 8 * m.length = A := ⟨_, rfl⟩
  have hee : ((A : Int) == (A : Int)) = true := beq_self_eq_true _
  have HA := Lib.hid hA
  rw [hA] at HL hw8 HI
  clear HLEN hr hln h hA
  go_enter Try.func25, Try.ntmps25
  go_wp2_with fail
  refine HL.out.mono ?_
  rintro e w' ⟨rfl, rfl⟩
  go_wp2_with fail
  refine HI.out.mono ?_
  rintro e w1 ⟨q1, d1, rfl, hr1, hb1⟩
  have HW := Lib.hid (words7_any p c m false w1 (H.out.below hb1).ref (by omega))
  have H1 := Lib.hid (And.intro hr1 hb1)
  clear hr1 hb1
  rw [HA.out] at HW
  go_wp2_with fail
  refine HW.out.mono ?_
  rintro e w2 ⟨q2, d2, rfl, hr2, hb2⟩
  rw [if_neg Bool.false_ne_true] at hr2
  have hs := same_any q1 q2 d1 d2 (flatW m.nows) (flatW m.nows) w2 (rdl_below H1.out.1 (Nat.le_refl _) hb2) hr2
  rw [flatW_len, nows_len, HA.out, sameB_self] at hs
  have HS := Lib.hid hs
  have H2 := Lib.hid (H1.out.2.trans (hb2.mono H1.out.2.size))
  clear hs hr2 hb2
  go_wp2_with fail
  refine HS.out.mono ?_
  rintro e w3 ⟨rfl, n3, rfl⟩
  have HB3 := Lib.hid (below_drewN H2.out n3)
  have HT := Lib.hid (H.out.below HB3.out)
  obtain ⟨w3, hw3⟩ : ∃ w3, w2.drewN n3 = w3 := ⟨_, rfl⟩
  rw [hw3] at HB3 HT ⊢
  have hla := lasting_any w3 HT.out.mat
  rw [HA.out] at hla
  have HLA := Lib.hid hla
  clear hla hw3
  go_wp2_with fail
  refine HLA.out.mono ?_
  rintro e w4 ⟨q4, d4, rfl, hr4, hb4⟩
  have HW4 := Lib.hid (words7_any p c m true w4 (HT.out.below hb4).ref (by omega))
  have H4 := Lib.hid (And.intro hr4 (And.intro hb4 (HB3.out.trans (hb4.mono HB3.out.size))))
  clear hr4 hb4
  rw [HA.out] at HW4
  go_wp2_with fail
  refine HW4.out.mono ?_
  rintro e w5 ⟨q5, d5, rfl, hr5, hb5⟩
  simp only [if_true] at hr5
  have hs := same_any q4 q5 d4 d5 (flatW m.lst) (flatW m.lst) w5 (rdl_below H4.out.1 (Nat.le_refl _) hb5) hr5
  rw [flatW_len, lst_len, HA.out, sameB_self] at hs
  have HS5 := Lib.hid hs
  have H5 := Lib.hid (H4.out.2.2.trans (hb5.mono H4.out.2.2.size))
  clear hs hr5 hb5
  go_wp2_with fail
  refine HS5.out.mono ?_
  rintro e w6 ⟨rfl, n6, rfl⟩
  have HB6 := Lib.hid (below_drewN H5.out n6)
  have HT6 := Lib.hid (H.out.below HB6.out)
  obtain ⟨w6, hw6⟩ : ∃ w6, w5.drewN n6 = w6 := ⟨_, rfl⟩
  rw [hw6] at HB6 HT6 ⊢
  have HOP := Lib.hid (opens7_any w6 HT6.out.mat HT6.out.bnd)
  clear hw6
  go_wp2_with fail
  refine HOP.out.mono ?_
  rintro e w7 ⟨q7, d7, rfl, hr7, hp7, hb7⟩
  have HO7 := Lib.hid (open7_any p c m w7 (HT6.out.below hb7).ref (by omega))
  have H7 := Lib.hid (And.intro hr7 (And.intro hb7 (HB6.out.trans (hb7.mono HB6.out.size))))
  clear hr7 hb7 hp7
  go_wp2_with fail
  refine HO7.out.mono ?_
  rintro e w8 ⟨q8, d8, rfl, hr8, hp8, hb8⟩
  have hol : m.opens.length ≤ 100000 := by
    have := opens_lt m m.length
    rw [← opens_T] at this
    omega
  have HS8 := Lib.hid (same7_self q7 q8 d7 d8 m.opens w8 (rds_own ei_len H7.out.1 hb8) (OwnG.rds ei_len hr8) hol)
  have H8 := Lib.hid (H7.out.2.2.trans (hb8.mono H7.out.2.2.size))
  clear hr8 hb8 hp8 hol
  go_wp2_with fail
  refine HS8.out.mono ?_
  rintro e w9 ⟨rfl, n9, rfl⟩
  go_wp2_with fail
  go_ret
  exact ⟨rfl, below_drewN H8.out n9⟩
set_option maxRecDepth 100000 in
set_option maxHeartbeats 4000000 in
theorem word7_any {O : Nat} {m : Mem} {N : Nat → Prop} (k : BitVec 8) (w : World) (h : MAt w O m N) (hN : ∀ x, N x → x < w.heap.size) (h0 : 0 < (m.crash [k]).length) :
    Calls Try.prog 44 #[.pointer (some ⟨O, 0, none⟩), vb k] w fun e w' => e = .returned (vw ((m.crash [k])[0].now[3])) ∧ Below w.heap.size w w' := by
  obtain ⟨wa, hwa⟩ : ∃ wa, w.alloc (.cells #[vb k] 5) = wa := ⟨_, rfl⟩
  have hba : Below w.heap.size w wa := by rw [← hwa]; exact (Below.refl _ _).alloc (Nat.le_refl _) _
  have hga : wa.heap[w.heap.size]? = some (.cells #[vb k] 5 (0, 0)) := by rw [← hwa]; exact World.alloc_heap_new _ _
  have hrd : RdL wa.heap.size wa (some ⟨w.heap.size, 0, none⟩) 1 vb [k] := by
    refine ⟨Nat.le_refl _, by decide, .inr ⟨_, _, rfl, (Array.getElem?_eq_some_iff.1 hga).1, fun i hi => ?_⟩⟩
    have : i = 0 := by simp at hi; exact hi
    subst this
    simp [World.cell?, hga]
  have hc := crash_any (some ⟨w.heap.size, 0, none⟩) 1 [k] wa (h.below hba) (fun x hx => Nat.lt_of_lt_of_le (hN x hx) hba.size) hrd (by simp)
  have HC := Lib.hid hc
  have HWA := Lib.hid (And.intro hwa hba)
  obtain ⟨u, hu⟩ : ∃ u, (m.crash [k])[0].now[3] = u := ⟨_, rfl⟩
  rw [hu]
  have HU := Lib.hid hu
  have hk : vb k = .int .u8 (k.toNat : Int) := rfl
  rw [hk] at HWA ⊢
  clear hc hrd hga hba hwa h hN hu hk
  go_enter Try.func44, Try.ntmps44
  go_wp2_with fail
  rw [HWA.out.1]
  refine HC.out.mono ?_
  rintro e w1 ⟨O', N', rfl, hm, hN', hb⟩
  have hl := load_any 3 w1 hm (by omega)
  have e3 : (m.crash [k])[3 / 8].now[3 % 8] = u := HU.out
  rw [e3] at hl
  have HL := Lib.hid hl
  have H1 := Lib.hid (HWA.out.2.trans (hb.mono HWA.out.2.size))
  clear hm hN' hb hl e3
  go_wp2_with fail
  refine HL.out.mono ?_
  rintro e w2 ⟨rfl, rfl⟩
  go_wp2_with fail
  refine (num7_any _ _).mono ?_
  rintro e w3 ⟨rfl, rfl⟩
  go_wp2_with fail
  refine (num7_any _ _).mono ?_
  rintro e w4 ⟨rfl, rfl⟩
  go_wp2_with fail
  go_ret
  exact ⟨rfl, H1.out⟩
end Go.Proofs.Ytaflbfmlajbjcaa
