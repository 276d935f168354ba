/- plan.Run: acts done to a memory, or none. -/
import Derived.Test.YtaflbfmlajbjcaaRunA
namespace Go.Proofs.Ytaflbfmlajbjcaa
open Go Go.RowKit

def fineA (n : Nat) (x : Act3) : Bool := rightA x && thereA n x
def doL (m : Mem) (xs : List Act3) : Mem := xs.foldl doA m
theorem doL_len (xs : List Act3) : ∀ (m : Mem), (doL m xs).length = m.length := by
  induction xs with
  | nil => intro m; rfl
  | cons x t ih => intro m; exact (ih (doA m x)).trans (doA_len m x)
theorem doL_take (m : Mem) (xs : List Act3) (k : Nat) (h : k < xs.length) : doL m (xs.take (k + 1)) = doA (doL m (xs.take k)) xs[k] := by
  unfold doL
  rw [List.take_succ_eq_append_getElem h, List.foldl_append]
  rfl
theorem frn_alloc_r {T : Nat → Prop} {A B : World} (h : Frn T A B) (o : Obj) : Frn T A (B.alloc o) := h.allocR o
set_option maxRecDepth 100000 in
set_option maxHeartbeats 2000000 in
theorem run_nil (p : Option Addr) (n cap : Nat) (W : World) : Calls Try.prog 39 #[.pointer none, .slice p n cap] W fun e w' => e = .returned (.int .i64 1) ∧ W = w' := by
  go_enter Try.func39, Try.ntmps39
  go_wp2_with fail
  refine (lenN_no W).mono ?_
  rintro e w' ⟨rfl, rfl⟩
  go_wp2_with fail
  go_ret
  exact ⟨rfl, rfl⟩
set_option maxRecDepth 100000 in
set_option maxHeartbeats 8000000 in
theorem run_bad (p : Option Addr) (cap : Nat) (xs : List Act3) {O : Nat} {m : Mem} {N : Nat → Prop} (W : World) (h : MAt W O m N) (hrd : RdS W.heap.size W p cap 3 ac3 xs) (hbad : ¬ ∀ x ∈ xs, fineA m.length x = true) :
    Calls Try.prog 39 #[.pointer (some ⟨O, 0, none⟩), .slice p xs.length cap] W fun e w' => e = .returned (.int .i64 2) ∧ Below W.heap.size W w' := by
  obtain ⟨K, hK⟩ : ∃ K, xs.length = K := ⟨_, rfl⟩
  have hkl := hrd.len
  rw [hK] at hkl
  have hsm := h.small
  obtain ⟨A, hA⟩ : ∃ A, 8 * m.length = A := ⟨_, rfl⟩
  have hA0 : ((A : Int) == 0) = false := by rw [beq_eq_false_iff_ne]; omega
  have HLEN : Hid (Calls Try.prog 32 #[.pointer (some ⟨O, 0, none⟩)] W fun e w' => e = .returned (.int .i64 (A : Int)) ∧ W = w') := Lib.hid (by have := lenP_any W h; rwa [hA] at this)
  have H := Lib.hid h
  have HRD := Lib.hid hrd
  have HK := Lib.hid hK
  have HBAD : Hid (¬ ∀ j (hj : j < xs.length), fineA m.length xs[j] = true) := Lib.hid (fun hh => hbad (fun x hx => by obtain ⟨j, hj, rfl⟩ := List.mem_iff_getElem.1 hx; exact hh j hj))
  rw [hK]
  clear h hrd hK hsm hA hbad
  go_enter Try.func39, Try.ntmps39
  go_wp2_with fail
  refine HLEN.out.mono ?_
  rintro e w1 ⟨rfl, rfl⟩
  go_wp2_with fail
  go_loopw [14] (fun i wr => ∃ k : Nat, k ≤ K ∧ i = .int .i64 k ∧ Below W.heap.size W wr ∧ ∀ j (hj : j < xs.length), j < k → fineA m.length xs[j] = true) (fun i _ => K - (intOf i).toNat)
  case atStart => exact ⟨0, Nat.zero_le _, rfl, Below.refl _ _, fun j hj h => absurd h (Nat.not_lt_zero j)⟩
  case round =>
    clear HLEN
    obtain ⟨k, hk, rfl, hb, hprev⟩ := hrel
    by_cases hlt : k < K
    · have hlt' : (k : Int) < (K : Int) := by omega
      obtain ⟨g, o, rfl, hg, a0, a1, a2⟩ := HRD.out.rows3 k (by rw [HK.out]; exact hlt)
      obtain ⟨x, hx⟩ : ∃ x, xs[k]'(by rw [HK.out]; exact hlt) = x := ⟨_, rfl⟩
      rw [hx] at a0 a1 a2
      obtain ⟨kd, a, V⟩ := x
      simp only at a0 a1 a2
      obtain ⟨v, hv⟩ : ∃ v : Int, (V.toNat : Int) = v := ⟨_, rfl⟩
      replace a2 : W.cell? ⟨g, o + k * 3 + 2, none⟩ = some (.int .u64 v) := by rw [← hv]; exact a2
      have b0 := (hb.cell (p := ⟨g, o + k * 3, none⟩) hg).trans a0
      have b1 := (hb.cell (p := ⟨g, o + k * 3 + 1, none⟩) hg).trans a1
      have b2 := (hb.cell (p := ⟨g, o + k * 3 + 2, none⟩) hg).trans a2
      have HB := Lib.hid hb
      have HRT : Hid (∀ U, Calls Try.prog 74 #[.agg #[.int .i64 kd, .int .i64 a, .int .u64 v]] U fun e w' => e = .returned (.bool (rightA (kd, a, V))) ∧ Below U.heap.size U w') := Lib.hid (fun U => by have := right_any (kd, a, V) U; unfold av3 at this; rw [← hv]; exact this)
      have HTH : Hid (∀ U, Below W.heap.size W U → rightA (kd, a, V) = true → Calls Try.prog 75 #[.pointer (some ⟨O, 0, none⟩), .agg #[.int .i64 kd, .int .i64 a, .int .u64 v]] U fun e w' => e = .returned (.bool (thereA m.length (kd, a, V))) ∧ Below U.heap.size U w') := Lib.hid (fun U hU hr => by have := thereP_any (kd, a, V) U (H.out.below hU) hr; unfold av3 at this; rw [← hv]; exact this)
      have hgw : g < wr.heap.size := Nat.lt_of_lt_of_le hg hb.size
      have HXX := Lib.hid hx
      have HP := Lib.hid hprev
      clear hprev
      by_cases h1 : rightA (kd, a, V) = true
      · have HR1 := Lib.hid h1
        by_cases h2 : thereA m.length (kd, a, V) = true
        · have HR2 := Lib.hid h2
          clear h1 h2
          clear a0 a1 a2 hb hv hx hg
          go_upto_region 6 with fail
          have hy := y_newH wr kd a v 79
          have hb6 := below_allocR wr (.cells #[.int .i64 kd, .int .i64 a, .int .u64 v] 79)
          obtain ⟨X, hX⟩ : ∃ X, wr.heap.size = X := ⟨_, rfl⟩
          obtain ⟨w6, hw6⟩ : ∃ w6, wr.alloc (.cells #[.int .i64 kd, .int .i64 a, .int .u64 v] 79) = w6 := ⟨_, rfl⟩
          have hXs : X < w6.heap.size := by rw [← hX, ← hw6]; simp
          rw [hw6] at hy hb6
          rw [hX] at hy
          rw [hX, hw6]
          have HW6 := Lib.hid hb6
          have e0 := hy.out.c0
          have e1 := hy.out.c1
          have e2 := hy.out.c2
          clear hX hw6 hb6 hgw b0 b1 b2
          go_wp2_with fail
          refine (HRT.out _).mono ?_
          rintro e w7 ⟨rfl, hb7⟩
          have HB7 := Lib.hid hb7
          rw [HR1.out]
          replace e0 := (hb7.cell (p := ⟨X, 0, none⟩) hXs).trans e0
          replace e1 := (hb7.cell (p := ⟨X, 1, none⟩) hXs).trans e1
          replace e2 := (hb7.cell (p := ⟨X, 2, none⟩) hXs).trans e2
          have HC7 := Lib.hid (HB.out.trans ((HW6.out.mono HB.out.size).trans (hb7.mono (Nat.le_trans HB.out.size HW6.out.size))))
          clear hb7 HRT
          go_wp2_with fail
          refine (HTH.out w7 HC7.out HR1.out).mono ?_
          rintro e w8 ⟨rfl, hb8⟩
          have HC8 := Lib.hid (HC7.out.trans (hb8.mono HC7.out.size))
          rw [HR2.out]
          clear hb8 HTH e0 e1 e2
          go_wp2_with fail
          go_roundw
          case rel => exact ⟨k + 1, hlt, by go_num, HC8.out, fun j hj hjk => (Nat.lt_succ_iff_lt_or_eq.1 hjk).elim (fun h => HP.out j hj h) (fun h => by subst h; rw [HXX.out]; unfold fineA; rw [HR1.out, HR2.out]; rfl)⟩
          case measure => simp [intOf]; omega
        · have HR2 := Lib.hid (Bool.eq_false_iff.2 h2)
          clear h1 h2
          clear a0 a1 a2 hb hv hx hg
          go_upto_region 6 with fail
          have hy := y_newH wr kd a v 79
          have hb6 := below_allocR wr (.cells #[.int .i64 kd, .int .i64 a, .int .u64 v] 79)
          obtain ⟨X, hX⟩ : ∃ X, wr.heap.size = X := ⟨_, rfl⟩
          obtain ⟨w6, hw6⟩ : ∃ w6, wr.alloc (.cells #[.int .i64 kd, .int .i64 a, .int .u64 v] 79) = w6 := ⟨_, rfl⟩
          have hXs : X < w6.heap.size := by rw [← hX, ← hw6]; simp
          rw [hw6] at hy hb6
          rw [hX] at hy
          rw [hX, hw6]
          have HW6 := Lib.hid hb6
          have e0 := hy.out.c0
          have e1 := hy.out.c1
          have e2 := hy.out.c2
          clear hX hw6 hb6 hgw b0 b1 b2
          go_wp2_with fail
          refine (HRT.out _).mono ?_
          rintro e w7 ⟨rfl, hb7⟩
          have HB7 := Lib.hid hb7
          rw [HR1.out]
          replace e0 := (hb7.cell (p := ⟨X, 0, none⟩) hXs).trans e0
          replace e1 := (hb7.cell (p := ⟨X, 1, none⟩) hXs).trans e1
          replace e2 := (hb7.cell (p := ⟨X, 2, none⟩) hXs).trans e2
          have HC7 := Lib.hid (HB.out.trans ((HW6.out.mono HB.out.size).trans (hb7.mono (Nat.le_trans HB.out.size HW6.out.size))))
          clear hb7 HRT
          go_wp2_with fail
          refine (HTH.out w7 HC7.out HR1.out).mono ?_
          rintro e w8 ⟨rfl, hb8⟩
          have HC8 := Lib.hid (HC7.out.trans (hb8.mono HC7.out.size))
          rw [HR2.out]
          clear hb8 HTH e0 e1 e2
          go_wp2_with fail
          go_ret
          exact ⟨rfl, HC8.out⟩
      · have HR1 := Lib.hid (Bool.eq_false_iff.2 h1)
        clear h1
        clear a0 a1 a2 hb hv hx hg
        go_upto_region 6 with fail
        have hy := y_newH wr kd a v 79
        have hb6 := below_allocR wr (.cells #[.int .i64 kd, .int .i64 a, .int .u64 v] 79)
        obtain ⟨X, hX⟩ : ∃ X, wr.heap.size = X := ⟨_, rfl⟩
        obtain ⟨w6, hw6⟩ : ∃ w6, wr.alloc (.cells #[.int .i64 kd, .int .i64 a, .int .u64 v] 79) = w6 := ⟨_, rfl⟩
        have hXs : X < w6.heap.size := by rw [← hX, ← hw6]; simp
        rw [hw6] at hy hb6
        rw [hX] at hy
        rw [hX, hw6]
        have HW6 := Lib.hid hb6
        have e0 := hy.out.c0
        have e1 := hy.out.c1
        have e2 := hy.out.c2
        clear hX hw6 hb6 hgw b0 b1 b2
        go_wp2_with fail
        refine (HRT.out _).mono ?_
        rintro e w7 ⟨rfl, hb7⟩
        have HB7 := Lib.hid hb7
        rw [HR1.out]
        have HC7 := Lib.hid (HB.out.trans ((HW6.out.mono HB.out.size).trans (hb7.mono (Nat.le_trans HB.out.size HW6.out.size))))
        clear hb7 HRT HTH e0 e1 e2
        go_wp2_with fail
        go_ret
        exact ⟨rfl, HC7.out⟩
    · exact absurd (fun j hj => hprev j hj (by rw [HK.out] at hj; omega)) HBAD.out
set_option maxRecDepth 100000 in
set_option maxHeartbeats 8000000 in
theorem run_good (p : Option Addr) (cap : Nat) (xs : List Act3) {O : Nat} {m : Mem} {N : Nat → Prop} (W : World) (h : MAt W O m N) (hrd : RdS W.heap.size W p cap 3 ac3 xs) (hfine : ∀ x ∈ xs, fineA m.length x = true) (hN : ∀ x, N x → x < W.heap.size) (hsep : ∀ b, inP p cap b → ¬ N b) :
    Calls Try.prog 39 #[.pointer (some ⟨O, 0, none⟩), .slice p xs.length cap] W fun e w' => e = .returned (.int .i64 0) ∧ MAt w' O (doL m xs) N ∧ Frn N W w' := by
  obtain ⟨K, hK⟩ : ∃ K, xs.length = K := ⟨_, rfl⟩
  have hkl := hrd.len
  rw [hK] at hkl
  have hsm := h.small
  obtain ⟨A, hA⟩ : ∃ A, 8 * m.length = A := ⟨_, rfl⟩
  have hA0 : ((A : Int) == 0) = false := by rw [beq_eq_false_iff_ne]; omega
  have HLEN : Hid (Calls Try.prog 32 #[.pointer (some ⟨O, 0, none⟩)] W fun e w' => e = .returned (.int .i64 (A : Int)) ∧ W = w') := Lib.hid (by have := lenP_any W h; rwa [hA] at this)
  have H := Lib.hid h
  have HRD := Lib.hid hrd
  have HK := Lib.hid hK
  have HF := Lib.hid hfine
  have HS := Lib.hid (And.intro hN hsep)
  rw [hK]
  clear h hrd hK hsm hA hfine hN hsep
  go_enter Try.func39, Try.ntmps39
  go_wp2_with fail
  refine HLEN.out.mono ?_
  rintro e w1 ⟨rfl, rfl⟩
  go_wp2_with fail
  go_loopw [14] (fun i wr => ∃ k : Nat, k ≤ K ∧ i = .int .i64 k ∧ Below W.heap.size W wr) (fun i _ => K - (intOf i).toNat)
  case atStart => exact ⟨0, Nat.zero_le _, rfl, Below.refl _ _⟩
  case round =>
    clear HLEN
    obtain ⟨k, hk, rfl, hb⟩ := hrel
    by_cases hlt : k < K
    · have hlt' : (k : Int) < (K : Int) := by omega
      obtain ⟨g, o, rfl, hg, a0, a1, a2⟩ := HRD.out.rows3 k (by rw [HK.out]; exact hlt)
      obtain ⟨x, hx⟩ : ∃ x, xs[k]'(by rw [HK.out]; exact hlt) = x := ⟨_, rfl⟩
      rw [hx] at a0 a1 a2
      obtain ⟨kd, a, V⟩ := x
      simp only at a0 a1 a2
      obtain ⟨v, hv⟩ : ∃ v : Int, (V.toNat : Int) = v := ⟨_, rfl⟩
      replace a2 : W.cell? ⟨g, o + k * 3 + 2, none⟩ = some (.int .u64 v) := by rw [← hv]; exact a2
      have b0 := (hb.cell (p := ⟨g, o + k * 3, none⟩) hg).trans a0
      have b1 := (hb.cell (p := ⟨g, o + k * 3 + 1, none⟩) hg).trans a1
      have b2 := (hb.cell (p := ⟨g, o + k * 3 + 2, none⟩) hg).trans a2
      have HB := Lib.hid hb
      have HRT : Hid (∀ U, Calls Try.prog 74 #[.agg #[.int .i64 kd, .int .i64 a, .int .u64 v]] U fun e w' => e = .returned (.bool (rightA (kd, a, V))) ∧ Below U.heap.size U w') := Lib.hid (fun U => by have := right_any (kd, a, V) U; unfold av3 at this; rw [← hv]; exact this)
      have HTH : Hid (∀ U, Below W.heap.size W U → rightA (kd, a, V) = true → Calls Try.prog 75 #[.pointer (some ⟨O, 0, none⟩), .agg #[.int .i64 kd, .int .i64 a, .int .u64 v]] U fun e w' => e = .returned (.bool (thereA m.length (kd, a, V))) ∧ Below U.heap.size U w') := Lib.hid (fun U hU hr => by have := thereP_any (kd, a, V) U (H.out.below hU) hr; unfold av3 at this; rw [← hv]; exact this)
      have hgw : g < wr.heap.size := Nat.lt_of_lt_of_le hg hb.size
      have hf := HF.out _ (List.getElem_mem (by rw [HK.out]; exact hlt : k < xs.length))
      rw [hx] at hf
      unfold fineA at hf
      rw [Bool.and_eq_true] at hf
      have HR1 := Lib.hid hf.1
      have HR2 := Lib.hid hf.2
      clear hf
      clear a0 a1 a2 hb hv hx hg
      go_upto_region 6 with fail
      have hy := y_newH wr kd a v 79
      have hb6 := below_allocR wr (.cells #[.int .i64 kd, .int .i64 a, .int .u64 v] 79)
      obtain ⟨X, hX⟩ : ∃ X, wr.heap.size = X := ⟨_, rfl⟩
      obtain ⟨w6, hw6⟩ : ∃ w6, wr.alloc (.cells #[.int .i64 kd, .int .i64 a, .int .u64 v] 79) = w6 := ⟨_, rfl⟩
      have hXs : X < w6.heap.size := by rw [← hX, ← hw6]; simp
      rw [hw6] at hy hb6
      rw [hX] at hy
      rw [hX, hw6]
      have HW6 := Lib.hid hb6
      have e0 := hy.out.c0
      have e1 := hy.out.c1
      have e2 := hy.out.c2
      clear hX hw6 hb6 hgw b0 b1 b2
      go_wp2_with fail
      refine (HRT.out _).mono ?_
      rintro e w7 ⟨rfl, hb7⟩
      have HB7 := Lib.hid hb7
      rw [HR1.out]
      replace e0 := (hb7.cell (p := ⟨X, 0, none⟩) hXs).trans e0
      replace e1 := (hb7.cell (p := ⟨X, 1, none⟩) hXs).trans e1
      replace e2 := (hb7.cell (p := ⟨X, 2, none⟩) hXs).trans e2
      have HC7 := Lib.hid (HB.out.trans ((HW6.out.mono HB.out.size).trans (hb7.mono (Nat.le_trans HB.out.size HW6.out.size))))
      clear hb7 HRT
      go_wp2_with fail
      refine (HTH.out w7 HC7.out HR1.out).mono ?_
      rintro e w8 ⟨rfl, hb8⟩
      have HC8 := Lib.hid (HC7.out.trans (hb8.mono HC7.out.size))
      rw [HR2.out]
      clear hb8 HTH e0 e1 e2
      go_wp2_with fail
      go_roundw
      case rel => exact ⟨k + 1, hlt, by go_num, HC8.out⟩
      case measure => simp [intOf]; omega
    · obtain rfl : K = k := by omega
      have hnl : ¬ (K : Int) < (K : Int) := by omega
      have HB := Lib.hid hb
      clear hb hlt
      go_wp2_with fail
      go_loopw [30] (fun i wr => ∃ k : Nat, k ≤ K ∧ i = .int .i64 k ∧ MAt wr O (doL m (xs.take k)) N ∧ Frn N W wr) (fun i _ => K - (intOf i).toNat)
      case atStart => exact ⟨0, Nat.zero_le _, rfl, by rw [List.take_zero]; exact H.out.below HB.out, Frn.of_below HB.out⟩
      case round =>
        clear HB
        obtain ⟨k, hk, rfl, hm, hf⟩ := hrel
        by_cases hlt : k < K
        · have hlt' : (k : Int) < (K : Int) := by omega
          obtain ⟨g, o, rfl, hg, a0, a1, a2⟩ := HRD.out.rows3 k (by rw [HK.out]; exact hlt)
          obtain ⟨x, hx⟩ : ∃ x, xs[k]'(by rw [HK.out]; exact hlt) = x := ⟨_, rfl⟩
          rw [hx] at a0 a1 a2
          obtain ⟨kd, a, V⟩ := x
          simp only at a0 a1 a2
          obtain ⟨v, hv⟩ : ∃ v : Int, (V.toNat : Int) = v := ⟨_, rfl⟩
          replace a2 : W.cell? ⟨g, o + k * 3 + 2, none⟩ = some (.int .u64 v) := by rw [← hv]; exact a2
          have hsep : ¬ N g := HS.out.2 g ⟨_, rfl, rfl, by have := HRD.out.1; rw [HK.out] at this; omega⟩
          have hbk := hf.block g hg hsep
          have b0 := (World.cell?_of_block (w := W) (a := ⟨g, o + k * 3, none⟩) hbk).trans a0
          have b1 := (World.cell?_of_block (w := W) (a := ⟨g, o + k * 3 + 1, none⟩) hbk).trans a1
          have b2 := (World.cell?_of_block (w := W) (a := ⟨g, o + k * 3 + 2, none⟩) hbk).trans a2
          have hgw : g < wr.heap.size := Nat.lt_of_lt_of_le hg hf.size
          have hfi := HF.out _ (List.getElem_mem (by rw [HK.out]; exact hlt : k < xs.length))
          rw [hx] at hfi
          have hln := doL_len (xs.take k) m
          have htk := doL_take m xs k (by rw [HK.out]; exact hlt)
          rw [hx] at htk
          have HMF := Lib.hid (And.intro hm (And.intro hf htk))
          have hNw : ∀ x, N x → x < wr.heap.size := fun x hx => Nat.lt_of_lt_of_le (HS.out.1 x hx) hf.size
          have HNW := Lib.hid hNw
          have HV := Lib.hid hv
          clear a0 a1 a2 hm hf hx hg hsep hbk htk hv hNw
          have hk3 : kd = 1 ∨ kd = 2 ∨ kd = 3 := by simp only [fineA, rightA, Bool.and_eq_true, Bool.or_eq_true, decide_eq_true_eq] at hfi; omega
          go_upto_region 12 with fail
          have hy := y_newH wr kd a v 79
          have hb6 := below_allocR wr (.cells #[.int .i64 kd, .int .i64 a, .int .u64 v] 79)
          obtain ⟨X, hX⟩ : ∃ X, wr.heap.size = X := ⟨_, rfl⟩
          obtain ⟨w6, hw6⟩ : ∃ w6, wr.alloc (.cells #[.int .i64 kd, .int .i64 a, .int .u64 v] 79) = w6 := ⟨_, rfl⟩
          have hXs : X < w6.heap.size := by rw [← hX, ← hw6]; simp
          rw [hw6] at hy hb6
          rw [hX] at hy
          rw [hX, hw6]
          have HW6 := Lib.hid hb6
          have x0 := hy.out.c0
          have x1 := hy.out.c1
          have x2 := hy.out.c2
          clear hX hw6 hb6 hgw b0 b1 b2
          rcases hk3 with rfl | rfl | rfl
          · simp only [fineA, rightA, thereA, Bool.and_eq_true, Bool.or_eq_true, decide_eq_true_eq] at hfi
            simp at hfi
            obtain ⟨i, rfl⟩ : ∃ i : Nat, a = i := ⟨a.toNat, by omega⟩
            have hi : i < 8 * (doL m (xs.take k)).length := by rw [hln]; omega
            have HDO : Hid (∀ U, Below wr.heap.size wr U → Calls Try.prog 87 #[.pointer (some ⟨O, 0, none⟩), .agg #[.int .i64 1, .int .i64 i, .int .u64 v]] U fun e w' => e = .returned (.int .i64 0) ∧ MAt w' O ((doL m (xs.take k)).store i V) N ∧ Frn N U w') := Lib.hid (fun U hU => by rw [← HV.out]; exact does2_any 1 i V U (HMF.out.1.below hU) (fun x hx => Nat.lt_of_lt_of_le (HNW.out x hx) hU.size) hi)
            have HXC : Hid (∀ w', Below w6.heap.size w6 w' → (w'.cell? ⟨X, 0, none⟩ = some (.int .i64 1) ∧ w'.cell? ⟨X, 1, none⟩ = some (.int .i64 (i : Int)) ∧ w'.cell? ⟨X, 2, none⟩ = some (.int .u64 v))) := Lib.hid (fun w' hb => ⟨(hb.cell (p := ⟨X, 0, none⟩) hXs).trans x0, (hb.cell (p := ⟨X, 1, none⟩) hXs).trans x1, (hb.cell (p := ⟨X, 2, none⟩) hXs).trans x2⟩)
            have hix : ∀ W, (Instr.index 120 (.agg #[.func (.func 86) #[] #[], .func (.func 87) #[] #[], .func (.func 88) #[] #[], .func (.func 89) #[] #[]]) (.int .i64 1)).run Try.prog W = .ok (.func (.func 87) #[] #[]) W := fun W => by kernel_rfl
            have HEN := enters_of (P := Try.prog) Try.func87 (by kernel_rfl) rfl
            clear hfi hln hXs hi
            refine wp_region_noPanic ?_
            refine wp_region_FP (fun kx w' => (kx = 3 ∨ kx = 6) → (w'.cell? ⟨X, 0, none⟩ = some (.int .i64 1) ∧ w'.cell? ⟨X, 1, none⟩ = some (.int .i64 (i : Int)) ∧ w'.cell? ⟨X, 2, none⟩ = some (.int .u64 v))) (by kernel_rfl) (fun kx => fun _ => ⟨x0, x1, x2⟩) ?_
            intro hTill
            clear hTill
            have hall : ∀ kx : Nat, (fun kx w' => (kx = 3 ∨ kx = 6) → (w'.cell? ⟨X, 0, none⟩ = some (.int .i64 1) ∧ w'.cell? ⟨X, 1, none⟩ = some (.int .i64 (i : Int)) ∧ w'.cell? ⟨X, 2, none⟩ = some (.int .u64 v))) kx w6.drew := fun kx => fun _ => ⟨x0, x1, x2⟩
            refine' wpAnyFP_take (i := 1) (v := _) 2 rfl (by kernel_rfl) (by kernel_rfl) (by kernel_rfl) (by kernel_rfl) (by rfl) (by rfl) (fun _ _ _ h => h) (fun _ h => absurd h (by decide)) (Or.inl ⟨by rfl, ?hy⟩) (fun kx _ => hall kx) _
            case hy => (intro w0 hC; (try dsimp only at hC); simp only [List.getElem_toArray, List.getElem_cons_zero, List.getElem_cons_succ]; go_simp; first | done | with_reducible rfl)
            try simp only [Act.put, List.getElem_toArray, List.getElem_cons_zero, List.getElem_cons_succ, List.setIfInBounds_toArray, List.set_cons_zero, List.set_cons_succ]
            refine' wpAnyFP_take (i := 2) (v := _) 3 rfl (by kernel_rfl) (by kernel_rfl) (by kernel_rfl) (by kernel_rfl) (by rfl) (by rfl) (fun _ _ _ h => h) (fun _ h => absurd h (by decide)) (Or.inl ⟨by rfl, ?hy⟩) (fun kx _ => hall kx) _
            case hy => (intro w0 hC; replace hC := hC (.inl rfl); (try dsimp only at hC); simp only [List.getElem_toArray, List.getElem_cons_zero, List.getElem_cons_succ]; go_simp; first | done | with_reducible rfl)
            try simp only [Act.put, List.getElem_toArray, List.getElem_cons_zero, List.getElem_cons_succ, List.setIfInBounds_toArray, List.set_cons_zero, List.set_cons_succ]
            refine' wpAnyFP_take (i := 4) (v := _) 6 rfl (by kernel_rfl) (by kernel_rfl) (by kernel_rfl) (by kernel_rfl) (by rfl) (by rfl) (fun _ _ _ h => h) (fun _ h => absurd h (by decide)) (Or.inl ⟨by rfl, ?hy⟩) (fun kx _ => hall kx) _
            case hy => (intro w0 hC; (try dsimp only at hC); simp only [List.getElem_toArray, List.getElem_cons_zero, List.getElem_cons_succ]; go_simp; first | done | with_reducible rfl)
            try simp only [Act.put, List.getElem_toArray, List.getElem_cons_zero, List.getElem_cons_succ, List.setIfInBounds_toArray, List.set_cons_zero, List.set_cons_succ]
            refine' wpAnyFP_take (i := 5) (v := _) 6 rfl (by kernel_rfl) (by kernel_rfl) (by kernel_rfl) (by kernel_rfl) (by rfl) (by rfl) (fun _ _ _ h => h) (fun _ h => absurd h (by decide)) (Or.inl ⟨by rfl, ?hy⟩) (fun kx _ => hall kx) _
            case hy => (intro w0 hC; replace hC := hC (.inr rfl); (try dsimp only at hC); simp only [List.getElem_toArray, List.getElem_cons_zero, List.getElem_cons_succ]; go_simp; first | done | with_reducible rfl)
            try simp only [Act.put, List.getElem_toArray, List.getElem_cons_zero, List.getElem_cons_succ, List.setIfInBounds_toArray, List.set_cons_zero, List.set_cons_succ]
            clear hall
            refine wpAnyFP_one (i := 0) (by kernel_rfl) rfl ?_
            intro K' hK
            rw [if_pos (by kernel_rfl)]
            go_simp
            refine (does_any _).mono ?_
            rintro e w7 ⟨rfl, hb7⟩
            have HB7 := Lib.hid ((Below.refl _ w6).drew.trans hb7)
            clear hb7
            refine hK.out _ _ (fun kx hk _ => HXC.out _ HB7.out) ?_
            clear hK K'
            try simp only [Act.put, List.getElem_toArray, List.getElem_cons_zero, List.getElem_cons_succ, List.setIfInBounds_toArray, List.set_cons_zero, List.set_cons_succ]
            refine wpAnyFP_one (i := 3) (by kernel_rfl) rfl ?_
            intro K' hK
            rw [if_pos (by kernel_rfl)]
            go_simp
            refine hK.out _ _ (fun kx hk _ => HXC.out _ HB7.out) ?_
            clear hK K'
            try simp only [Act.put, List.getElem_toArray, List.getElem_cons_zero, List.getElem_cons_succ, List.setIfInBounds_toArray, List.set_cons_zero, List.set_cons_succ]
            refine wpAnyFP_one (i := 6) (by kernel_rfl) rfl ?_
            intro K' hK
            rw [if_pos (by kernel_rfl)]
            go_simp
            refine (HDO.out w7 (HW6.out.trans (HB7.out.mono HW6.out.size))).mono ?_
            rintro e w8 ⟨rfl, hm8, hf8⟩
            have H8 := Lib.hid (And.intro hm8 (HMF.out.2.1.trans ((Frn.of_below (HW6.out.trans (HB7.out.mono HW6.out.size))).trans hf8)))
            clear hm8 hf8
            refine hK.out _ _ (fun kx hk h => h.elim (fun h => Bool.noConfusion (hk.symm.trans (by subst h; kernel_rfl : _ = true))) (fun h => Bool.noConfusion (hk.symm.trans (by subst h; kernel_rfl : _ = true)))) ?_
            clear hK K'
            try simp only [Act.put, List.getElem_toArray, List.getElem_cons_zero, List.getElem_cons_succ, List.setIfInBounds_toArray, List.set_cons_zero, List.set_cons_succ]
            refine wpAnyFP_done (by kernel_rfl) ?_ _
            refine NoPanic.normal ?_
            clear x0 x1 x2 HEN
            go_wp2_with fail
            go_roundw
            case rel => exact ⟨k + 1, hlt, by go_num, by rw [HMF.out.2.2]; exact H8.out.1, H8.out.2⟩
            case measure => simp [intOf]; omega
          · simp only [fineA, rightA, thereA, Bool.and_eq_true, Bool.or_eq_true, decide_eq_true_eq] at hfi
            simp at hfi
            obtain ⟨i, rfl⟩ : ∃ i : Nat, a = i := ⟨a.toNat, by omega⟩
            have hi : i < (doL m (xs.take k)).length := by rw [hln]; omega
            have HDO : Hid (∀ U, Below wr.heap.size wr U → Calls Try.prog 88 #[.pointer (some ⟨O, 0, none⟩), .agg #[.int .i64 2, .int .i64 i, .int .u64 v]] U fun e w' => e = .returned (.int .i64 0) ∧ MAt w' O ((doL m (xs.take k)).flush i) N ∧ Frn N U w') := Lib.hid (fun U hU => does3_any 2 i v U (HMF.out.1.below hU) (fun x hx => Nat.lt_of_lt_of_le (HNW.out x hx) hU.size) hi)
            have HXC : Hid (∀ w', Below w6.heap.size w6 w' → (w'.cell? ⟨X, 0, none⟩ = some (.int .i64 2) ∧ w'.cell? ⟨X, 1, none⟩ = some (.int .i64 (i : Int)) ∧ w'.cell? ⟨X, 2, none⟩ = some (.int .u64 v))) := Lib.hid (fun w' hb => ⟨(hb.cell (p := ⟨X, 0, none⟩) hXs).trans x0, (hb.cell (p := ⟨X, 1, none⟩) hXs).trans x1, (hb.cell (p := ⟨X, 2, none⟩) hXs).trans x2⟩)
            have hix : ∀ W, (Instr.index 120 (.agg #[.func (.func 86) #[] #[], .func (.func 87) #[] #[], .func (.func 88) #[] #[], .func (.func 89) #[] #[]]) (.int .i64 2)).run Try.prog W = .ok (.func (.func 88) #[] #[]) W := fun W => by kernel_rfl
            have HEN := enters_of (P := Try.prog) Try.func88 (by kernel_rfl) rfl
            clear hfi hln hXs hi
            refine wp_region_noPanic ?_
            refine wp_region_FP (fun kx w' => (kx = 3 ∨ kx = 6) → (w'.cell? ⟨X, 0, none⟩ = some (.int .i64 2) ∧ w'.cell? ⟨X, 1, none⟩ = some (.int .i64 (i : Int)) ∧ w'.cell? ⟨X, 2, none⟩ = some (.int .u64 v))) (by kernel_rfl) (fun kx => fun _ => ⟨x0, x1, x2⟩) ?_
            intro hTill
            clear hTill
            have hall : ∀ kx : Nat, (fun kx w' => (kx = 3 ∨ kx = 6) → (w'.cell? ⟨X, 0, none⟩ = some (.int .i64 2) ∧ w'.cell? ⟨X, 1, none⟩ = some (.int .i64 (i : Int)) ∧ w'.cell? ⟨X, 2, none⟩ = some (.int .u64 v))) kx w6.drew := fun kx => fun _ => ⟨x0, x1, x2⟩
            refine' wpAnyFP_take (i := 1) (v := _) 2 rfl (by kernel_rfl) (by kernel_rfl) (by kernel_rfl) (by kernel_rfl) (by rfl) (by rfl) (fun _ _ _ h => h) (fun _ h => absurd h (by decide)) (Or.inl ⟨by rfl, ?hy⟩) (fun kx _ => hall kx) _
            case hy => (intro w0 hC; (try dsimp only at hC); simp only [List.getElem_toArray, List.getElem_cons_zero, List.getElem_cons_succ]; go_simp; first | done | with_reducible rfl)
            try simp only [Act.put, List.getElem_toArray, List.getElem_cons_zero, List.getElem_cons_succ, List.setIfInBounds_toArray, List.set_cons_zero, List.set_cons_succ]
            refine' wpAnyFP_take (i := 2) (v := _) 3 rfl (by kernel_rfl) (by kernel_rfl) (by kernel_rfl) (by kernel_rfl) (by rfl) (by rfl) (fun _ _ _ h => h) (fun _ h => absurd h (by decide)) (Or.inl ⟨by rfl, ?hy⟩) (fun kx _ => hall kx) _
            case hy => (intro w0 hC; replace hC := hC (.inl rfl); (try dsimp only at hC); simp only [List.getElem_toArray, List.getElem_cons_zero, List.getElem_cons_succ]; go_simp; first | done | with_reducible rfl)
            try simp only [Act.put, List.getElem_toArray, List.getElem_cons_zero, List.getElem_cons_succ, List.setIfInBounds_toArray, List.set_cons_zero, List.set_cons_succ]
            refine' wpAnyFP_take (i := 4) (v := _) 6 rfl (by kernel_rfl) (by kernel_rfl) (by kernel_rfl) (by kernel_rfl) (by rfl) (by rfl) (fun _ _ _ h => h) (fun _ h => absurd h (by decide)) (Or.inl ⟨by rfl, ?hy⟩) (fun kx _ => hall kx) _
            case hy => (intro w0 hC; (try dsimp only at hC); simp only [List.getElem_toArray, List.getElem_cons_zero, List.getElem_cons_succ]; go_simp; first | done | with_reducible rfl)
            try simp only [Act.put, List.getElem_toArray, List.getElem_cons_zero, List.getElem_cons_succ, List.setIfInBounds_toArray, List.set_cons_zero, List.set_cons_succ]
            refine' wpAnyFP_take (i := 5) (v := _) 6 rfl (by kernel_rfl) (by kernel_rfl) (by kernel_rfl) (by kernel_rfl) (by rfl) (by rfl) (fun _ _ _ h => h) (fun _ h => absurd h (by decide)) (Or.inl ⟨by rfl, ?hy⟩) (fun kx _ => hall kx) _
            case hy => (intro w0 hC; replace hC := hC (.inr rfl); (try dsimp only at hC); simp only [List.getElem_toArray, List.getElem_cons_zero, List.getElem_cons_succ]; go_simp; first | done | with_reducible rfl)
            try simp only [Act.put, List.getElem_toArray, List.getElem_cons_zero, List.getElem_cons_succ, List.setIfInBounds_toArray, List.set_cons_zero, List.set_cons_succ]
            clear hall
            refine wpAnyFP_one (i := 0) (by kernel_rfl) rfl ?_
            intro K' hK
            rw [if_pos (by kernel_rfl)]
            go_simp
            refine (does_any _).mono ?_
            rintro e w7 ⟨rfl, hb7⟩
            have HB7 := Lib.hid ((Below.refl _ w6).drew.trans hb7)
            clear hb7
            refine hK.out _ _ (fun kx hk _ => HXC.out _ HB7.out) ?_
            clear hK K'
            try simp only [Act.put, List.getElem_toArray, List.getElem_cons_zero, List.getElem_cons_succ, List.setIfInBounds_toArray, List.set_cons_zero, List.set_cons_succ]
            refine wpAnyFP_one (i := 3) (by kernel_rfl) rfl ?_
            intro K' hK
            rw [if_pos (by kernel_rfl)]
            go_simp
            refine hK.out _ _ (fun kx hk _ => HXC.out _ HB7.out) ?_
            clear hK K'
            try simp only [Act.put, List.getElem_toArray, List.getElem_cons_zero, List.getElem_cons_succ, List.setIfInBounds_toArray, List.set_cons_zero, List.set_cons_succ]
            refine wpAnyFP_one (i := 6) (by kernel_rfl) rfl ?_
            intro K' hK
            rw [if_pos (by kernel_rfl)]
            go_simp
            refine (HDO.out w7 (HW6.out.trans (HB7.out.mono HW6.out.size))).mono ?_
            rintro e w8 ⟨rfl, hm8, hf8⟩
            have H8 := Lib.hid (And.intro hm8 (HMF.out.2.1.trans ((Frn.of_below (HW6.out.trans (HB7.out.mono HW6.out.size))).trans hf8)))
            clear hm8 hf8
            refine hK.out _ _ (fun kx hk h => h.elim (fun h => Bool.noConfusion (hk.symm.trans (by subst h; kernel_rfl : _ = true))) (fun h => Bool.noConfusion (hk.symm.trans (by subst h; kernel_rfl : _ = true)))) ?_
            clear hK K'
            try simp only [Act.put, List.getElem_toArray, List.getElem_cons_zero, List.getElem_cons_succ, List.setIfInBounds_toArray, List.set_cons_zero, List.set_cons_succ]
            refine wpAnyFP_done (by kernel_rfl) ?_ _
            refine NoPanic.normal ?_
            clear x0 x1 x2 HEN
            go_wp2_with fail
            go_roundw
            case rel => exact ⟨k + 1, hlt, by go_num, by rw [HMF.out.2.2]; exact H8.out.1, H8.out.2⟩
            case measure => simp [intOf]; omega
          · have HDO : Hid (∀ U, Below wr.heap.size wr U → Calls Try.prog 89 #[.pointer (some ⟨O, 0, none⟩), .agg #[.int .i64 3, .int .i64 a, .int .u64 v]] U fun e w' => e = .returned (.int .i64 0) ∧ MAt w' O ((doL m (xs.take k)).fence) N ∧ Frn N U w') := Lib.hid (fun U hU => does4_any 3 a v U (HMF.out.1.below hU) (fun x hx => Nat.lt_of_lt_of_le (HNW.out x hx) hU.size))
            have HXC : Hid (∀ w', Below w6.heap.size w6 w' → (w'.cell? ⟨X, 0, none⟩ = some (.int .i64 3) ∧ w'.cell? ⟨X, 1, none⟩ = some (.int .i64 a) ∧ w'.cell? ⟨X, 2, none⟩ = some (.int .u64 v))) := Lib.hid (fun w' hb => ⟨(hb.cell (p := ⟨X, 0, none⟩) hXs).trans x0, (hb.cell (p := ⟨X, 1, none⟩) hXs).trans x1, (hb.cell (p := ⟨X, 2, none⟩) hXs).trans x2⟩)
            have hix : ∀ W, (Instr.index 120 (.agg #[.func (.func 86) #[] #[], .func (.func 87) #[] #[], .func (.func 88) #[] #[], .func (.func 89) #[] #[]]) (.int .i64 3)).run Try.prog W = .ok (.func (.func 89) #[] #[]) W := fun W => by kernel_rfl
            have HEN := enters_of (P := Try.prog) Try.func89 (by kernel_rfl) rfl
            clear hfi hln hXs
            refine wp_region_noPanic ?_
            refine wp_region_FP (fun kx w' => (kx = 3 ∨ kx = 6) → (w'.cell? ⟨X, 0, none⟩ = some (.int .i64 3) ∧ w'.cell? ⟨X, 1, none⟩ = some (.int .i64 a) ∧ w'.cell? ⟨X, 2, none⟩ = some (.int .u64 v))) (by kernel_rfl) (fun kx => fun _ => ⟨x0, x1, x2⟩) ?_
            intro hTill
            clear hTill
            have hall : ∀ kx : Nat, (fun kx w' => (kx = 3 ∨ kx = 6) → (w'.cell? ⟨X, 0, none⟩ = some (.int .i64 3) ∧ w'.cell? ⟨X, 1, none⟩ = some (.int .i64 a) ∧ w'.cell? ⟨X, 2, none⟩ = some (.int .u64 v))) kx w6.drew := fun kx => fun _ => ⟨x0, x1, x2⟩
            refine' wpAnyFP_take (i := 1) (v := _) 2 rfl (by kernel_rfl) (by kernel_rfl) (by kernel_rfl) (by kernel_rfl) (by rfl) (by rfl) (fun _ _ _ h => h) (fun _ h => absurd h (by decide)) (Or.inl ⟨by rfl, ?hy⟩) (fun kx _ => hall kx) _
            case hy => (intro w0 hC; (try dsimp only at hC); simp only [List.getElem_toArray, List.getElem_cons_zero, List.getElem_cons_succ]; go_simp; first | done | with_reducible rfl)
            try simp only [Act.put, List.getElem_toArray, List.getElem_cons_zero, List.getElem_cons_succ, List.setIfInBounds_toArray, List.set_cons_zero, List.set_cons_succ]
            refine' wpAnyFP_take (i := 2) (v := _) 3 rfl (by kernel_rfl) (by kernel_rfl) (by kernel_rfl) (by kernel_rfl) (by rfl) (by rfl) (fun _ _ _ h => h) (fun _ h => absurd h (by decide)) (Or.inl ⟨by rfl, ?hy⟩) (fun kx _ => hall kx) _
            case hy => (intro w0 hC; replace hC := hC (.inl rfl); (try dsimp only at hC); simp only [List.getElem_toArray, List.getElem_cons_zero, List.getElem_cons_succ]; go_simp; first | done | with_reducible rfl)
            try simp only [Act.put, List.getElem_toArray, List.getElem_cons_zero, List.getElem_cons_succ, List.setIfInBounds_toArray, List.set_cons_zero, List.set_cons_succ]
            refine' wpAnyFP_take (i := 4) (v := _) 6 rfl (by kernel_rfl) (by kernel_rfl) (by kernel_rfl) (by kernel_rfl) (by rfl) (by rfl) (fun _ _ _ h => h) (fun _ h => absurd h (by decide)) (Or.inl ⟨by rfl, ?hy⟩) (fun kx _ => hall kx) _
            case hy => (intro w0 hC; (try dsimp only at hC); simp only [List.getElem_toArray, List.getElem_cons_zero, List.getElem_cons_succ]; go_simp; first | done | with_reducible rfl)
            try simp only [Act.put, List.getElem_toArray, List.getElem_cons_zero, List.getElem_cons_succ, List.setIfInBounds_toArray, List.set_cons_zero, List.set_cons_succ]
            refine' wpAnyFP_take (i := 5) (v := _) 6 rfl (by kernel_rfl) (by kernel_rfl) (by kernel_rfl) (by kernel_rfl) (by rfl) (by rfl) (fun _ _ _ h => h) (fun _ h => absurd h (by decide)) (Or.inl ⟨by rfl, ?hy⟩) (fun kx _ => hall kx) _
            case hy => (intro w0 hC; replace hC := hC (.inr rfl); (try dsimp only at hC); simp only [List.getElem_toArray, List.getElem_cons_zero, List.getElem_cons_succ]; go_simp; first | done | with_reducible rfl)
            try simp only [Act.put, List.getElem_toArray, List.getElem_cons_zero, List.getElem_cons_succ, List.setIfInBounds_toArray, List.set_cons_zero, List.set_cons_succ]
            clear hall
            refine wpAnyFP_one (i := 0) (by kernel_rfl) rfl ?_
            intro K' hK
            rw [if_pos (by kernel_rfl)]
            go_simp
            refine (does_any _).mono ?_
            rintro e w7 ⟨rfl, hb7⟩
            have HB7 := Lib.hid ((Below.refl _ w6).drew.trans hb7)
            clear hb7
            refine hK.out _ _ (fun kx hk _ => HXC.out _ HB7.out) ?_
            clear hK K'
            try simp only [Act.put, List.getElem_toArray, List.getElem_cons_zero, List.getElem_cons_succ, List.setIfInBounds_toArray, List.set_cons_zero, List.set_cons_succ]
            refine wpAnyFP_one (i := 3) (by kernel_rfl) rfl ?_
            intro K' hK
            rw [if_pos (by kernel_rfl)]
            go_simp
            refine hK.out _ _ (fun kx hk _ => HXC.out _ HB7.out) ?_
            clear hK K'
            try simp only [Act.put, List.getElem_toArray, List.getElem_cons_zero, List.getElem_cons_succ, List.setIfInBounds_toArray, List.set_cons_zero, List.set_cons_succ]
            refine wpAnyFP_one (i := 6) (by kernel_rfl) rfl ?_
            intro K' hK
            rw [if_pos (by kernel_rfl)]
            go_simp
            refine (HDO.out w7 (HW6.out.trans (HB7.out.mono HW6.out.size))).mono ?_
            rintro e w8 ⟨rfl, hm8, hf8⟩
            have H8 := Lib.hid (And.intro hm8 (HMF.out.2.1.trans ((Frn.of_below (HW6.out.trans (HB7.out.mono HW6.out.size))).trans hf8)))
            clear hm8 hf8
            refine hK.out _ _ (fun kx hk h => h.elim (fun h => Bool.noConfusion (hk.symm.trans (by subst h; kernel_rfl : _ = true))) (fun h => Bool.noConfusion (hk.symm.trans (by subst h; kernel_rfl : _ = true)))) ?_
            clear hK K'
            try simp only [Act.put, List.getElem_toArray, List.getElem_cons_zero, List.getElem_cons_succ, List.setIfInBounds_toArray, List.set_cons_zero, List.set_cons_succ]
            refine wpAnyFP_done (by kernel_rfl) ?_ _
            refine NoPanic.normal ?_
            clear x0 x1 x2 HEN
            go_wp2_with fail
            go_roundw
            case rel => exact ⟨k + 1, hlt, by go_num, by rw [HMF.out.2.2]; exact H8.out.1, H8.out.2⟩
            case measure => simp [intOf]; omega
        · obtain rfl : K = k := by omega
          have hnl : ¬ (K : Int) < (K : Int) := by omega
          have HE : Hid (MAt wr O (doL m xs) N ∧ Frn N W wr) := Lib.hid ⟨by rw [← HK.out, List.take_length] at hm; exact hm, hf⟩
          clear hm hf
          go_wp2_with fail
          go_ret
          exact ⟨rfl, HE.out.1, HE.out.2⟩
end Go.Proofs.Ytaflbfmlajbjcaa
