/- The walk of the reference's hash. -/
import Derived.Test.YtandljkppgneoaaHashR
namespace Go.Proofs.Ytandljkppgneoaa
open Go Go.RowKit

theorem foldV_nil (vs : List (BitVec 64)) : foldV vs [] = vs := rfl
theorem finV_of (S u1 u2 u3 u4 : List (BitVec 64)) (h1 : u1 = roundL (S.set 2 (xorw (hget S 2) 255#64))) (h2 : u2 = roundL u1) (h3 : u3 = roundL u2) (h4 : u4 = roundL u3) : finV S = u4 := by
  rw [h4, h3, h2, h1]; simp only [finV, roundsL]
theorem outV_of (u : List (BitVec 64)) : outV u = xorw (xorw (xorw (hget u 0) (hget u 1)) (hget u 2)) (hget u 3) := rfl
theorem takeV_of (S us1 us2 : List (BitVec 64)) (m : BitVec 64) (h1 : us1 = roundL (S.set 3 (xorw (hget S 3) m))) (h2 : us2 = roundL us1) : takeV S m = us2.set 0 (xorw (hget us2 0) m) := by
  rw [h2, h1]; simp only [takeV, roundsL]
attribute [local irreducible] takeV foldV roundsL finV outV wordOf lastL
theorem refRound3 (S : List (BitVec 64)) (m : BitVec 64) (hl : S.length = 4) (w : World) :
    Calls Try.prog 50 #[.agg #[vw (hget S 0), vw (hget S 1), vw (hget S 2), .int .u64 ((xorw (hget S 3) m).toNat : Int)]] w fun e w' =>
      (∃ us, us = roundL (S.set 3 (xorw (hget S 3) m)) ∧ us.length = 4 ∧ e = .returned (.agg #[vw (hget us 0), vw (hget us 1), vw (hget us 2), vw (hget us 3)])) ∧ Below w.heap.size w w' := by
  have h := refRoundV (S.set 3 (xorw (hget S 3) m)) (by rw [List.length_set]; exact hl) w
  have e0 : hget (S.set 3 (xorw (hget S 3) m)) 0 = hget S 0 := by unfold hget; simp [List.getD]
  have e1 : hget (S.set 3 (xorw (hget S 3) m)) 1 = hget S 1 := by unfold hget; simp [List.getD]
  have e2 : hget (S.set 3 (xorw (hget S 3) m)) 2 = hget S 2 := by unfold hget; simp [List.getD]
  have e3 : hget (S.set 3 (xorw (hget S 3) m)) 3 = xorw (hget S 3) m := by
    unfold hget; simp only [List.getD]; rw [List.getElem?_set_self (by omega)]; rfl
  rw [e0, e1, e2, e3] at h
  refine h.mono ?_
  rintro e w' ⟨he, hb⟩
  exact ⟨⟨_, rfl, by rw [roundL_len, List.length_set]; exact hl, he⟩, hb⟩
theorem refRound2 (S : List (BitVec 64)) (x : BitVec 64) (hl : S.length = 4) (w : World) :
    Calls Try.prog 50 #[.agg #[vw (hget S 0), vw (hget S 1), .int .u64 (x.toNat : Int), vw (hget S 3)]] w fun e w' =>
      (∃ us, us = roundL (S.set 2 x) ∧ us.length = 4 ∧ e = .returned (.agg #[vw (hget us 0), vw (hget us 1), vw (hget us 2), vw (hget us 3)])) ∧ Below w.heap.size w w' := by
  have h := refRoundV (S.set 2 x) (by rw [List.length_set]; exact hl) w
  have e0 : hget (S.set 2 x) 0 = hget S 0 := by unfold hget; simp [List.getD]
  have e1 : hget (S.set 2 x) 1 = hget S 1 := by unfold hget; simp [List.getD]
  have e3 : hget (S.set 2 x) 3 = hget S 3 := by unfold hget; simp [List.getD]
  have e2 : hget (S.set 2 x) 2 = x := by
    unfold hget; simp only [List.getD]; rw [List.getElem?_set_self (by omega)]; rfl
  rw [e0, e1, e2, e3] at h
  refine h.mono ?_
  rintro e w' ⟨he, hb⟩
  exact ⟨⟨_, rfl, by rw [roundL_len, List.length_set]; exact hl, he⟩, hb⟩
theorem refRoundE (vs : List (BitVec 64)) (hl : vs.length = 4) (w : World) :
    Calls Try.prog 50 #[.agg #[vw (hget vs 0), vw (hget vs 1), vw (hget vs 2), vw (hget vs 3)]] w fun e w' =>
      (∃ us, us = roundL vs ∧ us.length = 4 ∧ e = .returned (.agg #[vw (hget us 0), vw (hget us 1), vw (hget us 2), vw (hget us 3)])) ∧ Below w.heap.size w w' := by
  refine (refRoundV vs hl w).mono ?_
  rintro e w' ⟨he, hb⟩
  exact ⟨⟨_, rfl, by rw [roundL_len]; exact hl, he⟩, hb⟩
/-- The loop's place: the words' block, past the key's. -/
structure RefAt (w : World) (wr : World) (us : List (BitVec 64)) : Prop where
  hd : Hd wr (w.heap.size + 1) 85 us []
  len : us.length = 4
  bel : Below w.heap.size w wr

set_option maxRecDepth 100000 in
set_option maxHeartbeats 2000000 in
theorem refSum_any (a b : BitVec 64) (p : Option Addr) (cap : Nat) (bs : List (BitVec 8)) (w : World) (hrd : RdL w.heap.size w p cap vb bs) (hx : bs.length ≤ 4611686018427387904) :
    Calls Try.prog 26 #[.agg #[vw a, vw b], .slice p bs.length cap] w fun e w' => e = .returned (vw (hashV a b bs)) ∧ Below w.heap.size w w' := by
  have e1 : bits BinOp.xor IntKind.u64 (a.toNat : Int) 8317987319222330741 = ((xorw a sip0).toNat : Int) := bits_xor_w _ sip0
  have e2 : bits BinOp.xor IntKind.u64 (b.toNat : Int) 7237128888997146477 = ((xorw b sip1).toNat : Int) := bits_xor_w _ sip1
  have e3 : bits BinOp.xor IntKind.u64 (a.toNat : Int) 7816392313619706465 = ((xorw a sip2).toNat : Int) := bits_xor_w _ sip2
  have e4 : bits BinOp.xor IntKind.u64 (b.toNat : Int) 8387220255154660723 = ((xorw b sip3).toNat : Int) := bits_xor_w _ sip3
  have hcap := hrd.1
  have hmax : cap ≤ 9223372036854775807 := hrd.2.1
  have HR := Lib.hid hrd
  clear hrd
  go_enter Try.func26, Try.ntmps26
  go_wp2_with fail
  go_loopw [6] (fun i wr => ∃ (k : Nat), k ≤ bs.length / 8 + 1 ∧ i = .int .i64 ((8 * k : Nat) : Int) ∧ RefAt w wr (refSt a b bs k)) (fun i _ => bs.length + 16 - (intOf i).toNat)
  case atStart =>
    refine ⟨0, by omega, rfl, ?_, refSt_len _ _ _ _, ((Below.refl _ _).alloc (Nat.le_refl _) _).alloc (by simp) _⟩
    have e : refSt a b bs 0 = initV a b := by
      unfold refSt
      rw [if_pos (Nat.zero_le _), List.take_zero]
      exact foldV_nil _
    rw [e]
    have := World.alloc_heap_new (w.alloc (Obj.cells #[vw a, vw b] 52)) (Obj.cells #[vw (xorw a sip0), vw (xorw b sip1), vw (xorw a sip2), vw (xorw b sip3)] 85)
    rw [World.size_alloc] at this
    exact this
  case round =>
    obtain ⟨k, hk, rfl, hat⟩ := hrel
    have HA := Lib.hid hat
    clear hat
    obtain ⟨i, hi⟩ : ∃ i, 8 * k = i := ⟨_, rfl⟩
    rw [hi]
    by_cases hle : k ≤ bs.length / 8
    · have hil : i ≤ bs.length := by omega
      have hil' : (i : Int) ≤ (bs.length : Int) := by omega
      have HI := Lib.hid hi
      clear hi
      have hln : (bs.drop i).length = bs.length - i := by simp
      have hcase : ((cap = i) = True ∧ ∀ W : World, Below w.heap.size w W → Calls Try.prog 48 #[.slice p (bs.length - i) (cap - i)] W fun e w' => e = .returned (vw (wordOf ((bs.drop i).take 8))) ∧ W = w') ∨
          ((cap = i) = False ∧ ∃ bb off, p = some ⟨bb, off, none⟩ ∧ ∀ W : World, Below w.heap.size w W → Calls Try.prog 48 #[.slice (some ⟨bb, off + i, none⟩) (bs.length - i) (cap - i)] W fun e w' => e = .returned (vw (wordOf ((bs.drop i).take 8))) ∧ W = w') := by
        by_cases h : cap = i
        · refine .inl ⟨by simp [h], fun W hW => ?_⟩
          have hrd : RdL W.heap.size W p (cap - i) vb (bs.drop i) := ⟨by rw [hln]; omega, by simp [maxLen]; omega, .inl (by omega)⟩
          have := refWord_any p (cap - i) (bs.drop i) W hrd
          rwa [hln] at this
        · rcases HR.out.2.2 with h0 | ⟨bb, off, rfl, _, _⟩
          · omega
          · refine .inr ⟨by simp [h], bb, off, rfl, fun W hW => ?_⟩
            have hb := (HR.out.below hW).wide hW.size
            have := refWord_any _ _ _ W (hb.tail i (by omega))
            rwa [hln] at this
      have c0 := HA.out.hd.cell 0 (by rw [HA.out.len]; omega)
      have c1 := HA.out.hd.cell 1 (by rw [HA.out.len]; omega)
      have c2 := HA.out.hd.cell 2 (by rw [HA.out.len]; omega)
      have c3 := HA.out.hd.cell 3 (by rw [HA.out.len]; omega)
      have f3 := HA.out.hd.free 3
      have x3 := bits_xor_w (hget (refSt a b bs k) 3) (refM bs k)
      by_cases hlast : bs.length < i + 8
      · have hm : addw (wordOf ((bs.drop i).take 8)) (mulw (BitVec.ofNat 64 (bs.length % 256)) pow56) = refM bs k := by
          unfold refM
          rw [HI.out, if_neg (by have := HI.out; omega)]
        have hmul : IntKind.u64.wrap ((bs.length : Int) % 256 * pw 56) = ((mulw (BitVec.ofNat 64 (bs.length % 256)) pow56).toNat : Int) := by
          rw [← mul_w]
          congr 2
          simp
          omega
        have hadd := add_w (wordOf ((bs.drop i).take 8)) (mulw (BitVec.ofNat 64 (bs.length % 256)) pow56)
        rw [hm] at hadd
        have hpow : ∀ W : World, Calls Try.prog 49 #[.int .i64 56] W fun e w' => e = .returned (.int .u64 (pw 56)) ∧ W = w' := fun W => power_any 56 (by decide) W
        obtain ⟨M, hM⟩ : ∃ M, mulw (BitVec.ofNat 64 (bs.length % 256)) pow56 = M := ⟨_, rfl⟩
        rw [hM] at hmul hadd
        have HM := Lib.hid hM
        clear hm hM
        have hcv : IntKind.u64.wrap ((bs.length : Int) % 256) = (bs.length : Int) % 256 := by rw [wrap_u64]; omega
        rcases hcase with ⟨hci, hw⟩ | ⟨hci, bb, off, rfl, hw⟩
        all_goals
          have HWD := Lib.hid hw
          clear hw
          go_wp2_with fail
          refine (HWD.out _ HA.out.bel).mono ?_
          rintro e w1 ⟨rfl, rfl⟩
          go_wp2_with fail
          refine (hpow _).mono ?_
          rintro e w1 ⟨rfl, rfl⟩
          go_wp2_with fail
          obtain ⟨wa, hwa⟩ : ∃ wa, wr.setCell ⟨w.heap.size + 1, 3, none⟩ (Value.int IntKind.u64 ((xorw (hget (refSt a b bs k) 3) (refM bs k)).toNat : Int)) = wa := ⟨_, rfl⟩
          have hda : Hd wa (w.heap.size + 1) 85 ((refSt a b bs k).set 3 (xorw (hget (refSt a b bs k) 3) (refM bs k))) [] := by
            rw [← hwa]; exact HA.out.hd.set 3 (by rw [HA.out.len]; omega) _
          have hba : Below w.heap.size w wa := by rw [← hwa]; exact HA.out.bel.setCell (by simp) _
          rw [hwa]
          have HDA := Lib.hid hda
          have HBA := Lib.hid hba
          clear hda hba hwa c0 c1 c2 c3 f3 x3
          refine (refRound3 (refSt a b bs k) (refM bs k) HA.out.len wa).mono ?_
          rintro e wb ⟨⟨us1, hu1, hl1, rfl⟩, hbb1⟩
          have HU1 := Lib.hid hu1
          have HB1 := Lib.hid hbb1
          clear hu1 hbb1
          go_wp2_with fail
          refine (refRoundE us1 hl1 wb).mono ?_
          rintro e wc ⟨⟨us2, hu2, hl2, rfl⟩, hbb2⟩
          have hdc : Hd wc (w.heap.size + 1) 85 ((refSt a b bs k).set 3 (xorw (hget (refSt a b bs k) 3) (refM bs k))) [] := by
            have h1 := HDA.out.kept (HB1.out.block _ HDA.out.lt)
            exact h1.kept (hbb2.block _ h1.lt)
          have hbc : Below w.heap.size w wc := HBA.out.trans ((HB1.out.trans (hbb2.mono HB1.out.size)).mono HBA.out.size)
          have hls : ((refSt a b bs k).set 3 (xorw (hget (refSt a b bs k) 3) (refM bs k))).length = 4 := by rw [List.length_set]; exact HA.out.len
          have c0 := hdc.cell 0 (by omega)
          have c1 := hdc.cell 1 (by omega)
          have c2 := hdc.cell 2 (by omega)
          have c3 := hdc.cell 3 (by omega)
          have f0 := hdc.free 0
          have f1 := hdc.free 1
          have f2 := hdc.free 2
          have f3 := hdc.free 3
          have x0 := bits_xor_w (hget us2 0) (refM bs k)
          have HU2 := Lib.hid hu2
          have HDC := Lib.hid hdc
          have HBC := Lib.hid hbc
          have HLS := Lib.hid hls
          clear hu2 hdc hbc hls hbb2
          go_wp2_with fail
          refine ⟨⟨k + 1, by omega, by have := HI.out; congr 1; omega, ?_⟩, by simp [intOf]; omega⟩
          have hd4 := (HDC.out.set4 HLS.out us2 hl2).set 0 (by omega) (xorw (hget us2 0) (refM bs k))
          rw [← takeV_of _ us1 us2 _ HU1.out HU2.out, ← refSt_succ a b bs k hle] at hd4
          refine ⟨hd4, refSt_len _ _ _ _, ?_⟩
          exact ((((HBC.out.setCell (p := ⟨w.heap.size + 1, 0, none⟩) (Nat.le_succ _) _).setCell (p := ⟨w.heap.size + 1, 1, none⟩) (Nat.le_succ _) _).setCell (p := ⟨w.heap.size + 1, 2, none⟩) (Nat.le_succ _) _).setCell (p := ⟨w.heap.size + 1, 3, none⟩) (Nat.le_succ _) _).setCell (p := ⟨w.heap.size + 1, 0, none⟩) (Nat.le_succ _) _
      · have hm : refM bs k = wordOf ((bs.drop i).take 8) := by
          unfold refM
          rw [HI.out, if_pos (by have := HI.out; omega)]
        have HM := Lib.hid hm
        clear hm
        rcases hcase with ⟨hci, hw⟩ | ⟨hci, bb, off, rfl, hw⟩
        · exact absurd (of_eq_true hci) (by omega)
        all_goals
          have HWD := Lib.hid hw
          clear hw
          go_wp2_with fail
          refine (HWD.out _ HA.out.bel).mono ?_
          rintro e w1 ⟨rfl, rfl⟩
          rw [← HM.out]
          go_wp2_with fail
          obtain ⟨wa, hwa⟩ : ∃ wa, wr.setCell ⟨w.heap.size + 1, 3, none⟩ (Value.int IntKind.u64 ((xorw (hget (refSt a b bs k) 3) (refM bs k)).toNat : Int)) = wa := ⟨_, rfl⟩
          have hda : Hd wa (w.heap.size + 1) 85 ((refSt a b bs k).set 3 (xorw (hget (refSt a b bs k) 3) (refM bs k))) [] := by
            rw [← hwa]; exact HA.out.hd.set 3 (by rw [HA.out.len]; omega) _
          have hba : Below w.heap.size w wa := by rw [← hwa]; exact HA.out.bel.setCell (by simp) _
          rw [hwa]
          have HDA := Lib.hid hda
          have HBA := Lib.hid hba
          clear hda hba hwa c0 c1 c2 c3 f3 x3
          refine (refRound3 (refSt a b bs k) (refM bs k) HA.out.len wa).mono ?_
          rintro e wb ⟨⟨us1, hu1, hl1, rfl⟩, hbb1⟩
          have HU1 := Lib.hid hu1
          have HB1 := Lib.hid hbb1
          clear hu1 hbb1
          go_wp2_with fail
          refine (refRoundE us1 hl1 wb).mono ?_
          rintro e wc ⟨⟨us2, hu2, hl2, rfl⟩, hbb2⟩
          have hdc : Hd wc (w.heap.size + 1) 85 ((refSt a b bs k).set 3 (xorw (hget (refSt a b bs k) 3) (refM bs k))) [] := by
            have h1 := HDA.out.kept (HB1.out.block _ HDA.out.lt)
            exact h1.kept (hbb2.block _ h1.lt)
          have hbc : Below w.heap.size w wc := HBA.out.trans ((HB1.out.trans (hbb2.mono HB1.out.size)).mono HBA.out.size)
          have hls : ((refSt a b bs k).set 3 (xorw (hget (refSt a b bs k) 3) (refM bs k))).length = 4 := by rw [List.length_set]; exact HA.out.len
          have c0 := hdc.cell 0 (by omega)
          have c1 := hdc.cell 1 (by omega)
          have c2 := hdc.cell 2 (by omega)
          have c3 := hdc.cell 3 (by omega)
          have f0 := hdc.free 0
          have f1 := hdc.free 1
          have f2 := hdc.free 2
          have f3 := hdc.free 3
          have x0 := bits_xor_w (hget us2 0) (refM bs k)
          have HU2 := Lib.hid hu2
          have HDC := Lib.hid hdc
          have HBC := Lib.hid hbc
          have HLS := Lib.hid hls
          clear hu2 hdc hbc hls hbb2
          go_wp2_with fail
          refine ⟨⟨k + 1, by omega, by have := HI.out; congr 1; omega, ?_⟩, by simp [intOf]; omega⟩
          have hd4 := (HDC.out.set4 HLS.out us2 hl2).set 0 (by omega) (xorw (hget us2 0) (refM bs k))
          rw [← takeV_of _ us1 us2 _ HU1.out HU2.out, ← refSt_succ a b bs k hle] at hd4
          refine ⟨hd4, refSt_len _ _ _ _, ?_⟩
          exact ((((HBC.out.setCell (p := ⟨w.heap.size + 1, 0, none⟩) (Nat.le_succ _) _).setCell (p := ⟨w.heap.size + 1, 1, none⟩) (Nat.le_succ _) _).setCell (p := ⟨w.heap.size + 1, 2, none⟩) (Nat.le_succ _) _).setCell (p := ⟨w.heap.size + 1, 3, none⟩) (Nat.le_succ _) _).setCell (p := ⟨w.heap.size + 1, 0, none⟩) (Nat.le_succ _) _
    · have hki : k = bs.length / 8 + 1 := by omega
      have hat := HA.out
      have hil : ¬ (i : Int) ≤ (bs.length : Int) := by omega
      rw [hki] at hat
      obtain ⟨S, hS⟩ : ∃ S, refSt a b bs (bs.length / 8 + 1) = S := ⟨_, rfl⟩
      have hend := refSt_end a b bs
      rw [hS] at hend hat
      have c0 := hat.hd.cell 0 (by rw [hat.len]; omega)
      have c1 := hat.hd.cell 1 (by rw [hat.len]; omega)
      have c2 := hat.hd.cell 2 (by rw [hat.len]; omega)
      have c3 := hat.hd.cell 3 (by rw [hat.len]; omega)
      have f2 := hat.hd.free 2
      have x2 : bits BinOp.xor IntKind.u64 ((hget S 2).toNat : Int) 255 = ((xorw (hget S 2) 255#64).toNat : Int) := bits_xor_w _ 255#64
      have HAT := Lib.hid hat
      have HEND := Lib.hid hend
      clear hat hend hS hki hi HA
      go_wp2_with fail
      obtain ⟨wa, hwa⟩ : ∃ wa, wr.setCell ⟨w.heap.size + 1, 2, none⟩ (Value.int IntKind.u64 ((xorw (hget S 2) 255#64).toNat : Int)) = wa := ⟨_, rfl⟩
      have hda : Hd wa (w.heap.size + 1) 85 (S.set 2 (xorw (hget S 2) 255#64)) [] := by
        rw [← hwa]; exact HAT.out.hd.set 2 (by rw [HAT.out.len]; omega) _
      have hba : Below w.heap.size w wa := by rw [← hwa]; exact HAT.out.bel.setCell (by simp) _
      rw [hwa]
      have HDA := Lib.hid hda
      have HBA := Lib.hid hba
      clear hda hba hwa c0 c1 c2 c3 f2 x2
      refine (refRound2 S _ HAT.out.len wa).mono ?_
      rintro e wb ⟨⟨us1, hu1, hl1, rfl⟩, hbb1⟩
      have HU1 := Lib.hid hu1
      have HB1 := Lib.hid hbb1
      clear hu1 hbb1
      go_wp2_with fail
      refine (refRoundE us1 hl1 wb).mono ?_
      rintro e wc ⟨⟨us2, hu2, hl2, rfl⟩, hbb2⟩
      have HU2 := Lib.hid hu2
      have HB2 := Lib.hid hbb2
      clear hu2 hbb2
      go_wp2_with fail
      refine (refRoundE us2 hl2 wc).mono ?_
      rintro e wd ⟨⟨us3, hu3, hl3, rfl⟩, hbb3⟩
      have HU3 := Lib.hid hu3
      have HB3 := Lib.hid hbb3
      clear hu3 hbb3
      go_wp2_with fail
      refine (refRoundE us3 hl3 wd).mono ?_
      rintro e we ⟨⟨us4, hu4, hl4, rfl⟩, hbb4⟩
      have hab : Below wa.heap.size wa we := ((HB1.out.trans (HB2.out.mono HB1.out.size)).trans (HB3.out.mono (Nat.le_trans HB1.out.size HB2.out.size))).trans (hbb4.mono (Nat.le_trans HB1.out.size (Nat.le_trans HB2.out.size HB3.out.size)))
      have hdc := HDA.out.kept (hab.block _ HDA.out.lt)
      have hbc : Below w.heap.size w we := HBA.out.trans (hab.mono HBA.out.size)
      have hls : (S.set 2 (xorw (hget S 2) 255#64)).length = 4 := by rw [List.length_set]; exact HAT.out.len
      have c0 := hdc.cell 0 (by omega)
      have c1 := hdc.cell 1 (by omega)
      have c2 := hdc.cell 2 (by omega)
      have c3 := hdc.cell 3 (by omega)
      have f0 := hdc.free 0
      have f1 := hdc.free 1
      have f2 := hdc.free 2
      have f3 := hdc.free 3
      have x0 := bits_xor_w (hget us4 0) (hget us4 1)
      have x1 := bits_xor_w (xorw (hget us4 0) (hget us4 1)) (hget us4 2)
      have x2 := bits_xor_w (xorw (xorw (hget us4 0) (hget us4 1)) (hget us4 2)) (hget us4 3)
      have hfin := (outV_of us4).symm.trans ((congrArg outV (finV_of S us1 us2 us3 us4 HU1.out HU2.out HU3.out hu4).symm).trans HEND.out)
      have HF := Lib.hid hfin
      have HBC := Lib.hid hbc
      clear hu4 hdc hbc hls hbb4 hab hfin
      go_wp2_with fail
      go_ret
      refine ⟨by rw [HF.out]; rfl, ?_⟩
      exact (((HBC.out.setCell (p := ⟨w.heap.size + 1, 0, none⟩) (Nat.le_succ _) _).setCell (p := ⟨w.heap.size + 1, 1, none⟩) (Nat.le_succ _) _).setCell (p := ⟨w.heap.size + 1, 2, none⟩) (Nat.le_succ _) _).setCell (p := ⟨w.heap.size + 1, 3, none⟩) (Nat.le_succ _) _
end Go.Proofs.Ytandljkppgneoaa
