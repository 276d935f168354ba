/- The walk of what a bitmap's Runs goes over. -/
import Derived.Test.YtljegehfdmgcbaaDoorBmB
import Derived.Test.YtljegehfdmgcbaaDoorKeep

namespace Go.Proofs.YtljegehfdmgcbaaDoor
open Go Go.RowKit
attribute [local go_sem] Oper.semAt_some

theorem stR_pre (f : Nat → Bool) : ∀ (n k : Nat), k ≤ n → ∃ t, (stR f n).1 = (stR f k).1 ++ t
  | 0, k, h => ⟨[], by rw [show k = 0 by omega]; simp⟩
  | n + 1, k, h => by
    by_cases hk : k = n + 1
    · subst hk; exact ⟨[], by simp⟩
    · obtain ⟨t, ht⟩ := stR_pre f n k (by omega)
      rw [stR_succ]
      cases f n <;> rcases hs : stR f n with ⟨ds, _ | ⟨a, m⟩⟩ <;> rw [hs] at ht <;> simp only at ht ⊢
      · exact ⟨t, ht⟩
      · exact ⟨t ++ [(a, m)], by rw [ht, List.append_assoc]⟩
      · exact ⟨t, ht⟩
      · exact ⟨t, ht⟩
theorem runs_get {f : Nat → Bool} {k n : Nat} {ds : List Run2} {r : Run2} (h : (stR f k).1 = ds ++ [r]) (hk : k ≤ n) : ∃ hl : ds.length < (runsF f n).length, (runsF f n)[ds.length] = r := by
  obtain ⟨t, ht⟩ := stR_pre f n k hk
  have e : (runsF f n)[ds.length]? = some r := by unfold runsF; rw [ht, h]; simp
  exact List.getElem?_eq_some_iff.1 e
theorem runs_fin {f : Nat → Bool} {n : Nat} {ds : List Run2} {r : Run2} (h : stR f n = (ds, some r)) : (∃ hl : ds.length < (runsF f n).length, (runsF f n)[ds.length] = r) ∧ (runsF f n).length = ds.length + 1 := by
  have e : runsF f n = ds ++ [r] := by unfold runsF; rw [h]; simp
  exact ⟨List.getElem?_eq_some_iff.1 (by rw [e]; simp), by rw [e]; simp⟩
theorem runs_fin0 {f : Nat → Bool} {n : Nat} {ds : List Run2} (h : stR f n = (ds, none)) : (runsF f n).length = ds.length := by unfold runsF; rw [h]; simp

def rv2 (r : Run2) : Value := .agg #[.int .i64 r.1, .int .i64 r.2]
def encR (rs : List Run2) : List (Array Value) := rs.map fun r => #[rv2 r]
theorem encR_len (rs : List Run2) : (encR rs).length = rs.length := by simp [encR]
theorem encR_get (rs : List Run2) (k : Nat) (h : k < (encR rs).length) : (encR rs)[k] = #[rv2 (rs[k]'(by simpa [encR] using h))] := by simp [encR]
def cur0 (c : Option Run2) : Int := match c with | none => 0 | some r => (r.1 : Int)
def cur1 (c : Option Run2) : Int := match c with | none => 0 | some r => (r.2 : Int)
/-- The run that goes on, in its cells. -/
def RAt (W : World) (R : Nat) (c : Option Run2) : Prop := W.heap[R]? = some (.cells #[.int .i64 (cur0 c), .int .i64 (cur1 c)] 39 (0, 0))
theorem RAt.cells {W : World} {R : Nat} {c : Option Run2} (h : RAt W R c) : W.cell? ⟨R, 0, none⟩ = some (.int .i64 (cur0 c)) ∧ W.cell? ⟨R, 1, none⟩ = some (.int .i64 (cur1 c)) ∧ (∀ j, W.frozen? ⟨R, j, none⟩ = false) := by
  refine ⟨?_, ?_, fun j => ?_⟩ <;> simp [World.cell?, World.frozen?, show W.heap[R]? = _ from h]
theorem RAt.set {W : World} {R : Nat} {c c' : Option Run2} (h : RAt W R c) : RAt ((W.setCell ⟨R, 0, none⟩ (.int .i64 (cur0 c'))).setCell ⟨R, 1, none⟩ (.int .i64 (cur1 c'))) R c' := by
  have h1 := heap_setCell_same W R 0 _ _ (.int .i64 (cur0 c')) h
  exact heap_setCell_same _ R 1 _ _ (.int .i64 (cur1 c')) h1
theorem RAt.set1 {W : World} {R a m : Nat} (h : RAt W R (some (a, m))) : RAt (W.setCell ⟨R, 1, none⟩ (.int .i64 ((m : Int) + 1))) R (some (a, m + 1)) := by
  have h1 := heap_setCell_same W R 1 _ _ (.int .i64 ((m : Int) + 1)) h
  exact h1
theorem run_eq0 (x y : Int) (W : World) : (binOp .eql 39 (.agg #[.int .i64 x, .int .i64 y]) (.agg #[.int .i64 0, .int .i64 0])).run Tryd.prog W = .ok (.bool (decide (x = 0 ∧ y = 0))) W := by
  simp [go_sem]
  by_cases h : x = 0 <;> by_cases h2 : y = 0 <;> simp [h, h2]
theorem run_ne0 (x y : Int) (W : World) : (binOp .neq 39 (.agg #[.int .i64 x, .int .i64 y]) (.agg #[.int .i64 0, .int .i64 0])).run Tryd.prog W = .ok (.bool (!decide (x = 0 ∧ y = 0))) W := by
  simp [go_sem]
  by_cases h : x = 0 <;> by_cases h2 : y = 0 <;> simp [h, h2]

set_option maxHeartbeats 1000000 in
theorem runs05_any (p : Option Addr) (w : World) : Calls Tryd.prog 13 #[.pointer p] w fun e w' => e = .returned (.func (.func 30) #[] #[.pointer (some ⟨w.heap.size, 0, none⟩)]) ∧ w.alloc (.cells #[.pointer p] 24) = w' := by
  go_enter Tryd.func13, Tryd.ntmps13
  go_wp2
  go_ret
  exact ⟨rfl, rfl⟩

set_option maxRecDepth 100000 in
set_option maxHeartbeats 4000000 in
theorem runs1_iter {O g c : Nat} {ws : List (BitVec 64)} {n : Nat} (Bm : Nat) (w : World) (hm : Box w Bm 24 (.pointer (some ⟨O, 0, none⟩))) (h : BmAt w O g c ws n) :
    Iter Tryd.prog 30 #[.pointer (some ⟨Bm, 0, none⟩)] (encR (runsF (bitW ws) n)) (fun b => b = Bm ∨ b = O ∨ b = g) w := by
  intro L J Jx W T hW hT hJ hJx hY h0
  have hmW : Box W Bm 24 (.pointer (some ⟨O, 0, none⟩)) := hm.kept (hW.block _ (.inl rfl) hm.lt)
  have hbW : BmAt W O g c ws n := h.keep (hW.block _ (.inr (.inl rfl)) h.ltO) (hW.block _ (.inr (.inr rfl)) h.ltg)
  have hn2 := h.n2
  rw [encR_len]
  have HY := Lib.hid hY
  have HJ := Lib.hid hJ
  have HJX := Lib.hid hJx
  have H0 := Lib.hid (And.intro hmW hbW)
  obtain ⟨W1, hW1⟩ : ∃ W1, W.alloc (.cells #[.int .i64 0, .int .i64 0] 39) = W1 := ⟨_, rfl⟩
  have hb1 : Below W.heap.size W W1 := by rw [← hW1]; exact (Below.refl _ _).alloc (Nat.le_refl _) _
  have hR1 : RAt W1 W.heap.size none := by rw [← hW1]; exact World.alloc_heap_new _ _
  have hz1 : W1.heap.size = W.heap.size + 1 := by rw [← hW1]; simp
  have hm1 := hmW.below hb1 hmW.lt
  have hbm1 := hbW.below hb1
  have q0 := hm1.cell
  have HLEN := Lib.hid (len_bm W1 hbm1)
  have HS : Hid (J 0 (grow T W W1) W1 ∧ (∀ b, grow T W W1 b → b < W1.heap.size) ∧ Kps (fun b => b = Bm ∨ b = O ∨ b = g) W W1 ∧ RAt W1 W.heap.size none ∧ grow T W W1 W.heap.size) := Lib.hid ⟨HJ.out 0 T W W1 h0 (Frn.of_below hb1), by
      rintro b (hb | hb)
      · exact Nat.lt_of_lt_of_le (hT b hb) hb1.size
      · exact hb.2, Kps.of_below hb1 (fun b hb => hb.elim (fun e => e ▸ hmW.lt) (fun hb => hb.elim (fun e => e ▸ hbW.ltO) (fun e => e ▸ hbW.ltg))), hR1, .inr ⟨Nat.le_refl _, by omega⟩⟩
  have hlBm : Bm < W.heap.size := hmW.lt
  have hlO : O < W.heap.size := hbW.ltO
  have hlg : g < W.heap.size := hbW.ltg
  obtain ⟨R, hR⟩ : ∃ R, W.heap.size = R := ⟨_, rfl⟩
  have HW1 := Lib.hid hW1
  have HRR := Lib.hid hR
  rw [hR] at HS
  clear hY hJ hJx hW hT hm h hmW hbW hb1 hR1 hz1 hm1 hbm1 h0
  refine callsIn_of_wp Tryd.func30 rfl trivial ?_ rfl
  simp only [Tryd.ntmps30, List.size_toArray, List.length_cons, List.length_nil, Nat.reduceAdd, Nat.reduceSub, Array.replicate_succ, Array.replicate_zero, List.push_toArray, List.append_toArray, List.nil_append, List.cons_append]
  gi_wp2
  apply wpIn_scope_wide
  gi_wp2
  apply wpIn_label
  gi_wp2
  refine wcall HLEN.out ?_
  rintro e w' ⟨rfl, rfl⟩
  clear q0
  have HS1 := Lib.hid HW1.out
  gi_wp2
  gi_loopw [7] (fun i wr => ∃ (k : Nat) (T' : Nat → Prop), k ≤ n ∧ i = .int .i64 k ∧ J (stR (bitW ws) k).1.length T' wr ∧ (∀ b, T' b → b < wr.heap.size) ∧ Kps (fun b => b = Bm ∨ b = O ∨ b = g) W wr ∧ RAt wr R (stR (bitW ws) k).2 ∧ T' R)
    (fun i _ => n - (intOf i).toNat)
  case atStart => exact ⟨0, _, by omega, rfl, HS.out⟩
  case round =>
    clear HS
    obtain ⟨k, T', hk, rfl, hJs, hTs, hnx, hRs, hTR⟩ := hrel
    have hmr := H0.out.1.kept (hnx.block _ (.inl rfl) hlBm)
    have hbr := H0.out.2.keep (hnx.block _ (.inr (.inl rfl)) hlO) (hnx.block _ (.inr (.inr rfl)) hlg)
    have q0 := hmr.cell
    have q1 := hbr.c0
    obtain ⟨r0, r1, rf⟩ := hRs.cells
    have HT := Lib.hid (And.intro hJs (And.intro hTs (And.intro hnx (And.intro hRs hTR))))
    rcases hst : stR (bitW ws) k with ⟨ds, cur⟩
    rw [hst] at HT r0 r1
    simp only at HT r0 r1
    have hsc := (stR_cur (bitW ws) k).1
    rw [hst] at hsc
    simp only at hsc
    have HST := Lib.hid hst
    have hFR : ¬ (R = Bm ∨ R = O ∨ R = g) := by rintro (h | h | h) <;> omega
    have HSETS := Lib.hid (show ∀ (V : World) (T'' : Nat → Prop) (x : Nat) (c0 c' : Option Run2), J x T'' V ∧ (∀ b, T'' b → b < V.heap.size) ∧ Kps (fun b => b = Bm ∨ b = O ∨ b = g) W V ∧ RAt V R c0 ∧ T'' R →
        J x T'' ((V.setCell ⟨R, 0, none⟩ (.int .i64 (cur0 c'))).setCell ⟨R, 1, none⟩ (.int .i64 (cur1 c'))) ∧ (∀ b, T'' b → b < ((V.setCell ⟨R, 0, none⟩ (.int .i64 (cur0 c'))).setCell ⟨R, 1, none⟩ (.int .i64 (cur1 c'))).heap.size) ∧ Kps (fun b => b = Bm ∨ b = O ∨ b = g) W ((V.setCell ⟨R, 0, none⟩ (.int .i64 (cur0 c'))).setCell ⟨R, 1, none⟩ (.int .i64 (cur1 c'))) ∧ RAt ((V.setCell ⟨R, 0, none⟩ (.int .i64 (cur0 c'))).setCell ⟨R, 1, none⟩ (.int .i64 (cur1 c'))) R c' ∧ T'' R from
      fun V T'' x c0 c' ⟨j1, j2, j3, j4, j5⟩ => ⟨HJ.out.same (by simp [World.setCell]) j1 (Frn.setCell (T := T'') (Frn.setCell (T := T'') (Frn.refl _ _) ⟨R, 0, none⟩ (.inl j5) _) ⟨R, 1, none⟩ (.inl j5) _), by simpa [World.setCell] using j2,
        (j3.setCell ⟨R, 0, none⟩ hFR _).setCell ⟨R, 1, none⟩ hFR _, j4.set, j5⟩)
    have STEP := Lib.hid (show ∀ (c' : Option Run2) (ds' : List Run2), J ds'.length T' wr → stR (bitW ws) (k + 1) = (ds', c') → J (stR (bitW ws) (k + 1)).1.length T' ((wr.setCell ⟨R, 0, none⟩ (.int .i64 (cur0 c'))).setCell ⟨R, 1, none⟩ (.int .i64 (cur1 c'))) ∧ (∀ b, T' b → b < ((wr.setCell ⟨R, 0, none⟩ (.int .i64 (cur0 c'))).setCell ⟨R, 1, none⟩ (.int .i64 (cur1 c'))).heap.size) ∧ Kps (fun b => b = Bm ∨ b = O ∨ b = g) W ((wr.setCell ⟨R, 0, none⟩ (.int .i64 (cur0 c'))).setCell ⟨R, 1, none⟩ (.int .i64 (cur1 c'))) ∧ RAt ((wr.setCell ⟨R, 0, none⟩ (.int .i64 (cur0 c'))).setCell ⟨R, 1, none⟩ (.int .i64 (cur1 c'))) R (stR (bitW ws) (k + 1)).2 ∧ T' R from
      fun c' ds' hj he => by rw [he]; exact HSETS.out wr T' _ _ c' ⟨hj, HT.out.2.1, HT.out.2.2.1, HT.out.2.2.2.1, HT.out.2.2.2.2⟩)
    have STEP1 := Lib.hid (show ∀ (a m : Nat) (ds' : List Run2), cur = some (a, m) → J ds'.length T' wr → stR (bitW ws) (k + 1) = (ds', some (a, m + 1)) → J (stR (bitW ws) (k + 1)).1.length T' (wr.setCell ⟨R, 1, none⟩ (.int .i64 ((m : Int) + 1))) ∧ (∀ b, T' b → b < (wr.setCell ⟨R, 1, none⟩ (.int .i64 ((m : Int) + 1))).heap.size) ∧ Kps (fun b => b = Bm ∨ b = O ∨ b = g) W (wr.setCell ⟨R, 1, none⟩ (.int .i64 ((m : Int) + 1))) ∧ RAt (wr.setCell ⟨R, 1, none⟩ (.int .i64 ((m : Int) + 1))) R (stR (bitW ws) (k + 1)).2 ∧ T' R from
      fun a m ds' hc hj he => by
        rw [he]
        have h4 := HT.out.2.2.2.1
        rw [hc] at h4
        exact ⟨HJ.out.same (by simp [World.setCell]) hj (Frn.setCell (T := T') (Frn.refl _ _) ⟨R, 1, none⟩ (.inl HT.out.2.2.2.2) _), by simpa [World.setCell] using HT.out.2.1, HT.out.2.2.1.setCell ⟨R, 1, none⟩ hFR _, h4.set1, HT.out.2.2.2.2⟩)
    have STEP2 := Lib.hid (show ∀ (V : World) (T'' : Nat → Prop) {x : Nat} {c0 : Option Run2}, J x T'' V ∧ (∀ b, T'' b → b < V.heap.size) ∧ Kps (fun b => b = Bm ∨ b = O ∨ b = g) W V ∧ RAt V R c0 ∧ T'' R → _ from fun V T'' {x} {c0} h => HSETS.out V T'' x c0 none h)
    by_cases hlt : k < n
    · have HHAS := Lib.hid (has_any (some ⟨g, 0, none⟩) c ws k wr hbr.rdl (by have := hbr.len; omega) (by have := hbr.len; omega))
      clear hmr hbr hJs hTs hnx hRs hTR hst
      cases hbit : bitW ws k with
      | true =>
        rw [hbit] at HHAS
        rcases cur with _ | ⟨a, m⟩
        · have HNX := Lib.hid (show stR (bitW ws) (k + 1) = (ds, some (k, 1)) by rw [stR_succ, hbit, HST.out])
          clear hsc hbit
          simp only [cur0, cur1] at r0 r1
          gi_wp2
          refine wcall HHAS.out ?_
          rintro e w' ⟨rfl, rfl⟩
          gi_wp2
          go_roundw
          case rel => exact ⟨k + 1, T', by omega, by go_num, STEP.out (some (k, 1)) ds HT.out.1 HNX.out⟩
          case measure => simp [intOf]; omega
        · have HNX := Lib.hid (show stR (bitW ws) (k + 1) = (ds, some (a, m + 1)) by rw [stR_succ, hbit, HST.out])
          obtain ⟨s1, s2, _⟩ := hsc a m rfl
          have heq : ∀ W, (binOp .eql 39 (.agg #[.int .i64 (a : Int), .int .i64 (m : Int)]) (.agg #[.int .i64 0, .int .i64 0])).run Tryd.prog W = .ok (.bool false) W := fun W => by rw [run_eq0, decide_eq_false (by omega)]
          have hm1 : (m : Int) ≤ 65536 := by omega
          clear hsc hbit
          simp only [cur0, cur1] at r0 r1
          gi_wp2
          refine wcall HHAS.out ?_
          rintro e w' ⟨rfl, rfl⟩
          gi_wp2
          refine wcall HHAS.out ?_
          rintro e w' ⟨rfl, rfl⟩
          gi_wp2
          go_roundw
          case rel => exact ⟨k + 1, T', by omega, by go_num, STEP1.out a m ds rfl HT.out.1 HNX.out⟩
          case measure => simp [intOf]; omega
      | false =>
        rw [hbit] at HHAS
        rcases cur with _ | ⟨a, m⟩
        · have HNX := Lib.hid (show stR (bitW ws) (k + 1) = (ds, none) by rw [stR_succ, hbit, HST.out])
          clear hsc hbit
          simp only [cur0, cur1] at r0 r1
          gi_wp2
          refine wcall HHAS.out ?_
          rintro e w' ⟨rfl, rfl⟩
          gi_wp2
          refine wcall HHAS.out ?_
          rintro e w' ⟨rfl, rfl⟩
          gi_wp2
          go_roundw
          case rel => exact ⟨k + 1, T', by omega, by go_num, by rw [HNX.out]; exact HT.out⟩
          case measure => simp [intOf]; omega
        · have HNX := Lib.hid (show stR (bitW ws) (k + 1) = (ds ++ [(a, m)], none) by rw [stR_succ, hbit, HST.out])
          obtain ⟨s1, s2, _⟩ := hsc a m rfl
          have hne : ∀ W, (binOp .neq 39 (.agg #[.int .i64 (a : Int), .int .i64 (m : Int)]) (.agg #[.int .i64 0, .int .i64 0])).run Tryd.prog W = .ok (.bool true) W := fun W => by rw [run_ne0, decide_eq_false (by omega)]; rfl
          obtain ⟨hil, hig⟩ := runs_get (r := (a, m)) (ds := ds) (f := bitW ws) (k := k + 1) (n := n) (by rw [HNX.out]) (by omega)
          have hyy := HY.out ds.length (by rw [encR_len]; exact hil) T' wr HT.out.2.1 HT.out.1
          rw [encR_get, hig] at hyy
          obtain ⟨fn, tmps, assign, body, hy, hR2⟩ := hyy
          unfold rv2 at hy
          simp only at hy
          have HRR2 := Lib.hid hR2
          have HIL := Lib.hid hil
          clear hsc hbit hR2 hil hig HY
          simp only [cur0, cur1] at r0 r1
          gi_wp2
          refine wcall HHAS.out ?_
          rintro e w' ⟨rfl, rfl⟩
          gi_wp2
          refine wcall HHAS.out ?_
          rintro e w' ⟨rfl, rfl⟩
          gi_wp2
          refine ⟨rfl, HRR2.out.mono ?_⟩
          clear hy HRR2 r0 r1 rf q0 q1 hne
          rintro e w8 (⟨rfl, hJ8, hk8⟩ | ⟨rfl, hJx8, hk8⟩)
          · have hR8 : RAt w8 R (some (a, m)) := (hk8.block _ (.inr HT.out.2.2.2.2) (HT.out.2.1 _ HT.out.2.2.2.2)).trans HT.out.2.2.2.1
            obtain ⟨r0, r1, rf⟩ := hR8.cells
            have H8 := Lib.hid (show J (stR (bitW ws) (k + 1)).1.length T' _ ∧ _ from STEP2.out w8 T' ⟨by rw [HNX.out]; simpa using hJ8, fun b hb => Nat.lt_of_lt_of_le (HT.out.2.1 b hb) hk8.size, HT.out.2.2.1.trans (hk8.mono fun b hb => .inl hb), hR8, HT.out.2.2.2.2⟩)
            clear hR8 hJ8 hk8
            gi_wp2
            go_roundw
            case rel => exact ⟨k + 1, T', by omega, by go_num, by rw [show (stR (bitW ws) (k + 1)).2 = none by rw [HNX.out]]; exact H8.out⟩
            case measure => simp [intOf]; omega
          · have hR8 : RAt w8 R (some (a, m)) := (hk8.block _ (.inr HT.out.2.2.2.2) (HT.out.2.1 _ HT.out.2.2.2.2)).trans HT.out.2.2.2.1
            obtain ⟨r0, r1, rf⟩ := hR8.cells
            have hb8 : ∀ b, T' b → b < w8.heap.size := fun b hb => Nat.lt_of_lt_of_le (HT.out.2.1 b hb) hk8.size
            have H8 := Lib.hid (show Jx (ds.length + 1) T' ((w8.setCell ⟨R, 0, none⟩ (.int .i64 0)).setCell ⟨R, 1, none⟩ (.int .i64 0)) ∧ (∀ b, T' b → b < ((w8.setCell ⟨R, 0, none⟩ (.int .i64 0)).setCell ⟨R, 1, none⟩ (.int .i64 0)).heap.size) from
              ⟨HJX.out.same (by simp [World.setCell]) hJx8 (Frn.setCell (T := T') (Frn.setCell (T := T') (Frn.refl _ _) ⟨R, 0, none⟩ (.inl HT.out.2.2.2.2) _) ⟨R, 1, none⟩ (.inl HT.out.2.2.2.2) _), by simpa [World.setCell] using hb8⟩)
            have hR9 : RAt ((w8.setCell ⟨R, 0, none⟩ (.int .i64 0)).setCell ⟨R, 1, none⟩ (.int .i64 0)) R none := hR8.set (c' := none)
            obtain ⟨v0, v1, _⟩ := hR9.cells
            simp only [cur0, cur1] at v0 v1
            clear hR8 hJx8 hk8 hb8 hR9
            gi_wp2
            rw [Exit.noGoto_normal]
            gi_wp2
            go_end0
            exact ⟨⟨_, rfl⟩, .inr ⟨ds.length + 1, _, HIL.out, by omega, H8.out.1, H8.out.2⟩⟩
    · obtain rfl : k = n := by omega
      clear hmr hbr hJs hTs hnx hRs hTR hst q0 q1
      rcases cur with _ | ⟨a, m⟩
      · have HL := Lib.hid (runs_fin0 HST.out)
        clear hsc HY
        simp only [cur0, cur1] at r0 r1
        gi_wp2
        rw [Exit.noGoto_normal]
        gi_wp2
        go_end0
        exact ⟨⟨_, rfl⟩, .inl ⟨T', by rw [HL.out]; exact HT.out.1, HT.out.2.1⟩⟩
      · obtain ⟨s1, s2, _⟩ := hsc a m rfl
        have hne : ∀ W, (binOp .neq 39 (.agg #[.int .i64 (a : Int), .int .i64 (m : Int)]) (.agg #[.int .i64 0, .int .i64 0])).run Tryd.prog W = .ok (.bool true) W := fun W => by rw [run_ne0, decide_eq_false (by omega)]; rfl
        obtain ⟨⟨hil, hig⟩, hle⟩ := runs_fin HST.out
        have hyy := HY.out ds.length (by rw [encR_len]; exact hil) T' wr HT.out.2.1 HT.out.1
        rw [encR_get, hig] at hyy
        obtain ⟨fn, tmps, assign, body, hy, hR2⟩ := hyy
        unfold rv2 at hy
        simp only at hy
        have HRR2 := Lib.hid hR2
        have HLE := Lib.hid hle
        clear hsc hR2 hil hig HY hle
        simp only [cur0, cur1] at r0 r1
        gi_wp2
        refine ⟨rfl, HRR2.out.mono ?_⟩
        clear hy HRR2 r0 r1 rf hne
        rintro e w8 (⟨rfl, hJ8, hk8⟩ | ⟨rfl, hJx8, hk8⟩)
        · have H8 := Lib.hid (show J (ds.length + 1) T' w8 ∧ (∀ b, T' b → b < w8.heap.size) from ⟨hJ8, fun b hb => Nat.lt_of_lt_of_le (HT.out.2.1 b hb) hk8.size⟩)
          clear hJ8 hk8
          gi_wp2
          rw [Exit.noGoto_normal]
          gi_wp2
          go_end0
          exact ⟨⟨_, rfl⟩, .inl ⟨T', by rw [HLE.out]; exact H8.out.1, H8.out.2⟩⟩
        · have H8 := Lib.hid (show Jx (ds.length + 1) T' w8 ∧ (∀ b, T' b → b < w8.heap.size) from ⟨hJx8, fun b hb => Nat.lt_of_lt_of_le (HT.out.2.1 b hb) hk8.size⟩)
          clear hJx8 hk8
          gi_wp2
          rw [Exit.noGoto_normal]
          gi_wp2
          go_end0
          exact ⟨⟨_, rfl⟩, .inr ⟨ds.length + 1, T', by rw [HLE.out]; omega, by omega, H8.out.1, H8.out.2⟩⟩
end Go.Proofs.YtljegehfdmgcbaaDoor
