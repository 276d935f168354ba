/- The walks of the latch: New, Held, Holds, Waits, Copy; slices.Values at turns. -/
import Derived.Test.YthhdipfadnihjaaLatchK
import Derived.Test.YthhdipfadnihjaaKeep
namespace Go.Proofs.Ythhdipfadnihjaa
open Go Go.RowKit
attribute [local go_sem] Oper.semAt_some

theorem RdS.kps {B : Nat} {w w' : World} {p : Option Addr} {cap : Nat} {ys : List Turn} {T : Nat → Prop} (h : RdS B w p cap 2 tc ys) (hB : B ≤ w.heap.size) (hb : Kps T w w') (hT : ∀ b, inP p cap b → T b) : RdS B w' p cap 2 tc ys :=
  h.keep fun b hi => hb.block b (hT b hi) (Nat.lt_of_lt_of_le (h.inlt hi) hB)

set_option maxRecDepth 100000 in
set_option maxHeartbeats 1000000 in
theorem valuesT1_iter (Bs : Nat) (p : Option Addr) (cap : Nat) (ys : List Turn) (w : World) (hBs : w.cell? ⟨Bs, 0, none⟩ = some (.slice p ys.length cap)) (hrd : RdS w.heap.size w p cap 2 tc ys) :
    Iter Try.prog 131 #[.pointer (some ⟨Bs, 0, none⟩)] (ys.map fun y => #[tv y]) (fun b => b = Bs ∨ inP p cap b) w := by
  intro l J Jx W T hW hT hJ hJx hY h0
  have hlt := World.block_lt_of_cell? w _ hBs
  have hBs' : W.cell? ⟨Bs, 0, none⟩ = some (.slice p ys.length cap) := (World.cell?_of_block (w := w) (a := ⟨Bs, 0, none⟩) (hW.block Bs (.inl rfl) hlt)).trans hBs
  have hrd' : RdS w.heap.size W p cap 2 tc ys := hrd.kps (Nat.le_refl _) hW (fun b h => .inr h)
  have hlen := hrd.len
  have hY' : ∀ k (hk : k < ys.length) T' W1, (∀ b, T' b → b < W1.heap.size) → J k T' W1 → YieldAt Fence.wide 0 Try.prog l #[tv ys[k]] W1 fun e W' =>
      (e = .returned (.bool true) ∧ J (k + 1) T' W' ∧ Kps (fun b => (b = Bs ∨ inP p cap b) ∨ T' b) W1 W') ∨
      (e = .returned (.bool false) ∧ Jx (k + 1) T' W' ∧ Kps (fun b => (b = Bs ∨ inP p cap b) ∨ T' b) W1 W') := by
    intro k hk T' W1 h1 h2
    have := hY k (by simpa using hk) T' W1 h1 h2
    simpa using this
  rw [List.length_map]
  clear hY
  have HY := Lib.hid hY'
  have HJ := Lib.hid hJ
  clear hY' hJ hJx hBs hrd hlt
  refine callsIn_of_wp Try.func131 rfl trivial ?_ rfl
  simp only [Try.ntmps131, List.size_toArray, List.length_cons, List.length_nil, Nat.reduceAdd, Nat.reduceSub, Array.replicate_succ, Array.replicate_zero, List.push_toArray, List.append_toArray, List.nil_append, List.cons_append]
  gi_wp2
  gi_loopw [7] (fun i wr => ∃ (k : Nat) (T' : Nat → Prop), k ≤ ys.length ∧ i = .int .i64 k ∧ J k T' wr ∧ (∀ b, T' b → b < wr.heap.size) ∧ Kps (fun b => b = Bs ∨ inP p cap b) W wr)
    (fun i _ => ys.length - (intOf i).toNat)
  case atStart => exact ⟨0, T, Nat.zero_le _, rfl, h0, hT, Kps.refl _ _⟩
  case round =>
    obtain ⟨k, T', hk, rfl, hJs, hTs, hnx⟩ := hrel
    by_cases hlt : k < ys.length
    · have hrw : RdS w.heap.size wr p cap 2 tc ys := hrd'.kps hW.size hnx (fun b h => .inr h)
      obtain ⟨b, off, rfl, hb, hc0, hc1⟩ := hrw.rows k hlt
      have hJ2 := HJ.out _ _ _ _ hJs (Frn.alloc T' wr (.cells #[.int .i64 ys[k].1, .bool ys[k].2] 53))
      obtain ⟨fn, tmps, assign, body, hy, hR⟩ := HY.out k hlt _ _ (by
        rintro b (hb | hb)
        · exact Nat.lt_of_lt_of_le (hTs b hb) (by simp)
        · exact hb.2) hJ2
      have hnx2 := hnx.alloc (.cells #[.int .i64 ys[k].1, .bool ys[k].2] 53)
      have hTs2 : ∀ b, grow T' wr (wr.alloc (.cells #[.int .i64 ys[k].1, .bool ys[k].2] 53)) b → b < (wr.alloc (.cells #[.int .i64 ys[k].1, .bool ys[k].2] 53)).heap.size := by
        rintro b (hb | hb)
        · exact Nat.lt_of_lt_of_le (hTs b hb) (by simp)
        · exact hb.2
      unfold tv at hy
      obtain ⟨y, hyk⟩ : ∃ y, ys[k] = y := ⟨_, rfl⟩
      rw [hyk] at hc0 hc1 hy hR hnx2 hTs2
      clear HY hrw hJ2 hyk hnx hTs hJs
      obtain ⟨y1, y2⟩ := y
      simp only at hc0 hc1 hy hR hnx2 hTs2
      gi_wp2
      refine ⟨rfl, hR.mono ?_⟩
      clear hR hy
      rintro e W3 (⟨rfl, hJ3, hk3⟩ | ⟨rfl, hJx3, hk3⟩)
      · gi_wp2
        go_roundw
        case rel => exact ⟨k + 1, _, by omega, by go_num, hJ3, fun b hb => Nat.lt_of_lt_of_le (hTs2 b hb) hk3.size, hnx2.trans (hk3.mono fun b hb => .inl hb)⟩
        case measure => simp [intOf]; omega
      · gi_wp2
        refine bodyPost_ret (results_none rfl _ _ _) rfl ?_
        exact ⟨⟨_, rfl⟩, .inr ⟨k + 1, _, by omega, by omega, hJx3, fun b hb => Nat.lt_of_lt_of_le (hTs2 b hb) hk3.size⟩⟩
    · obtain rfl : k = ys.length := by omega
      clear HY
      gi_wp2
      go_end0
      exact ⟨⟨_, rfl⟩, .inl ⟨T', hJs, hTs⟩⟩

set_option maxHeartbeats 400000 in
theorem valuesT_any (p : Option Addr) (n cap : Nat) (w : World) :
    Calls Try.prog 101 #[.slice p n cap] w fun e w' => e = .returned (.func (.func 131) #[] #[.pointer (some ⟨w.heap.size, 0, none⟩)]) ∧ w.alloc (.cells #[.slice p n cap] 110) = w' := by
  go_enter Try.func101, Try.ntmps101
  go_wp2
  go_ret
  exact ⟨rfl, rfl⟩

/-- Which clients have a turn. -/
def whoC (ys : List Turn) : Array Value := #[.bool (hasT ys 0), .bool (hasT ys 1), .bool (hasT ys 2), .bool (hasT ys 3), .bool (hasT ys 4), .bool (hasT ys 5), .bool (hasT ys 6), .bool (hasT ys 7)]
theorem hasT_snoc (ys : List Turn) (t : Turn) (i : Int) : hasT (ys ++ [t]) i = (hasT ys i || decide (t.1 = i)) := by simp [hasT]
theorem whoC_snoc (ys : List Turn) (c : Int) (b : Bool) (h0 : 0 ≤ c) (h8 : c < 8) : (whoC ys).setIfInBounds c.toNat (.bool true) = whoC (ys ++ [(c, b)]) := by
  obtain ⟨n, rfl⟩ : ∃ n : Nat, c = (n : Int) := ⟨c.toNat, by omega⟩
  have h : n = 0 ∨ n = 1 ∨ n = 2 ∨ n = 3 ∨ n = 4 ∨ n = 5 ∨ n = 6 ∨ n = 7 := by omega
  rcases h with rfl | rfl | rfl | rfl | rfl | rfl | rfl | rfl <;> simp [whoC, hasT_snoc]
theorem whoC_get (ys : List Turn) (c : Int) (h0 : 0 ≤ c) (h8 : c < 8) : (whoC ys)[c.toNat]? = some (.bool (hasT ys c)) := by
  obtain ⟨n, rfl⟩ : ∃ n : Nat, c = (n : Int) := ⟨c.toNat, by omega⟩
  have h : n = 0 ∨ n = 1 ∨ n = 2 ∨ n = 3 ∨ n = 4 ∨ n = 5 ∨ n = 6 ∨ n = 7 := by omega
  rcases h with rfl | rfl | rfl | rfl | rfl | rfl | rfl | rfl <;> simp [whoC]
def WhoAt (W : World) (O : Nat) (ys : List Turn) : Prop := W.heap[O]? = some (.cells (whoC ys) 116 (0, 0))
theorem WhoAt.cell {W : World} {O : Nat} {ys : List Turn} (h : WhoAt W O ys) (i : Nat) : W.cell? ⟨O, i, none⟩ = (whoC ys)[i]? := by simp [World.cell?, show W.heap[O]? = _ from h]
theorem WhoAt.lt {W : World} {O : Nat} {ys : List Turn} (h : WhoAt W O ys) : O < W.heap.size := (Array.getElem?_eq_some_iff.1 h).1

theorem who_set1 {V : World} {O : Nat} {xs : List Turn} (i : Nat) (u : Value) (h : WhoAt V O xs) (hu : (whoC xs).setIfInBounds i u = whoC xs) :
    WhoAt (V.setCell ⟨O, i, none⟩ u) O xs ∧ (∀ b, b ≠ O → (V.setCell ⟨O, i, none⟩ u).heap[b]? = V.heap[b]?) ∧ (∀ n w, n ≤ O → Below n w V → Below n w (V.setCell ⟨O, i, none⟩ u)) := by
  refine ⟨?_, fun b hb => heap_setCell_other _ ⟨O, i, none⟩ b _ hb, fun n w hn hb => hb.setCell hn _⟩
  have := heap_setCell_same V O i _ _ u h
  rw [hu] at this
  exact this
theorem who_sets {V : World} {O : Nat} {xs : List Turn} (h : WhoAt V O xs) :
    WhoAt ((((((((V.setCell ⟨O, 0, none⟩ (.bool (hasT xs 0))).setCell ⟨O, 1, none⟩ (.bool (hasT xs 1))).setCell ⟨O, 2, none⟩ (.bool (hasT xs 2))).setCell ⟨O, 3, none⟩ (.bool (hasT xs 3))).setCell ⟨O, 4, none⟩ (.bool (hasT xs 4))).setCell ⟨O, 5, none⟩ (.bool (hasT xs 5))).setCell ⟨O, 6, none⟩ (.bool (hasT xs 6))).setCell ⟨O, 7, none⟩ (.bool (hasT xs 7))) O xs ∧ (∀ b, b ≠ O → ((((((((V.setCell ⟨O, 0, none⟩ (.bool (hasT xs 0))).setCell ⟨O, 1, none⟩ (.bool (hasT xs 1))).setCell ⟨O, 2, none⟩ (.bool (hasT xs 2))).setCell ⟨O, 3, none⟩ (.bool (hasT xs 3))).setCell ⟨O, 4, none⟩ (.bool (hasT xs 4))).setCell ⟨O, 5, none⟩ (.bool (hasT xs 5))).setCell ⟨O, 6, none⟩ (.bool (hasT xs 6))).setCell ⟨O, 7, none⟩ (.bool (hasT xs 7))).heap[b]? = V.heap[b]?) ∧ (∀ n w, n ≤ O → Below n w V → Below n w ((((((((V.setCell ⟨O, 0, none⟩ (.bool (hasT xs 0))).setCell ⟨O, 1, none⟩ (.bool (hasT xs 1))).setCell ⟨O, 2, none⟩ (.bool (hasT xs 2))).setCell ⟨O, 3, none⟩ (.bool (hasT xs 3))).setCell ⟨O, 4, none⟩ (.bool (hasT xs 4))).setCell ⟨O, 5, none⟩ (.bool (hasT xs 5))).setCell ⟨O, 6, none⟩ (.bool (hasT xs 6))).setCell ⟨O, 7, none⟩ (.bool (hasT xs 7)))) := by
  obtain ⟨a0, b0, c0⟩ := who_set1 0 (.bool (hasT xs 0)) h rfl
  obtain ⟨a1, b1, c1⟩ := who_set1 1 (.bool (hasT xs 1)) a0 rfl
  obtain ⟨a2, b2, c2⟩ := who_set1 2 (.bool (hasT xs 2)) a1 rfl
  obtain ⟨a3, b3, c3⟩ := who_set1 3 (.bool (hasT xs 3)) a2 rfl
  obtain ⟨a4, b4, c4⟩ := who_set1 4 (.bool (hasT xs 4)) a3 rfl
  obtain ⟨a5, b5, c5⟩ := who_set1 5 (.bool (hasT xs 5)) a4 rfl
  obtain ⟨a6, b6, c6⟩ := who_set1 6 (.bool (hasT xs 6)) a5 rfl
  obtain ⟨a7, b7, c7⟩ := who_set1 7 (.bool (hasT xs 7)) a6 rfl
  exact ⟨a7, fun b hb => (b7 b hb).trans ((b6 b hb).trans ((b5 b hb).trans ((b4 b hb).trans ((b3 b hb).trans ((b2 b hb).trans ((b1 b hb).trans ((b0 b hb)))))))), fun n w hn hb => c7 n w hn ( c6 n w hn ( c5 n w hn ( c4 n w hn ( c3 n w hn ( c2 n w hn ( c1 n w hn ( c0 n w hn (hb))))))))⟩

set_option maxRecDepth 100000 in
set_option maxHeartbeats 2000000 in
theorem who_any (p : Option Addr) (cap : Nat) (xs : List Turn) (w : World) (hrd : RdS w.heap.size w p cap 2 tc xs) (hok : ∀ t ∈ xs, 0 ≤ t.1 ∧ t.1 < 8) :
    Calls Try.prog 64 #[.slice p xs.length cap] w fun e w' => e = .returned (.agg (whoC xs)) ∧ Below w.heap.size w w' := by
  refine (callsIn_wide (n := 0)).1 ?_
  refine callsIn_of_wp_marks Try.func64 rfl trivial ?_ rfl
  simp only [Try.ntmps64, List.size_toArray, List.length_cons, List.length_nil, Nat.reduceAdd, Nat.reduceSub, Array.replicate_succ, Array.replicate_zero, List.push_toArray, List.append_toArray, List.nil_append, List.cons_append]
  gi_wp2
  refine wcall (valuesT_any _ _ _ _) ?_
  rintro e w' ⟨rfl, rfl⟩
  gi_wp2
  obtain ⟨W0, hW0⟩ : ∃ W0, (w.alloc (Obj.cells #[.bool false, .bool false, .bool false, .bool false, .bool false, .bool false, .bool false, .bool false] 116)).alloc (Obj.cells #[.slice p xs.length cap] 110) = W0 := ⟨_, rfl⟩
  have hA0 : At w.heap.size w W0 := by rw [← hW0]; exact ((At.start w).alloc _).alloc _
  have hB0 : WhoAt W0 w.heap.size [] := by
    rw [← hW0]
    exact (Below.heap_alloc _ _ _ (by simp)).trans (World.alloc_heap_new w _)
  have hB1 : W0.cell? ⟨w.heap.size + 1, 0, none⟩ = some (.slice p xs.length cap) := by
    have := cell_new_l (w.alloc (Obj.cells #[.bool false, .bool false, .bool false, .bool false, .bool false, .bool false, .bool false, .bool false] 116)) (.slice p xs.length cap) 110
    rw [World.size_alloc] at this
    rw [← hW0]; exact this
  have hs0 : W0.heap.size = w.heap.size + 2 := by rw [← hW0]; simp
  have hrd0 := (hrd.kept hA0.1).wide hA0.2
  have HA := Lib.hid hA0
  have HO := Lib.hid hok
  have hpl : ∀ b, inP p cap b → b < w.heap.size := fun b hb => hrd.inlt hb
  have HPL := Lib.hid hpl
  rw [hW0]
  clear hW0 hA0 hok hrd hpl
  refine rf_law (gf := 131) (lb := #[.pointer (some ⟨w.heap.size + 1, 0, none⟩)]) rfl (enters_of Try.func131 (by kernel_rfl) rfl)
    (valuesT1_iter (w.heap.size + 1) p cap xs W0 hB1 hrd0) (by intro x hx; obtain ⟨y, _, rfl⟩ := List.mem_map.1 hx; rfl) ?hFP
    (fun k T W => Keep (fun b => b = w.heap.size) W0 T W ∧ WhoAt W w.heap.size (xs.take k))
    (fun _ _ _ _ => False) ?hJ (fun _ _ _ _ _ h _ => h) ?h0 ?hround ?hdone ?hstop
  case hFP =>
    rintro b (rfl | hb)
    · omega
    · have := HPL.out b hb; omega
  case hJ =>
    rintro k T W W' ⟨h1, h2⟩ hf
    exact ⟨h1.go hf, (h1.own hf (by omega)).trans h2⟩
  case h0 => exact ⟨Keep.start _ _, hB0⟩
  case hround =>
    rintro l k hk T W ⟨hs, hbox⟩ hTl hTW hkW
    have hk' : k < xs.length := by simpa using hk
    have hyc := HO.out xs[k] (List.getElem_mem hk')
    have hts : xs.take (k + 1) = xs.take k ++ [xs[k]] := List.take_succ_eq_append_getElem hk'
    have hget : (xs.map fun y => #[tv y])[k] = #[.agg #[.int .i64 xs[k].1, .bool xs[k].2]] := by simp [tv]
    rw [hget]
    obtain ⟨y, hy⟩ : ∃ y, xs[k] = y := ⟨_, rfl⟩
    rw [hy] at hyc hts ⊢
    obtain ⟨y1, y2⟩ := y
    obtain ⟨hy0, hy8⟩ := hyc
    simp only at hy0 hy8
    have HTS := Lib.hid hts
    clear hts hy hget
    gi_wp2
    have hWa : Kps (fun b => (b = w.heap.size + 1 ∨ inP p cap b) ∨ T b) W (W.alloc (.cells #[.int .i64 y1, .bool y2] 53)) := (Kps.refl _ _).alloc _
    refine ⟨hWa, fun W2 hf hsz hk2 _ => ?_⟩
    have hs2 := (hs.alloc (.cells #[.int .i64 y1, .bool y2] 53)).goSame hf hsz
    have hW2 : ∀ b, b ≤ W.heap.size → ¬ T b → W2.heap[b]? = (W.alloc (.cells #[.int .i64 y1, .bool y2] 53)).heap[b]? := fun b hb hn => hf.block b (by simp; omega) hn
    have hszW : w.heap.size + 2 ≤ W.heap.size := by have := hkW.size; omega
    have hnT : ¬ T w.heap.size := hs.notT (by omega)
    have hbox2 : WhoAt W2 w.heap.size (xs.take k) := (hW2 _ (by omega) hnT).trans ((Below.heap_alloc _ _ _ (by omega)).trans hbox)
    have hx2 : W2.heap[W.heap.size]? = some (.cells #[.int .i64 y1, .bool y2] 53 (0, 0)) := (hW2 _ (Nat.le_refl _) (fun ht => Nat.lt_irrefl _ (hTW _ ht))).trans (World.alloc_heap_new W _)
    have hc := pair_c0 hx2
    have hob := hbox2.cell y1.toNat
    rw [whoC_get _ _ hy0 hy8] at hob
    have hfz : ∀ k, W2.frozen? ⟨w.heap.size, k, none⟩ = false := fun k => by simp [World.frozen?, show W2.heap[w.heap.size]? = _ from hbox2]
    have HS2 := Lib.hid hs2
    have HB2 := Lib.hid hbox2
    have HNT := Lib.hid hnT
    clear hf hkW hk2 hs hbox hs2 hbox2 hB0 hB1 hW2 hx2 hWa
    gi_wp2
    refine ⟨⟨HS2.out.set ⟨w.heap.size, y1.toNat, none⟩ (.inl rfl) _, ?_⟩, ?_⟩
    · unfold WhoAt
      rw [HTS.out, ← whoC_snoc (xs.take k) y1 y2 hy0 hy8]
      exact heap_setCell_same W2 w.heap.size y1.toNat _ _ _ HB2.out
    · refine kps_set ⟨w.heap.size, y1.toNat, none⟩ ?_ HNT.out _
      rintro (h | h)
      · simp only at h; omega
      · have := HPL.out _ h; simp only at this; omega
  case hdone =>
    rintro D T W ⟨hs, hbox⟩ hTD hTW hkW hD hK
    rw [List.length_map, List.take_length] at hbox
    have c0 : W.cell? ⟨w.heap.size, 0, none⟩ = some (.bool (hasT xs 0)) := hbox.cell 0
    have c1 : W.cell? ⟨w.heap.size, 1, none⟩ = some (.bool (hasT xs 1)) := hbox.cell 1
    have c2 : W.cell? ⟨w.heap.size, 2, none⟩ = some (.bool (hasT xs 2)) := hbox.cell 2
    have c3 : W.cell? ⟨w.heap.size, 3, none⟩ = some (.bool (hasT xs 3)) := hbox.cell 3
    have c4 : W.cell? ⟨w.heap.size, 4, none⟩ = some (.bool (hasT xs 4)) := hbox.cell 4
    have c5 : W.cell? ⟨w.heap.size, 5, none⟩ = some (.bool (hasT xs 5)) := hbox.cell 5
    have c6 : W.cell? ⟨w.heap.size, 6, none⟩ = some (.bool (hasT xs 6)) := hbox.cell 6
    have c7 : W.cell? ⟨w.heap.size, 7, none⟩ = some (.bool (hasT xs 7)) := hbox.cell 7
    have hfz : ∀ k, W.frozen? ⟨w.heap.size, k, none⟩ = false := fun k => by simp [World.frozen?, show W.heap[w.heap.size]? = _ from hbox]
    clear hkW hB0 hB1
    have HS := Lib.hid hs
    have HB := Lib.hid hbox
    clear hs hbox
    gi_wp2
    clear c0 c1 c2 c3 c4 c5 c6 c7
    obtain ⟨s1, s2, s3⟩ := who_sets HB.out
    have hD' : w.heap.size + 2 ≤ D := by omega
    have hne : D ≠ w.heap.size := by omega
    refine ⟨by simp, .inl ⟨_, _, rfl, run_takeDeferred ((s2 D hne).trans hK), ?_⟩⟩
    refine ⟨.agg (whoC xs), results_cell1 rfl _ _ rfl (v := .agg (whoC xs)) ?_, rfl, ?_⟩
    · have d : ∀ i, (_ : World).cell? ⟨w.heap.size, i, none⟩ = (whoC xs)[i]? := fun i => (cell_putObj (o := .deferred none) hne i).trans (s1.cell i)
      have d0 := d 0
      have d1 := d 1
      have d2 := d 2
      have d3 := d 3
      have d4 := d 4
      have d5 := d 5
      have d6 := d 6
      have d7 := d 7
      simp only [whoC, List.getElem?_toArray, List.getElem?_cons_zero, List.getElem?_cons_succ] at d0 d1 d2 d3 d4 d5 d6 d7
      clear d s1 s2 s3
      simp [go_sem, d0, d1, d2, d3, d4, d5, d6, d7, whoC]
    · exact below_putObj (s3 _ _ (Nat.le_refl _) (HS.out.at HA.out (by rintro b rfl; exact Nat.le_refl _)).1) (by omega) _
  case hstop =>
    intro D c k T W _ _ h
    exact h.elim
end Go.Proofs.Ythhdipfadnihjaa
