/- The walks of the latch: New, Held, Holds, Waits, Copy. -/
import Derived.Test.YthhdipfadnihjaaLatchL
namespace Go.Proofs.Ythhdipfadnihjaa
open Go Go.RowKit

set_option maxHeartbeats 400000 in
theorem lnewO_any (w : World) :
    Calls Try.prog 29 #[] w fun e w' => e = .returned (.pointer (some ⟨w.heap.size, 0, none⟩)) ∧ LOwn (grow (fun _ => False) w w') w' w.heap.size [] [] ∧ Below w.heap.size w w' := by
  go_enter Try.func29, Try.ntmps29
  go_wp2
  go_ret
  refine ⟨rfl, ⟨none, 0, none, 0, ⟨World.alloc_heap_new w _, OwnT.nil _ _, OwnT.nil _ _, ?_, ?_, ?_⟩, ?_⟩, (Below.refl _ _).alloc (Nat.le_refl _) _⟩
  · rintro ⟨a, ha, _⟩; cases ha
  · rintro ⟨a, ha, _⟩; cases ha
  · rintro b ⟨a, ha, _⟩; cases ha
  · rintro b (rfl | ⟨a, ha, _⟩ | ⟨a, ha, _⟩)
    · exact .inr ⟨Nat.le_refl _, by simp⟩
    · cases ha
    · cases ha
set_option maxHeartbeats 1000000 in
theorem held_any (T : Nat → Prop) (L : Nat) (xs ys : List Turn) (w : World) (h : LOwn T w L xs ys) (hn : xs.length ≤ 1000000) :
    Calls Try.prog 23 #[.pointer (some ⟨L, 0, none⟩)] w (RetT xs w) := by
  obtain ⟨p, c, q, d, hst, _⟩ := h
  have m0 := hst.c0
  have m2 := hst.c2
  have HC := Lib.hid (cloneT_any p c xs w hst.ox.rds hn)
  clear hst
  go_enter Try.func23, Try.ntmps23
  go_wp2_with fail
  refine (lnone_any L w m2).mono ?_
  rintro e w1 ⟨rfl, rfl⟩
  go_wp2_with fail
  refine HC.out.mono ?_
  rintro e w2 ⟨p2, c2, rfl, h1, h2, h3⟩
  have H := Lib.hid (And.intro h1 (And.intro h2 h3))
  clear h1 h2 h3
  go_wp2_with fail
  go_ret
  exact ⟨p2, c2, rfl, H.out.1, H.out.2.1, H.out.2.2⟩
set_option maxRecDepth 100000 in
theorem who_index (xs : List Turn) (k : Int) (h0 : 0 ≤ k) (h8 : k < 8) (W : World) : (Instr.index 116 (.agg (whoC xs)) (.int .i64 k)).run Try.prog W = .ok (.bool (hasT xs k)) W := by
  obtain ⟨n, rfl⟩ : ∃ n : Nat, k = (n : Int) := ⟨k.toNat, by omega⟩
  have h : n = 0 ∨ n = 1 ∨ n = 2 ∨ n = 3 ∨ n = 4 ∨ n = 5 ∨ n = 6 ∨ n = 7 := by omega
  rcases h with rfl | rfl | rfl | rfl | rfl | rfl | rfl | rfl <;> (unfold Instr.index whoC; clear h0 h8; go_simp)
set_option maxRecDepth 100000 in
set_option maxHeartbeats 1000000 in
theorem holds_any (T : Nat → Prop) (L : Nat) (xs ys : List Turn) (k : Int) (w : World) (h : LOwn T w L xs ys) (hok : ∀ t ∈ xs, 0 ≤ t.1 ∧ t.1 < 8) :
    Calls Try.prog 27 #[.pointer (some ⟨L, 0, none⟩), .int .i64 k] w fun e w' => e = .returned (.bool (hasT xs k)) ∧ Below w.heap.size w w' := by
  obtain ⟨p, c, q, d, hst, _⟩ := h
  have m0 := hst.c0
  have m2 := hst.c2
  by_cases hk : 0 ≤ k ∧ k < 8
  · have HW := Lib.hid (who_any p c xs w hst.ox.rds hok)
    have hd : decide (0 ≤ k ∧ k < 8) = true := decide_eq_true hk
    obtain ⟨hk0, hk8⟩ := hk
    have hg := fun W => who_index xs k hk0 hk8 W
    obtain ⟨C, hC⟩ : ∃ C, whoC xs = C := ⟨_, rfl⟩
    rw [hC] at HW hg
    clear hst hok hC
    go_enter Try.func27, Try.ntmps27
    go_wp2_with fail
    refine (lnone_any L w m2).mono ?_
    rintro e w1 ⟨rfl, rfl⟩
    go_wp2_with fail
    refine (there_any k w).mono ?_
    rintro e w1 ⟨rfl, rfl⟩
    rw [hd]
    go_wp2_with fail
    refine HW.out.mono ?_
    rintro e w2 ⟨rfl, hb⟩
    have HB := Lib.hid hb
    clear hb
    go_wp2_with fail
    go_ret
    exact ⟨rfl, HB.out⟩
  · have hd : decide (0 ≤ k ∧ k < 8) = false := decide_eq_false hk
    have hh : hasT xs k = false := by
      unfold hasT
      rw [List.any_eq_false]
      intro t ht
      have := hok t ht
      simp
      rintro rfl
      exact hk this
    rw [hh]
    clear hst hok hh hk
    go_enter Try.func27, Try.ntmps27
    go_wp2_with fail
    refine (lnone_any L w m2).mono ?_
    rintro e w1 ⟨rfl, rfl⟩
    go_wp2_with fail
    refine (there_any k w).mono ?_
    rintro e w1 ⟨rfl, rfl⟩
    rw [hd]
    go_wp2_with fail
    go_ret
    exact ⟨rfl, Below.refl _ _⟩
/-- A box that holds a copy of turns. -/
structure BoxT (w : World) (W : World) (B : Nat) (p : Option Addr) (c : Nat) (ys : List Turn) : Prop where
  hp : W.heap[B]? = some (.cells #[.slice p ys.length c] 110 (0, 0))
  own : OwnT W p c ys
  src : ∀ b, inP p c b → w.heap.size ≤ b
  ge : w.heap.size ≤ B
  ne : ¬ inP p c B
set_option maxHeartbeats 1000000 in
theorem waits_any (T : Nat → Prop) (L : Nat) (xs ys : List Turn) (w : World) (h : LOwn T w L xs ys) (hn : ys.length ≤ 1000000) :
    Calls Try.prog 22 #[.pointer (some ⟨L, 0, none⟩)] w fun e w' => e = .returned (.func (.func 60) #[] #[.pointer (some ⟨w.heap.size, 0, none⟩)]) ∧ (∃ p c, BoxT w w' w.heap.size p c ys) ∧ Below w.heap.size w w' := by
  obtain ⟨p, c, q, d, hst, _⟩ := h
  obtain ⟨wa, hwa⟩ : ∃ wa, w.alloc (.cells #[.slice none 0 0] 110) = wa := ⟨_, rfl⟩
  have hba : Below w.heap.size w wa := by rw [← hwa]; exact (Below.refl _ _).alloc (Nat.le_refl _) _
  have hsa := hst.below hba
  have m1 := hsa.c1
  have m2 := hsa.c2
  have hbx : wa.heap[w.heap.size]? = some (.cells #[.slice none 0 0] 110 (0, 0)) := by rw [← hwa]; exact World.alloc_heap_new w _
  have HC := Lib.hid (cloneT_any q d ys wa hsa.oy.rds hn)
  have HBA := Lib.hid hba
  have HWA := Lib.hid hwa
  have HBX := Lib.hid hbx
  clear hst hsa hba hwa hbx
  go_enter Try.func22, Try.ntmps22
  go_wp2_with fail
  rw [HWA.out]
  refine (lnone_any L wa m2).mono ?_
  rintro e w1 ⟨rfl, rfl⟩
  go_wp2_with fail
  refine HC.out.mono ?_
  rintro e w2 ⟨p2, c2, rfl, h1, h2, h3⟩
  have hlt : w.heap.size < wa.heap.size := (Array.getElem?_eq_some_iff.1 HBX.out).1
  have hb2 := (h3.block _ hlt).trans HBX.out
  have l0 : w2.cell? ⟨w.heap.size, 0, none⟩ = some (.slice none 0 0) := by simp [World.cell?, hb2]
  have l1 : w2.frozen? ⟨w.heap.size, 0, none⟩ = false := by simp [World.frozen?, hb2]
  have H := Lib.hid (And.intro h1 (And.intro h2 (And.intro h3 (And.intro hb2 hlt))))
  clear h1 h2 h3 hb2 hlt
  go_wp2_with fail
  go_ret
  obtain ⟨h1, h2, h3, hb2, hlt⟩ := H.out
  have hn2 : ∀ b, inP p2 c2 b → b ≠ w.heap.size := fun b hb => by have := h2 b hb; omega
  refine ⟨rfl, ⟨p2, c2, ?_, h1.keep fun b hb => heap_setCell_other _ ⟨w.heap.size, 0, none⟩ b _ (hn2 b hb), fun b hb => by have := h2 b hb; omega, Nat.le_refl _, fun hb => hn2 _ hb rfl⟩, (HBA.out.trans (h3.mono HBA.out.size)).setCell (Nat.le_refl _) _⟩
  have := heap_setCell_same w2 w.heap.size 0 _ _ (.slice p2 ys.length c2) hb2
  simpa using this

def encW (ys : List Turn) : List (Array Value) := ys.mapIdx fun i t => #[.int .i64 ((i : Nat) : Int), tv t]
theorem encW_len (ys : List Turn) : (encW ys).length = ys.length := by simp [encW]
theorem encW_get (ys : List Turn) (k : Nat) (h : k < (encW ys).length) : (encW ys)[k] = #[.int .i64 (k : Int), tv (ys[k]'(by simpa [encW] using h))] := by simp [encW]

attribute [local go_sem] Oper.semAt_some
set_option maxRecDepth 100000 in
set_option maxHeartbeats 1000000 in
theorem waits1_iter (Bs : Nat) (p : Option Addr) (cap : Nat) (ys : List Turn) (w : World) (hBs : w.cell? ⟨Bs, 0, none⟩ = some (.slice p ys.length cap)) (hrd : RdS w.heap.size w p cap 2 tc ys) :
    Iter Try.prog 60 #[.pointer (some ⟨Bs, 0, none⟩)] (encW ys) (fun b => b = Bs ∨ inP p cap b) w := by
  intro l J Jx W T hW hT hJ hJx hY h0
  have hlt := World.block_lt_of_cell? w _ hBs
  have hBs' : W.cell? ⟨Bs, 0, none⟩ = some (.slice p ys.length cap) := (World.cell?_of_block (w := w) (a := ⟨Bs, 0, none⟩) (hW.block Bs (.inl rfl) hlt)).trans hBs
  have hrd' : RdS w.heap.size W p cap 2 tc ys := hrd.kps (Nat.le_refl _) hW (fun b h => .inr h)
  have hlen := hrd.len
  have hY' : ∀ k (hk : k < ys.length) T' W1, (∀ b, T' b → b < W1.heap.size) → J k T' W1 → YieldAt Fence.wide 0 Try.prog l #[.int .i64 (k : Int), tv ys[k]] W1 fun e W' =>
      (e = .returned (.bool true) ∧ J (k + 1) T' W' ∧ Kps (fun b => (b = Bs ∨ inP p cap b) ∨ T' b) W1 W') ∨
      (e = .returned (.bool false) ∧ Jx (k + 1) T' W' ∧ Kps (fun b => (b = Bs ∨ inP p cap b) ∨ T' b) W1 W') := by
    intro k hk T' W1 h1 h2
    have := hY k (by rw [encW_len]; exact hk) T' W1 h1 h2
    rwa [encW_get] at this
  rw [encW_len]
  clear hY
  have HY := Lib.hid hY'
  have HJ := Lib.hid hJ
  clear hY' hJ hJx hBs hrd hlt
  refine callsIn_of_wp Try.func60 rfl trivial ?_ rfl
  simp only [Try.ntmps60, List.size_toArray, List.length_cons, List.length_nil, Nat.reduceAdd, Nat.reduceSub, Array.replicate_succ, Array.replicate_zero, List.push_toArray, List.append_toArray, List.nil_append, List.cons_append]
  gi_wp2
  apply wpIn_scope_wide
  gi_wp2
  apply wpIn_label
  gi_wp2
  gi_loopw [7] (fun i wr => ∃ (k : Nat) (T' : Nat → Prop), k ≤ ys.length ∧ i = .int .i64 k ∧ J k T' wr ∧ (∀ b, T' b → b < wr.heap.size) ∧ Kps (fun b => b = Bs ∨ inP p cap b) W wr)
    (fun i _ => ys.length - (intOf i).toNat)
  case atStart => exact ⟨0, T, Nat.zero_le _, rfl, h0, hT, Kps.refl _ _⟩
  case round =>
    obtain ⟨k, T', hk, rfl, hJs, hTs, hnx⟩ := hrel
    by_cases hlt : k < ys.length
    · have hrw : RdS w.heap.size wr p cap 2 tc ys := hrd'.kps hW.size hnx (fun b h => .inr h)
      obtain ⟨b, off, rfl, hb, hc0, hc1⟩ := hrw.rows k hlt
      have hJ2 := HJ.out _ _ _ _ hJs (Frn.alloc T' wr (.cells #[.int .i64 ys[k].1, .bool ys[k].2] 53))
      obtain ⟨fn, tmps, assign, body, hy, hR⟩ := HY.out k hlt _ _ (by
        rintro b (hb | hb)
        · exact Nat.lt_of_lt_of_le (hTs b hb) (by simp)
        · exact hb.2) hJ2
      have hnx2 := hnx.alloc (.cells #[.int .i64 ys[k].1, .bool ys[k].2] 53)
      have hTs2 : ∀ b, grow T' wr (wr.alloc (.cells #[.int .i64 ys[k].1, .bool ys[k].2] 53)) b → b < (wr.alloc (.cells #[.int .i64 ys[k].1, .bool ys[k].2] 53)).heap.size := by
        rintro b (hb | hb)
        · exact Nat.lt_of_lt_of_le (hTs b hb) (by simp)
        · exact hb.2
      unfold tv at hy
      obtain ⟨y, hyk⟩ : ∃ y, ys[k] = y := ⟨_, rfl⟩
      rw [hyk] at hc0 hc1 hy hR hnx2 hTs2
      clear HY hrw hJ2 hyk hnx hTs hJs
      obtain ⟨y1, y2⟩ := y
      simp only at hc0 hc1 hy hR hnx2 hTs2
      gi_wp2
      refine ⟨rfl, hR.mono ?_⟩
      clear hR hy
      rintro e W3 (⟨rfl, hJ3, hk3⟩ | ⟨rfl, hJx3, hk3⟩)
      · gi_wp2
        go_roundw
        case rel => exact ⟨k + 1, _, by omega, by go_num, hJ3, fun b hb => Nat.lt_of_lt_of_le (hTs2 b hb) hk3.size, hnx2.trans (hk3.mono fun b hb => .inl hb)⟩
        case measure => simp [intOf]; omega
      · gi_wp2
        rw [Exit.noGoto_normal]
        gi_wp2
        go_end0
        exact ⟨⟨_, rfl⟩, .inr ⟨k + 1, _, by omega, by omega, hJx3, fun b hb => Nat.lt_of_lt_of_le (hTs2 b hb) hk3.size⟩⟩
    · obtain rfl : k = ys.length := by omega
      clear HY
      gi_wp2
      rw [Exit.noGoto_normal]
      gi_wp2
      go_end0
      exact ⟨⟨_, rfl⟩, .inl ⟨T', hJs, hTs⟩⟩
end Go.Proofs.Ythhdipfadnihjaa
