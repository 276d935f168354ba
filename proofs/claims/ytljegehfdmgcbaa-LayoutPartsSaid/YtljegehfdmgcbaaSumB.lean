/- The walk of the sum of bytes: the range over the bytes. -/
import Derived.Test.YtljegehfdmgcbaaSumA
namespace Go.Proofs.Ytljegehfdmgcbaa
open Go Go.RowKit
attribute [local go_sem] Oper.semAt_some

set_option maxRecDepth 100000 in
set_option maxHeartbeats 1000000 in
theorem values1_iter (Bs : Nat) (p : Option Addr) (cap : Nat) (ys : List (BitVec 8)) (w : World) (hBs : w.cell? ⟨Bs, 0, none⟩ = some (.slice p ys.length cap)) (hrd : RdL w.heap.size w p cap vb ys) :
    Iter Try.prog 64 #[.pointer (some ⟨Bs, 0, none⟩)] (ys.map fun y => #[vb y]) (fun b => b = Bs ∨ inP p cap b) w := by
  intro l J Jx W T hW hT hJ hJx hY h0
  have hlt := World.block_lt_of_cell? w _ hBs
  have hBs' : W.cell? ⟨Bs, 0, none⟩ = some (.slice p ys.length cap) := (World.cell?_of_block (w := w) (a := ⟨Bs, 0, none⟩) (hW.block Bs (.inl rfl) hlt)).trans hBs
  have hrd' : RdL w.heap.size W p cap vb ys := hrd.kps (Nat.le_refl _) hW (fun b h => .inr h)
  have hlen := hrd.len
  have hY' : ∀ k (hk : k < ys.length) T' W1, (∀ b, T' b → b < W1.heap.size) → J k T' W1 → YieldAt Fence.wide 0 Try.prog l #[vb ys[k]] W1 fun e W' =>
      (e = .returned (.bool true) ∧ J (k + 1) T' W' ∧ Kps (fun b => (b = Bs ∨ inP p cap b) ∨ T' b) W1 W') ∨
      (e = .returned (.bool false) ∧ Jx (k + 1) T' W' ∧ Kps (fun b => (b = Bs ∨ inP p cap b) ∨ T' b) W1 W') := by
    intro k hk T' W1 h1 h2
    have := hY k (by simpa using hk) T' W1 h1 h2
    simpa using this
  rw [List.length_map]
  clear hY
  have HY := Lib.hid hY'
  have HJ := Lib.hid hJ
  clear hY' hJ hJx hBs hrd hlt
  refine callsIn_of_wp Try.func64 rfl trivial ?_ rfl
  simp only [Try.ntmps64, List.size_toArray, List.length_cons, List.length_nil, Nat.reduceAdd, Nat.reduceSub, Array.replicate_succ, Array.replicate_zero, List.push_toArray, List.append_toArray, List.nil_append, List.cons_append]
  gi_wp2
  gi_loopw [7] (fun i wr => ∃ k : Nat, k ≤ ys.length ∧ i = .int .i64 k ∧ J k T wr ∧ Kps (fun b => (b = Bs ∨ inP p cap b) ∨ T b) W wr)
    (fun i _ => ys.length - (intOf i).toNat)
  case atStart => exact ⟨0, Nat.zero_le _, rfl, h0, Kps.refl _ _⟩
  case round =>
    obtain ⟨k, hk, rfl, hJs, hnx⟩ := hrel
    by_cases hlt : k < ys.length
    · have hrw : RdL w.heap.size wr p cap vb ys := hrd'.kps hW.size hnx (fun b h => .inl (.inr h))
      obtain ⟨b, off, rfl, hb, hcx⟩ := hrw.at k hlt
      obtain ⟨fn, tmps, assign, body, hy, hR⟩ := HY.out k hlt T wr (fun b hb => Nat.lt_of_lt_of_le (hT b hb) hnx.size) hJs
      clear HY hrw
      gi_wp2
      refine ⟨rfl, hR.mono ?_⟩
      clear hR hy
      rintro e W3 (⟨rfl, hJ3, hk3⟩ | ⟨rfl, hJx3, hk3⟩)
      · gi_wp2
        go_roundw
        case rel => exact ⟨k + 1, by omega, by go_num, hJ3, hnx.trans hk3⟩
        case measure => simp [intOf]; omega
      · gi_wp2
        refine bodyPost_ret (results_none rfl _ _ _) rfl ?_
        exact ⟨⟨_, rfl⟩, .inr ⟨k + 1, T, by omega, by omega, hJx3, fun b hb => Nat.lt_of_lt_of_le (hT b hb) (hnx.trans hk3).size⟩⟩
    · obtain rfl : k = ys.length := by omega
      clear HY
      gi_wp2
      go_end0
      exact ⟨⟨_, rfl⟩, .inl ⟨T, hJs, fun b hb => Nat.lt_of_lt_of_le (hT b hb) hnx.size⟩⟩

set_option maxHeartbeats 400000 in
theorem values_any (p : Option Addr) (n cap : Nat) (w : World) :
    Calls Try.prog 62 #[.slice p n cap] w fun e w' => e = .returned (.func (.func 64) #[] #[.pointer (some ⟨w.heap.size, 0, none⟩)]) ∧ w.alloc (.cells #[.slice p n cap] 87) = w' := by
  go_enter Try.func62, Try.ntmps62
  go_wp2
  go_ret
  exact ⟨rfl, rfl⟩

theorem morew_snoc (r : BitVec 64) (l : List (BitVec 8)) (b : BitVec 8) : morew r (l ++ [b]) = intow (morew r l) b := by simp [morew]

set_option maxRecDepth 100000 in
set_option maxHeartbeats 1000000 in
theorem more_any (x : BitVec 64) (p : Option Addr) (cap : Nat) (ys : List (BitVec 8)) (w : World) (hrd : RdL w.heap.size w p cap vb ys) :
    Calls Try.prog 60 #[vw x, .slice p ys.length cap] w fun e w' => e = .returned (vw (notw (morew (notw x) ys))) ∧ Below w.heap.size w w' := by
  have hn := not_w x
  have hsg : IntKind.u64.signed = false := rfl
  refine (callsIn_wide (n := 0)).1 ?_
  refine callsIn_of_wp_marks Try.func60 rfl trivial ?_ rfl
  simp only [Try.ntmps60, List.size_toArray, List.length_cons, List.length_nil, Nat.reduceAdd, Nat.reduceSub, Array.replicate_succ, Array.replicate_zero, List.push_toArray, List.append_toArray, List.nil_append, List.cons_append]
  gi_wp2
  refine wcall (values_any _ _ _ _) ?_
  rintro e w' ⟨rfl, rfl⟩
  gi_wp2
  have hb0 : Below w.heap.size w ((w.alloc (Obj.cells #[vw (notw x)] 92)).alloc (Obj.cells #[Value.slice p ys.length cap] 87)) := ((Below.refl _ w).alloc (Nat.le_refl _) _).alloc (by simp) _
  have hbx : Box ((w.alloc (Obj.cells #[vw (notw x)] 92)).alloc (Obj.cells #[Value.slice p ys.length cap] 87)) w.heap.size 92 (vw (notw x)) := (Box.new _ _ _).alloc _
  have hcl := (Box.new (w.alloc (Obj.cells #[vw (notw x)] 92)) 87 (Value.slice p ys.length cap)).cell
  rw [World.size_alloc] at hcl
  have hFPr : ∀ b, (b = w.heap.size + 1 ∨ inP p cap b) → b < w.heap.size + 2 ∧ b ≠ w.heap.size := by
    rintro b (rfl | hb)
    · omega
    · have := hrd.inlt hb; omega
  refine rf_law (gf := 64) (lb := #[.pointer (some ⟨w.heap.size + 1, 0, none⟩)]) rfl (enters_of Try.func64 (by kernel_rfl) rfl)
    (values1_iter (w.heap.size + 1) p cap ys _ hcl ((hrd.below hb0).wide (by simp; omega))) (by simp) ?hFP
    (fun k T W => Sep w.heap.size w (fun b => b = w.heap.size) T W ∧ Box W w.heap.size 92 (vw (morew (notw x) (ys.take k))))
    (fun _ _ _ _ => False) ?hJ (fun _ _ _ _ _ h _ => h) ?h0 ?hround ?hdone ?hstop
  case hFP =>
    intro b hb
    have := (hFPr b hb).1
    simpa using this
  case hJ =>
    rintro k T W W' ⟨h1, h2⟩ hf
    exact ⟨h1.frn hf, h2.kept (h1.same hf rfl)⟩
  case h0 => exact ⟨Sep.start hb0 (Nat.le_refl _) (by rintro b rfl; simp; omega), hbx⟩
  case hround =>
    rintro l k hk T W ⟨hs, hbox⟩ hTl hTW hkW
    have hk' : k < ys.length := by simpa using hk
    have hsz0 : w.heap.size + 2 ≤ W.heap.size := by have := hkW.size; simpa using this
    gi_wp2
    refine ⟨Kps.refl _ _, fun W2 hf hsz hk2 _ => ?_⟩
    have hs2 := hs.frnSame hf hsz
    have hbox2 := hbox.kept (hs.same hf rfl)
    have hc := hbox2.cell
    have hlt := hbox2.lt
    clear hf hkW hk2 hb0 hbx hcl hrd hs
    gi_wp2
    refine rcall (into_any _ _ _) ?_
    rintro e W3 ⟨rfl, hb3⟩
    have hbox3 := hbox2.below hb3 hlt
    have hc3 := hbox3.cell
    have hf3 := hbox3.free
    gi_wp2
    have hb4 : Below w.heap.size W2 (W3.setCell ⟨w.heap.size, 0, none⟩ (vw (intow (morew (notw x) (ys.take k)) ys[k]))) := (hb3.mono hs2.hn).setCell (p := ⟨w.heap.size, 0, none⟩) (Nat.le_refl _) _
    refine ⟨⟨hs2.step hb4, ?_⟩, ?_⟩
    · rw [List.take_succ_eq_append_getElem hk', morew_snoc]
      exact hbox3.set _
    · refine Kps.setCell (Kps.of_below hb3 ?_) ⟨w.heap.size, 0, none⟩ ?_ _
      · rintro b (h | h)
        · have := (hFPr b h).1; omega
        · exact hsz ▸ hTW b h
      · rintro (h | h)
        · exact (hFPr _ h).2 rfl
        · exact hs2.sep _ rfl h
  case hdone =>
    rintro D T W ⟨hs, hbox⟩ hTD hTW hkW hD hK
    rw [List.length_map, List.take_length] at hbox
    have hD' : w.heap.size ≤ D := by have : w.heap.size + 2 ≤ D := by simpa using hD
                                     omega
    have hc := hbox.cell
    have hn2 := not_w (morew (notw x) ys)
    clear hkW hb0 hbx hcl hrd
    gi_wp2
    refine ⟨by simp, .inl ⟨_, _, rfl, run_takeDeferred hK, ?_⟩⟩
    exact ⟨_, results_tmp rfl _ _ _, rfl, below_putObj hs.below hD' _⟩
  case hstop =>
    intro D c k T W _ _ h
    exact h.elim

end Go.Proofs.Ytljegehfdmgcbaa
