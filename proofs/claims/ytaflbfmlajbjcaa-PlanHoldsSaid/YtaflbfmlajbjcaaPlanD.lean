/- Plain helpers and walks: slices.Values at puts; what plan.Order has gathered. -/
import Derived.Test.YtaflbfmlajbjcaaPlanC
import Derived.Test.YtaflbfmlajbjcaaKeep
import Derived.Test.YtaflbfmlajbjcaaLatchI
namespace Go.Proofs.Ytaflbfmlajbjcaa
open Go Go.RowKit
attribute [local go_sem] Oper.semAt_some

set_option maxRecDepth 100000 in
set_option maxHeartbeats 1000000 in
theorem valuesP1_iter (Bs : Nat) (p : Option Addr) (cap : Nat) (ys : List Put2) (w : World) (hBs : w.cell? ⟨Bs, 0, none⟩ = some (.slice p ys.length cap)) (hrd : RdS w.heap.size w p cap 2 pc2 ys) :
    Iter Try.prog 90 #[.pointer (some ⟨Bs, 0, none⟩)] (ys.map fun y => #[pv2 y]) (fun b => b = Bs ∨ inP p cap b) w := by
  intro l J Jx W T hW hT hJ hJx hY h0
  have hlt := World.block_lt_of_cell? w _ hBs
  have hBs' : W.cell? ⟨Bs, 0, none⟩ = some (.slice p ys.length cap) := (World.cell?_of_block (w := w) (a := ⟨Bs, 0, none⟩) (hW.block Bs (.inl rfl) hlt)).trans hBs
  have hrd' : RdS w.heap.size W p cap 2 pc2 ys := hrd.kpsG (Nat.le_refl _) hW (fun b h => .inr h)
  have hlen := hrd.len
  have hY' : ∀ k (hk : k < ys.length) T' W1, (∀ b, T' b → b < W1.heap.size) → J k T' W1 → YieldAt Fence.wide 0 Try.prog l #[pv2 ys[k]] W1 fun e W' =>
      (e = .returned (.bool true) ∧ J (k + 1) T' W' ∧ Kps (fun b => (b = Bs ∨ inP p cap b) ∨ T' b) W1 W') ∨
      (e = .returned (.bool false) ∧ Jx (k + 1) T' W' ∧ Kps (fun b => (b = Bs ∨ inP p cap b) ∨ T' b) W1 W') := by
    intro k hk T' W1 h1 h2
    have := hY k (by simpa using hk) T' W1 h1 h2
    simpa using this
  rw [List.length_map]
  clear hY
  have HY := Lib.hid hY'
  have HJ := Lib.hid hJ
  clear hY' hJ hJx hBs hrd hlt
  refine callsIn_of_wp Try.func90 rfl trivial ?_ rfl
  simp only [Try.ntmps90, List.size_toArray, List.length_cons, List.length_nil, Nat.reduceAdd, Nat.reduceSub, Array.replicate_succ, Array.replicate_zero, List.push_toArray, List.append_toArray, List.nil_append, List.cons_append]
  gi_wp2
  gi_loopw [7] (fun i wr => ∃ (k : Nat) (T' : Nat → Prop), k ≤ ys.length ∧ i = .int .i64 k ∧ J k T' wr ∧ (∀ b, T' b → b < wr.heap.size) ∧ Kps (fun b => b = Bs ∨ inP p cap b) W wr)
    (fun i _ => ys.length - (intOf i).toNat)
  case atStart => exact ⟨0, T, Nat.zero_le _, rfl, h0, hT, Kps.refl _ _⟩
  case round =>
    obtain ⟨k, T', hk, rfl, hJs, hTs, hnx⟩ := hrel
    by_cases hlt : k < ys.length
    · have hrw : RdS w.heap.size wr p cap 2 pc2 ys := hrd'.kpsG hW.size hnx (fun b h => .inr h)
      obtain ⟨b, off, rfl, hb, hc0, hc1⟩ := hrw.rows2 k hlt
      have hJ2 := HJ.out _ _ _ _ hJs (Frn.alloc T' wr (.cells #[.int .i64 ys[k].1, vw ys[k].2] 85))
      obtain ⟨fn, tmps, assign, body, hy, hR⟩ := HY.out k hlt _ _ (by
        rintro b (hb | hb)
        · exact Nat.lt_of_lt_of_le (hTs b hb) (by simp)
        · exact hb.2) hJ2
      have hnx2 := hnx.alloc (.cells #[.int .i64 ys[k].1, vw ys[k].2] 85)
      have hTs2 : ∀ b, grow T' wr (wr.alloc (.cells #[.int .i64 ys[k].1, vw ys[k].2] 85)) b → b < (wr.alloc (.cells #[.int .i64 ys[k].1, vw ys[k].2] 85)).heap.size := by
        rintro b (hb | hb)
        · exact Nat.lt_of_lt_of_le (hTs b hb) (by simp)
        · exact hb.2
      unfold pv2 at hy
      obtain ⟨y, hyk⟩ : ∃ y, ys[k] = y := ⟨_, rfl⟩
      rw [hyk] at hc0 hc1 hy hR hnx2 hTs2
      clear HY hrw hJ2 hyk hnx hTs hJs
      obtain ⟨y1, y2⟩ := y
      simp only at hc0 hc1 hy hR hnx2 hTs2
      gi_wp2
      refine ⟨rfl, hR.mono ?_⟩
      clear hR hy
      rintro e W3 (⟨rfl, hJ3, hk3⟩ | ⟨rfl, hJx3, hk3⟩)
      · gi_wp2
        go_roundw
        case rel => exact ⟨k + 1, _, by omega, by go_num, hJ3, fun b hb => Nat.lt_of_lt_of_le (hTs2 b hb) hk3.size, hnx2.trans (hk3.mono fun b hb => .inl hb)⟩
        case measure => simp [intOf]; omega
      · gi_wp2
        refine bodyPost_ret (results_none rfl _ _ _) rfl ?_
        exact ⟨⟨_, rfl⟩, .inr ⟨k + 1, _, by omega, by omega, hJx3, fun b hb => Nat.lt_of_lt_of_le (hTs2 b hb) hk3.size⟩⟩
    · obtain rfl : k = ys.length := by omega
      clear HY
      gi_wp2
      go_end0
      exact ⟨⟨_, rfl⟩, .inl ⟨T', hJs, hTs⟩⟩

set_option maxHeartbeats 400000 in
theorem valuesP_any (p : Option Addr) (n cap : Nat) (w : World) :
    Calls Try.prog 77 #[.slice p n cap] w fun e w' => e = .returned (.func (.func 90) #[] #[.pointer (some ⟨w.heap.size, 0, none⟩)]) ∧ w.alloc (.cells #[.slice p n cap] 83) = w' := by
  go_enter Try.func77, Try.ntmps77
  go_wp2
  go_ret
  exact ⟨rfl, rfl⟩

/-- What Order has gathered in its variable's block U, at a round's beginning. -/
structure GU (n : Nat) (T : Nat → Prop) (V : World) (U : Nat) (p : Option Addr) (cap : Nat) (G : List Act3) (ln : Int) : Prop where
  hp : V.heap[U]? = some (.cells #[.slice p G.length cap, .int .i64 ln] 124 (0, 0))
  own : OwnA V p cap G
  hb : ∀ b, inP p cap b → n ≤ b ∧ ¬ T b
theorem GU.go {n : Nat} {T : Nat → Prop} {W W' : World} {U : Nat} {p : Option Addr} {cap : Nat} {G : List Act3} {ln : Int} (h : GU n T W U p cap G ln) (hU : ¬ T U) (hf : Frn T W W') : GU n (grow T W W') W' U p cap G ln := by
  refine ⟨(hf.block U (Array.getElem?_eq_some_iff.1 h.hp).1 hU).trans h.hp, h.own.keep fun b hb => hf.block b (h.own.lt hb) (h.hb b hb).2, fun b hb => ⟨(h.hb b hb).1, ?_⟩⟩
  rintro (ht | ht)
  · exact (h.hb b hb).2 ht
  · have := h.own.lt hb; have := ht.1; omega
/-- In a round: since W2 only U and the gathered acts' blocks have turned. -/
structure GS (W2 : World) (U Bp : Nat) (o : Obj) (p0 : Option Addr) (cap0 : Nat) (V : World) (p : Option Addr) (cap : Nat) (G : List Act3) (ln : Int) : Prop where
  hp : V.heap[U]? = some (.cells #[.slice p G.length cap, .int .i64 ln] 124 (0, 0))
  own : OwnA V p cap G
  frn : Frn (fun b => b = U ∨ inP p0 cap0 b) W2 V
  new : ∀ b, inP p cap b → inP p0 cap0 b ∨ W2.heap.size ≤ b
  hx : V.heap[Bp]? = some o
  sd : U < W2.heap.size ∧ Bp < W2.heap.size ∧ Bp ≠ U ∧ ¬ inP p0 cap0 U ∧ ¬ inP p0 cap0 Bp
section
variable {W2 : World} {U Bp : Nat} {o : Obj} {p0 : Option Addr} {cap0 : Nat} {V : World} {p : Option Addr} {cap : Nat} {G : List Act3} {ln : Int}
theorem GS.ni (h : GS W2 U Bp o p0 cap0 V p cap G ln) : ¬ inP p cap U ∧ ¬ inP p cap Bp :=
  ⟨fun hi => (h.new U hi).elim h.sd.2.2.2.1 (fun h' => by have := h.sd.1; omega), fun hi => (h.new Bp hi).elim h.sd.2.2.2.2 (fun h' => by have := h.sd.2.1; omega)⟩
theorem GS.at {V' w3 : World} {zs : List Act3} {p' : Option Addr} {cap' : Nat} (h : GS W2 U Bp o p0 cap0 V p cap G ln) (hb : Below V.heap.size V V') (happ : AppG 79 3 ac3 p cap V' zs p' cap' w3) :
    w3.heap[U]? = some (.cells #[.slice p G.length cap, .int .i64 ln] 124 (0, 0)) ∧ w3.heap[Bp]? = some o := by
  have hU := (Array.getElem?_eq_some_iff.1 h.hp).1
  have hB := (Array.getElem?_eq_some_iff.1 h.hx).1
  exact ⟨(happ.2.1.block U (Nat.lt_of_lt_of_le hU hb.size) h.ni.1).trans ((hb.block U hU).trans h.hp), (happ.2.1.block Bp (Nat.lt_of_lt_of_le hB hb.size) h.ni.2).trans ((hb.block Bp hB).trans h.hx)⟩
theorem GS.app {V' w3 : World} {zs : List Act3} {p' : Option Addr} {cap' : Nat} (h : GS W2 U Bp o p0 cap0 V p cap G ln) (hb : Below V.heap.size V V') (happ : AppG 79 3 ac3 p cap V' zs p' cap' w3) :
    GS W2 U Bp o p0 cap0 (w3.setCell ⟨U, 0, none⟩ (.slice p' zs.length cap')) p' cap' zs ln := by
  obtain ⟨h1, h2⟩ := h.at hb happ
  have hUi : ¬ inP p' cap' U := fun hi => by
    rcases happ.2.2 U hi with h' | h'
    · exact h.ni.1 h'
    · have := (Array.getElem?_eq_some_iff.1 h.hp).1; have := hb.size; omega
  refine ⟨pair_set0 h1, happ.1.keep fun b hi => heap_setCell_other _ ⟨U, 0, none⟩ b _ (fun e => hUi (by have e' : b = U := e; rw [e'] at hi; exact hi)), ?_, ?_, (heap_setCell_other _ ⟨U, 0, none⟩ Bp _ h.sd.2.2.1).trans h2, h.sd⟩
  · refine Frn.setCell ⟨happ.2.1.os.trans (hb.os.trans h.frn.os), happ.2.1.tape.trans (hb.tape.trans h.frn.tape), happ.2.1.output.trans (hb.output.trans h.frn.output), Nat.le_trans h.frn.size (Nat.le_trans hb.size happ.2.1.size), fun b hbl hn => ?_⟩ ⟨U, 0, none⟩ (.inl (.inl rfl)) _
    have hbV := Nat.lt_of_lt_of_le hbl h.frn.size
    exact (happ.2.1.block b (Nat.lt_of_lt_of_le hbV hb.size) (fun hi => (h.new b hi).elim (fun h' => hn (.inr h')) (fun h' => by omega))).trans ((hb.block b hbV).trans (h.frn.block b hbl hn))
  · intro b hi
    rcases happ.2.2 b hi with h' | h'
    · exact h.new b h'
    · exact .inr (by have := h.frn.size; have := hb.size; omega)
theorem GS.line (h : GS W2 U Bp o p0 cap0 V p cap G ln) (l : Int) : GS W2 U Bp o p0 cap0 (V.setCell ⟨U, 1, none⟩ (.int .i64 l)) p cap G l :=
  ⟨pair_set1 h.hp, h.own.keep fun b hi => heap_setCell_other _ ⟨U, 1, none⟩ b _ (fun e => h.ni.1 (by have e' : b = U := e; rw [e'] at hi; exact hi)), h.frn.setCell ⟨U, 1, none⟩ (.inl (.inl rfl)) _, h.new, (heap_setCell_other _ ⟨U, 1, none⟩ Bp _ h.sd.2.2.1).trans h.hx, h.sd⟩
theorem GS.end {W0 : World} {T X : Nat → Prop} (h : GS W2 U Bp o p0 cap0 V p cap G ln) (hs : Keep X W0 T W2) (hX : X U) (hT : ∀ b, T b → b < W2.heap.size) (h0 : ∀ b, inP p0 cap0 b → W0.heap.size ≤ b ∧ ¬ T b) (FP : Nat → Prop) (hF : ∀ b, FP b → b < W0.heap.size ∧ b ≠ U) (hUT : ¬ T U) :
    Keep X W0 T V ∧ GU W0.heap.size T V U p cap G ln ∧ Kps (fun b => FP b ∨ T b) W2 V := by
  refine ⟨⟨⟨h.frn.os.trans hs.frn.os, h.frn.tape.trans hs.frn.tape, h.frn.output.trans hs.frn.output, Nat.le_trans hs.frn.size h.frn.size, fun b hb hn => (h.frn.block b (Nat.lt_of_lt_of_le hb hs.frn.size) ?_).trans (hs.frn.block b hb hn)⟩, hs.old⟩, ⟨h.hp, h.own, fun b hb => ?_⟩, ⟨h.frn.os, h.frn.tape, h.frn.output, h.frn.size, fun b hb hl => h.frn.block b hl ?_⟩⟩
  · rintro (rfl | hi)
    · exact hn hX
    · have := (h0 b hi).1; omega
  · rcases h.new b hb with h' | h'
    · exact h0 b h'
    · exact ⟨Nat.le_trans hs.frn.size h', fun ht => by have := hT b ht; omega⟩
  · rintro (rfl | hi)
    · rcases hb with hb | hb
      · exact (hF _ hb).2 rfl
      · exact hUT hb
    · rcases hb with hb | hb
      · have := (hF _ hb).1; have := (h0 _ hi).1; omega
      · exact (h0 _ hi).2 hb
end
end Go.Proofs.Ytaflbfmlajbjcaa
