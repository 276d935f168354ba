/- The walks of plan.Each, and what it goes over. -/
import Derived.Test.YthhdipfadnihjaaPlanE
import Derived.Test.YthhdipfadnihjaaPlanB
import Derived.Sort.QuietIn
namespace Go.Proofs.Ythhdipfadnihjaa
open Go Go.RowKit

/-- A box that holds a plan's acts. -/
structure BoxA (w : World) (W : World) (B : Nat) (p : Option Addr) (c : Nat) (ys : List Act3) : Prop where
  hp : W.heap[B]? = some (.cells #[.slice p ys.length c] 24 (0, 0))
  own : OwnA W p c ys
  src : ∀ b, inP p c b → w.heap.size ≤ b
  ge : w.heap.size ≤ B
  ne : ¬ inP p c B
set_option maxHeartbeats 1000000 in
theorem each_any (p : Option Addr) (cap : Nat) (ys : List Put2) (w : World) (hrd : RdS w.heap.size w p cap 2 pc2 ys) (hn : ys.length ≤ 100000) (hx : ∀ x ∈ ys, x.1 ≤ 9223372036854775807) :
    Calls Try.prog 13 #[.slice p ys.length cap] w fun e w' => ∃ B q d, e = .returned (.func (.func 52) #[] #[.pointer (some ⟨B, 0, none⟩)]) ∧ BoxA w w' B q d (ordA ys) ∧ Below w.heap.size w w' := by
  have HO := Lib.hid (order_any p cap ys w hrd hn hx)
  clear hrd
  go_enter Try.func13, Try.ntmps13
  go_wp2_with fail
  refine HO.out.mono ?_
  rintro e w1 ⟨q, d, rfl, ho, hq, hb⟩
  have HQ := Lib.hid hq
  have HB := Lib.hid hb
  have HOW := Lib.hid ho
  clear ho hq hb
  go_wp2_with fail
  go_ret
  refine ⟨w1.heap.size, q, d, rfl, ⟨World.alloc_heap_new w1 _, HOW.out.below ((Below.refl _ _).alloc (Nat.le_refl _) _), HQ.out, HB.out.size, fun h => by have := HOW.out.lt h; omega⟩, HB.out.alloc HB.out.size _⟩

def encA (ys : List Act3) : List (Array Value) := ys.mapIdx fun i t => #[.int .i64 ((cntA ys i : Nat) : Int), av3 t]
theorem encA_len (ys : List Act3) : (encA ys).length = ys.length := by simp [encA]
theorem encA_get (ys : List Act3) (k : Nat) (h : k < (encA ys).length) : (encA ys)[k] = #[.int .i64 ((cntA ys k : Nat) : Int), av3 (ys[k]'(by simpa [encA] using h))] := by simp [encA]

attribute [local go_sem] Oper.semAt_some
set_option maxRecDepth 100000 in
set_option maxHeartbeats 2000000 in
theorem each1_iter (Bs : Nat) (p : Option Addr) (cap : Nat) (ys : List Act3) (w : World) (hBs : w.cell? ⟨Bs, 0, none⟩ = some (.slice p ys.length cap)) (hrd : RdS w.heap.size w p cap 3 ac3 ys) (hn : ys.length ≤ 1000000) :
    Iter Try.prog 52 #[.pointer (some ⟨Bs, 0, none⟩)] (encA ys) (fun b => b = Bs ∨ inP p cap b) w := by
  intro l J Jx W T hW hT hJ hJx hY h0
  have hlt := World.block_lt_of_cell? w _ hBs
  have hBs' : W.cell? ⟨Bs, 0, none⟩ = some (.slice p ys.length cap) := (World.cell?_of_block (w := w) (a := ⟨Bs, 0, none⟩) (hW.block Bs (.inl rfl) hlt)).trans hBs
  have hrd' : RdS w.heap.size W p cap 3 ac3 ys := hrd.kpsG (Nat.le_refl _) hW (fun b h => .inr h)
  have hlen := hrd.len
  have hY' : ∀ k (hk : k < ys.length) T' W1, (∀ b, T' b → b < W1.heap.size) → J k T' W1 → YieldAt Fence.wide 0 Try.prog l #[.int .i64 ((cntA ys k : Nat) : Int), av3 ys[k]] W1 fun e W' =>
      (e = .returned (.bool true) ∧ J (k + 1) T' W' ∧ Kps (fun b => (b = Bs ∨ inP p cap b) ∨ T' b) W1 W') ∨
      (e = .returned (.bool false) ∧ Jx (k + 1) T' W' ∧ Kps (fun b => (b = Bs ∨ inP p cap b) ∨ T' b) W1 W') := by
    intro k hk T' W1 h1 h2
    have := hY k (by rw [encA_len]; exact hk) T' W1 h1 h2
    rwa [encA_get] at this
  rw [encA_len]
  clear hY
  have HY := Lib.hid hY'
  have HJ := Lib.hid hJ
  clear hY' hJ hJx hBs hrd hlt
  refine callsIn_of_wp Try.func52 rfl trivial ?_ rfl
  simp only [Try.ntmps52, List.size_toArray, List.length_cons, List.length_nil, Nat.reduceAdd, Nat.reduceSub, Array.replicate_succ, Array.replicate_zero, List.push_toArray, List.append_toArray, List.nil_append, List.cons_append]
  gi_wp2
  apply wpIn_scope_wide
  gi_wp2
  apply wpIn_label
  gi_wp2
  gi_loopw [3, 8] (fun s i wr => ∃ (k : Nat) (T' : Nat → Prop), k ≤ ys.length ∧ s = .int .i64 ((cntA ys k : Nat) : Int) ∧ i = .int .i64 k ∧ J k T' wr ∧ (∀ b, T' b → b < wr.heap.size) ∧ Kps (fun b => b = Bs ∨ inP p cap b) W wr)
    (fun _ i _ => ys.length - (intOf i).toNat)
  case atStart => exact ⟨0, T, Nat.zero_le _, rfl, rfl, h0, hT, Kps.refl _ _⟩
  case round =>
    obtain ⟨k, T', hk, rfl, rfl, hJs, hTs, hnx⟩ := hrel
    by_cases hlt : k < ys.length
    · have hrw : RdS w.heap.size wr p cap 3 ac3 ys := hrd'.kpsG hW.size hnx (fun b h => .inr h)
      obtain ⟨b, off, rfl, hb, hc0, hc1, hc2⟩ := hrw.rows3 k hlt
      have hcs := cntA_succ ys k hlt
      have hcl := cntA_le ys k
      have hJ2 := HJ.out _ _ _ _ hJs (Frn.alloc T' wr (.cells #[.int .i64 ys[k].1, .int .i64 ys[k].2.1, vw ys[k].2.2] 38))
      obtain ⟨fn, tmps, assign, body, hy, hR⟩ := HY.out k hlt _ _ (by
        rintro b (hb | hb)
        · exact Nat.lt_of_lt_of_le (hTs b hb) (by simp)
        · exact hb.2) hJ2
      have hnx2 := hnx.alloc (.cells #[.int .i64 ys[k].1, .int .i64 ys[k].2.1, vw ys[k].2.2] 38)
      have hTs2 : ∀ b, grow T' wr (wr.alloc (.cells #[.int .i64 ys[k].1, .int .i64 ys[k].2.1, vw ys[k].2.2] 38)) b → b < (wr.alloc (.cells #[.int .i64 ys[k].1, .int .i64 ys[k].2.1, vw ys[k].2.2] 38)).heap.size := by
        rintro b (hb | hb)
        · exact Nat.lt_of_lt_of_le (hTs b hb) (by simp)
        · exact hb.2
      have hxb : ∀ W3, Kps (fun b_1 => (b_1 = Bs ∨ inP (some ⟨b, off, none⟩) cap b_1) ∨ grow T' wr (wr.alloc (.cells #[.int .i64 ys[k].1, .int .i64 ys[k].2.1, vw ys[k].2.2] 38)) b_1) (wr.alloc (.cells #[.int .i64 ys[k].1, .int .i64 ys[k].2.1, vw ys[k].2.2] 38)) W3 → W3.cell? ⟨wr.heap.size, 0, none⟩ = some (.int .i64 ys[k].1) := by
        intro W3 h3
        have h4 := (h3.block wr.heap.size (.inr (.inr ⟨Nat.le_refl _, by simp⟩)) (by simp)).trans (World.alloc_heap_new wr _)
        simp [World.cell?, h4]
      unfold av3 at hy
      obtain ⟨y, hyk⟩ : ∃ y, ys[k] = y := ⟨_, rfl⟩
      obtain ⟨cn, hcn⟩ : ∃ cn, cntA ys k = cn := ⟨_, rfl⟩
      rw [hyk] at hc0 hc1 hc2 hy hR hnx2 hTs2 hxb hcs
      rw [hcn] at hy hcs hcl ⊢
      have HXB := Lib.hid hxb
      have HCS := Lib.hid hcs
      clear HY hrw hJ2 hyk hnx hTs hJs hcn hxb hcs
      obtain ⟨y1, y2, y3⟩ := y
      simp only at hc0 hc1 hc2 hy hR hnx2 hTs2 HXB HCS
      have hcl' : (cn : Int) ≤ 1000000 := by omega
      gi_wp2
      refine ⟨rfl, hR.mono ?_⟩
      clear hR hy
      rintro e W3 (⟨rfl, hJ3, hk3⟩ | ⟨rfl, hJx3, hk3⟩)
      · have hx0 := HXB.out W3 hk3
        by_cases h1 : y1 = 1
        · subst h1
          rw [if_pos rfl] at HCS
          gi_wp2
          go_roundw
          case rel => exact ⟨k + 1, _, by omega, by rw [HCS.out]; go_num, by go_num, hJ3, fun b hb => Nat.lt_of_lt_of_le (hTs2 b hb) hk3.size, hnx2.trans (hk3.mono fun b hb => .inl hb)⟩
          case measure => simp [intOf]; omega
        · rw [if_neg h1] at HCS
          gi_wp2
          go_roundw
          case rel => exact ⟨k + 1, _, by omega, by rw [HCS.out]; go_num, by go_num, hJ3, fun b hb => Nat.lt_of_lt_of_le (hTs2 b hb) hk3.size, hnx2.trans (hk3.mono fun b hb => .inl hb)⟩
          case measure => simp [intOf]; omega
      · gi_wp2
        rw [Exit.noGoto_normal]
        gi_wp2
        go_end0
        exact ⟨⟨_, rfl⟩, .inr ⟨k + 1, _, by omega, by omega, hJx3, fun b hb => Nat.lt_of_lt_of_le (hTs2 b hb) hk3.size⟩⟩
    · obtain rfl : k = ys.length := by omega
      clear HY
      gi_wp2
      rw [Exit.noGoto_normal]
      gi_wp2
      go_end0
      exact ⟨⟨_, rfl⟩, .inl ⟨T', hJs, hTs⟩⟩
end Go.Proofs.Ythhdipfadnihjaa
