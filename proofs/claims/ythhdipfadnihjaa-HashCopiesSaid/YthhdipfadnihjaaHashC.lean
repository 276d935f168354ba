/- The walks of the whole words of bytes, one by one. -/
import Derived.Test.YthhdipfadnihjaaHashB
import Derived.Sort.QuietIn
namespace Go.Proofs.Ythhdipfadnihjaa
open Go Go.RowKit
attribute [local go_sem] Oper.semAt_some

/-- A slice's address, so many elements on. -/
def subP (p : Option Addr) (k : Nat) : Option Addr := p.map fun a => { a with off := a.off + k }
def chunksOf (p : Option Addr) (m : Nat) : List (Array Value) := (List.range m).map fun i => #[Value.slice (subP p (8 * i)) 8 8]

theorem Kps.drewR {T : Nat → Prop} {A B : World} (h : Kps T A B) (n : Nat) : Kps T A (B.drewN n) := ⟨h.os, h.tape, h.output, h.size, h.block⟩

set_option maxRecDepth 100000 in
set_option maxHeartbeats 1000000 in
theorem chunk1_iter (Bs Bn : Nat) (b off : Nat) (m cap : Nat) (w : World) (hBs : w.cell? ⟨Bs, 0, none⟩ = some (.slice (some ⟨b, off, none⟩) (8 * m) cap)) (hBn : w.cell? ⟨Bn, 0, none⟩ = some (.int .i64 8)) (hc : 8 * m ≤ cap) (hcm : cap ≤ 9223372036854775807) (hm : m ≤ 1000000) :
    Iter Try.prog 136 #[.pointer (some ⟨Bs, 0, none⟩), .pointer (some ⟨Bn, 0, none⟩)] (chunksOf (some ⟨b, off, none⟩) m) (fun b => b = Bs ∨ b = Bn) w := by
  intro l J Jx W T hW hTT hJ hJx hY h0
  have hls := World.block_lt_of_cell? w _ hBs
  have hln := World.block_lt_of_cell? w _ hBn
  have hBs' : W.cell? ⟨Bs, 0, none⟩ = some (.slice (some ⟨b, off, none⟩) (8 * m) cap) := (World.cell?_of_block (w := w) (a := ⟨Bs, 0, none⟩) (hW.block Bs (.inl rfl) hls)).trans hBs
  have hBn' : W.cell? ⟨Bn, 0, none⟩ = some (.int .i64 8) := (World.cell?_of_block (w := w) (a := ⟨Bn, 0, none⟩) (hW.block Bn (.inr rfl) hln)).trans hBn
  have hls' : Bs < W.heap.size := Nat.lt_of_lt_of_le hls hW.size
  have hln' : Bn < W.heap.size := Nat.lt_of_lt_of_le hln hW.size
  have hY' : ∀ k (hk : k < m) T' W1, (∀ b, T' b → b < W1.heap.size) → J k T' W1 → YieldAt Fence.wide 0 Try.prog l #[.slice (some ⟨b, off + 8 * k, none⟩) 8 8] W1 fun e W' =>
      (e = .returned (.bool true) ∧ J (k + 1) T' W' ∧ Kps (fun b => (b = Bs ∨ b = Bn) ∨ T' b) W1 W') ∨
      (e = .returned (.bool false) ∧ Jx (k + 1) T' W' ∧ Kps (fun b => (b = Bs ∨ b = Bn) ∨ T' b) W1 W') := by
    intro k hk T' W1 h1 h2
    have := hY k (by simpa [chunksOf] using hk) T' W1 h1 h2
    simpa [chunksOf, subP] using this
  have hlen : (chunksOf (some ⟨b, off, none⟩) m).length = m := by simp [chunksOf]
  rw [hlen]
  clear hY hlen
  have HY := Lib.hid hY'
  have HJ := Lib.hid hJ
  clear hY' hJ hJx hBs hBn hls hln
  have HC := Lib.hid hBs'
  have HN := Lib.hid hBn'
  clear hBs' hBn'
  obtain ⟨n, hn⟩ : ∃ n, 8 * m = n := ⟨_, rfl⟩
  rw [hn] at HC hc
  have hn1 : n = 8 * m := hn.symm
  have hn2 : n ≤ 8000000 := by omega
  have HNM := Lib.hid hn1
  clear hn hn1
  refine callsIn_of_wp Try.func136 rfl trivial ?_ rfl
  simp only [Try.ntmps136, List.size_toArray, List.length_cons, List.length_nil, Nat.reduceAdd, Nat.reduceSub, Array.replicate_succ, Array.replicate_zero, List.push_toArray, List.append_toArray, List.nil_append, List.cons_append]
  gi_wp2
  gi_loopw [4] (fun i wr => ∃ k j : Nat, k ≤ m ∧ i = .int .i64 (j : Int) ∧ Hid (j = 8 * k) ∧ J k T wr ∧ Kps (fun b => (b = Bs ∨ b = Bn) ∨ T b) W wr)
    (fun i _ => n - (intOf i).toNat)
  case atStart => exact ⟨0, 0, Nat.zero_le _, rfl, Lib.hid rfl, h0, Kps.refl _ _⟩
  case round =>
    obtain ⟨k, j, hk, rfl, hj, hJs, hnx⟩ := hrel
    have hcs : wr.cell? ⟨Bs, 0, none⟩ = some (.slice (some ⟨b, off, none⟩) n cap) := (World.cell?_of_block (w := W) (a := ⟨Bs, 0, none⟩) (hnx.block Bs (.inl (.inl rfl)) hls')).trans HC.out
    have hcn : wr.cell? ⟨Bn, 0, none⟩ = some (.int .i64 8) := (World.cell?_of_block (w := W) (a := ⟨Bn, 0, none⟩) (hnx.block Bn (.inl (.inr rfl)) hln')).trans HN.out
    by_cases hlt : k < m
    · have hjn : j + 8 ≤ n := by have := hj.out; have := HNM.out; omega
      have h1 : (j : Int) < (n : Int) := by omega
      have h2 : (8 : Int) ≤ ((n - j : Nat) : Int) := by omega
      have h3 : j ≤ n := by omega
      have h4 : j ≤ cap := by omega
      have h5 : j + 8 ≤ cap := by omega
      gi_wp2
      gi_quiet (fail)
      have hcs2 : (wr.drewN nq).cell? ⟨Bs, 0, none⟩ = some (.slice (some ⟨b, off, none⟩) n cap) := hcs
      have hcn2 : (wr.drewN nq).cell? ⟨Bn, 0, none⟩ = some (.int .i64 8) := hcn
      have hJ2 : J k T (wr.drewN nq) := HJ.out.same (W := wr) (W' := wr.drewN nq) rfl hJs ((Frn.refl T wr).drewN nq)
      have hnx2 := hnx.drewR nq
      have hy := HY.out k hlt T (wr.drewN nq) (fun b hb => Nat.lt_of_lt_of_le (hTT b hb) hnx.size) hJ2
      rw [← hj.out] at hy
      obtain ⟨fn, tmps, assign, body, hyy, hR⟩ := hy
      clear HY hcs hcn hJs hJ2 hnx
      gi_wp2
      refine ⟨rfl, hR.mono ?_⟩
      clear hR hyy
      rintro e W3 (⟨rfl, hJ3, hk3⟩ | ⟨rfl, hJx3, hk3⟩)
      · have hcn3 : W3.cell? ⟨Bn, 0, none⟩ = some (.int .i64 8) := (World.cell?_of_block (w := W) (a := ⟨Bn, 0, none⟩) ((hnx2.trans hk3).block Bn (.inl (.inr rfl)) hln')).trans HN.out
        gi_wp2
        go_roundw
        case rel => exact ⟨k + 1, j + 8, by omega, by go_num, Lib.hid (by have := hj.out; omega), hJ3, hnx2.trans hk3⟩
        case measure => simp [intOf]; omega
      · gi_wp2
        refine bodyPost_ret (results_none rfl _ _ _) rfl ?_
        exact ⟨⟨_, rfl⟩, .inr ⟨k + 1, T, by omega, by omega, hJx3, fun b hb => Nat.lt_of_lt_of_le (hTT b hb) (hnx2.trans hk3).size⟩⟩
    · have hjn : j = n := by have := hj.out; have := HNM.out; omega
      obtain rfl : k = m := by omega
      have hge : (n : Int) ≤ (j : Int) := by omega
      clear HY hjn
      gi_wp2
      go_end0
      exact ⟨⟨_, rfl⟩, .inl ⟨T, hJs, fun b hb => Nat.lt_of_lt_of_le (hTT b hb) hnx.size⟩⟩

set_option maxRecDepth 100000 in
set_option maxHeartbeats 1000000 in
theorem chunk0_iter (Bs Bn : Nat) (p : Option Addr) (cap : Nat) (w : World) (hBs : w.cell? ⟨Bs, 0, none⟩ = some (.slice p 0 cap)) :
    Iter Try.prog 136 #[.pointer (some ⟨Bs, 0, none⟩), .pointer (some ⟨Bn, 0, none⟩)] [] (fun b => b = Bs ∨ b = Bn) w := by
  intro l J Jx W T hW hTT hJ hJx hY h0
  have hls := World.block_lt_of_cell? w _ hBs
  have hBs' : W.cell? ⟨Bs, 0, none⟩ = some (.slice p 0 cap) := (World.cell?_of_block (w := w) (a := ⟨Bs, 0, none⟩) (hW.block Bs (.inl rfl) hls)).trans hBs
  clear hY hJ hJx hBs hls
  refine callsIn_of_wp Try.func136 rfl trivial ?_ rfl
  simp only [Try.ntmps136, List.size_toArray, List.length_cons, List.length_nil, Nat.reduceAdd, Nat.reduceSub, Array.replicate_succ, Array.replicate_zero, List.push_toArray, List.append_toArray, List.nil_append, List.cons_append]
  gi_wp2
  refine wpIn_loop_rounds 1 ?_
  rw [roundsIn_succ]
  gi_wp2
  go_end0
  exact ⟨⟨_, rfl⟩, .inl ⟨T, h0, hTT⟩⟩
theorem chunks_iter (Bs Bn : Nat) (p : Option Addr) (m cap : Nat) (w : World) (hBs : w.cell? ⟨Bs, 0, none⟩ = some (.slice p (8 * m) cap)) (hBn : w.cell? ⟨Bn, 0, none⟩ = some (.int .i64 8)) (hc : 8 * m ≤ cap) (hcm : cap ≤ 9223372036854775807) (hm : m ≤ 1000000)
    (hp : m = 0 ∨ ∃ b off, p = some ⟨b, off, none⟩) :
    Iter Try.prog 136 #[.pointer (some ⟨Bs, 0, none⟩), .pointer (some ⟨Bn, 0, none⟩)] (chunksOf p m) (fun b => b = Bs ∨ b = Bn) w := by
  rcases hp with rfl | ⟨b, off, rfl⟩
  · exact chunk0_iter Bs Bn p cap w hBs
  · exact chunk1_iter Bs Bn b off m cap w hBs hBn hc hcm hm
theorem chunksOf_len (p : Option Addr) (m : Nat) : (chunksOf p m).length = m := by simp [chunksOf]
theorem chunksOf_get (b off m k : Nat) (h : k < (chunksOf (some ⟨b, off, none⟩) m).length) : (chunksOf (some ⟨b, off, none⟩) m)[k] = #[Value.slice (some ⟨b, off + 8 * k, none⟩) 8 8] := by simp [chunksOf, subP]

set_option maxHeartbeats 400000 in
theorem chunk_any (p : Option Addr) (n cap : Nat) (w : World) :
    Calls Try.prog 107 #[.slice p n cap, .int .i64 8] w fun e w' => e = .returned (.func (.func 136) #[] #[.pointer (some ⟨w.heap.size, 0, none⟩), .pointer (some ⟨w.heap.size + 1, 0, none⟩)]) ∧ (w.alloc (.cells #[.slice p n cap] 70)).alloc (.cells #[.int .i64 8] 3) = w' := by
  go_enter Try.func107, Try.ntmps107
  go_wp2
  go_ret
  exact ⟨rfl, rfl⟩
set_option maxHeartbeats 400000 in
theorem wholes_any (p : Option Addr) (n cap : Nat) (w : World) :
    Calls Try.prog 73 #[.slice p n cap] w fun e w' => e = .returned (.func (.func 106) #[] #[.pointer (some ⟨w.heap.size, 0, none⟩)]) ∧ w.alloc (.cells #[.slice p n cap] 70) = w' := by
  go_enter Try.func73, Try.ntmps73
  go_wp2
  go_ret
  exact ⟨rfl, rfl⟩

end Go.Proofs.Ythhdipfadnihjaa
