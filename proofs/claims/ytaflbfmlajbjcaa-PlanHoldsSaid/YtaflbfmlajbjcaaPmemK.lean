/- The walks of the memory: slices.Chunk at words, Of, New. -/
import Derived.Test.YtaflbfmlajbjcaaPmemJ
import Derived.Test.YtaflbfmlajbjcaaRegFI
import Derived.Sort.QuietIn
import Derived.Laws.Cover3
namespace Go.Proofs.Ytaflbfmlajbjcaa
open Go Go.RowKit
attribute [local go_sem] Oper.semAt_some

theorem wpIn_np {F : Fence} {n : Nat} {P : Program} {id : Nat} {ops : Array Oper} {b : Bool} {Q : Exit → Act → World → Prop} {a : Act} {w : World} (h : (Code.region id ops b).wpIn F n P (NoPanic Q) a w) : (Code.region id ops b).wpIn F n P Q a w := wpIn_mono h NoPanic.imp
/-- A slice's address, so many elements on. -/
def subP (p : Option Addr) (k : Nat) : Option Addr := p.map fun a => { a with off := a.off + k }
def chunksOf (p : Option Addr) (m : Nat) : List (Array Value) := (List.range m).map fun i => #[Value.slice (subP p (8 * i)) 8 8]

theorem Kps.drewR {T : Nat → Prop} {A B : World} (h : Kps T A B) (n : Nat) : Kps T A (B.drewN n) := ⟨h.os, h.tape, h.output, h.size, h.block⟩

set_option maxRecDepth 100000 in
set_option maxHeartbeats 1000000 in
theorem chunk1_iter (Bs Bn : Nat) (b off : Nat) (m cap : Nat) (w : World) (hBs : w.cell? ⟨Bs, 0, none⟩ = some (.slice (some ⟨b, off, none⟩) (8 * m) cap)) (hBn : w.cell? ⟨Bn, 0, none⟩ = some (.int .i64 8)) (hc : 8 * m ≤ cap) (hcm : cap ≤ 9223372036854775807) (hm : m ≤ 1000000) :
    Iter Try.prog 80 #[.pointer (some ⟨Bs, 0, none⟩), .pointer (some ⟨Bn, 0, none⟩)] (chunksOf (some ⟨b, off, none⟩) m) (fun b => b = Bs ∨ b = Bn) w := by
  intro l J Jx W T hW hTT hJ hJx hY h0
  have hls := World.block_lt_of_cell? w _ hBs
  have hln := World.block_lt_of_cell? w _ hBn
  have hBs' : W.cell? ⟨Bs, 0, none⟩ = some (.slice (some ⟨b, off, none⟩) (8 * m) cap) := (World.cell?_of_block (w := w) (a := ⟨Bs, 0, none⟩) (hW.block Bs (.inl rfl) hls)).trans hBs
  have hBn' : W.cell? ⟨Bn, 0, none⟩ = some (.int .i64 8) := (World.cell?_of_block (w := w) (a := ⟨Bn, 0, none⟩) (hW.block Bn (.inr rfl) hln)).trans hBn
  have hls' : Bs < W.heap.size := Nat.lt_of_lt_of_le hls hW.size
  have hln' : Bn < W.heap.size := Nat.lt_of_lt_of_le hln hW.size
  have hY' : ∀ k (hk : k < m) T' W1, (∀ b, T' b → b < W1.heap.size) → J k T' W1 → YieldAt Fence.wide 0 Try.prog l #[.slice (some ⟨b, off + 8 * k, none⟩) 8 8] W1 fun e W' =>
      (e = .returned (.bool true) ∧ J (k + 1) T' W' ∧ Kps (fun b => (b = Bs ∨ b = Bn) ∨ T' b) W1 W') ∨
      (e = .returned (.bool false) ∧ Jx (k + 1) T' W' ∧ Kps (fun b => (b = Bs ∨ b = Bn) ∨ T' b) W1 W') := by
    intro k hk T' W1 h1 h2
    have := hY k (by simpa [chunksOf] using hk) T' W1 h1 h2
    simpa [chunksOf, subP] using this
  have hlen : (chunksOf (some ⟨b, off, none⟩) m).length = m := by simp [chunksOf]
  rw [hlen]
  clear hY hlen
  have HY := Lib.hid hY'
  have HJ := Lib.hid hJ
  clear hY' hJ hJx hBs hBn hls hln
  have HC := Lib.hid hBs'
  have HN := Lib.hid hBn'
  clear hBs' hBn'
  obtain ⟨n, hn⟩ : ∃ n, 8 * m = n := ⟨_, rfl⟩
  rw [hn] at HC hc
  have hn1 : n = 8 * m := hn.symm
  have hn2 : n ≤ 8000000 := by omega
  have HNM := Lib.hid hn1
  clear hn hn1
  refine callsIn_of_wp Try.func80 rfl trivial ?_ rfl
  simp only [Try.ntmps80, List.size_toArray, List.length_cons, List.length_nil, Nat.reduceAdd, Nat.reduceSub, Array.replicate_succ, Array.replicate_zero, List.push_toArray, List.append_toArray, List.nil_append, List.cons_append]
  gi_wp2
  gi_loopw [4] (fun i wr => ∃ k j : Nat, k ≤ m ∧ i = .int .i64 (j : Int) ∧ Hid (j = 8 * k) ∧ J k T wr ∧ Kps (fun b => (b = Bs ∨ b = Bn) ∨ T b) W wr)
    (fun i _ => n - (intOf i).toNat)
  case atStart => exact ⟨0, 0, Nat.zero_le _, rfl, Lib.hid rfl, h0, Kps.refl _ _⟩
  case round =>
    obtain ⟨k, j, hk, rfl, hj, hJs, hnx⟩ := hrel
    have hcs : wr.cell? ⟨Bs, 0, none⟩ = some (.slice (some ⟨b, off, none⟩) n cap) := (World.cell?_of_block (w := W) (a := ⟨Bs, 0, none⟩) (hnx.block Bs (.inl (.inl rfl)) hls')).trans HC.out
    have hcn : wr.cell? ⟨Bn, 0, none⟩ = some (.int .i64 8) := (World.cell?_of_block (w := W) (a := ⟨Bn, 0, none⟩) (hnx.block Bn (.inl (.inr rfl)) hln')).trans HN.out
    by_cases hlt : k < m
    · have hjn : j + 8 ≤ n := by have := hj.out; have := HNM.out; omega
      have h1 : (j : Int) < (n : Int) := by omega
      have h2 : (8 : Int) ≤ ((n - j : Nat) : Int) := by omega
      have h3 : j ≤ n := by omega
      have h4 : j ≤ cap := by omega
      have h5 : j + 8 ≤ cap := by omega
      gi_wp2
      gi_quiet (fail)
      have hcs2 : (wr.drewN nq).cell? ⟨Bs, 0, none⟩ = some (.slice (some ⟨b, off, none⟩) n cap) := hcs
      have hcn2 : (wr.drewN nq).cell? ⟨Bn, 0, none⟩ = some (.int .i64 8) := hcn
      have hJ2 : J k T (wr.drewN nq) := HJ.out.same (W := wr) (W' := wr.drewN nq) rfl hJs ((Frn.refl T wr).drewN nq)
      have hnx2 := hnx.drewR nq
      have hy := HY.out k hlt T (wr.drewN nq) (fun b hb => Nat.lt_of_lt_of_le (hTT b hb) hnx.size) hJ2
      rw [← hj.out] at hy
      obtain ⟨fn, tmps, assign, body, hyy, hR⟩ := hy
      clear HY hcs hcn hJs hJ2 hnx
      gi_wp2
      refine ⟨rfl, hR.mono ?_⟩
      clear hR hyy
      rintro e W3 (⟨rfl, hJ3, hk3⟩ | ⟨rfl, hJx3, hk3⟩)
      · have hcn3 : W3.cell? ⟨Bn, 0, none⟩ = some (.int .i64 8) := (World.cell?_of_block (w := W) (a := ⟨Bn, 0, none⟩) ((hnx2.trans hk3).block Bn (.inl (.inr rfl)) hln')).trans HN.out
        gi_wp2
        go_roundw
        case rel => exact ⟨k + 1, j + 8, by omega, by go_num, Lib.hid (by have := hj.out; omega), hJ3, hnx2.trans hk3⟩
        case measure => simp [intOf]; omega
      · gi_wp2
        refine bodyPost_ret (results_none rfl _ _ _) rfl ?_
        exact ⟨⟨_, rfl⟩, .inr ⟨k + 1, T, by omega, by omega, hJx3, fun b hb => Nat.lt_of_lt_of_le (hTT b hb) (hnx2.trans hk3).size⟩⟩
    · have hjn : j = n := by have := hj.out; have := HNM.out; omega
      obtain rfl : k = m := by omega
      have hge : (n : Int) ≤ (j : Int) := by omega
      clear HY hjn
      gi_wp2
      go_end0
      exact ⟨⟨_, rfl⟩, .inl ⟨T, hJs, fun b hb => Nat.lt_of_lt_of_le (hTT b hb) hnx.size⟩⟩

set_option maxRecDepth 100000 in
set_option maxHeartbeats 1000000 in
theorem chunk0_iter (Bs Bn : Nat) (p : Option Addr) (cap : Nat) (w : World) (hBs : w.cell? ⟨Bs, 0, none⟩ = some (.slice p 0 cap)) :
    Iter Try.prog 80 #[.pointer (some ⟨Bs, 0, none⟩), .pointer (some ⟨Bn, 0, none⟩)] [] (fun b => b = Bs ∨ b = Bn) w := by
  intro l J Jx W T hW hTT hJ hJx hY h0
  have hls := World.block_lt_of_cell? w _ hBs
  have hBs' : W.cell? ⟨Bs, 0, none⟩ = some (.slice p 0 cap) := (World.cell?_of_block (w := w) (a := ⟨Bs, 0, none⟩) (hW.block Bs (.inl rfl) hls)).trans hBs
  clear hY hJ hJx hBs hls
  refine callsIn_of_wp Try.func80 rfl trivial ?_ rfl
  simp only [Try.ntmps80, List.size_toArray, List.length_cons, List.length_nil, Nat.reduceAdd, Nat.reduceSub, Array.replicate_succ, Array.replicate_zero, List.push_toArray, List.append_toArray, List.nil_append, List.cons_append]
  gi_wp2
  refine wpIn_loop_rounds 1 ?_
  rw [roundsIn_succ]
  gi_wp2
  go_end0
  exact ⟨⟨_, rfl⟩, .inl ⟨T, h0, hTT⟩⟩
theorem chunks_iter (Bs Bn : Nat) (p : Option Addr) (m cap : Nat) (w : World) (hBs : w.cell? ⟨Bs, 0, none⟩ = some (.slice p (8 * m) cap)) (hBn : w.cell? ⟨Bn, 0, none⟩ = some (.int .i64 8)) (hc : 8 * m ≤ cap) (hcm : cap ≤ 9223372036854775807) (hm : m ≤ 1000000)
    (hp : m = 0 ∨ ∃ b off, p = some ⟨b, off, none⟩) :
    Iter Try.prog 80 #[.pointer (some ⟨Bs, 0, none⟩), .pointer (some ⟨Bn, 0, none⟩)] (chunksOf p m) (fun b => b = Bs ∨ b = Bn) w := by
  rcases hp with rfl | ⟨b, off, rfl⟩
  · exact chunk0_iter Bs Bn p cap w hBs
  · exact chunk1_iter Bs Bn b off m cap w hBs hBn hc hcm hm
theorem chunksOf_len (p : Option Addr) (m : Nat) : (chunksOf p m).length = m := by simp [chunksOf]
theorem chunksOf_get (b off m k : Nat) (h : k < (chunksOf (some ⟨b, off, none⟩) m).length) : (chunksOf (some ⟨b, off, none⟩) m)[k] = #[Value.slice (some ⟨b, off + 8 * k, none⟩) 8 8] := by simp [chunksOf, subP]

set_option maxHeartbeats 400000 in
theorem chunk_any (p : Option Addr) (n cap : Nat) (w : World) :
    Calls Try.prog 45 #[.slice p n cap, .int .i64 8] w fun e w' => e = .returned (.func (.func 80) #[] #[.pointer (some ⟨w.heap.size, 0, none⟩), .pointer (some ⟨w.heap.size + 1, 0, none⟩)]) ∧ (w.alloc (.cells #[.slice p n cap] 22)).alloc (.cells #[.int .i64 8] 3) = w' := by
  go_enter Try.func45, Try.ntmps45
  go_wp2
  go_ret
  exact ⟨rfl, rfl⟩

/-- Lines of words. -/
def lineAt (l : List (BitVec 64)) (k : Nat) : V8 := Vector.ofFn (fun j : Fin 8 => l.getD (8 * k + j) 0#64)
def linesOf (l : List (BitVec 64)) : List V8 := (List.range (l.length / 8)).map (lineAt l)
theorem linesOf_len (l : List (BitVec 64)) : (linesOf l).length = l.length / 8 := by simp [linesOf]
theorem linesOf_get (l : List (BitVec 64)) (k : Nat) (h : k < (linesOf l).length) : (linesOf l)[k] = lineAt l k := by simp [linesOf]
theorem linesOf_take (l : List (BitVec 64)) (k : Nat) (h : k < l.length / 8) : (linesOf l).take (k + 1) = (linesOf l).take k ++ [lineAt l k] := by
  rw [List.take_succ_eq_append_getElem (by rw [linesOf_len]; exact h), linesOf_get]
theorem range_line {B : Nat} {w : World} {b off cap : Nat} {l : List (BitVec 64)} (h : RdL B w (some ⟨b, off, none⟩) cap vw l) (h0 : 0 < cap) (k : Nat) (hk : 8 * k + 8 ≤ l.length) : w.rangeAt b (off + 8 * k) (ec (lineAt l k)) := by
  obtain ⟨h1, h2, h3⟩ := h
  rcases h3 with h3 | ⟨b', o', hp, hb, hc⟩
  · omega
  · cases hp
    intro j v hv
    have hj : j < 8 := by
      have := (List.getElem?_eq_some_iff.1 hv).1
      rwa [ec_len] at this
    have hh := hc (8 * k + j) (by omega)
    rw [Nat.add_assoc, hh]
    simp only [ec, lineAt, List.getElem?_map, Vector.toList_ofFn] at hv
    rw [List.getElem?_ofFn, dif_pos hj] at hv
    simp only [Option.map_some, Option.some.injEq] at hv
    rw [← hv, List.getD_eq_getElem?_getD, List.getElem?_eq_getElem (by omega)]
    rfl
theorem ec_lit (v : V8) : ec v = [vw v[0], vw v[1], vw v[2], vw v[3], vw v[4], vw v[5], vw v[6], vw v[7]] := by
  have := lineV_lit v
  unfold lineV at this
  have h2 : (ec v).toArray = #[vw v[0], vw v[1], vw v[2], vw v[3], vw v[4], vw v[5], vw v[6], vw v[7]] := by injection this
  have := congrArg Array.toList h2
  simpa using this
def Mem.of (vs : List V8) : Mem := vs.map fun v => ⟨v, v, none⟩
theorem of_len (vs : List V8) : (Mem.of vs).length = vs.length := by simp [Mem.of]
theorem of_nows (vs : List V8) : (Mem.of vs).nows = vs := by simp [Mem.of, Mem.nows, Function.comp_def]
theorem of_lst (vs : List V8) : (Mem.of vs).lst = vs := by simp [Mem.of, Mem.lst, Function.comp_def]
theorem of_qf (vs : List V8) : (Mem.of vs).qf = fun _ => none := by
  funext n
  simp only [Mem.of, Mem.qf, List.getElem?_map]
  cases vs[n]? <;> simp
/-- A memory is made. -/
theorem MAt.made {V : World} {vs : List V8} {pa pc : Option Addr} {ca cc b n base O : Nat} (hn : vs.length = n) (h0 : 0 < n) (hm : n ≤ 20000) (hO : V.heap[O]? = some (.cells #[.slice pa n ca, .slice pc n cc, .map (some b)] 64 (0, 0)))
    (h1 : OwnL V pa ca vs) (h2 : OwnL V pc cc vs) (hq : QAt V b (fun _ => none)) (d1 : ∀ x, inP pa ca x → base ≤ x ∧ x ≠ O ∧ x ≠ b ∧ ¬ inP pc cc x) (d2 : ∀ x, inP pc cc x → base ≤ x ∧ x ≠ O ∧ x ≠ b) (d3 : base ≤ b ∧ b ≠ O) (d4 : base ≤ O) :
    MAt V O (Mem.of vs) (fun x => base ≤ x ∧ x < V.heap.size) := by
  have hOl : O < V.heap.size := (Array.getElem?_eq_some_iff.1 hO).1
  refine ⟨pa, ca, pc, cc, b, n, (of_len vs).trans hn, h0, hm, hO, by rw [of_nows]; exact h1, by rw [of_lst]; exact h2, by rw [of_qf]; exact hq, ⟨d4, hOl⟩, ⟨d3.1, hq.lt⟩, fun x hx => ?_, fun x hx => ?_, Ne.symm d3.2⟩
  · exact ⟨⟨(d1 x hx).1, OwnG.lt h1 hx⟩, (d1 x hx).2⟩
  · exact ⟨⟨(d2 x hx).1, OwnG.lt h2 hx⟩, (d2 x hx).2⟩
/-- A memory that is made behind a loop over a function. -/
theorem MAt.fin {VF : World} {vs : List V8} {pa pc : Option Addr} {ca cc b n base O S D : Nat} (hn : vs.length = n) (h0 : 0 < n) (hm : n ≤ 20000) (hO : VF.heap[O]? = some (.cells #[.slice pa n ca, .slice pc n cc, .map (some b)] 64 (0, 0)))
    (h1 : OwnL VF pa ca vs) (h2 : OwnL VF pc cc vs) (hq : QAt VF b (fun _ => none)) (k1 : ∀ x, inP pa ca x → base ≤ x ∧ x < S ∧ x ≠ D) (k2 : ∀ x, inP pc cc x → S ≤ x ∧ x ≠ b ∧ x ≠ O) (kb : S ≤ b ∧ b ≠ O) (kO : S ≤ O) (hD : D < S) (hS : base ≤ S) :
    MAt (VF.putObj D (.deferred none)) O (Mem.of vs) (fun x => base ≤ x ∧ x < VF.heap.size) := by
  have e : ∀ x, x ≠ D → (VF.putObj D (.deferred none)).heap[x]? = VF.heap[x]? := fun x hx => World.putObj_heap_other (by first | exact hx | exact Ne.symm hx)
  have hsz : (VF.putObj D (.deferred none)).heap.size = VF.heap.size := by simp
  rw [← hsz]
  refine MAt.made hn h0 hm ((e O (by omega)).trans hO) (OwnG.keep h1 (fun x hx => e x (k1 x hx).2.2)) (OwnG.keep h2 (fun x hx => e x (by have := (k2 x hx).1; omega))) (hq.keep (e b (by omega))) (fun x hx => ?_) (fun x hx => ?_) ⟨by omega, kb.2⟩ (by omega)
  · have := k1 x hx
    exact ⟨this.1, by omega, by omega, fun h => by have := (k2 x h).1; omega⟩
  · have := k2 x hx
    exact ⟨by omega, this.2.2, this.2.1⟩
set_option maxRecDepth 100000 in
set_option maxHeartbeats 4000000 in
theorem of_any (pl : Option Addr) (capl : Nat) (l : List (BitVec 64)) (w : World) (hrd : RdL w.heap.size w pl capl vw l) (h8 : 8 ≤ l.length) (hmx : l.length ≤ 131072) (hmod : l.length % 8 = 0) :
    Calls Try.prog 13 #[.slice pl l.length capl] w fun e w' => ∃ O N, e = .returned (.tuple #[.pointer (some ⟨O, 0, none⟩), .int .i64 0]) ∧ MAt w' O (Mem.of (linesOf l)) N ∧ (∀ x, N x → w.heap.size ≤ x ∧ x < w'.heap.size) ∧ Below w.heap.size w w' := by
  obtain ⟨n, hn⟩ : ∃ n, l.length / 8 = n := ⟨_, rfl⟩
  have hn8 : l.length = 8 * n := by omega
  have hn0 : 0 < n := by omega
  have hnx : n ≤ 20000 := by omega
  have hrem : ((8 * n : Nat) : Int) % 8 = 0 := by omega
  have hc0 : 0 < capl := by have := hrd.1; omega
  obtain ⟨bl, ol, rfl, hbl, -⟩ := hrd.at 0 (by omega)
  obtain ⟨wb, hwb⟩ : ∃ wb, w.alloc (.cells #[.slice none 0 0] 61) = wb := ⟨_, rfl⟩
  have hzb : wb.heap.size = w.heap.size + 1 := by rw [← hwb]; simp
  have hbb : Below w.heap.size w wb := by rw [← hwb]; exact (Below.refl _ _).alloc (Nat.le_refl _) _
  have hcc : wb.heap[w.heap.size]? = some (.cells #[.slice none 0 0] 61 (0, 0)) := by rw [← hwb]; exact World.alloc_heap_new w _
  obtain ⟨W0, hW0⟩ : ∃ W0, (wb.alloc (.cells #[.slice (some ⟨bl, ol, none⟩) (8 * n) capl] 22)).alloc (.cells #[.int .i64 8] 3) = W0 := ⟨_, rfl⟩
  have hb0 : Below wb.heap.size wb W0 := by rw [← hW0]; exact ((Below.refl _ _).alloc (Nat.le_refl _) _).alloc (by simp) _
  have hz0 : W0.heap.size = w.heap.size + 3 := by rw [← hW0]; simp [hzb]
  have hbs : Box W0 (w.heap.size + 1) 22 (.slice (some ⟨bl, ol, none⟩) (8 * n) capl) := by rw [← hW0, ← hzb]; exact (Box.new _ _ _).alloc _
  have hbn : Box W0 (w.heap.size + 2) 3 (.int .i64 8) := by
    have := Box.new (wb.alloc (.cells #[.slice (some ⟨bl, ol, none⟩) (8 * n) capl] 22)) 3 (.int .i64 8)
    rw [World.size_alloc, hzb] at this
    rw [← hW0]; exact this
  have hs : Calls Try.prog 45 #[.slice (some ⟨bl, ol, none⟩) (8 * n) capl, .int .i64 8] wb fun e w' => e = .returned (.func (.func 80) #[] #[.pointer (some ⟨w.heap.size + 1, 0, none⟩), .pointer (some ⟨w.heap.size + 2, 0, none⟩)]) ∧ W0 = w' := by
    have := chunk_any (some ⟨bl, ol, none⟩) (8 * n) capl wb
    rw [hzb, hW0] at this
    exact this
  have hbw : Below w.heap.size w W0 := hbb.trans (hb0.mono (by omega))
  have hrd0 : RdL w.heap.size W0 (some ⟨bl, ol, none⟩) capl vw l := hrd.below hbw
  have hg0 : GathG 61 96 8 ec W0.heap.size (fun _ => False) W0 w.heap.size [] :=
    ⟨none, 0, (hb0.block _ (by omega)).trans hcc, OwnG.nil _ _ _ _ _, by rintro b ⟨a, ha, _⟩; cases ha⟩
  have hle2 := hrd.1
  have hmax2 := hrd.2.1
  unfold maxLen at hmax2
  rw [hn8] at hle2 ⊢
  have HS := Lib.hid hs
  have HWB := Lib.hid hwb
  have HB0 := Lib.hid (And.intro hbw hz0)
  have HRD := Lib.hid hrd0
  have HM := Lib.hid (And.intro hbs hbn)
  have HL8 := Lib.hid (And.intro hn8 hn)
  obtain ⟨A, hA⟩ : ∃ A, 8 * n = A := ⟨_, rfl⟩
  have hA1 : (8 : Int) ≤ (A : Int) := by omega
  have hA2 : (A : Int) ≤ 131072 := by omega
  have hd1 : decide ((A : Int) < 8) = false := decide_eq_false (by omega)
  have hd2 : decide (131072 < (A : Int)) = false := decide_eq_false (by omega)
  have HA := Lib.hid hA
  have hit := chunks_iter (w.heap.size + 1) (w.heap.size + 2) (some ⟨bl, ol, none⟩) n capl W0 hbs.cell hbn.cell hle2 hmax2 (by omega) (.inr ⟨_, _, rfl⟩)
  have HIT := Lib.hid hit
  rw [hA] at HS hrem ⊢
  have hn2 := hn0
  clear hrd hbb hcc hwb hs hb0 hbs hbn hW0 hbw hrd0 hn8 hn h8 hmx hmod hle2 hmax2 hit hA
  refine (callsIn_wide (n := 0)).1 ?_
  refine callsIn_of_wp_marks Try.func13 rfl trivial ?_ rfl
  simp only [Try.ntmps13, List.size_toArray, List.length_cons, List.length_nil, Nat.reduceAdd, Nat.reduceSub, Array.replicate_succ, Array.replicate_zero, List.push_toArray, List.append_toArray, List.nil_append, List.cons_append]
  gi_wp2
  rw [HWB.out]
  refine wcall HS.out ?_
  rintro e w0 ⟨rfl, rfl⟩
  gi_wp2
  refine rf_law (gf := 80) (lb := #[.pointer (some ⟨w.heap.size + 1, 0, none⟩), .pointer (some ⟨w.heap.size + 2, 0, none⟩)]) rfl (enters_of Try.func80 (by kernel_rfl) rfl)
    HIT.out (by simp [chunksOf]) ?hFP
    (fun k T W => Keep (fun b => b = w.heap.size) W0 T W ∧ GathG 61 96 8 ec W0.heap.size T W w.heap.size ((linesOf l).take k))
    (fun _ _ _ _ => False) ?hJ (fun _ _ _ _ _ h _ => h) ?h0 ?hround ?hdone ?hstop
  case hFP =>
    rintro b (rfl | rfl) <;> omega
  case hJ =>
    rintro k T W W' ⟨h1, h2⟩ hf
    exact ⟨h1.go hf, h2.go (h1.notT (by omega)) hf⟩
  case h0 => exact ⟨Keep.start _ _, hg0⟩
  case hround =>
    rintro l2 k hk T W ⟨hs, hgt⟩ hTl hTW hkW
    have hk' : k < n := by simpa [chunksOf] using hk
    have hts := linesOf_take l k (by have := HL8.out; omega)
    have htl : ((linesOf l).take k).length = k := by rw [List.length_take, linesOf_len]; have := HL8.out; omega
    rw [chunksOf_get]
    obtain ⟨v, hv⟩ : ∃ v, lineAt l k = v := ⟨_, rfl⟩
    rw [hv] at hts
    have HTS := Lib.hid hts
    have HTL := Lib.hid htl
    have HV := Lib.hid hv
    clear hts hv htl
    gi_wp2
    refine ⟨Kps.refl _ _, fun W2 hf hsz hk2 _ => ?_⟩
    have hs2 := hs.goSame hf hsz
    have hszW : W0.heap.size ≤ W.heap.size := hkW.size
    have hnT : ¬ T w.heap.size := hs.notT (by omega)
    have hgt2 : GathG 61 96 8 ec W0.heap.size T W2 w.heap.size ((linesOf l).take k) := by
      have := hgt.go hnT hf
      rwa [grow_same hsz] at this
    obtain ⟨p, cap, hgo2, hgw2, hgb⟩ := hgt2
    rw [HTL.out] at hgo2
    have hco : W2.cell? ⟨w.heap.size, 0, none⟩ = some (.slice p k cap) := by simp [World.cell?, hgo2]
    have hfo : W2.frozen? ⟨w.heap.size, 0, none⟩ = false := by simp [World.frozen?, hgo2]
    have hrW : RdL w.heap.size W2 (some ⟨bl, ol, none⟩) capl vw l := HRD.out.keep fun a ha h0 => hs2.frn.block _ (by have := HRD.out.lt ha h0; omega) (by have := HRD.out.lt ha h0; omega)
    have hrg := range_line hrW hc0 k (by have := HL8.out; omega)
    rw [HV.out] at hrg
    have hat : ∀ w, (Instr.arrayAt 96 (.slice (some ⟨bl, ol + 8 * k, none⟩) 8 8)).run Try.prog w = .ok (.pointer (some ⟨bl, ol + 8 * k, none⟩)) w := fun w => run_arrayAt w 96 36 8 _ 8 8 (by kernel_rfl) (Nat.le_refl _)
    have HS2 := Lib.hid hs2
    have HGW := Lib.hid hgw2
    have HGO := Lib.hid hgo2
    have HGB := Lib.hid hgb
    have HNT := Lib.hid hnT
    have hlW : W0.heap.size ≤ W2.heap.size := by rw [hsz]; exact hszW
    have HTW := Lib.hid (show ∀ b, T b → b < W2.heap.size from fun b hb => by rw [hsz]; exact hTW b hb)
    have HOL := Lib.hid (show w.heap.size < W2.heap.size by omega)
    have HBL := Lib.hid (show bl < W2.heap.size by omega)
    clear hf hkW hk2 hs hs2 hgt hgw2 hgb hgo2 hg0 hsz hTW hrW
    obtain ⟨WA, hWA⟩ : ∃ WA, (W2.alloc (.cells #[vw v[0], vw v[1], vw v[2], vw v[3], vw v[4], vw v[5], vw v[6], vw v[7]] 96)).drew = WA := ⟨_, rfl⟩
    have hbA : Below W2.heap.size W2 WA := by rw [← hWA]; exact ((Below.refl _ W2).alloc (Nat.le_refl _) _).drew
    have hxA : WA.heap[W2.heap.size]? = some (.cells (ec v).toArray 96 (0, 0)) := by
      rw [← hWA, ec_lit]
      exact World.alloc_heap_new W2 _
    have HCA := Lib.hid (And.intro ((hbA.cell (p := ⟨w.heap.size, 0, none⟩) HOL.out).trans hco) (And.intro (rangeAt_below hrg hbA HBL.out) hxA))
    have HOA : Hid (OwnO WA 96 8 p cap k (((linesOf l).take k).flatMap ec)) := Lib.hid (by
      have := OwnG.below HGW.out hbA
      unfold OwnG at this
      rwa [HTL.out] at this)
    have HFA : Hid (Frn (inP p cap) W2 WA) := Lib.hid (Frn.of_below hbA)
    have HWA := Lib.hid hWA
    clear hWA hbA hxA
    gi_wp2
    refine wpIn_np ?_
    refine wpIn_region_FI (fun kx w' => kx = 6 → (fun w' => w'.cell? ⟨w.heap.size, 0, none⟩ = some (.slice p k cap) ∧ w'.rangeAt bl (ol + 8 * k) (ec v)) w') (by kernel_rfl) (fun _ _ => ⟨hco, hrg⟩) ?_
    intro hTill
    clear hTill
    have hall : ∀ kx : Nat, kx = 6 → (fun w' => w'.cell? ⟨w.heap.size, 0, none⟩ = some (.slice p k cap) ∧ w'.rangeAt bl (ol + 8 * k) (ec v)) W2.drew := fun _ _ => ⟨hco, hrg⟩
    refine' wpAnyFI_take (i := 0) (v := _) 6 (by kernel_rfl) rfl (by kernel_rfl) (by kernel_rfl) (by kernel_rfl) (by kernel_rfl) (by rfl) (by rfl) (fun _ _ _ h => h) (fun _ h => absurd h (by decide)) ⟨Or.inl ⟨by rfl, ?hy⟩, fun _ => rfl⟩ (fun kx _ => hall kx) _
    case hy => (intro w0 hC; replace hC := hC rfl; (try dsimp only at hC); simp only [List.getElem_toArray, List.getElem_cons_zero]; go_simp; first | done | with_reducible rfl)
    try simp only [Act.put, List.getElem_toArray, List.getElem_cons_zero, List.setIfInBounds_toArray, List.set_cons_zero, List.set_cons_succ]
    refine' wpAnyFI_take (i := 1) (v := _) 6 (by kernel_rfl) rfl (by kernel_rfl) (by kernel_rfl) (by kernel_rfl) (by kernel_rfl) (by rfl) (by rfl) (fun _ _ _ h => h) (fun _ h => absurd h (by decide)) ⟨Or.inl ⟨by rfl, ?hy⟩, fun _ => rfl⟩ (fun kx _ => hall kx) _
    case hy => (intro w0 hC; replace hC := hC rfl; (try dsimp only at hC); simp only [List.getElem_toArray, List.getElem_cons_zero, List.getElem_cons_succ]; go_simp; first | done | with_reducible rfl)
    try simp only [Act.put, List.getElem_toArray, List.getElem_cons_zero, List.getElem_cons_succ, List.setIfInBounds_toArray, List.set_cons_zero, List.set_cons_succ]
    refine' wpAnyFI_take (i := 2) (v := _) 6 (by kernel_rfl) rfl (by kernel_rfl) (by kernel_rfl) (by kernel_rfl) (by kernel_rfl) (by rfl) (by rfl) (fun _ _ _ h => h) (fun _ h => absurd h (by decide)) ⟨Or.inl ⟨by rfl, ?hy⟩, fun _ => rfl⟩ (fun kx _ => hall kx) _
    case hy => (intro w0 hC; replace hC := hC rfl; (try dsimp only at hC); simp only [List.getElem_toArray, List.getElem_cons_zero, List.getElem_cons_succ]; go_simp; first | done | with_reducible rfl)
    try simp only [Act.put, List.getElem_toArray, List.getElem_cons_zero, List.getElem_cons_succ, List.setIfInBounds_toArray, List.set_cons_zero, List.set_cons_succ]
    refine' wpAnyFI_take (i := 3) (v := lineV v) 6 (by kernel_rfl) rfl (by kernel_rfl) (by kernel_rfl) (by kernel_rfl) (by kernel_rfl) (by rfl) (by rfl) (fun _ _ _ h => h) (fun _ h => absurd h (by decide)) ⟨yieldsIf_load_mid (by rfl) 96 (.tmp 25) rfl bl (ol + 8 * k) rfl (ec v) (.array 8 36) (fun _ hC => (hC rfl).2) (by kernel_rfl) rfl (by rw [ec_len]; kernel_rfl), fun _ => rfl⟩ (fun kx _ => hall kx) _
    try simp only [Act.put, List.getElem_toArray, List.getElem_cons_zero, List.getElem_cons_succ, List.setIfInBounds_toArray, List.set_cons_zero, List.set_cons_succ]
    rw [lineV_lit]
    refine wpAnyFI_one (i := 4) (by kernel_rfl) rfl ?_
    intro K' hK
    rw [if_pos (by kernel_rfl)]
    gi_wp2
    rw [HWA.out]
    refine hK.out _ _ (fun k _ _ => ⟨HCA.out.1, HCA.out.2.1⟩) ?_
    clear hK K'
    try simp only [Act.put, List.getElem_toArray, List.getElem_cons_zero, List.getElem_cons_succ, List.setIfInBounds_toArray, List.set_cons_zero, List.set_cons_succ]
    refine wpAnyFI_one (i := 5) (by kernel_rfl) rfl ?_
    intro K' hK
    rw [if_pos (by kernel_rfl)]
    refine wpIn_append_ownO (.tmp 23) (.tmp 27) _ rfl elem_line p cap k (((linesOf l).take k).flatMap ec) rfl HOA.out ⟨W2.heap.size, 0, none⟩ 1 1 (ec v) rfl (by rw [ec_len]) (block_news HCA.out.2.2) (ec_one v) (by decide) (by unfold maxLen; omega) (by omega) ?_
    intro p2 cap2 w3 hown hf3 hq3
    have hf4 : Frn (inP p cap) W2 w3 := HFA.out.trans hf3
    have hlO := HOL.out
    have hO3 := (hf4.block w.heap.size hlO (fun hi => by have := (HGB.out _ hi).1; omega)).trans HGO.out
    have l0 : w3.cell? ⟨w.heap.size, 0, none⟩ = some (.slice p k cap) := by simp [World.cell?, hO3]
    have l1 : w3.frozen? ⟨w.heap.size, 0, none⟩ = false := by simp [World.frozen?, hO3]
    have hrg3 : w3.rangeAt bl (ol + 8 * k) (ec v) := fun j u hu => (World.cell?_of_block (w := W2) (a := ⟨bl, ol + 8 * k + j, none⟩) (hf4.block bl HBL.out (fun hi => by have := (HGB.out _ hi).1; omega))).trans (hrg j u hu)
    have HO3 := Lib.hid hO3
    have HP3 := Lib.hid hown
    have HF3 := Lib.hid hf4
    have HQ3 := Lib.hid (show ∀ b, inP p2 cap2 b → inP p cap b ∨ (W2.heap.size ≤ b ∧ b < w3.heap.size) from fun b hb => (hq3 b hb).imp id (fun h => ⟨Nat.le_trans HFA.out.size h.1, h.2⟩))
    have HL0 := Lib.hid (And.intro l0 hrg3)
    clear hown hf3 hq3 hf4 hlO hO3
    refine hK.out _ _ (fun k _ _ => HL0.out) ?_
    clear hK K'
    try simp only [Act.put, List.getElem_toArray, List.getElem_cons_zero, List.getElem_cons_succ, List.setIfInBounds_toArray, List.set_cons_zero, List.set_cons_succ]
    clear hall hrg3
    refine wpAnyFI_one (i := 6) (by kernel_rfl) rfl ?_
    intro K' hK
    rw [if_pos (by kernel_rfl)]
    gi_wp2
    refine hK.out _ _ (fun k hk h => Bool.noConfusion (hk.symm.trans (by subst h; kernel_rfl : _ = true))) ?_
    clear hK K'
    try simp only [Act.put, List.getElem_toArray, List.getElem_cons_zero, List.getElem_cons_succ, List.setIfInBounds_toArray, List.set_cons_zero, List.set_cons_succ]
    refine wpAnyFI_done (by kernel_rfl) ?_ _
    refine NoPanic.normal ?_
    have hb2 : ∀ b, inP p2 cap2 b → W0.heap.size ≤ b ∧ ¬ T b := fun b hb => by
      rcases HQ3.out b hb with h | h
      · exact HGB.out b h
      · exact ⟨by omega, fun ht => by have := HTW.out b ht; have := h.1; omega⟩
    gi_wp2
    refine ⟨⟨Keep.set ⟨⟨HF3.out.os.trans HS2.out.frn.os, HF3.out.tape.trans HS2.out.frn.tape, HF3.out.output.trans HS2.out.frn.output, Nat.le_trans HS2.out.frn.size HF3.out.size, fun b hb hn => (HF3.out.block b (Nat.lt_of_lt_of_le hb hlW) (fun hi => by have := (HGB.out b hi).1; omega)).trans (HS2.out.frn.block b hb hn)⟩, HS2.out.old⟩ ⟨w.heap.size, 0, none⟩ (.inl rfl) _, p2, cap2, ?_, ?_, hb2⟩, ?_⟩
    · have h1 := heap_setCell_same w3 w.heap.size 0 _ _ (.slice p2 (k + 1) cap2) HO3.out
      rw [HTS.out, List.length_append, HTL.out]
      simpa using h1
    · rw [HTS.out]
      have h1 : OwnO w3 96 8 p2 cap2 ((linesOf l).take k ++ [v]).length (((linesOf l).take k ++ [v]).flatMap ec) := by
        rw [List.length_append, HTL.out, List.flatMap_append]
        simpa using HP3.out
      exact OwnG.keep h1 fun b hb => heap_setCell_other _ ⟨w.heap.size, 0, none⟩ b _ (fun e => by have := (hb2 b hb).1; simp only at e; omega)
    · have hk1 : Kps (fun b => (b = w.heap.size + 1 ∨ b = w.heap.size + 2) ∨ T b) W2 w3 := ⟨HF3.out.os, HF3.out.tape, HF3.out.output, HF3.out.size, fun b hb hl => HF3.out.block b hl (fun hi => by
        rcases hb with (rfl | rfl) | hb
        · have := (HGB.out _ hi).1; omega
        · have := (HGB.out _ hi).1; omega
        · exact (HGB.out _ hi).2 hb)⟩
      refine hk1.setCell ⟨w.heap.size, 0, none⟩ ?_ _
      rintro ((h | h) | h)
      · simp only at h; omega
      · simp only at h; omega
      · exact HNT.out h
  case hstop =>
    intro D c k T W _ _ h
    exact h.elim
  case hdone =>
    rintro D T W ⟨hs, hgt⟩ hTD hTW hkW hD hK
    rw [chunksOf_len, List.take_of_length_le (by rw [linesOf_len, HL8.out.2]; exact Nat.le_refl _)] at hgt
    obtain ⟨p, cap, hgo, hgw, hgb⟩ := hgt
    rw [linesOf_len, HL8.out.2] at hgo
    have hco : W.cell? ⟨w.heap.size, 0, none⟩ = some (.slice p n cap) := by simp [World.cell?, hgo]
    have hHL : OwnL W.drew p cap (linesOf l) := hgw.keep fun _ _ => rfl
    have hcd : W.drew.cell? ⟨w.heap.size, 0, none⟩ = some (.slice p n cap) := hco
    have hWl : W0.heap.size ≤ W.heap.size := hs.frn.size
    have HOL := Lib.hid (show w.heap.size < W.heap.size by omega)
    have HGW := Lib.hid (And.intro hHL (And.intro (show ∀ b, inP p cap b → W0.heap.size ≤ b ∧ b < W.heap.size from fun b hb => ⟨(hgb b hb).1, hgw.lt hb⟩) (And.intro hK (show D < W.heap.size from hTW D hTD))))
    have HWL := Lib.hid (show w.heap.size < W.heap.size by omega)
    have HSS := Lib.hid hs
    have HLL := Lib.hid (show (linesOf l).length = n by rw [linesOf_len, HL8.out.2])
    have HKD := Lib.hid (show ∀ x, inP p cap x → x ≠ D from fun x hx e => (hgb x hx).2 (by rw [e]; exact hTD))
    have HCL := Lib.hid (show ∀ V, Below W.heap.size W.drew V → Calls Try.prog 46 #[.slice p n cap] V fun e w' => ∃ p' c', e = .returned (.slice p' n c') ∧ OwnL w' p' c' (linesOf l) ∧ (∀ b, inP p' c' b → V.heap.size ≤ b) ∧ Below V.heap.size V w' from fun V hV => by
      have hh := cloneL_any p cap (linesOf l) V ((OwnG.keep HGW.out.1 (fun x hx => hV.block x (HGW.out.2.1 x hx).2)).rds ec_len) (by rw [HLL.out]; exact hn0) (by rw [HLL.out]; omega)
      rw [HLL.out] at hh
      exact hh)
    have hD2 := Lib.hid (show w.heap.size ≤ D by omega)
    clear hkW hg0 hs hgo hgw hgb hK hTW hHL hco hTD hD
    gi_wp2
    refine (wpIn_wide (n := 0)).2 ?_
    refine wp_region_noPanic ?_
    refine wp_region_F 6 (fun w' => w'.cell? ⟨w.heap.size, 0, none⟩ = some (.slice p n cap)) (by kernel_rfl) ?_ (fun hHeld => ?_)
    · exact hcd
    refine' wpAnyF_take (i := 0) (v := _) rfl (by kernel_rfl) (by kernel_rfl) (by kernel_rfl) (by kernel_rfl) (by rfl) (by kernel_rfl) (fun _ _ _ h => h) (Or.inl ⟨by rfl, ?hy⟩) hHeld _
    case hy => (intro w0 hSw; (try dsimp only at hSw); simp only [List.getElem_toArray, List.getElem_cons_zero]; go_simp; first | done | with_reducible rfl)
    simp only [Act.put, List.getElem_toArray, List.getElem_cons_zero, List.setIfInBounds_toArray, List.set_cons_zero, List.set_cons_succ]
    refine' wpAnyF_take (i := 1) (v := _) rfl (by kernel_rfl) (by kernel_rfl) (by kernel_rfl) (by kernel_rfl) (by rfl) (by kernel_rfl) (fun _ _ _ h => h) (Or.inl ⟨by rfl, ?hy⟩) hHeld _
    case hy => (intro w0 hSw; (try dsimp only at hSw); simp only [List.getElem_toArray, List.getElem_cons_zero, List.getElem_cons_succ]; go_simp; first | done | with_reducible rfl)
    simp only [Act.put, List.getElem_toArray, List.getElem_cons_zero, List.getElem_cons_succ, List.setIfInBounds_toArray, List.set_cons_zero, List.set_cons_succ]
    refine wpAnyF_two (i := 2) (j := 3) (by kernel_rfl) rfl rfl (fun K hK => ?_) (fun K hK => ?_)
    · have HBV := Lib.hid (show Below W.heap.size W.drew W.drew from Below.refl _ _)
      go_simp
      refine (HCL.out _ HBV.out).mono ?_
      rintro e w1 ⟨p2, c2, rfl, ho2, hp2, hb1⟩
      have hb2 : Below W.heap.size W.drew w1 := HBV.out.trans (hb1.mono HBV.out.size)
      have hx1 := (hb2.cell (p := ⟨w.heap.size, 0, none⟩) HOL.out).trans hcd
      have H1 := Lib.hid (And.intro ho2 (And.intro hp2 (And.intro hb1 hb2)))
      clear ho2 hp2 hb1 hb2
      refine hK.out _ _ (fun _ => hx1) ?_
      clear hK K
      try simp only [Act.put, List.getElem_toArray, List.getElem_cons_zero, List.getElem_cons_succ, List.setIfInBounds_toArray, List.set_cons_zero, List.set_cons_succ]
      refine wpAnyF_one (i := 3) (by kernel_rfl) rfl (fun K hK => ?_)
      go_simp
      refine hK.out _ _ (fun _ => ?_) ?_
      · exact ((H1.out.2.2.2.alloc H1.out.2.2.2.size _).cell (p := ⟨w.heap.size, 0, none⟩) HOL.out).trans hcd
      clear hK K
      try simp only [Act.put, List.getElem_toArray, List.getElem_cons_zero, List.getElem_cons_succ, List.setIfInBounds_toArray, List.set_cons_zero, List.set_cons_succ]
      refine wpAnyF_one (i := 4) (by kernel_rfl) rfl (fun K hK => ?_)
      go_simp
      refine hK.out _ _ (fun _ => ?_) ?_
      · exact ((H1.out.2.2.2.alloc H1.out.2.2.2.size _).cell (p := ⟨w.heap.size, 0, none⟩) HOL.out).trans hcd
      clear hK K
      try simp only [Act.put, List.getElem_toArray, List.getElem_cons_zero, List.getElem_cons_succ, List.setIfInBounds_toArray, List.set_cons_zero, List.set_cons_succ]
      refine wpAnyF_one (i := 5) (by kernel_rfl) rfl (fun K hK => ?_)
      go_simp
      refine hK.out _ _ (fun _ => ?_) ?_
      · exact (((H1.out.2.2.2.alloc H1.out.2.2.2.size _).alloc (Nat.le_trans H1.out.2.2.2.size (by simp)) _).cell (p := ⟨w.heap.size, 0, none⟩) HOL.out).trans hcd
      clear hK K
      try simp only [Act.put, List.getElem_toArray, List.getElem_cons_zero, List.getElem_cons_succ, List.setIfInBounds_toArray, List.set_cons_zero, List.set_cons_succ]
      refine wpAnyF_one (i := 6) (by kernel_rfl) rfl (fun K hK => ?_)
      go_simp
      refine hK.out _ _ (fun h => Bool.noConfusion (h.symm.trans (by kernel_rfl : _ = true))) ?_
      clear hK K
      try simp only [Act.put, List.getElem_toArray, List.getElem_cons_zero, List.getElem_cons_succ, List.setIfInBounds_toArray, List.set_cons_zero, List.set_cons_succ]
      refine wpAnyF_one (i := 7) (by kernel_rfl) rfl (fun K hK => ?_)
      go_simp
      refine hK.out _ _ (fun h => Bool.noConfusion (h.symm.trans (by kernel_rfl : _ = true))) ?_
      clear hK K
      try simp only [Act.put, List.getElem_toArray, List.getElem_cons_zero, List.getElem_cons_succ, List.setIfInBounds_toArray, List.set_cons_zero, List.set_cons_succ]
      refine wpAnyF_done (by kernel_rfl) ?_ _
      refine NoPanic.normal ?_
      gi_wp2
      have hbm : Below w1.heap.size w1 (w1.alloc (.map #[] 0)) := (Below.refl _ _).alloc (Nat.le_refl _) _
      have hbf : Below (w1.alloc (.map #[] 0)).heap.size (w1.alloc (.map #[] 0)) ((w1.alloc (.map #[] 0)).alloc (.cells #[.slice p n cap, .slice p2 n c2, .map (some w1.heap.size)] 64)) := (Below.refl _ _).alloc (Nat.le_refl _) _
      have hbmf : Below w1.heap.size w1 ((w1.alloc (.map #[] 0)).alloc (.cells #[.slice p n cap, .slice p2 n c2, .map (some w1.heap.size)] 64)) := hbm.trans (hbf.mono (by simp))
      have hOo : ((w1.alloc (.map #[] 0)).alloc (.cells #[.slice p n cap, .slice p2 n c2, .map (some w1.heap.size)] 64)).heap[w1.heap.size + 1]? = some (.cells #[.slice p n cap, .slice p2 n c2, .map (some w1.heap.size)] 64 (0, 0)) := by
        have := World.alloc_heap_new (w1.alloc (.map #[] 0)) (.cells #[.slice p n cap, .slice p2 n c2, .map (some w1.heap.size)] 64)
        rw [World.size_alloc] at this
        exact this
      have hs1 : W.heap.size ≤ w1.heap.size := H1.out.2.2.2.size
      have hfin := MAt.fin (S := W.heap.size) (D := D) (base := w.heap.size) HLL.out hn0 hnx hOo ((HGW.out.1.keep (fun x hx => H1.out.2.2.2.block x (HGW.out.2.1 x hx).2)).below hbmf) (H1.out.1.below hbmf) ((QAt.made w1).keep (hbf.block _ (by simp))) (fun x hx => ⟨by have := (HGW.out.2.1 x hx).1; have := HB0.out.1.size; omega, (HGW.out.2.1 x hx).2, HKD.out x hx⟩) (fun x hx => ⟨H1.out.2.1 x hx, by have := H1.out.1.lt hx; omega, by have := H1.out.1.lt hx; omega⟩) ⟨hs1, by omega⟩ (by omega) HGW.out.2.2.2 (Nat.le_of_lt HWL.out)
      have hend := H1.out.2.2.2.trans (hbmf.mono hs1)
      generalize (w1.alloc (.map #[] 0)).alloc (.cells #[.slice p n cap, .slice p2 n c2, .map (some w1.heap.size)] 64) = WF at *
      have hDF : WF.heap[D]? = some (.deferred (some [])) := (hend.block D HGW.out.2.2.2).trans HGW.out.2.2.1
      refine leave1 (v := .tuple #[.pointer (some ⟨w1.heap.size + 1, 0, none⟩), .int .i64 0]) rfl hDF (by simp [results, Try.results13, go_sem]) ⟨w1.heap.size + 1, _, rfl, hfin, fun x hx => ⟨hx.1, by simpa using hx.2⟩, ?_⟩
      exact below_putObj (HB0.out.1.trans (((HSS.out.frn.below (n := w.heap.size) HB0.out.1.size (by rintro b rfl; exact Nat.le_refl _)).drew).trans (hend.mono (Nat.le_of_lt HWL.out)))) hD2.out _
    · go_simp
      refine hK.out _ _ (fun _ => (((Below.refl W.heap.size W.drew).alloc (Nat.le_refl _) (.map #[] 0)).cell (p := ⟨w.heap.size, 0, none⟩) HOL.out).trans hcd) ?_
      clear hK K
      try simp only [Act.put, List.getElem_toArray, List.getElem_cons_zero, List.getElem_cons_succ, List.setIfInBounds_toArray, List.set_cons_zero, List.set_cons_succ]
      have HBV := Lib.hid (show Below W.heap.size W.drew (W.drew.alloc (.map #[] 0)) from (Below.refl W.heap.size W.drew).alloc (Nat.le_refl _) (.map #[] 0))
      refine wpAnyF_one (i := 2) (by kernel_rfl) rfl (fun K hK => ?_)
      go_simp
      refine (HCL.out _ HBV.out).mono ?_
      rintro e w1 ⟨p2, c2, rfl, ho2, hp2, hb1⟩
      have hb2 : Below W.heap.size W.drew w1 := HBV.out.trans (hb1.mono HBV.out.size)
      have hx1 := (hb2.cell (p := ⟨w.heap.size, 0, none⟩) HOL.out).trans hcd
      have H1 := Lib.hid (And.intro ho2 (And.intro hp2 (And.intro hb1 hb2)))
      clear ho2 hp2 hb1 hb2
      refine hK.out _ _ (fun _ => hx1) ?_
      clear hK K
      try simp only [Act.put, List.getElem_toArray, List.getElem_cons_zero, List.getElem_cons_succ, List.setIfInBounds_toArray, List.set_cons_zero, List.set_cons_succ]
      refine wpAnyF_one (i := 4) (by kernel_rfl) rfl (fun K hK => ?_)
      go_simp
      refine hK.out _ _ (fun _ => ?_) ?_
      · exact (H1.out.2.2.2.cell (p := ⟨w.heap.size, 0, none⟩) HOL.out).trans hcd
      clear hK K
      try simp only [Act.put, List.getElem_toArray, List.getElem_cons_zero, List.getElem_cons_succ, List.setIfInBounds_toArray, List.set_cons_zero, List.set_cons_succ]
      refine wpAnyF_one (i := 5) (by kernel_rfl) rfl (fun K hK => ?_)
      go_simp
      refine hK.out _ _ (fun _ => ?_) ?_
      · exact ((H1.out.2.2.2.alloc H1.out.2.2.2.size _).cell (p := ⟨w.heap.size, 0, none⟩) HOL.out).trans hcd
      clear hK K
      try simp only [Act.put, List.getElem_toArray, List.getElem_cons_zero, List.getElem_cons_succ, List.setIfInBounds_toArray, List.set_cons_zero, List.set_cons_succ]
      refine wpAnyF_one (i := 6) (by kernel_rfl) rfl (fun K hK => ?_)
      go_simp
      refine hK.out _ _ (fun h => Bool.noConfusion (h.symm.trans (by kernel_rfl : _ = true))) ?_
      clear hK K
      try simp only [Act.put, List.getElem_toArray, List.getElem_cons_zero, List.getElem_cons_succ, List.setIfInBounds_toArray, List.set_cons_zero, List.set_cons_succ]
      refine wpAnyF_one (i := 7) (by kernel_rfl) rfl (fun K hK => ?_)
      go_simp
      refine hK.out _ _ (fun h => Bool.noConfusion (h.symm.trans (by kernel_rfl : _ = true))) ?_
      clear hK K
      try simp only [Act.put, List.getElem_toArray, List.getElem_cons_zero, List.getElem_cons_succ, List.setIfInBounds_toArray, List.set_cons_zero, List.set_cons_succ]
      refine wpAnyF_done (by kernel_rfl) ?_ _
      refine NoPanic.normal ?_
      gi_wp2
      have hbf : Below w1.heap.size w1 (w1.alloc (.cells #[.slice p n cap, .slice p2 n c2, .map (some W.heap.size)] 64)) := (Below.refl _ _).alloc (Nat.le_refl _) _
      have hOo : (w1.alloc (.cells #[.slice p n cap, .slice p2 n c2, .map (some W.heap.size)] 64)).heap[w1.heap.size]? = some (.cells #[.slice p n cap, .slice p2 n c2, .map (some W.heap.size)] 64 (0, 0)) := World.alloc_heap_new w1 _
      have hs1 : W.heap.size + 1 ≤ w1.heap.size := by have := H1.out.2.2.1.size; simpa using this
      have hp3 : ∀ x, inP p2 c2 x → W.heap.size + 1 ≤ x := fun x hx => by have := H1.out.2.1 x hx; simpa using this
      have hfin := MAt.fin (S := W.heap.size) (D := D) (base := w.heap.size) HLL.out hn0 hnx hOo ((HGW.out.1.keep (fun x hx => H1.out.2.2.2.block x (HGW.out.2.1 x hx).2)).below hbf) (H1.out.1.below hbf) ((QAt.made W.drew).keep ((hbf.block _ (show W.heap.size < w1.heap.size by omega)).trans (H1.out.2.2.1.block _ (by simp)))) (fun x hx => ⟨by have := (HGW.out.2.1 x hx).1; have := HB0.out.1.size; omega, (HGW.out.2.1 x hx).2, HKD.out x hx⟩) (fun x hx => ⟨by have := hp3 x hx; omega, by have := hp3 x hx; omega, by have := H1.out.1.lt hx; omega⟩) ⟨Nat.le_refl _, by omega⟩ (by omega) HGW.out.2.2.2 (Nat.le_of_lt HWL.out)
      have hend := H1.out.2.2.2.trans (hbf.mono (by omega))
      generalize w1.alloc (.cells #[.slice p n cap, .slice p2 n c2, .map (some W.heap.size)] 64) = WF at *
      have hDF : WF.heap[D]? = some (.deferred (some [])) := (hend.block D HGW.out.2.2.2).trans HGW.out.2.2.1
      refine leave1 (v := .tuple #[.pointer (some ⟨w1.heap.size, 0, none⟩), .int .i64 0]) rfl hDF (by simp [results, Try.results13, go_sem]) ⟨w1.heap.size, _, rfl, hfin, fun x hx => ⟨hx.1, by simpa using hx.2⟩, ?_⟩
      exact below_putObj (HB0.out.1.trans (((HSS.out.frn.below (n := w.heap.size) HB0.out.1.size (by rintro b rfl; exact Nat.le_refl _)).drew).trans (hend.mono (Nat.le_of_lt HWL.out)))) hD2.out _
end Go.Proofs.Ytaflbfmlajbjcaa
