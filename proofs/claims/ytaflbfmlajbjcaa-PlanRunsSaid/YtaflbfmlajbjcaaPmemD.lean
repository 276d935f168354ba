/- The walks of the memory: moved, Fence. -/
import Derived.Test.YtaflbfmlajbjcaaPmemC
namespace Go.Proofs.Ytaflbfmlajbjcaa
open Go Go.RowKit

theorem lineV_lit (v : V8) : lineV v = .agg #[vw v[0], vw v[1], vw v[2], vw v[3], vw v[4], vw v[5], vw v[6], vw v[7]] := by
  obtain ⟨a, ha⟩ := v
  obtain ⟨l⟩ := a
  match l, ha with
  | [x0, x1, x2, x3, x4, x5, x6, x7], _ => rfl
theorem line_cells {w : World} {g : Nat} {v : V8} (h : w.rangeAt g 0 (ec v)) : w.cell? ⟨g, 0, none⟩ = some (vw v[0]) ∧ w.cell? ⟨g, 1, none⟩ = some (vw v[1]) ∧ w.cell? ⟨g, 2, none⟩ = some (vw v[2]) ∧ w.cell? ⟨g, 3, none⟩ = some (vw v[3]) ∧
    w.cell? ⟨g, 4, none⟩ = some (vw v[4]) ∧ w.cell? ⟨g, 5, none⟩ = some (vw v[5]) ∧ w.cell? ⟨g, 6, none⟩ = some (vw v[6]) ∧ w.cell? ⟨g, 7, none⟩ = some (vw v[7]) := by
  have hh : ∀ j (hj : j < 8), w.cell? ⟨g, j, none⟩ = some (vw v[j]) := fun j hj => by
    have := h j (vw v[j]) (by simp [ec, hj])
    rwa [Nat.zero_add] at this
  exact ⟨hh 0 (by decide), hh 1 (by decide), hh 2 (by decide), hh 3 (by decide), hh 4 (by decide), hh 5 (by decide), hh 6 (by decide), hh 7 (by decide)⟩
def leftN (es : List Ent) (seen : List Nat) : Nat := (es.filter (fun x => !seen.contains x.born)).length
theorem leftN_lt {es : List Ent} {seen : List Nat} {x : Ent} (hx : x ∈ es) (hn : x.born ∉ seen) : leftN es (seen ++ [x.born]) < leftN es seen := by
  unfold leftN
  have e : es.filter (fun y => !(seen ++ [x.born]).contains y.born) = (es.filter (fun y => !seen.contains y.born)).filter (fun y => !(y.born == x.born)) := by
    rw [List.filter_filter]
    congr 1
    funext y
    by_cases h1 : y.born = x.born <;> by_cases h2 : y.born ∈ seen <;> simp [h1, h2]
  rw [e, List.length_filter_lt_length_iff_exists]
  exact ⟨x, by simp [List.mem_filter, hx, hn], by simp⟩
theorem find_congr {α : Type} {p q : α → Bool} : ∀ {l : List α}, (∀ y ∈ l, p y = q y) → l.find? p = l.find? q
  | [], _ => rfl
  | a :: l, h => by
    simp only [List.find?_cons]
    rw [h a (List.mem_cons_self), find_congr (fun y hy => h y (List.mem_cons_of_mem _ hy))]
theorem key_uniq {es : List Ent} {clk : Nat} (h : OkE es clk) {x y : Ent} (hx : x ∈ es) (hy : y ∈ es) (hk : y.k = x.k) : y.v = x.v := by
  have h1 := getE_mem h.keys hx
  have h2 := getE_mem h.keys hy
  rw [hk, h1] at h2
  exact (Option.some.inj h2).symm
theorem born_uniq {es : List Ent} {clk : Nat} (h : OkE es clk) {x y : Ent} (hx : x ∈ es) (hy : y ∈ es) (hk : y.born = x.born) : y = x := by
  obtain ⟨i, hi, rfl⟩ := List.mem_iff_getElem.1 hx
  obtain ⟨j, hj, rfl⟩ := List.mem_iff_getElem.1 hy
  have : (es.map (·.born))[j]'(by simpa using hj) = (es.map (·.born))[i]'(by simpa using hi) := by simpa using hk
  have := (List.getElem_inj h.stamps).1 this
  subst this
  rfl
theorem fence_lst (m : Mem) (j : Nat) (h : j < m.length) : m.fence.lst[j]? = some ((m.qf j).getD ((m.lst[j]?).getD zero8)) := by
  simp [Mem.lst, Mem.fence, Mem.qf, h]
/-- One entry more. -/
theorem seen_step {es : List Ent} {clk : Nat} (h : OkE es clk) {x : Ent} (hx : x ∈ es) (seen : List Nat) (z : V8) (j : Nat) :
    (match es.find? (fun y => decide (y.k = j) && (seen ++ [x.born]).contains y.born) with | some y => y.v | none => z) = if x.k = j then x.v else (match es.find? (fun y => decide (y.k = j) && seen.contains y.born) with | some y => y.v | none => z) := by
  by_cases hj : x.k = j
  · rw [if_pos hj]
    cases hf : es.find? (fun y => decide (y.k = j) && (seen ++ [x.born]).contains y.born) with
    | none =>
      have := List.find?_eq_none.1 hf x hx
      simp [hj] at this
    | some y =>
      have h1 := List.find?_some hf
      simp only [Bool.and_eq_true, decide_eq_true_eq] at h1
      exact key_uniq h hx (List.mem_of_find?_eq_some hf) (h1.1.trans hj.symm)
  · rw [if_neg hj]
    have e : es.find? (fun y => decide (y.k = j) && (seen ++ [x.born]).contains y.born) = es.find? (fun y => decide (y.k = j) && seen.contains y.born) := by
      refine find_congr (fun y hy => ?_)
      by_cases hyj : y.k = j
      · have hne : y.born ≠ x.born := fun e => hj (by rw [← born_uniq h hx hy e]; exact hyj)
        simp [hyj, hne]
      · simp [hyj]
    rw [e]
theorem seen_all {es : List Ent} {seen : List Nat} (hall : ∀ x ∈ es, x.born ∈ seen) (z : V8) (j : Nat) :
    (match es.find? (fun y => decide (y.k = j) && seen.contains y.born) with | some y => y.v | none => z) = (getE es j).getD z := by
  have e : es.find? (fun y => decide (y.k = j) && seen.contains y.born) = es.find? (fun y => decide (y.k = j)) :=
    find_congr (fun y hy => by simp [hall y hy])
  rw [e]
  unfold getE
  cases es.find? (fun y => decide (y.k = j)) <;> rfl
/-- Behind some of a map's entries. -/
structure MvSt (W0 : World) (O : Nat) (p1 : Option Addr) (c1 : Nat) (p2 : Option Addr) (c2 b n r : Nat) (m : Mem) (N : Nat → Prop) (es : List Ent) (clk : Nat) (seen : List Nat) (mt : Mem) (W : World) : Prop where
  raw : MRaw W O p1 c1 p2 c2 b n mt N
  nows : mt.nows = m.nows
  qf : mt.qf = m.qf
  rng : RngAt W b r es clk seen
  lst : ∀ j, j < n → mt.lst[j]? = some (match es.find? (fun x => decide (x.k = j) && seen.contains x.born) with | some x => x.v | none => (m.lst[j]?).getD zero8)
  frn : Frn (fun x => inP p2 c2 x) W0 W
set_option maxRecDepth 100000 in
set_option maxHeartbeats 4000000 in
theorem moved_any {O B : Nat} {p1 p2 : Option Addr} {c1 c2 b n : Nat} {m : Mem} {N : Nat → Prop} (W : World) (hr : MRaw W O p1 c1 p2 c2 b n m N) (hN : ∀ x, N x → x < W.heap.size) (hB : W.cell? ⟨B, 0, none⟩ = some (.pointer (some ⟨O, 0, none⟩))) (hBl : B < W.heap.size) (hBN : ¬ N B) (hqn : ∀ j v, m.qf j = some v → j < n) :
    Calls Try.prog 59 #[.map (some b), .func (.func 60) #[] #[.pointer (some ⟨B, 0, none⟩)]] W fun e w' => e = .returned (.tuple #[]) ∧ MRaw w' O p1 c1 p2 c2 b n m.fence N ∧ Frn (fun x => inP p2 c2 x ∨ x = b) W w' := by
  obtain ⟨es, clk, hq, hf⟩ := hr.q
  obtain ⟨hrange, hrng⟩ := q_range (P := Try.prog) (T := 62) (K := 3) (E := 96) (by kernel_rfl) hq
  obtain ⟨W1, hW1⟩ : ∃ W1, W.alloc (.mapIter (some b) clk #[] clk) = W1 := ⟨_, rfl⟩
  rw [hW1] at hrange hrng
  have hmap := hq.1
  have HENT := Lib.hid (enters_of (P := Try.prog) Try.func60 (by kernel_rfl) rfl)
  have hen := HENT.out
  have hb1 : Below W.heap.size W W1 := by rw [← hW1]; exact (Below.refl _ _).alloc (Nat.le_refl _) _
  have hr1 := hr.keep (fun x _ hl => hb1.block x hl)
  have hrl : W.heap.size < W1.heap.size := by rw [← hW1]; simp
  have hst0 : MvSt W O p1 c1 p2 c2 b n W.heap.size m N es clk [] m W1 := by
    refine ⟨hr1, rfl, rfl, hrng, fun j hj => ?_, Frn.of_below hb1⟩
    have e : es.find? (fun x => decide (x.k = j) && ([] : List Nat).contains x.born) = none := List.find?_eq_none.2 (fun x _ => by simp)
    rw [e]
    have hjl : j < m.lst.length := by rw [lst_len, hr.len]; exact hj
    simp [hjl]
  have HST0 := Lib.hid hst0
  have HW1 := Lib.hid (And.intro hW1 (And.intro hb1 hrl))
  have HF := Lib.hid hf
  have HN := Lib.hid hr.len
  have HQN := Lib.hid hqn
  have HB := Lib.hid (And.intro hB (And.intro hBl (And.intro hBN hN)))
  clear hrng hr1 hst0 hW1 hb1 hrl hf hqn hB hBl hq hr hBN hN
  go_enter Try.func59, Try.ntmps59
  go_wp2_with fail
  clear hrange
  go_loopw [] (fun wr => ∃ seen mt, MvSt W O p1 c1 p2 c2 b n W.heap.size m N es clk seen mt wr) (fun wr => leftN es (match wr.heap[W.heap.size]? with | some (.mapIter _ _ seen _) => seen.toList | _ => []))
  case atStart => exact ⟨[], m, HST0.out⟩
  case round =>
    obtain ⟨seen, mt, hst⟩ := hrel
    have HST := Lib.hid hst
    have hm : (match wr.heap[W.heap.size]? with | some (.mapIter _ _ seen _) => seen.toList | _ => []) = seen := by rw [hst.rng.2]
    rw [hm]
    rcases q_next (P := Try.prog) hst.rng 0 with ⟨hall, hnext⟩ | ⟨x, hx, hxn, W2, hnext, hrng2, hentry, hf2, hsz2⟩
    · obtain ⟨W3, hclr, hq3, hf3, hsz3⟩ := q_clear (P := Try.prog) (T := 62) (K := 3) (E := 96) (by kernel_rfl) hst.raw.q
      have hclr := hclr 0
      have hok := hst.rng.1.2
      have hlst : m.fence.lst = mt.lst := by
        apply List.ext_getElem?
        intro j
        by_cases hj : j < n
        · rw [hst.lst j hj, seen_all hall, HF.out j, fence_lst m j (by rw [HN.out]; exact hj)]
        · rw [List.getElem?_eq_none (by rw [lst_len, fence_len, HN.out]; omega), List.getElem?_eq_none (by rw [lst_len, hst.raw.len]; omega)]
      have hfin : MRaw W3 O p1 c1 p2 c2 b n m.fence N := hst.raw.withQ (by rw [fence_len, HN.out, hst.raw.len]) (by rw [fence_nows, hst.nows]) hlst (by rw [fence_qf]; exact hq3) hf3
      have hfr : Frn (fun x => inP p2 c2 x ∨ x = b) W W3 := (⟨hst.frn.os, hst.frn.tape, hst.frn.output, hst.frn.size, fun x hx hn => hst.frn.block x hx (fun e => hn (.inl e))⟩ : Frn (fun x => inP p2 c2 x ∨ x = b) W wr).trans ⟨hf3.os, hf3.tape, hf3.output, hf3.size, fun x hx hn => hf3.block x hx (fun e => hn (.inr e))⟩
      have HFIN := Lib.hid (And.intro hfin hfr)
      clear hst hm hok hlst hfin hfr hq3 hf3 hsz3
      go_wp2_with fail
      go_end0
      exact ⟨rfl, HFIN.out⟩
    · have hw := hst.raw
      have hxk : x.k < n := HQN.out x.k x.v (by rw [← HF.out]; exact getE_mem hst.rng.1.2.keys hx)
      obtain ⟨WA, hWA⟩ : ∃ WA, W2.alloc (.cells #[Value.int .u64 0, Value.int .u64 0, Value.int .u64 0, Value.int .u64 0, Value.int .u64 0, Value.int .u64 0, Value.int .u64 0, Value.int .u64 0] 96) = WA := ⟨_, rfl⟩
      have hbA : Below W2.heap.size W2 WA := by rw [← hWA]; exact (Below.refl _ _).alloc (Nat.le_refl _) _
      have hxA : WA.heap[wr.heap.size]? = some (.cells #[Value.int .u64 0, Value.int .u64 0, Value.int .u64 0, Value.int .u64 0, Value.int .u64 0, Value.int .u64 0, Value.int .u64 0, Value.int .u64 0] 96 (0, 0)) := by rw [← hWA, ← hsz2]; exact World.alloc_heap_new _ _
      have hth : WA.there wr.heap.size 0 8 := fun j hj => by
        have : j = 0 ∨ j = 1 ∨ j = 2 ∨ j = 3 ∨ j = 4 ∨ j = 5 ∨ j = 6 ∨ j = 7 := by omega
        rcases this with rfl | rfl | rfl | rfl | rfl | rfl | rfl | rfl <;> exact ⟨by simp [World.cell?, hxA], by simp [World.frozen?, hxA]⟩
      obtain ⟨WB, hWB⟩ : ∃ WB, WA.setCells wr.heap.size 0 (ec x.v) = WB := ⟨_, rfl⟩
      have hrg : WB.rangeAt wr.heap.size 0 (ec x.v) := by rw [← hWB]; exact World.rangeAt_setCells_same _ _ _ _ (by rw [ec_len]; exact hth)
      have hfB : Frn (fun y => y = wr.heap.size) WA WB := by rw [← hWB]; exact setCells_frn _ _ _
      have hfAB : Frn (fun y => y = W.heap.size) wr WB := by
        refine hf2.trans ?_
        exact ⟨hfB.os.trans hbA.os, hfB.tape.trans hbA.tape, hfB.output.trans hbA.output, Nat.le_trans hbA.size hfB.size, fun y hy hn => (hfB.block y (Nat.lt_of_lt_of_le hy hbA.size) (by omega)).trans (hbA.block y hy)⟩
      have hWl : W.heap.size < wr.heap.size := (Array.getElem?_eq_some_iff.1 hst.rng.2).1
      have hnr : ¬ N W.heap.size := fun h => absurd (HB.out.2.2.2 _ h) (Nat.lt_irrefl _)
      have hrB : MRaw WB O p1 c1 p2 c2 b n mt N := hw.keep (fun y hy hl => hfAB.block y hl (fun e => hnr (by rw [← e]; exact hy)))
      have hBwr : WB.cell? ⟨B, 0, none⟩ = some (.pointer (some ⟨O, 0, none⟩)) := by
        have h2 : wr.heap[B]? = W.heap[B]? := hst.frn.block B HB.out.2.1 (fun hp => HB.out.2.2.1 (hw.n2 B hp).1)
        have h3 : WB.heap[B]? = wr.heap[B]? := hfAB.block B (Nat.lt_trans HB.out.2.1 hWl) (fun e => by have := HB.out.2.1; omega)
        exact (World.cell?_of_block (w := W) (a := ⟨B, 0, none⟩) (h3.trans h2)).trans HB.out.1
      have HFE := Lib.hid (fence1_any x.k x.v WB hrB (by rw [hw.len]; exact hxk) hBwr (by have := hfAB.size; have := HB.out.2.1; omega))
      have hrngB : RngAt WB b W.heap.size es clk (seen ++ [x.born]) := by
        obtain ⟨⟨k1, k2⟩, k3⟩ := hrng2
        have e : ∀ y, y < W2.heap.size → y ≠ wr.heap.size → WB.heap[y]? = W2.heap[y]? := fun y hy hn => (hfB.block y (Nat.lt_of_lt_of_le hy hbA.size) hn).trans (hbA.block y hy)
        have hbl := (Array.getElem?_eq_some_iff.1 k1).1
        have hrl := (Array.getElem?_eq_some_iff.1 k3).1
        exact ⟨⟨(e b hbl (by omega)).trans k1, k2⟩, (e _ hrl (by omega)).trans k3⟩
      have HNX : Hid (∀ w4, MRaw w4 O p1 c1 p2 c2 b n (mt.last x.k x.v) N → Frn (fun y => inP p2 c2 y) WB w4 → MvSt W O p1 c1 p2 c2 b n W.heap.size m N es clk (seen ++ [x.born]) (mt.last x.k x.v) w4) := Lib.hid (by
        intro w4 hr4 hf4
        obtain ⟨⟨k1, k2⟩, k3⟩ := hrngB
        refine ⟨hr4, (last_nows _ _ _).trans hst.nows, (last_qf _ _ _).trans hst.qf, ⟨⟨(hf4.block b hrB.q.lt (fun h => (hrB.n2 b h).2.2 rfl)).trans k1, k2⟩, (hf4.block _ (Array.getElem?_eq_some_iff.1 k3).1 (fun h => hnr (hrB.n2 _ h).1)).trans k3⟩, fun j hj => ?_, ?_⟩
        · rw [last_lst _ _ _ (by rw [hw.len]; exact hxk), seen_step k2 hx, List.getElem?_set]
          by_cases hjx : x.k = j
          · rw [if_pos hjx, if_pos hjx, if_pos (by rw [lst_len, hw.len]; omega)]
          · rw [if_neg hjx, if_neg hjx]
            exact hst.lst j hj
        · exact ⟨hf4.os.trans (hfAB.os.trans hst.frn.os), hf4.tape.trans (hfAB.tape.trans hst.frn.tape), hf4.output.trans (hfAB.output.trans hst.frn.output), Nat.le_trans hst.frn.size (Nat.le_trans hfAB.size hf4.size), fun y hy hn => ((hf4.block y (Nat.lt_of_lt_of_le (Nat.lt_trans hy hWl) hfAB.size) hn).trans (hfAB.block y (Nat.lt_trans hy hWl) (fun e => by rw [e] at hy; exact Nat.lt_irrefl _ hy))).trans (hst.frn.block y hy hn)⟩)
      have HLT := Lib.hid (leftN_lt hx hxn)
      have HM2 := Lib.hid (fun (w4 : World) (h : RngAt w4 b W.heap.size es clk (seen ++ [x.born])) => show (match w4.heap[W.heap.size]? with | some (.mapIter _ _ seen _) => seen.toList | _ => []) = seen ++ [x.born] by rw [h.2])
      clear hst hm hw hbA hxA hfB hfAB hWl hnr hrB hBwr hrngB hrng2 hf2 hx hxn hxk
      unfold lineV at hnext hentry
      have hlen8 : (ec x.v).length = 8 := ec_len _
      have hsc : (storeCells ⟨wr.heap.size, 0, none⟩ (ec x.v)).run Try.prog WA = .ok () WB := by
        rw [← hWB]
        exact run_storeCells_cells wr.heap.size 0 (ec x.v) 0 WA (fun j hj => by simpa using (hth j (by rw [ec_len] at hj; exact hj)).1) (fun j hj => by simpa using (hth j (by rw [ec_len] at hj; exact hj)).2) (ec_one x.v)
      obtain ⟨k0, k1, k2, k3, k4, k5, k6, k7⟩ := line_cells hrg
      clear hWB hth hrg
      rw [lineV_lit] at HFE
      go_wp2_with fail
      refine HFE.out.mono ?_
      rintro e w4 ⟨rfl, hr4, hf4⟩
      have HST4 := Lib.hid (HNX.out w4 hr4 hf4)
      clear hr4 hf4
      go_wp2_with fail
      go_roundw
      case rel => exact ⟨seen ++ [x.born], _, HST4.out⟩
      case measure =>
        rw [HM2.out _ HST4.out.rng]
        exact HLT.out
set_option maxRecDepth 100000 in
set_option maxHeartbeats 4000000 in
theorem fence_any {O : Nat} {m : Mem} {N : Nat → Prop} (W : World) (h : MAt W O m N) (hN : ∀ x, N x → x < W.heap.size) :
    Calls Try.prog 22 #[.pointer (some ⟨O, 0, none⟩)] W fun e w' => e = .returned (.int .i64 0) ∧ MAt w' O m.fence N ∧ Frn N W w' := by
  obtain ⟨W1, hW1, hb, hm, hc, hsz, hnN⟩ := h.boxed hN 26
  obtain ⟨p1, c1, p2, c2, b, n, hr⟩ := hm
  have HNN := Lib.hid (noneM_any W1 hr.cells.1 hr.pos)
  have a2 := hr.cells.2.2
  have hqn : ∀ j v, m.qf j = some v → j < n := fun j v hv => by
    unfold Mem.qf at hv
    cases hj : m[j]? with
    | none => rw [hj] at hv; cases hv
    | some x => rw [← hr.len]; exact (List.getElem?_eq_some_iff.1 hj).1
  have HMV := Lib.hid (moved_any W1 hr (fun x hx => by have := hN x hx; omega) hc (by omega) hnN hqn)
  have HX := Lib.hid (And.intro hW1 (And.intro hb (show ∀ x, inP p2 c2 x ∨ x = b → N x from fun x hx => hx.elim (fun h => (hr.n2 x h).1) (fun e => by rw [e]; exact hr.nb))))
  clear h hr hW1 hb hnN hsz hqn
  go_enter Try.func22, Try.ntmps22
  go_wp2_with fail
  rw [HX.out.1]
  go_wp2_with fail
  refine HNN.out.mono ?_
  rintro e w' ⟨rfl, rfl⟩
  go_wp2_with fail
  refine HMV.out.mono ?_
  rintro e w2 ⟨rfl, hm2, hf2⟩
  have H2 := Lib.hid (And.intro hm2 (show Frn N W1 w2 from ⟨hf2.os, hf2.tape, hf2.output, hf2.size, fun x hx hn => hf2.block x hx (fun e => hn (HX.out.2.2 x e))⟩))
  clear hm2 hf2
  go_wp2_with fail
  go_ret
  exact ⟨rfl, ⟨_, _, _, _, _, _, H2.out.1⟩, Frn.boxed HX.out.2.1 H2.out.2⟩
end Go.Proofs.Ytaflbfmlajbjcaa
