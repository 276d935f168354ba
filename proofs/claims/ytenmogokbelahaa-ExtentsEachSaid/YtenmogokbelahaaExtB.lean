/- The walks of extents: tables in memory, joined, list, put. -/
import Derived.Test.YtenmogokbelahaaExtA
import Derived.Test.YtenmogokbelahaaRegFP
import Derived.Test.YtenmogokbelahaaQuietR
import Derived.Deep.MidRow
namespace Go.Proofs.Ytenmogokbelahaa
open Go Go.RowKit

def tb (t : List Int) : List Value := t.map fun a => .int .i64 a
theorem tb_len (t : List Int) : (tb t).length = t.length := by simp [tb]
theorem tb_one (t : List Int) : ∀ v ∈ tb t, v.oneCell' = true := by
  intro v hv
  obtain ⟨a, _, rfl⟩ := List.mem_map.1 hv
  rfl
/-- A table in a block. -/
def TabAt (w : World) (B : Nat) (ty : TypeId) (t : List Int) : Prop := w.heap[B]? = some (.cells (tb t).toArray ty (0, 0))
section
variable {w w' : World} {B : Nat} {ty : TypeId} {t : List Int}
theorem TabAt.lt (h : TabAt w B ty t) : B < w.heap.size := (Array.getElem?_eq_some_iff.1 h).1
theorem TabAt.cell (h : TabAt w B ty t) (i : Nat) (hi : i < t.length) : w.cell? ⟨B, i, none⟩ = some (.int .i64 t[i]) ∧ w.frozen? ⟨B, i, none⟩ = false := by
  unfold TabAt at h
  simp [World.cell?, World.frozen?, h, tb, hi]
theorem TabAt.keep (h : TabAt w B ty t) (e : w'.heap[B]? = w.heap[B]?) : TabAt w' B ty t := e.trans h
theorem TabAt.below (h : TabAt w B ty t) (hb : Below w.heap.size w w') : TabAt w' B ty t := h.keep (hb.block B h.lt)
theorem TabAt.range (h : TabAt w B ty t) : w.rangeAt B 0 (tb t) := fun j v hv => by
  unfold TabAt at h
  simp [World.cell?, h, hv]
theorem TabAt.there (h : TabAt w B ty t) : w.there B 0 t.length := fun j hj => by
  have := h.cell j hj
  rw [Nat.zero_add]
  exact ⟨by rw [this.1]; rfl, this.2⟩
theorem TabAt.set (h : TabAt w B ty t) (i : Nat) (a : Int) : TabAt (w.setCell ⟨B, i, none⟩ (.int .i64 a)) B ty (t.set i a) := by
  have := heap_setCell_same w B i _ _ (.int .i64 a) h
  unfold TabAt tb
  rw [this, List.map_set]
  simp [tb]
theorem TabAt.new (w : World) (ty : TypeId) (t : List Int) : TabAt (w.alloc (.cells (tb t).toArray ty)) w.heap.size ty t := World.alloc_heap_new _ _
end
/-- One of two that may come up comes up. -/
theorem wpAnyFP_two {P : Program} {ops : Array Oper} {Q : Exit → Act → World → Prop} {md : Region.Mode} {S : Nat → World → Prop} {i j : Nat} {oi oj : Oper} {fuel : Nat} {listed : Array Bool} {a : Act} {w : World} (hr : Region.ready md ops listed = [i, j]) (hi : ops[i]? = some oi) (hj : ops[j]? = some oj)
    (h1 : ∀ K' : Act → World → Prop, Shut (∀ a w, TillP S (listed.setIfInBounds i true) w → wpAnyFP P md ops Q S fuel (listed.setIfInBounds i true) a w → K' a w) → if Region.wanted oi (yielded ops a.tmps) = true then Oper.wp P oi a w K' Q else K' (a.put oi.dst undef) w)
    (h2 : ∀ K' : Act → World → Prop, Shut (∀ a w, TillP S (listed.setIfInBounds j true) w → wpAnyFP P md ops Q S fuel (listed.setIfInBounds j true) a w → K' a w) → if Region.wanted oj (yielded ops a.tmps) = true then Oper.wp P oj a w K' Q else K' (a.put oj.dst undef) w) :
    wpAnyFP P md ops Q S (fuel + 1) listed a w := by
  refine ⟨fun h0 => absurd (hr ▸ h0) (by simp), fun k hk => ?_⟩
  rw [hr] at hk
  rcases List.mem_cons.1 hk with rfl | hk
  · exact wpOp_step hi (fun K' hK => h1 K' (fun a w hS hW => hK a w ⟨hS, hW⟩))
  · obtain rfl := List.mem_singleton.1 hk
    exact wpOp_step hj (fun K' hK => h2 K' (fun a w hS hW => hK a w ⟨hS, hW⟩))
theorem flat_setX {α : Type} {c : Nat} {enc : α → List Value} (he : ∀ y, (enc y).length = c) (hc : 0 < c) (ys : List α) (i : Nat) (hi : i < ys.length) (y : α) (j : Nat) (hj : j < c) (u : Value) (hy : enc y = (enc ys[i]).set j u) :
    (ys.set i y).flatMap enc = (ys.flatMap enc).set (i * c + j) u := by
  apply List.ext_getElem?
  intro k
  by_cases hk : k < ys.length * c
  · obtain ⟨hk1, hk2⟩ : k / c < ys.length ∧ k % c < c := ⟨(Nat.div_lt_iff_lt_mul hc).2 hk, Nat.mod_lt _ hc⟩
    have hkk : k = k / c * c + k % c := by rw [Nat.mul_comm]; exact (Nat.div_add_mod k c).symm
    have hil : i * c + j < ys.length * c := by
      have : (i + 1) * c ≤ ys.length * c := Nat.mul_le_mul_right _ hi
      rw [Nat.add_mul] at this; omega
    rw [List.getElem?_set]
    by_cases hne : i * c + j = k
    · rw [if_pos hne, if_pos (by rw [flat_len he]; exact hil), ← hne, flat_get he _ i (by simpa using hi) j hj]
      simp [hy, he, hj]
    · rw [if_neg hne]
      rw [hkk, flat_get he _ (k / c) (by simpa using hk1) (k % c) hk2, flat_get he _ (k / c) hk1 (k % c) hk2]
      by_cases hik : i = k / c
      · have hjk : j ≠ k % c := fun e => hne (by rw [hik, e]; exact hkk.symm)
        subst hik
        simp [hy, hjk]
      · simp [hik]
  · rw [List.getElem?_eq_none (by rw [flat_len he]; simpa using hk), List.getElem?_eq_none (by rw [List.length_set, flat_len he]; omega)]
theorem elem_exts : ElemIs Try.prog 79 81 (.agg #[.int .i64 0, .int .i64 0, .int .i64 0]) 3 24 := ⟨by kernel_rfl, by kernel_rfl, rfl, by decide⟩
theorem elem_runs : ElemIs Try.prog 83 131 (.agg #[.int .i64 0, .int .i64 0]) 2 16 := ⟨by kernel_rfl, by kernel_rfl, rfl, by decide⟩
abbrev OwnX (w : World) (p : Option Addr) (cap : Nat) (xs : List Ext3) : Prop := OwnG 81 3 xc w p cap xs
abbrev OwnRn (w : World) (p : Option Addr) (cap : Nat) (xs : List RunE) : Prop := OwnG 131 2 rc w p cap xs
theorem OwnX.row {w : World} {p : Option Addr} {cap : Nat} {xs : List Ext3} (h : OwnX w p cap xs) (n : Nat) (hn : n < xs.length) : ∃ g o, p = some ⟨g, o, none⟩ ∧ inP p cap g ∧ XCells w g (o + n * 3) xs[n].1 xs[n].2.1 xs[n].2.2 ∧ w.frozen? ⟨g, o + n * 3 + 2, none⟩ = false := by
  obtain ⟨g, o, hp, hg, hx⟩ := (OwnG.rds xc_len h).rowsX (Nat.le_refl _) n hn
  have hle := h.le
  refine ⟨g, o, hp, ⟨_, hp, rfl, by omega⟩, hx, ?_⟩
  rcases OwnO.row h with h1 | ⟨g', o', cur, hp', hg', -, -⟩
  · omega
  · rw [hp] at hp'; cases hp'
    simp [World.frozen?, hg']
theorem OwnX.many {w : World} {g o cap : Nat} {xs : List Ext3} (h : OwnX w (some ⟨g, o, none⟩) cap xs) (n : Nat) (hn : n < xs.length) (m : Int) : OwnX (w.setCell ⟨g, o + n * 3 + 2, none⟩ (.int .i64 m)) (some ⟨g, o, none⟩) cap (xs.set n (xs[n].1, xs[n].2.1, m)) := by
  unfold OwnX OwnG at h ⊢
  rw [flat_setX xc_len (by decide) xs n hn (xs[n].1, xs[n].2.1, m) 2 (by decide) (.int .i64 m) (by simp [xc]), List.length_set, Nat.add_assoc]
  exact OwnO.set h _ _
theorem OwnRn.row {w : World} {p : Option Addr} {cap : Nat} {xs : List RunE} (h : OwnRn w p cap xs) (n : Nat) (hn : n < xs.length) : ∃ g o, p = some ⟨g, o, none⟩ ∧ inP p cap g ∧ g < w.heap.size ∧ w.cell? ⟨g, o + n * 2, none⟩ = some (.int .i64 xs[n].1) ∧ w.cell? ⟨g, o + n * 2 + 1, none⟩ = some (.int .i64 xs[n].2) ∧ w.frozen? ⟨g, o + n * 2 + 1, none⟩ = false := by
  obtain ⟨h1, h2, h3⟩ := OwnG.rds rc_len h
  have hle := h.le
  rcases h3 with h3 | ⟨g, o, hp, hg, hc⟩
  · omega
  · refine ⟨g, o, hp, ⟨_, hp, rfl, by omega⟩, hg, hc n hn 0 _ rfl, hc n hn 1 _ rfl, ?_⟩
    rcases OwnO.row h with h1 | ⟨g', o', cur, hp', hg', -, -⟩
    · omega
    · rw [hp] at hp'; cases hp'
      simp [World.frozen?, hg']
theorem OwnRn.many {w : World} {g o cap : Nat} {xs : List RunE} (h : OwnRn w (some ⟨g, o, none⟩) cap xs) (n : Nat) (hn : n < xs.length) (m : Int) : OwnRn (w.setCell ⟨g, o + n * 2 + 1, none⟩ (.int .i64 m)) (some ⟨g, o, none⟩) cap (xs.set n (xs[n].1, m)) := by
  unfold OwnRn OwnG at h ⊢
  rw [flat_setX rc_len (by decide) xs n hn (xs[n].1, m) 1 (by decide) (.int .i64 m) (by simp [rc]), List.length_set, Nat.add_assoc]
  exact OwnO.set h _ _
set_option maxRecDepth 100000 in
set_option maxHeartbeats 4000000 in
theorem listC_go {g o Bi Ba : Nat} {f d m i a : Int} (w : World) (h : XCells w g o f d m) (hi : w.cell? ⟨Bi, 0, none⟩ = some (.int .i64 i)) (ha : w.cell? ⟨Ba, 0, none⟩ = some (.int .i64 a)) (hf : w.frozen? ⟨g, o + 2, none⟩ = false) (s1 : 0 ≤ f ∧ f + m ≤ 1000 ∧ 0 ≤ m ∧ 0 ≤ d ∧ d + m ≤ 10000) (e1 : f + m = i) (e2 : d + m = a) :
    Calls Try.prog 102 #[.pointer (some ⟨g, o, none⟩), .pointer (some ⟨Bi, 0, none⟩), .pointer (some ⟨Ba, 0, none⟩)] w fun e w' => e = .returned (.bool true) ∧ ∃ nq, w' = (w.drewN nq).setCell ⟨g, o + 2, none⟩ (.int .i64 (m + 1)) := by
  have c0 := h.c0
  have c1 := h.c1
  have c2 := h.c2
  have hw1 : IntKind.i64.wrap (f + m) = f + m := by rw [IntKind.wrap_i64]; omega
  have hw2 : IntKind.i64.wrap (d + m) = d + m := by rw [IntKind.wrap_i64]; omega
  have hw3 : IntKind.i64.wrap (m + 1) = m + 1 := by rw [IntKind.wrap_i64]; omega
  have b1 : (f + m == i) = true := beq_iff_eq.2 e1
  have b2 : (d + m == a) = true := beq_iff_eq.2 e2
  clear e1 e2
  clear h s1
  go_enter Try.func102, Try.ntmps102
  go_wp2_with fail
  go_quiet (fail)
  go_wp2_with fail
  go_ret
  exact ⟨rfl, _, rfl⟩
set_option maxRecDepth 100000 in
set_option maxHeartbeats 4000000 in
theorem listC_n1 {g o Bi Ba : Nat} {f d m i a : Int} (w : World) (h : XCells w g o f d m) (hi : w.cell? ⟨Bi, 0, none⟩ = some (.int .i64 i)) (ha : w.cell? ⟨Ba, 0, none⟩ = some (.int .i64 a)) (s1 : 0 ≤ f ∧ f + m ≤ 1000 ∧ 0 ≤ m ∧ 0 ≤ d ∧ d + m ≤ 10000) (e1 : ¬ f + m = i) :
    Calls Try.prog 102 #[.pointer (some ⟨g, o, none⟩), .pointer (some ⟨Bi, 0, none⟩), .pointer (some ⟨Ba, 0, none⟩)] w fun e w' => e = .returned (.bool false) ∧ ∃ nq, w' = w.drewN nq := by
  have c0 := h.c0
  have c1 := h.c1
  have c2 := h.c2
  have hw1 : IntKind.i64.wrap (f + m) = f + m := by rw [IntKind.wrap_i64]; omega
  have hw2 : IntKind.i64.wrap (d + m) = d + m := by rw [IntKind.wrap_i64]; omega
  have hw3 : IntKind.i64.wrap (m + 1) = m + 1 := by rw [IntKind.wrap_i64]; omega
  have b1 : (f + m == i) = false := beq_eq_false_iff_ne.2 e1
  clear e1
  clear h s1
  go_enter Try.func102, Try.ntmps102
  go_wp2_with fail
  go_quiet (fail)
  go_wp2_with fail
  go_ret
  exact ⟨rfl, _, rfl⟩
set_option maxRecDepth 100000 in
set_option maxHeartbeats 4000000 in
theorem listC_n2 {g o Bi Ba : Nat} {f d m i a : Int} (w : World) (h : XCells w g o f d m) (hi : w.cell? ⟨Bi, 0, none⟩ = some (.int .i64 i)) (ha : w.cell? ⟨Ba, 0, none⟩ = some (.int .i64 a)) (s1 : 0 ≤ f ∧ f + m ≤ 1000 ∧ 0 ≤ m ∧ 0 ≤ d ∧ d + m ≤ 10000) (e1 : f + m = i) (e2 : ¬ d + m = a) :
    Calls Try.prog 102 #[.pointer (some ⟨g, o, none⟩), .pointer (some ⟨Bi, 0, none⟩), .pointer (some ⟨Ba, 0, none⟩)] w fun e w' => e = .returned (.bool false) ∧ ∃ nq, w' = w.drewN nq := by
  have c0 := h.c0
  have c1 := h.c1
  have c2 := h.c2
  have hw1 : IntKind.i64.wrap (f + m) = f + m := by rw [IntKind.wrap_i64]; omega
  have hw2 : IntKind.i64.wrap (d + m) = d + m := by rw [IntKind.wrap_i64]; omega
  have hw3 : IntKind.i64.wrap (m + 1) = m + 1 := by rw [IntKind.wrap_i64]; omega
  have b1 : (f + m == i) = true := beq_iff_eq.2 e1
  have b2 : (d + m == a) = false := beq_eq_false_iff_ne.2 e2
  clear e1 e2
  clear h s1
  go_enter Try.func102, Try.ntmps102
  go_wp2_with fail
  go_quiet (fail)
  go_wp2_with fail
  go_ret
  exact ⟨rfl, _, rfl⟩
set_option maxRecDepth 100000 in
set_option maxHeartbeats 4000000 in
theorem putC_go {g o Bw : Nat} {d m a : Int} (w : World) (c0 : w.cell? ⟨g, o, none⟩ = some (.int .i64 d)) (c1 : w.cell? ⟨g, o + 1, none⟩ = some (.int .i64 m)) (ha : w.cell? ⟨Bw, 0, none⟩ = some (.int .i64 a)) (hf : w.frozen? ⟨g, o + 1, none⟩ = false) (s1 : 0 ≤ d ∧ d + m ≤ 10000 ∧ 0 ≤ m) (e2 : d + m = a) :
    Calls Try.prog 100 #[.pointer (some ⟨g, o, none⟩), .pointer (some ⟨Bw, 0, none⟩)] w fun e w' => e = .returned (.bool true) ∧ ∃ nq, w' = (w.drewN nq).setCell ⟨g, o + 1, none⟩ (.int .i64 (m + 1)) := by
  have hw2 : IntKind.i64.wrap (d + m) = d + m := by rw [IntKind.wrap_i64]; omega
  have hw3 : IntKind.i64.wrap (m + 1) = m + 1 := by rw [IntKind.wrap_i64]; omega
  have b2 : (d + m == a) = true := beq_iff_eq.2 e2
  clear e2
  clear s1
  go_enter Try.func100, Try.ntmps100
  go_wp2_with fail
  go_quiet (fail)
  go_wp2_with fail
  go_ret
  exact ⟨rfl, _, rfl⟩
set_option maxRecDepth 100000 in
set_option maxHeartbeats 4000000 in
theorem putC_no {g o Bw : Nat} {d m a : Int} (w : World) (c0 : w.cell? ⟨g, o, none⟩ = some (.int .i64 d)) (c1 : w.cell? ⟨g, o + 1, none⟩ = some (.int .i64 m)) (ha : w.cell? ⟨Bw, 0, none⟩ = some (.int .i64 a)) (s1 : 0 ≤ d ∧ d + m ≤ 10000 ∧ 0 ≤ m) (e2 : ¬ d + m = a) :
    Calls Try.prog 100 #[.pointer (some ⟨g, o, none⟩), .pointer (some ⟨Bw, 0, none⟩)] w fun e w' => e = .returned (.bool false) ∧ ∃ nq, w' = w.drewN nq := by
  have hw2 : IntKind.i64.wrap (d + m) = d + m := by rw [IntKind.wrap_i64]; omega
  have hw3 : IntKind.i64.wrap (m + 1) = m + 1 := by rw [IntKind.wrap_i64]; omega
  have b2 : (d + m == a) = false := beq_eq_false_iff_ne.2 e2
  clear e2
  clear s1
  go_enter Try.func100, Try.ntmps100
  go_wp2_with fail
  go_quiet (fail)
  go_wp2_with fail
  go_ret
  exact ⟨rfl, _, rfl⟩
end Go.Proofs.Ytenmogokbelahaa
