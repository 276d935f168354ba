/- PmemLasts: which contents a line has had since it was surely lasting: the rows in memory, and the plain law. -/
import Derived.Test.YtaflbfmlajbjcaaPmeP
namespace Go.Proofs.Ytaflbfmlajbjcaa
open Go Go.RowKit

structure Row where
  p : Option Addr
  c : Nat
  ss : List ByteArray
def es (s : ByteArray) : List Value := [.string s]
theorem es_len (s : ByteArray) : (es s).length = 1 := rfl
theorem es_one (s : ByteArray) : ∀ u ∈ es s, u.oneCell' = true := by
  intro u hu
  rw [es, List.mem_singleton] at hu
  subst hu; rfl
theorem elem_strs : ElemIs Try.prog 48 9 (.string ⟨#[]⟩) 1 16 := ⟨by kernel_rfl, by kernel_rfl, rfl, by decide⟩
def upd {α : Type} (f : Nat → α) (k : Nat) (v : α) : Nat → α := fun i => if i = k then v else f i
theorem upd_same {α : Type} (f : Nat → α) (k : Nat) (v : α) : upd f k v k = v := by simp [upd]
theorem upd_other {α : Type} (f : Nat → α) {k i : Nat} (v : α) (h : i ≠ k) : upd f k v i = f i := by simp [upd, h]
abbrev OwnS (w : World) (r : Row) : Prop := OwnG 9 1 es w r.p r.c r.ss
abbrev inRw (r : Row) (b : Nat) : Prop := inP r.p r.c b
/-- The rows since (block gs), and flushed (block gf), of n lines. -/
structure Snc (w : World) (gs gf n : Nat) (R : Nat → Row) (fl : Nat → Int) (base : Nat) : Prop where
  hs : ∃ cur, w.heap[gs]? = some (.cells cur 48 (0, 0)) ∧ ∀ k, k < n → cur[k]? = some (.slice (R k).p (R k).ss.length (R k).c)
  hf : ∃ cur, w.heap[gf]? = some (.cells cur 3 (0, 0)) ∧ ∀ k, k < n → cur[k]? = some (.int .i64 (fl k))
  own : ∀ k, k < n → OwnS w (R k)
  blk : ∀ k, k < n → ∀ b, inRw (R k) b → base ≤ b ∧ b ≠ gs ∧ b ≠ gf
  dis : ∀ i j, i < n → j < n → i ≠ j → ∀ b, inRw (R i) b → ¬ inRw (R j) b
  ne : gs ≠ gf
  bs : base ≤ gs
  bf : base ≤ gf
section
variable {w w' : World} {gs gf n base : Nat} {R : Nat → Row} {fl : Nat → Int}
theorem Snc.ltS (h : Snc w gs gf n R fl base) : gs < w.heap.size := by
  obtain ⟨cur, h1, -⟩ := h.hs
  exact (Array.getElem?_eq_some_iff.1 h1).1
theorem Snc.ltF (h : Snc w gs gf n R fl base) : gf < w.heap.size := by
  obtain ⟨cur, h1, -⟩ := h.hf
  exact (Array.getElem?_eq_some_iff.1 h1).1
theorem Snc.cellS (h : Snc w gs gf n R fl base) (k : Nat) (hk : k < n) : w.cell? ⟨gs, k, none⟩ = some (.slice (R k).p (R k).ss.length (R k).c) ∧ w.frozen? ⟨gs, k, none⟩ = false := by
  obtain ⟨cur, h1, h2⟩ := h.hs
  simp [World.cell?, World.frozen?, h1, h2 k hk]
theorem Snc.cellF (h : Snc w gs gf n R fl base) (k : Nat) (hk : k < n) : w.cell? ⟨gf, k, none⟩ = some (.int .i64 (fl k)) ∧ w.frozen? ⟨gf, k, none⟩ = false := by
  obtain ⟨cur, h1, h2⟩ := h.hf
  simp [World.cell?, World.frozen?, h1, h2 k hk]
theorem Snc.keep {T : Nat → Prop} (h : Snc w gs gf n R fl base) (hf : Frn T w w') (hT : ∀ b, T b → b < base) : Snc w' gs gf n R fl base := by
  obtain ⟨cur, h1, h2⟩ := h.hs
  obtain ⟨cuf, h3, h4⟩ := h.hf
  have nT : ∀ b, base ≤ b → ¬ T b := fun b hb ht => by have := hT b ht; omega
  exact ⟨⟨cur, (hf.block gs h.ltS (nT _ h.bs)).trans h1, h2⟩, ⟨cuf, (hf.block gf h.ltF (nT _ h.bf)).trans h3, h4⟩,
    fun k hk => (h.own k hk).keep (fun b hb => hf.block b ((h.own k hk).lt hb) (nT _ (h.blk k hk b hb).1)), h.blk, h.dis, h.ne, h.bs, h.bf⟩
theorem Snc.below (h : Snc w gs gf n R fl base) (hb : Below w.heap.size w w') : Snc w' gs gf n R fl base :=
  h.keep (Frn.of_below hb (T := fun _ => False)) (fun _ h => h.elim)
theorem Snc.setF (h : Snc w gs gf n R fl base) (k : Nat) (f : Int) : Snc (w.setCell ⟨gf, k, none⟩ (.int .i64 f)) gs gf n R (upd fl k f) base := by
  obtain ⟨cur, h1, h2⟩ := h.hs
  obtain ⟨cuf, h3, h4⟩ := h.hf
  have ho : ∀ b, b ≠ gf → (w.setCell ⟨gf, k, none⟩ (.int .i64 f)).heap[b]? = w.heap[b]? := fun b hb => heap_setCell_other _ ⟨gf, k, none⟩ b _ (fun e => hb e)
  refine ⟨⟨cur, (ho gs h.ne).trans h1, h2⟩, ⟨_, heap_setCell_same w gf k cuf _ _ h3, fun i hi => ?_⟩,
    fun i hi => (h.own i hi).keep (fun b hb => ho b (h.blk i hi b hb).2.2), h.blk, h.dis, h.ne, h.bs, h.bf⟩
  have h4i := h4 i hi
  by_cases e : i = k
  · subst e
    rw [upd_same, Array.getElem?_setIfInBounds, if_pos rfl, if_pos (Array.getElem?_eq_some_iff.1 h4i).1]
  · rw [upd_other _ _ e, Array.getElem?_setIfInBounds, if_neg (fun h => e h.symm)]
    exact h4i
/-- Another row takes a row's place. -/
theorem Snc.put (h : Snc w gs gf n R fl base) (k : Nat) (hk : k < n) (hf : Frn (inRw (R k)) w w') (r : Row) (ho : OwnS w' r) (hb : ∀ b, inRw r b → inRw (R k) b ∨ w.heap.size ≤ b) :
    Snc (w'.setCell ⟨gs, k, none⟩ (.slice r.p r.ss.length r.c)) gs gf n (upd R k r) fl base := by
  obtain ⟨cur, h1, h2⟩ := h.hs
  obtain ⟨cuf, h3, h4⟩ := h.hf
  have h1' := (hf.block gs h.ltS (fun hi => (h.blk k hk gs hi).2.1 rfl)).trans h1
  have h3' := (hf.block gf h.ltF (fun hi => (h.blk k hk gf hi).2.2 rfl)).trans h3
  have hoo : ∀ b, b ≠ gs → (w'.setCell ⟨gs, k, none⟩ (.slice r.p r.ss.length r.c)).heap[b]? = w'.heap[b]? := fun b hb => heap_setCell_other _ ⟨gs, k, none⟩ b _ (fun e => hb e)
  have hbs := h.bs
  have hls := h.ltS
  have hlf := h.ltF
  have hrb : ∀ b, inRw r b → base ≤ b ∧ b ≠ gs ∧ b ≠ gf := fun b hi => by
    rcases hb b hi with h' | h'
    · exact h.blk k hk b h'
    · exact ⟨by omega, by omega, by omega⟩
  refine ⟨⟨_, heap_setCell_same w' gs k cur _ _ h1', fun i hi => ?_⟩, ⟨cuf, (hoo gf (Ne.symm h.ne)).trans h3', h4⟩, fun i hi => ?_, fun i hi b hin => ?_, fun i j hi hj hij b hin => ?_, h.ne, h.bs, h.bf⟩
  · have h2i := h2 i hi
    by_cases e : i = k
    · subst e
      rw [upd_same, Array.getElem?_setIfInBounds, if_pos rfl, if_pos (Array.getElem?_eq_some_iff.1 h2i).1]
    · rw [upd_other _ _ e, Array.getElem?_setIfInBounds, if_neg (fun h => e h.symm)]
      exact h2i
  · by_cases e : i = k
    · subst e
      rw [upd_same]
      exact ho.keep (fun b hi2 => hoo b (hrb b hi2).2.1)
    · rw [upd_other _ _ e]
      refine (h.own i hi).keep (fun b hi2 => (hoo b (h.blk i hi b hi2).2.1).trans (hf.block b ((h.own i hi).lt hi2) (h.dis i k hi hk e b hi2)))
  · by_cases e : i = k
    · subst e
      rw [upd_same] at hin
      exact hrb b hin
    · rw [upd_other _ _ e] at hin
      exact h.blk i hi b hin
  · by_cases ei : i = k
    · subst ei
      rw [upd_same] at hin
      rw [upd_other _ _ (Ne.symm hij)]
      intro hj2
      rcases hb b hin with h' | h'
      · exact h.dis i j hi hj hij b h' hj2
      · have := (h.own j hj).lt hj2; omega
    · rw [upd_other _ _ ei] at hin
      by_cases ej : j = k
      · subst ej
        rw [upd_same]
        intro hj2
        rcases hb b hj2 with h' | h'
        · exact h.dis i j hi hj hij b hin h'
        · have := (h.own i hi).lt hin; omega
      · rw [upd_other _ _ ej]
        exact h.dis i j hi hj hij b hin
end
/-- s[f:] of a row of the call's own. -/
theorem OwnO.dropN {w : World} {e : TypeId} {g o cap n : Nat} {xs : List Value} (h : OwnO w e 1 (some ⟨g, o, none⟩) cap n xs) (f : Nat) (hf : f ≤ n) : OwnO w e 1 (some ⟨g, o + f, none⟩) (cap - f) (n - f) (xs.drop f) := by
  have hle := h.le
  have hm := h.max
  have hl := h.len
  refine ⟨by rw [List.length_drop]; omega, by omega, by omega, ?_⟩
  rcases h.row with h1 | ⟨g', o', cur, hp, hg, hs, ht⟩
  · exact .inl (by omega)
  · cases hp
    refine .inr ⟨g, o + f, cur, rfl, hg, ?_, ?_⟩
    · rw [hs]; omega
    · rw [← ht, Nat.mul_one, Nat.mul_one, List.drop_take, List.drop_drop]
theorem flat_es (ss : List ByteArray) : ss.flatMap es = ss.map .string := by
  induction ss with
  | nil => rfl
  | cons s t ih => rw [List.flatMap_cons, ih]; rfl
theorem row_drop {w : World} {r : Row} (h : OwnS w r) (f : Nat) (hf : f < r.ss.length) : ∃ g o, r.p = some ⟨g, o, none⟩ ∧ f < r.c ∧ r.ss.length ≤ r.c ∧ r.c ≤ maxLen ∧ OwnS w ⟨some ⟨g, o + f, none⟩, r.c - f, r.ss.drop f⟩ ∧ (∀ b, inP (some ⟨g, o + f, none⟩) (r.c - f) b → inRw r b) := by
  have hle := h.le
  rcases h.row with h1 | ⟨g, o, cur, hp, hg, hs, ht⟩
  · omega
  · refine ⟨g, o, hp, by omega, hle, h.max, ?_, ?_⟩
    · unfold OwnS OwnG at h ⊢
      rw [hp] at h
      have := h.dropN f (by omega)
      simp only [List.length_drop]
      rw [flat_es] at this ⊢
      rw [List.map_drop]
      exact this
    · rintro b ⟨a, ha, rfl, h0⟩
      cases ha
      exact ⟨_, hp, rfl, by omega⟩
/-- A row's element. -/
theorem row_at {w : World} {r : Row} (h : OwnS w r) (i : Nat) (hi : i < r.ss.length) : ∃ g o, r.p = some ⟨g, o, none⟩ ∧ w.cell? ⟨g, o + i, none⟩ = some (.string r.ss[i]) := by
  obtain ⟨h1, h2, h3⟩ := OwnG.rds es_len h
  rcases h3 with h3 | ⟨g, o, hp, hb, hc⟩
  · omega
  · refine ⟨g, o, hp, ?_⟩
    have := hc i hi 0 _ rfl
    rwa [Nat.mul_one, Nat.add_zero] at this
/-- What is known of a line. -/
def LOk (la : V8) (q : Option V8) (ss : List ByteArray) (f : Int) : Prop := strL la ∈ ss ∧ ((q = none ∧ f = -1) ∨ ∃ (n : Nat) (c : V8), q = some c ∧ f = n ∧ ss[n]? = some (strL c))
def Lst (v : V8) (ss : List ByteArray) : Prop := ss[ss.length - 1]? = some (strL v)
def Inv (m : Mem) (R : Nat → Row) (fl : Nat → Int) (B : Nat) : Prop := ∀ k (hk : k < m.length), LOk m[k].lasts m[k].q (R k).ss (fl k) ∧ (R k).ss.length ≤ B
def LastTo (m : Mem) (R : Nat → Row) (K : Nat) : Prop := ∀ k (hk : k < m.length), k < K → Lst m[k].now (R k).ss
theorem Lst.pos {v : V8} {ss : List ByteArray} (h : Lst v ss) : 0 < ss.length := by
  have := (List.getElem?_eq_some_iff.1 h).1
  omega
theorem Lst.drop {v : V8} {ss : List ByteArray} (h : Lst v ss) (n : Nat) (hn : n < ss.length) : Lst v (ss.drop n) := by
  unfold Lst at *
  rw [List.length_drop, List.getElem?_drop, show n + (ss.length - n - 1) = ss.length - 1 by omega]
  exact h
theorem LOk.pos {la : V8} {q : Option V8} {ss : List ByteArray} {f : Int} (h : LOk la q ss f) : 0 < ss.length := List.length_pos_of_mem h.1
theorem LOk.app {la : V8} {q : Option V8} {ss : List ByteArray} {f : Int} (h : LOk la q ss f) (s : ByteArray) : LOk la q (ss ++ [s]) f := by
  refine ⟨List.mem_append_left _ h.1, h.2.imp id ?_⟩
  rintro ⟨n, c, h1, h2, h3⟩
  exact ⟨n, c, h1, h2, by rw [List.getElem?_append_left (List.getElem?_eq_some_iff.1 h3).1]; exact h3⟩
theorem Lst.app (v : V8) (ss : List ByteArray) : Lst v (ss ++ [strL v]) := by simp [Lst]
theorem inv_store {m : Mem} {R : Nat → Row} {fl : Nat → Int} {B : Nat} (h : Inv m R fl B) (i : Nat) (v : BitVec 64) : Inv (m.store i v) R fl B := by
  intro k hk
  have hk' : k < m.length := by rwa [store_len] at hk
  have e : (m.store i v)[k].lasts = m[k].lasts ∧ (m.store i v)[k].q = m[k].q := by
    simp only [Mem.store, List.getElem_modify]
    by_cases e : i / 8 = k <;> simp [e]
  rw [e.1, e.2]
  exact h k hk'
theorem inv_flush {m : Mem} {R : Nat → Row} {fl : Nat → Int} {B : Nat} (h : Inv m R fl B) (i : Nat) (hi : i < m.length) (hl : Lst m[i].now (R i).ss) : Inv (m.flush i) R (upd fl i (((R i).ss.length - 1 : Nat) : Int)) B := by
  rw [flush_set m i hi]
  intro k hk
  have hk' : k < m.length := by simpa using hk
  rw [List.getElem_set]
  by_cases e : i = k
  · subst e
    rw [if_pos rfl, upd_same]
    exact ⟨⟨(h i hk').1.1, .inr ⟨_, _, rfl, rfl, hl⟩⟩, (h i hk').2⟩
  · rw [if_neg e, upd_other _ _ (Ne.symm e)]
    exact h k hk'
theorem inv_evict {m : Mem} {R : Nat → Row} {fl : Nat → Int} {B : Nat} (h : Inv m R fl B) (i : Nat) (hi : i < m.length) (hl : Lst m[i].now (R i).ss) (r : Row) (hr : r.ss = (R i).ss.drop ((R i).ss.length - 1)) : Inv (m.evict i) (upd R i r) (upd fl i (-1)) B := by
  rw [evict_set m i hi]
  intro k hk
  have hk' : k < m.length := by simpa using hk
  rw [List.getElem_set]
  by_cases e : i = k
  · subst e
    rw [if_pos rfl, upd_same, upd_same, hr]
    refine ⟨⟨?_, .inl ⟨rfl, rfl⟩⟩, by rw [List.length_drop]; have := (h i hk').2; omega⟩
    have := hl.drop ((R i).ss.length - 1) (by have := hl.pos; omega)
    exact List.mem_of_getElem? this
  · rw [if_neg e, upd_other _ _ (Ne.symm e), upd_other _ _ (Ne.symm e)]
    exact h k hk'
/-- Behind a fence: lines below j have been looked at. -/
def InvF (m : Mem) (R : Nat → Row) (fl : Nat → Int) (B j : Nat) : Prop := ∀ k (hk : k < m.length), (if k < j then LOk (m[k].q.getD m[k].lasts) none (R k).ss (fl k) else LOk m[k].lasts m[k].q (R k).ss (fl k)) ∧ (R k).ss.length ≤ B
theorem inv_f0 {m : Mem} {R : Nat → Row} {fl : Nat → Int} {B : Nat} (h : Inv m R fl B) : InvF m R fl B 0 := fun k hk => by
  rw [if_neg (Nat.not_lt_zero k)]
  exact h k hk
theorem inv_fn {m : Mem} {R : Nat → Row} {fl : Nat → Int} {B : Nat} (h : InvF m R fl B m.length) : Inv m.fence R fl B := fun k hk => by
  have hk' : k < m.length := by rwa [fence_len] at hk
  have := h k hk'
  rw [if_pos hk'] at this
  simpa [Mem.fence] using this
theorem invf_pos {m : Mem} {R : Nat → Row} {fl : Nat → Int} {B j : Nat} (h : InvF m R fl B j) (k : Nat) (hk : k < m.length) : 0 < (R k).ss.length := by
  have := (h k hk).1
  by_cases e : k < j
  · rw [if_pos e] at this; exact this.pos
  · rw [if_neg e] at this; exact this.pos
theorem invf_skip {m : Mem} {R : Nat → Row} {fl : Nat → Int} {B j : Nat} (h : InvF m R fl B j) (hj : j < m.length) (hf : fl j < 0) : InvF m R fl B (j + 1) := fun k hk => by
  have := h k hk
  by_cases e : k < j
  · rw [if_pos (by omega)]
    rwa [if_pos e] at this
  · rw [if_neg e] at this
    by_cases e2 : k = j
    · subst e2
      rw [if_pos (by omega)]
      refine ⟨?_, this.2⟩
      rcases this.1.2 with ⟨h1, h2⟩ | ⟨n, c, h1, h2, h3⟩
      · refine ⟨by rw [h1]; exact this.1.1, .inl ⟨rfl, h2⟩⟩
      · omega
    · rw [if_neg (by omega)]
      exact this
theorem invf_cut {m : Mem} {R : Nat → Row} {fl : Nat → Int} {B j : Nat} (h : InvF m R fl B j) (hj : j < m.length) (hf : 0 ≤ fl j) : ∃ n : Nat, fl j = n ∧ n < (R j).ss.length ∧ ∀ r : Row, r.ss = (R j).ss.drop n → InvF m (upd R j r) (upd fl j (-1)) B (j + 1) := by
  have hjj := h j hj
  rw [if_neg (Nat.lt_irrefl j)] at hjj
  rcases hjj.1.2 with ⟨h1, h2⟩ | ⟨n, c, h1, h2, h3⟩
  · omega
  · have hn := (List.getElem?_eq_some_iff.1 h3).1
    refine ⟨n, h2, hn, fun r hr k hk => ?_⟩
    by_cases e : k = j
    · subst e
      rw [if_pos (by omega), upd_same, upd_same, hr, h1]
      refine ⟨⟨?_, .inl ⟨rfl, rfl⟩⟩, by rw [List.length_drop]; have := hjj.2; omega⟩
      refine List.mem_of_getElem? (i := 0) ?_
      rw [List.getElem?_drop]
      exact h3
    · have := h k hk
      rw [upd_other _ _ e, upd_other _ _ e]
      by_cases e2 : k < j
      · rw [if_pos (by omega)]
        rwa [if_pos e2] at this
      · rw [if_neg (by omega)]
        rwa [if_neg e2] at this
/-- The lines below j end in what stands there. -/
def InvL (m : Mem) (R : Nat → Row) (fl : Nat → Int) (B j : Nat) : Prop := ∀ k (hk : k < m.length), LOk m[k].lasts m[k].q (R k).ss (fl k) ∧ (if k < j then Lst m[k].now (R k).ss ∧ (R k).ss.length ≤ B + 1 else (R k).ss.length ≤ B)
theorem inv_l0 {m : Mem} {R : Nat → Row} {fl : Nat → Int} {B : Nat} (h : Inv m R fl B) : InvL m R fl B 0 := fun k hk => by
  rw [if_neg (Nat.not_lt_zero k)]
  exact h k hk
theorem inv_ln {m : Mem} {R : Nat → Row} {fl : Nat → Int} {B : Nat} (h : InvL m R fl B m.length) : Inv m R fl (B + 1) ∧ LastTo m R m.length := by
  refine ⟨fun k hk => ?_, fun k hk _ => ?_⟩
  · have := h k hk
    rw [if_pos hk] at this
    exact ⟨this.1, this.2.2⟩
  · have := h k hk
    rw [if_pos hk] at this
    exact this.2.1
theorem invl_same {m : Mem} {R : Nat → Row} {fl : Nat → Int} {B j : Nat} (h : InvL m R fl B j) (hj : j < m.length) (hl : Lst m[j].now (R j).ss) : InvL m R fl B (j + 1) := fun k hk => by
  have := h k hk
  refine ⟨this.1, ?_⟩
  by_cases e : k < j
  · rw [if_pos (by omega)]
    have h2 := this.2
    rwa [if_pos e] at h2
  · have h2 := this.2
    rw [if_neg e] at h2
    by_cases e2 : k = j
    · subst e2
      rw [if_pos (by omega)]
      exact ⟨hl, by omega⟩
    · rw [if_neg (by omega)]
      exact h2
theorem invl_app {m : Mem} {R : Nat → Row} {fl : Nat → Int} {B j : Nat} (h : InvL m R fl B j) (hj : j < m.length) (r : Row) (hr : r.ss = (R j).ss ++ [strL m[j].now]) : InvL m (upd R j r) fl B (j + 1) := fun k hk => by
  have := h k hk
  by_cases e2 : k = j
  · subst e2
    rw [upd_same, hr, if_pos (by omega)]
    have h2 := this.2
    rw [if_neg (Nat.lt_irrefl k)] at h2
    exact ⟨this.1.app _, Lst.app _ _, by rw [List.length_append]; simpa using h2⟩
  · rw [upd_other _ _ e2]
    refine ⟨this.1, ?_⟩
    have h2 := this.2
    by_cases e : k < j
    · rw [if_pos (by omega)]
      rwa [if_pos e] at h2
    · rw [if_neg (by omega)]
      rwa [if_neg e] at h2
/-- The stage's theorem: behind a crash a line has one of these contents. -/
theorem crash_has {m : Mem} {R : Nat → Row} {fl : Nat → Int} {B : Nat} (h : Inv m R fl B) (hl : LastTo m R m.length) (pk : List (BitVec 8)) (k : Nat) (hk : k < m.length) : strL ((m.crash pk)[k]'(by rw [crash_len]; exact hk)).now ∈ (R k).ss := by
  have h1 := h k hk
  have h2 : strL m[k].now ∈ (R k).ss := List.mem_of_getElem? (hl k hk hk)
  have h3 : strL (m[k].q.getD m[k].lasts) ∈ (R k).ss := by
    rcases h1.1.2 with ⟨e, -⟩ | ⟨n, c, e, -, e3⟩
    · rw [e]; exact h1.1.1
    · rw [e]; exact List.mem_of_getElem? e3
  have e : ((m.crash pk)[k]'(by rw [crash_len]; exact hk)).now = crashL m pk k m[k] := by
    simp [Mem.crash, Mem.of, crashV]
  rw [e]
  unfold crashL
  by_cases ho : isOpen m k = true
  · rw [if_pos ho]
    cases pk[(opensT m k).length]? with
    | none => exact h1.1.1
    | some b =>
      show strL (takeL m[k] b) ∈ _
      unfold takeL
      by_cases e1 : b.toNat % 3 = 0
      · rw [if_pos e1]; exact h1.1.1
      · rw [if_neg e1]
        by_cases e2 : b.toNat % 3 = 1
        · rw [if_pos e2]; exact h3
        · rw [if_neg e2]; exact h2
  · rw [if_neg ho]
    exact h1.1.1
end Go.Proofs.Ytaflbfmlajbjcaa
