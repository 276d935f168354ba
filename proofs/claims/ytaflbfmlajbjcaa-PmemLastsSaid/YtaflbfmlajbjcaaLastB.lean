/- PmemLasts: a memory and the rows beside it. -/
import Derived.Test.YtaflbfmlajbjcaaLastA
import Derived.Test.YtaflbfmlajbjcaaRegFP
import Derived.Test.YtaflbfmlajbjcaaPmeN
namespace Go.Proofs.Ytaflbfmlajbjcaa
open Go Go.RowKit

structure St9 (W w : World) (O : Nat) (N : Nat → Prop) (gs gf n base : Nat) (m : Mem) (R : Nat → Row) (fl : Nat → Int) : Prop where
  mat : MAt w O m N
  snc : Snc w gs gf n R fl base
  bel : Below W.heap.size W w
  len : m.length = n
  nb : ∀ x, N x → W.heap.size ≤ x ∧ x < base
  wb : W.heap.size ≤ base
section
variable {W w w' : World} {O gs gf n base : Nat} {N : Nat → Prop} {m : Mem} {R : Nat → Row} {fl : Nat → Int}
theorem St9.bnd (h : St9 W w O N gs gf n base m R fl) : ∀ x, N x → x < w.heap.size := fun x hx => by
  have := (h.nb x hx).2
  have := h.snc.bs
  have := h.snc.ltS
  omega
theorem St9.mem (h : St9 W w O N gs gf n base m R fl) {m' : Mem} (hm : MAt w' O m' N) (hf : Frn N w w') (hl : m'.length = m.length) : St9 W w' O N gs gf n base m' R fl :=
  ⟨hm, h.snc.keep hf (fun b hb => (h.nb b hb).2), h.bel.trans (hf.below h.bel.size (fun b hb => (h.nb b hb).1)), hl.trans h.len, h.nb, h.wb⟩
theorem St9.below (h : St9 W w O N gs gf n base m R fl) (hb : Below w.heap.size w w') : St9 W w' O N gs gf n base m R fl :=
  ⟨h.mat.below hb, h.snc.below hb, h.bel.trans (hb.mono h.bel.size), h.len, h.nb, h.wb⟩
theorem St9.setF (h : St9 W w O N gs gf n base m R fl) (k : Nat) (f : Int) : St9 W (w.setCell ⟨gf, k, none⟩ (.int .i64 f)) O N gs gf n base m R (upd fl k f) := by
  have hf : Frn (fun b => b = gf) w (w.setCell ⟨gf, k, none⟩ (.int .i64 f)) := Frn.setCell (T := fun b => b = gf) (Frn.refl _ w) ⟨gf, k, none⟩ (.inl rfl) _
  have hb := h.snc.bf
  have hw := h.wb
  exact ⟨h.mat.keep (fun x hx hl => hf.block x hl (fun e => by have := (h.nb x hx).2; omega)), h.snc.setF k f, h.bel.trans (hf.below h.bel.size (fun b e => by omega)), h.len, h.nb, h.wb⟩
theorem St9.put (h : St9 W w O N gs gf n base m R fl) (k : Nat) (hk : k < n) (hf : Frn (inRw (R k)) w w') (r : Row) (ho : OwnS w' r) (hb : ∀ b, inRw r b → inRw (R k) b ∨ w.heap.size ≤ b) :
    St9 W (w'.setCell ⟨gs, k, none⟩ (.slice r.p r.ss.length r.c)) O N gs gf n base m (upd R k r) fl := by
  have hf2 : Frn (fun b => b = gs) w' (w'.setCell ⟨gs, k, none⟩ (.slice r.p r.ss.length r.c)) := Frn.setCell (T := fun b => b = gs) (Frn.refl _ w') ⟨gs, k, none⟩ (.inl rfl) _
  have hbs := h.snc.bs
  have hw := h.wb
  exact ⟨h.mat.keep (fun x hx hl => (hf2.block x (Nat.lt_of_lt_of_le hl hf.size) (fun e => by have := (h.nb x hx).2; omega)).trans (hf.block x hl (fun hi => by have := (h.snc.blk k hk x hi).1; have := (h.nb x hx).2; omega))),
    h.snc.put k hk hf r ho hb, h.bel.trans ((hf.below h.bel.size (fun b hi => by have := (h.snc.blk k hk b hi).1; omega)).trans (hf2.below (Nat.le_trans h.bel.size hf.size) (fun b e => by omega))), h.len, h.nb, h.wb⟩
end
/-- The first contents. -/
def Inv0 (m : Mem) (R : Nat → Row) (fl : Nat → Int) (j : Nat) : Prop := ∀ k (hk : k < m.length), k < j → LOk m[k].lasts m[k].q (R k).ss (fl k) ∧ (R k).ss.length ≤ 1 ∧ Lst m[k].now (R k).ss
theorem inv0_step {m : Mem} {R : Nat → Row} {fl : Nat → Int} {j : Nat} (h : Inv0 m R fl j) (hj : j < m.length) (hq : m[j].q = none) (hl : m[j].lasts = m[j].now) (r : Row) (hr : r.ss = [strL m[j].now]) : Inv0 m (upd R j r) (upd fl j (-1)) (j + 1) := fun k hk hkj => by
  by_cases e : k = j
  · subst e
    rw [upd_same, upd_same, hr, hq, hl]
    exact ⟨⟨by simp, .inl ⟨rfl, rfl⟩⟩, by simp, by simp [Lst]⟩
  · rw [upd_other _ _ e, upd_other _ _ e]
    exact h k hk (by omega)
theorem inv0_done {m : Mem} {R : Nat → Row} {fl : Nat → Int} (h : Inv0 m R fl m.length) : Inv m R fl 1 ∧ LastTo m R m.length :=
  ⟨fun k hk => ⟨(h k hk hk).1, (h k hk hk).2.1⟩, fun k hk _ => (h k hk hk).2.2⟩
theorem of_line (vs : List V8) (k : Nat) (hk : k < (Mem.of vs).length) : (Mem.of vs)[k].q = none ∧ (Mem.of vs)[k].lasts = (Mem.of vs)[k].now := by
  have e : (Mem.of vs)[k] = ⟨vs[k]'(by rwa [of_len] at hk), vs[k]'(by rwa [of_len] at hk), none⟩ := List.getElem_map _
  rw [e]
  exact ⟨rfl, rfl⟩
/-- Made slices of nil rows, of numbers. -/
theorem made_of {T e : TypeId} {z : Value} {bytes : Nat} (he : ElemIs Try.prog T e z 1 bytes) (hz : z.cells = #[z]) (hb : bytes ≤ 1000) (k : Nat) (hk : k ≤ 1000) (w : World) : (Instr.makeSlice T (.int .i64 (k : Int)) (.int .i64 (k : Int))).run Try.prog w =
    .ok (.slice (some ⟨w.heap.size, 0, none⟩) k k) (w.alloc (.cells (Array.replicate k z) e)) := by
  obtain ⟨i0, hi0, hz0, hz1, hz2⟩ := info_parts he.info
  have hkb : k * bytes ≤ 1000 * 1000 := Nat.mul_le_mul hk hb
  have h := run_makeSlice (P := Try.prog) (w := w) T e i0 z he.under hi0 hz0 .i64 .i64 (k : Int) (k : Int) (by omega) (by omega) (by rw [hz1]; (try simp); omega) (by rw [hz2, ← Int.natCast_mul, Nat.mul_comm]; omega) (by omega)
  rw [hz1] at h
  have e : madeCells z.cells ((k : Int).toNat * 1) = Array.replicate k z := by
    rw [hz]
    apply Array.ext
    · simp [madeCells]
    · intro i h1 h2
      simp [madeCells, Nat.mod_one]
  rw [e] at h
  simpa using h
theorem elem_rows : ElemIs Try.prog 46 48 (.slice none 0 0) 1 24 := ⟨by kernel_rfl, by kernel_rfl, rfl, by decide⟩
theorem elem_intz : ElemIs Try.prog 39 3 (.int .i64 0) 1 8 := ⟨by kernel_rfl, by kernel_rfl, rfl, by decide⟩
def row0 : Nat → Row := fun _ => ⟨none, 0, []⟩
theorem snc_new {w w1 w2 : World} {n : Nat} (h1 : w.alloc (.cells (Array.replicate n (.slice none 0 0)) 48) = w1) (h2 : w1.alloc (.cells (Array.replicate n (.int .i64 0)) 3) = w2) : Snc w2 w.heap.size w1.heap.size n row0 (fun _ => 0) w.heap.size := by
  have hz : w1.heap.size = w.heap.size + 1 := by rw [← h1]; simp
  have e1 : w1.heap[w.heap.size]? = some (.cells (Array.replicate n (.slice none 0 0)) 48 (0, 0)) := by rw [← h1]; exact World.alloc_heap_new _ _
  have e2 : w2.heap[w1.heap.size]? = some (.cells (Array.replicate n (.int .i64 0)) 3 (0, 0)) := by rw [← h2]; exact World.alloc_heap_new _ _
  have e3 : w2.heap[w.heap.size]? = w1.heap[w.heap.size]? := by rw [← h2]; exact (below_alloc w1 _).block _ (by omega)
  refine ⟨⟨_, e3.trans e1, fun k hk => by simp [hk, row0]⟩, ⟨_, e2, fun k hk => by simp [hk]⟩, fun k hk => OwnG.nil _ _ _ _ _, ?_, ?_, by omega, Nat.le_refl _, by omega⟩
  · rintro k hk b ⟨a, ha, -⟩
    cases ha
  · rintro i j hi hj hij b ⟨a, ha, -⟩
    cases ha
end Go.Proofs.Ytaflbfmlajbjcaa
