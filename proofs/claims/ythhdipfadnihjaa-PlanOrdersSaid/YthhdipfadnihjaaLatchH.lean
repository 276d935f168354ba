/- The state of a latch; the walk of give. -/
import Derived.Test.YthhdipfadnihjaaLatchG
import Derived.Test.YthhdipfadnihjaaRegF
import Derived.ScopeJumps
import Derived.WalkMore
namespace Go.Proofs.Ythhdipfadnihjaa
open Go Go.RowKit

theorem step_appT {w : World} {ops : Array Oper} {o : Oper} {a : Act} {K : Act → World → Prop} {Q : Exit → Act → World → Prop} {E : Prop} (hw : Region.wanted o (yielded ops a.tmps) = true) (s x : Operand) (t : TypeId)
    (hop : o.op = .call { callee := .builtin .append, args := #[s, x], argTypes := #[t, t] }) (he : ElemIs Try.prog t 53 (.agg #[.int .i64 0, .bool false]) 2 16)
    (p : Option Addr) (cap : Nat) (ys : List Turn) (y : Turn) (hs : a.eval s = .slice p ys.length cap) (hown : OwnT w p cap ys)
    (g c : Nat) (hx : a.eval x = .slice (some ⟨g, 0, none⟩) 1 c) (te : TypeId) (fr : Nat × Nat) (hg : w.heap[g]? = some (.cells #[.int .i64 y.1, .bool y.2] te fr)) (hn : ys.length < 1000000)
    (h : ∀ p' cap' w', OwnT w' p' cap' (ys ++ [y]) → Frn (inP p cap) w w' → (∀ b, inP p' cap' b → inP p cap b ∨ (w.heap.size ≤ b ∧ b < w'.heap.size)) → K (a.put o.dst (.slice p' (ys.length + 1) cap')) w') :
    if Region.wanted o (yielded ops a.tmps) = true then Oper.wp Try.prog o a w K Q else E := by
  refine step_append_ownO hw s x t hop he p cap ys.length (ys.flatMap tc) hs hown ⟨g, 0, none⟩ 1 c (tc y) hx rfl (news_turn hg) (by have := tc_one [y]; simpa using this) (by decide) (by unfold maxLen; omega) (by omega) ?_
  intro p' cap' w' h2 h3 h4
  exact h p' cap' w' (by unfold OwnT; simpa using h2) h3 h4

theorem lst_c0 {W : World} {L : Nat} {u v x : Value} {t : TypeId} (h : W.heap[L]? = some (.cells #[u, v, x] t (0, 0))) : W.cell? ⟨L, 0, none⟩ = some u := by simp [World.cell?, h]
theorem lst_c1 {W : World} {L : Nat} {u v x : Value} {t : TypeId} (h : W.heap[L]? = some (.cells #[u, v, x] t (0, 0))) : W.cell? ⟨L, 1, none⟩ = some v := by simp [World.cell?, h]
theorem lst_c2 {W : World} {L : Nat} {u v x : Value} {t : TypeId} (h : W.heap[L]? = some (.cells #[u, v, x] t (0, 0))) : W.cell? ⟨L, 2, none⟩ = some x := by simp [World.cell?, h]
theorem lst_fr {W : World} {L : Nat} {u v x : Value} {t : TypeId} (h : W.heap[L]? = some (.cells #[u, v, x] t (0, 0))) (k : Nat) : W.frozen? ⟨L, k, none⟩ = false := by simp [World.frozen?, h]
theorem lst_put {W : World} {L : Nat} {u v x u' v' : Value} {t : TypeId} (h : W.heap[L]? = some (.cells #[u, v, x] t (0, 0))) : ((W.setCell ⟨L, 0, none⟩ u').setCell ⟨L, 1, none⟩ v').heap[L]? = some (.cells #[u', v', x] t (0, 0)) := by
  have h1 := heap_setCell_same W L 0 _ t u' h
  have h2 := heap_setCell_same _ L 1 _ t v' h1
  simpa using h2
/-- A latch lies in block L: who holds it, who waits; its two rows are its own. -/
structure LSt (W : World) (L : Nat) (p : Option Addr) (c : Nat) (xs : List Turn) (q : Option Addr) (d : Nat) (ys : List Turn) : Prop where
  hp : W.heap[L]? = some (.cells #[.slice p xs.length c, .slice q ys.length d, .bool true] 113 (0, 0))
  ox : OwnT W p c xs
  oy : OwnT W q d ys
  nx : ¬ inP p c L
  ny : ¬ inP q d L
  xy : ∀ b, inP p c b → ¬ inP q d b
section
variable {W : World} {L : Nat} {p : Option Addr} {c : Nat} {xs : List Turn} {q : Option Addr} {d : Nat} {ys : List Turn}
theorem LSt.c0 (h : LSt W L p c xs q d ys) : W.cell? ⟨L, 0, none⟩ = some (.slice p xs.length c) := lst_c0 h.hp
theorem LSt.c1 (h : LSt W L p c xs q d ys) : W.cell? ⟨L, 1, none⟩ = some (.slice q ys.length d) := lst_c1 h.hp
theorem LSt.c2 (h : LSt W L p c xs q d ys) : W.cell? ⟨L, 2, none⟩ = some (.bool true) := lst_c2 h.hp
theorem LSt.lt (h : LSt W L p c xs q d ys) : L < W.heap.size := (Array.getElem?_eq_some_iff.1 h.hp).1
theorem LSt.lat (h : LSt W L p c xs q d ys) : LAt W L p c xs q d ys := ⟨h.c0, h.c1, h.c2, lst_fr h.hp 0, h.lt, h.ox.rds, h.oy.rds⟩
theorem LSt.keep {W' : World} (h : LSt W L p c xs q d ys) (hb : ∀ b, (b = L ∨ inP p c b ∨ inP q d b) → W'.heap[b]? = W.heap[b]?) : LSt W' L p c xs q d ys :=
  ⟨(hb L (.inl rfl)).trans h.hp, h.ox.keep fun b hi => hb b (.inr (.inl hi)), h.oy.keep fun b hi => hb b (.inr (.inr hi)), h.nx, h.ny, h.xy⟩
theorem LSt.below {W' : World} (h : LSt W L p c xs q d ys) (hb : Below W.heap.size W W') : LSt W' L p c xs q d ys :=
  h.keep fun b hi => hb.block b (by rcases hi with rfl | hi | hi; exact h.lt; exact h.ox.lt hi; exact h.oy.lt hi)
end
/-- .. its blocks are among T. -/
def LOwn (T : Nat → Prop) (W : World) (L : Nat) (xs ys : List Turn) : Prop :=
  ∃ p c q d, LSt W L p c xs q d ys ∧ ∀ b, (b = L ∨ inP p c b ∨ inP q d b) → T b
/-- What is given: one turn after the other, as long as it may be. -/
def givenT : List Turn → List Turn → List Turn × List Turn
  | h, [] => (h, [])
  | h, t :: ws => if freeT h t then givenT (h ++ [t]) ws else (h, t :: ws)
theorem freeT_nil (t : Turn) : freeT [] t = true := rfl
theorem freeT_cons (h : List Turn) (t : Turn) (hh : h ≠ []) : freeT h t = (!t.2 && readsT h) := by
  obtain ⟨t1, t2⟩ := t
  unfold freeT readsT
  cases t2 with
  | false => induction h with
    | nil => exact absurd rfl hh
    | cons x h ih =>
      by_cases hn : h = []
      · subst hn; simp
      · have := ih hn
        simp only [List.all_cons, List.any_cons, Bool.not_or] at this ⊢
        rw [this]; simp
  | true => cases h with
    | nil => exact absurd rfl hh
    | cons x h => simp
theorem wp_scope_label {P : Program} {a : Act} {w : World} {Q : Exit → Act → World → Prop} {c rest : Code} (l : Nat) (J : Act → World → Prop) (μ : Act → World → Nat) (hf : findLabel ((Code.label l).seq rest) l = some c) (hc : c = Code.skip.seq rest) (h0 : J a w)
    (pass : ∀ a w, J a w → rest.wp P (Exit.jump l (fun a' w' => J a' w' ∧ μ a' w' < μ a w) Q) a w) : (Code.scope ((Code.label l).seq rest)).wp P Q a w := by
  subst hc
  refine wp_scope_jumps l J μ hf (wp_seq (wp_label ?_)) (fun a w h => wp_seq (wp_skip (pass a w h)))
  refine wp_mono (pass a w h0) ?_
  intro e a' w' h
  cases e <;> first | exact h | exact ⟨h.1, h.2.1⟩

def lenAt (L : Nat) (W : World) : Nat := match W.cell? ⟨L, 1, none⟩ with | some (.slice _ n _) => n | _ => 0
theorem Frn.wide {A B : Nat → Prop} {w w' : World} (h : Frn A w w') (hAB : ∀ b, A b → B b) : Frn B w w' := ⟨h.os, h.tape, h.output, h.size, fun b hb hn => h.block b hb (fun ha => hn (hAB b ha))⟩
theorem Frn.grown {T A : Nat → Prop} {w wr w3 : World} (h : Frn T w wr) (hA : ∀ b, A b → grow T w wr b) (k : Frn A wr w3) : Frn T w w3 :=
  ⟨k.os.trans h.os, k.tape.trans h.tape, k.output.trans h.output, Nat.le_trans h.size k.size, fun b hb hn => (k.block b (Nat.lt_of_lt_of_le hb h.size) (fun ha => (hA b ha).elim hn (fun hh => by have := hh.1; omega))).trans (h.block b hb hn)⟩
theorem grow_mono {T : Nat → Prop} {w a b : World} (h : a.heap.size ≤ b.heap.size) {k : Nat} (hk : grow T w a k) : grow T w b k := hk.imp id (fun hh => ⟨hh.1, Nat.lt_of_lt_of_le hh.2 h⟩)
theorem lenAt_of {W : World} {L : Nat} {p : Option Addr} {c : Nat} {xs : List Turn} {q : Option Addr} {d : Nat} {ys : List Turn} (h : LSt W L p c xs q d ys) : lenAt L W = ys.length := by unfold lenAt; rw [h.c1]
theorem givenT_yes {h : List Turn} {t : Turn} {ws : List Turn} (hf : freeT h t = true) : givenT h (t :: ws) = givenT (h ++ [t]) ws := by conv => lhs; unfold givenT; rw [if_pos hf]
theorem givenT_no {h : List Turn} {t : Turn} {ws : List Turn} (hf : freeT h t = false) : givenT h (t :: ws) = (h, t :: ws) := by conv => lhs; unfold givenT; rw [if_neg (by simp [hf])]
theorem tail_in {g o d b : Nat} {q : Option Addr} (hq : q = if d = 1 then some ⟨g, o, none⟩ else some ⟨g, o + 2, none⟩) (h : inP q (d - 1) b) : inP (some ⟨g, o, none⟩) d b := by
  obtain ⟨a, ha, rfl, h0⟩ := h
  rw [hq, if_neg (by omega)] at ha
  cases ha
  exact ⟨_, rfl, rfl, by omega⟩
theorem give_step {T : Nat → Prop} {w wr X w2 : World} {L : Nat} {p : Option Addr} {c : Nat} {xs : List Turn} {g o d : Nat} {t : Turn} {ws : List Turn} {p2 : Option Addr} {c2 : Nat} (q : Option Addr) (hq' : q = if d = 1 then some ⟨g, o, none⟩ else some ⟨g, o + 2, none⟩)
    (hst : LSt wr L p c xs (some ⟨g, o, none⟩) d (t :: ws)) (hT : ∀ b, (b = L ∨ inP p c b ∨ inP (some ⟨g, o, none⟩) d b) → grow T w wr b) (hfr : Frn T w wr) (hX : Below wr.heap.size wr X)
    (hfr2 : Frn (inP p c) X w2) (hown : OwnT w2 p2 c2 (xs ++ [t])) (hq : ∀ b, inP p2 c2 b → inP p c b ∨ (X.heap.size ≤ b ∧ b < w2.heap.size)) :
    LOwn (grow T w ((w2.setCell ⟨L, 0, none⟩ (.slice p2 (xs.length + 1) c2)).setCell ⟨L, 1, none⟩ (.slice q ws.length (d - 1)))) ((w2.setCell ⟨L, 0, none⟩ (.slice p2 (xs.length + 1) c2)).setCell ⟨L, 1, none⟩ (.slice q ws.length (d - 1))) L (xs ++ [t]) ws ∧
    Frn T w ((w2.setCell ⟨L, 0, none⟩ (.slice p2 (xs.length + 1) c2)).setCell ⟨L, 1, none⟩ (.slice q ws.length (d - 1))) ∧
    lenAt L ((w2.setCell ⟨L, 0, none⟩ (.slice p2 (xs.length + 1) c2)).setCell ⟨L, 1, none⟩ (.slice q ws.length (d - 1))) < lenAt L wr := by
  have hsX := hst.below hX
  have hLX := hsX.lt
  have hL2 := (hfr2.block L hLX hsX.nx).trans hsX.hp
  have hput := lst_put (u' := .slice p2 (xs.length + 1) c2) (v' := .slice q ws.length (d - 1)) hL2
  have hoth : ∀ b, b ≠ L → ((w2.setCell ⟨L, 0, none⟩ (.slice p2 (xs.length + 1) c2)).setCell ⟨L, 1, none⟩ (.slice q ws.length (d - 1))).heap[b]? = w2.heap[b]? := fun b hb => (heap_setCell_other _ ⟨L, 1, none⟩ b _ hb).trans (heap_setCell_other _ ⟨L, 0, none⟩ b _ hb)
  have hsz : ((w2.setCell ⟨L, 0, none⟩ (.slice p2 (xs.length + 1) c2)).setCell ⟨L, 1, none⟩ (.slice q ws.length (d - 1))).heap.size = w2.heap.size := by simp [World.setCell]
  generalize hw3 : ((w2.setCell ⟨L, 0, none⟩ (.slice p2 (xs.length + 1) c2)).setCell ⟨L, 1, none⟩ (.slice q ws.length (d - 1))) = w3 at *
  have hnL : ∀ b, inP p2 c2 b → b ≠ L := fun b hb e => by
    subst e
    rcases hq b hb with h | h
    · exact hsX.nx h
    · have := h.1; omega
  have hqo : OwnT X q (d - 1) ws := by
    by_cases h1 : d = 1
    · rw [hq', if_pos h1]
      subst h1
      have h2 := hsX.oy
      unfold OwnT at h2 ⊢
      have h3 := OwnO.tail0 (n := ws.length) h2
      rw [flat_drop tc_len] at h3
      exact h3.2
    · rw [hq', if_neg h1]
      have h2 := hsX.oy
      unfold OwnT at h2 ⊢
      have h3 := OwnO.tail1 (n := ws.length) h2
      rwa [flat_drop tc_len] at h3
  have hst3 : LSt w3 L p2 c2 (xs ++ [t]) q (d - 1) ws := by
    refine ⟨by rw [hput, List.length_append]; rfl, hown.keep fun b hb => hoth b (hnL b hb), hqo.keep fun b hb => ?_, fun h => hnL L h rfl, fun h => hsX.ny (tail_in hq' h), fun b hb hb2 => ?_⟩
    · have hb3 := tail_in hq' hb
      exact (hoth b (fun e => hsX.ny (e ▸ hb3))).trans (hfr2.block b (hqo.lt hb) (fun h => hsX.xy b h hb3))
    · have hb3 := tail_in hq' hb2
      rcases hq b hb with h | h
      · exact hsX.xy b h hb3
      · have := hsX.oy.lt hb3; have := h.1; omega
  have hle : wr.heap.size ≤ w3.heap.size := by rw [hsz]; exact Nat.le_trans hX.size hfr2.size
  refine ⟨⟨p2, c2, q, d - 1, hst3, fun b hb => ?_⟩, hfr.grown hT ?_, by rw [lenAt_of hst3, lenAt_of hst]; simp⟩
  · rcases hb with rfl | hb | hb
    · exact grow_mono hle (hT b (.inl rfl))
    · rcases hq b hb with h | h
      · exact grow_mono hle (hT b (.inr (.inl h)))
      · exact .inr ⟨Nat.le_trans hfr.size (Nat.le_trans hX.size h.1), by rw [hsz]; exact h.2⟩
    · exact grow_mono hle (hT b (.inr (.inr (tail_in hq' hb))))
  · refine ⟨?_, ?_, ?_, hle, fun b hb hn => ?_⟩
    · rw [← hw3]; exact hfr2.os.trans hX.os
    · rw [← hw3]; exact hfr2.tape.trans hX.tape
    · rw [← hw3]; exact hfr2.output.trans hX.output
    · exact (hoth b (fun e => hn (.inl e))).trans ((hfr2.block b (Nat.lt_of_lt_of_le hb hX.size) (fun h => hn (.inr (.inl h)))).trans (hX.block b hb))
set_option maxRecDepth 100000 in
set_option maxHeartbeats 4000000 in
theorem give_any (T : Nat → Prop) (L : Nat) (xs ys : List Turn) (w : World) (h : LOwn T w L xs ys) (hn : xs.length + ys.length < 100000) :
    Calls Try.prog 62 #[.pointer (some ⟨L, 0, none⟩)] w fun e w' => e = .returned (.tuple #[]) ∧ LOwn (grow T w w') w' L (givenT xs ys).1 (givenT xs ys).2 ∧ Frn T w w' := by
  have H := Lib.hid h
  clear h
  go_enter Try.func62, Try.ntmps62
  refine wp_scope_label 0 (fun a' w' => (∃ u1 u2 u3 u4 u5 u6 u7 u8 u9 u10 u11 u12 u13 u14 u15 u16 u17 u18 u19 u20 u21 u22 u23 u24 u25 u26 u27 u28 u29 u30 u31 u32 u33 u34 u35 u36 u37 u38 u39 u40 u41 u42 u43 u44 u45 u46 u47 u48 u49 u50 : Value, a' = { tmps := #[.pointer (some ⟨L, 0, none⟩), u1, u2, u3, u4, u5, u6, u7, u8, u9, u10, u11, u12, u13, u14, u15, u16, u17, u18, u19, u20, u21, u22, u23, u24, u25, u26, u27, u28, u29, u30, u31, u32, u33, u34, u35, u36, u37, u38, u39, u40, u41, u42, u43, u44, u45, u46, u47, u48, u49, u50], defers := [] }) ∧ ∃ xs' ys', LOwn (grow T w w') w' L xs' ys' ∧ Frn T w w' ∧ givenT xs' ys' = givenT xs ys ∧ xs'.length + ys'.length = xs.length + ys.length) (fun _ w' => lenAt L w') rfl rfl ?_ ?_
  · exact ⟨⟨_, _, _, _, _, _, _, _, _, _, _, _, _, _, _, _, _, _, _, _, _, _, _, _, _, _, _, _, _, _, _, _, _, _, _, _, _, _, _, _, _, _, _, _, _, _, _, _, _, _, rfl⟩, xs, ys, by rw [grow_same rfl]; exact H.out, Frn.refl _ _, rfl, rfl⟩
  rintro a' wr ⟨⟨u1, u2, u3, u4, u5, u6, u7, u8, u9, u10, u11, u12, u13, u14, u15, u16, u17, u18, u19, u20, u21, u22, u23, u24, u25, u26, u27, u28, u29, u30, u31, u32, u33, u34, u35, u36, u37, u38, u39, u40, u41, u42, u43, u44, u45, u46, u47, u48, u49, u50, rfl⟩, xs', ys', ⟨p, c, q, d, hst, hT⟩, hfr, hg, hl⟩
  have m0 := hst.c0
  have m1 := hst.c1
  have HT := Lib.hid hT
  have HFR := Lib.hid hfr
  have HG := Lib.hid hg
  have HL := Lib.hid hl
  have HST := Lib.hid hst
  have hlx := hst.ox.rds.len
  clear hT hfr hg hl
  cases ys' with
  | nil =>
    clear hst
    go_wp2_with fail
    simp only [Exit.jump]
    go_end0
    have hg := HG.out
    rw [show givenT xs' [] = (xs', []) from by unfold givenT; rfl] at hg
    rw [← hg]
    exact ⟨rfl, ⟨p, c, q, d, HST.out, HT.out⟩, HFR.out⟩
  | cons t ws =>
    obtain ⟨t1, t2⟩ := t
    obtain ⟨g, o, rfl, hd0⟩ := hst.oy.some (by simp)
    obtain ⟨g0, g1⟩ := hst.oy.at 0 (by simp)
    simp only [Nat.zero_mul, Nat.add_zero, List.getElem_cons_zero] at g0 g1
    have HLN := Lib.hid (show xs'.length < 1000000 by have := HL.out; omega)
    have hNB : ¬ inP p c wr.heap.size := fun hi => by have := hst.ox.lt hi; omega
    have HNB := Lib.hid hNB
    have hw1 : (1 : Int) ≤ (ws.length : Int) + 1 := by omega
    clear hst hNB
    obtain ⟨wb, hwb⟩ : ∃ wb, wr.alloc (.cells #[.int .i64 t1, .bool t2] 53) = wb := ⟨_, rfl⟩
    have hbw : Below wr.heap.size wr wb := by rw [← hwb]; exact (Below.refl _ _).alloc (Nat.le_refl _) _
    have HLT_wb := Lib.hid (show wr.heap.size < wb.heap.size by rw [← hwb]; simp)
    have HBX_wb := Lib.hid (show wb.cell? ⟨wr.heap.size, 0, none⟩ = some (.int .i64 t1) ∧ wb.cell? ⟨wr.heap.size, 1, none⟩ = some (.bool t2) by rw [← hwb]; exact ⟨by rw [World.cell?_alloc_new]; rfl, by rw [World.cell?_alloc_new]; rfl⟩)
    have HS_wb := Lib.hid (HST.out.below hbw)
    have HBW_wb := Lib.hid hbw
    have HWB := Lib.hid hwb
    have e0 : (wr.alloc (.cells #[.int .i64 t1, .bool t2] 53)).cell? ⟨L, 0, none⟩ = some (.slice p xs'.length c) := by rw [hwb]; exact HS_wb.out.c0
    clear hbw hwb
    by_cases hx0 : xs' = []
    · subst hx0
      have HFT := Lib.hid (freeT_nil (t1, t2))
      go_wp2_with fail
      rw [HWB.out]
      clear e0
      have hXd := (Below.refl wb.heap.size wb).drew
      have sX := HS_wb.out.below hXd
      have d0 := sX.c0
      have d1 := sX.c1
      have hXa : Below wb.heap.size wb (wb.drew.alloc (.cells #[.int .i64 t1, .bool t2] 53)) := hXd.alloc (Nat.le_refl _) _
      have sA := HS_wb.out.below hXa
      have a0 := sA.c0
      have a1 := sA.c1
      have b0d : wb.drew.cell? ⟨wr.heap.size, 0, none⟩ = some (.int .i64 t1) := HBX_wb.out.1
      have b1d : wb.drew.cell? ⟨wr.heap.size, 1, none⟩ = some (.bool t2) := HBX_wb.out.2
      have b0a : (wb.drew.alloc (.cells #[.int .i64 t1, .bool t2] 53)).cell? ⟨wr.heap.size, 0, none⟩ = some (.int .i64 t1) := (hXa.cell (p := ⟨wr.heap.size, 0, none⟩) HLT_wb.out).trans b0d
      have b1a : (wb.drew.alloc (.cells #[.int .i64 t1, .bool t2] 53)).cell? ⟨wr.heap.size, 1, none⟩ = some (.bool t2) := (hXa.cell (p := ⟨wr.heap.size, 1, none⟩) HLT_wb.out).trans b1d
      have HSA := Lib.hid sA
      have HXA := Lib.hid hXa
      clear hXd sX hXa sA
      refine wp_region_noPanic ?_
      refine wp_region_F 16 (fun w' => w'.cell? ⟨L, 0, none⟩ = some (.slice p 0 c) ∧ w'.cell? ⟨L, 1, none⟩ = some (.slice (some ⟨g, o, none⟩) (ws.length + 1) d) ∧ w'.cell? ⟨wr.heap.size, 0, none⟩ = some (.int .i64 t1) ∧ w'.cell? ⟨wr.heap.size, 1, none⟩ = some (.bool t2)) (by kernel_rfl) ?_ (fun hHeld => ?_)
      · exact ⟨d0, d1, b0d, b1d⟩
      refine' wpAnyF_takeT (i := 0) (v := _) rfl (by kernel_rfl) (by kernel_rfl) (by kernel_rfl) (by rfl) (fun _ _ _ h => h) (Or.inl ⟨by rfl, ?hy⟩) (fun _ => hHeld) _
      case hy => (intro w0 hSw; (try dsimp only at hSw); simp only [List.getElem_toArray, List.getElem_cons_zero]; go_simp; first | done | with_reducible rfl)
      simp only [Act.put, List.getElem_toArray, List.getElem_cons_zero, List.setIfInBounds_toArray, List.set_cons_zero, List.set_cons_succ]
      refine' wpAnyF_takeT (i := 1) (v := _) rfl (by kernel_rfl) (by kernel_rfl) (by kernel_rfl) (by rfl) (fun _ _ _ h => h) (Or.inl ⟨by rfl, ?hy⟩) (fun _ => hHeld) _
      case hy => (intro w0 hSw; (try dsimp only at hSw); simp only [List.getElem_toArray, List.getElem_cons_zero, List.getElem_cons_succ]; go_simp; first | done | with_reducible rfl)
      simp only [Act.put, List.getElem_toArray, List.getElem_cons_zero, List.getElem_cons_succ, List.setIfInBounds_toArray, List.set_cons_zero, List.set_cons_succ]
      refine' wpAnyF_takeT (i := 2) (v := _) rfl (by kernel_rfl) (by kernel_rfl) (by kernel_rfl) (by rfl) (fun _ _ _ h => h) (Or.inl ⟨by rfl, ?hy⟩) (fun _ => hHeld) _
      case hy => (intro w0 hSw; (try dsimp only at hSw); simp only [List.getElem_toArray, List.getElem_cons_zero, List.getElem_cons_succ]; go_simp; first | done | with_reducible rfl)
      simp only [Act.put, List.getElem_toArray, List.getElem_cons_zero, List.getElem_cons_succ, List.setIfInBounds_toArray, List.set_cons_zero, List.set_cons_succ]
      refine' wpAnyF_takeT (i := 3) (v := _) rfl (by kernel_rfl) (by kernel_rfl) (by kernel_rfl) (by rfl) (fun _ _ _ h => h) (Or.inl ⟨by rfl, ?hy⟩) (fun _ => hHeld) _
      case hy => (intro w0 hSw; (try dsimp only at hSw); simp only [List.getElem_toArray, List.getElem_cons_zero, List.getElem_cons_succ]; go_simp; first | done | with_reducible rfl)
      simp only [Act.put, List.getElem_toArray, List.getElem_cons_zero, List.getElem_cons_succ, List.setIfInBounds_toArray, List.set_cons_zero, List.set_cons_succ]
      refine' wpAnyF_takeT (i := 4) (v := _) rfl (by kernel_rfl) (by kernel_rfl) (by kernel_rfl) (by rfl) (fun _ _ _ h => h) (Or.inl ⟨by rfl, ?hy⟩) (fun _ => hHeld) _
      case hy => (intro w0 hSw; (try dsimp only at hSw); simp only [List.getElem_toArray, List.getElem_cons_zero, List.getElem_cons_succ]; go_simp; first | done | with_reducible rfl)
      simp only [Act.put, List.getElem_toArray, List.getElem_cons_zero, List.getElem_cons_succ, List.setIfInBounds_toArray, List.set_cons_zero, List.set_cons_succ]
      refine' wpAnyF_take (i := 5) (v := _) rfl (by kernel_rfl) (by kernel_rfl) (by kernel_rfl) (by kernel_rfl) (by rfl) (by kernel_rfl) (fun _ _ _ h => h) (Or.inl ⟨by rfl, ?hy⟩) hHeld _
      case hy => (intro w0 hSw; (try dsimp only at hSw); simp only [List.getElem_toArray, List.getElem_cons_zero, List.getElem_cons_succ]; go_simp; first | done | with_reducible rfl)
      simp only [Act.put, List.getElem_toArray, List.getElem_cons_zero, List.getElem_cons_succ, List.setIfInBounds_toArray, List.set_cons_zero, List.set_cons_succ]
      refine' wpAnyF_take (i := 6) (v := _) rfl (by kernel_rfl) (by kernel_rfl) (by kernel_rfl) (by kernel_rfl) (by rfl) (by kernel_rfl) (fun _ _ _ h => h) (Or.inl ⟨by rfl, ?hy⟩) hHeld _
      case hy => (intro w0 hSw; (try dsimp only at hSw); simp only [List.getElem_toArray, List.getElem_cons_zero, List.getElem_cons_succ]; go_simp; first | done | with_reducible rfl)
      simp only [Act.put, List.getElem_toArray, List.getElem_cons_zero, List.getElem_cons_succ, List.setIfInBounds_toArray, List.set_cons_zero, List.set_cons_succ]
      refine' wpAnyF_takeT (i := 9) (v := _) rfl (by kernel_rfl) (by kernel_rfl) (by kernel_rfl) (by rfl) (fun _ _ _ h => h) (Or.inl ⟨by rfl, ?hy⟩) (fun _ => hHeld) _
      case hy => (intro w0 hSw; (try dsimp only at hSw); simp only [List.getElem_toArray, List.getElem_cons_zero, List.getElem_cons_succ]; go_simp; first | done | with_reducible rfl)
      simp only [Act.put, List.getElem_toArray, List.getElem_cons_zero, List.getElem_cons_succ, List.setIfInBounds_toArray, List.set_cons_zero, List.set_cons_succ]
      refine' wpAnyF_takeT (i := 10) (v := _) rfl (by kernel_rfl) (by kernel_rfl) (by kernel_rfl) (by rfl) (fun _ _ _ h => h) (Or.inl ⟨by rfl, ?hy⟩) (fun _ => hHeld) _
      case hy => (intro w0 hSw; (try dsimp only at hSw); simp only [List.getElem_toArray, List.getElem_cons_zero, List.getElem_cons_succ]; go_simp; first | done | with_reducible rfl)
      simp only [Act.put, List.getElem_toArray, List.getElem_cons_zero, List.getElem_cons_succ, List.setIfInBounds_toArray, List.set_cons_zero, List.set_cons_succ]
      refine' wpAnyF_takeT (i := 11) (v := _) rfl (by kernel_rfl) (by kernel_rfl) (by kernel_rfl) (by rfl) (fun _ _ _ h => h) (Or.inl ⟨by rfl, ?hy⟩) (fun _ => hHeld) _
      case hy => (intro w0 hSw; (try dsimp only at hSw); simp only [List.getElem_toArray, List.getElem_cons_zero, List.getElem_cons_succ]; go_simp; first | done | with_reducible rfl)
      simp only [Act.put, List.getElem_toArray, List.getElem_cons_zero, List.getElem_cons_succ, List.setIfInBounds_toArray, List.set_cons_zero, List.set_cons_succ]
      refine' wpAnyF_take (i := 12) (v := _) rfl (by kernel_rfl) (by kernel_rfl) (by kernel_rfl) (by kernel_rfl) (by rfl) (by kernel_rfl) (fun _ _ _ h => h) (Or.inl ⟨by rfl, ?hy⟩) hHeld _
      case hy => (intro w0 hSw; (try dsimp only at hSw); simp only [List.getElem_toArray, List.getElem_cons_zero, List.getElem_cons_succ]; go_simp; first | done | with_reducible rfl)
      simp only [Act.put, List.getElem_toArray, List.getElem_cons_zero, List.getElem_cons_succ, List.setIfInBounds_toArray, List.set_cons_zero, List.set_cons_succ]
      refine' wpAnyF_takeT (i := 13) (v := _) rfl (by kernel_rfl) (by kernel_rfl) (by kernel_rfl) (by rfl) (fun _ _ _ h => h) (Or.inl ⟨by rfl, ?hy⟩) (fun _ => hHeld) _
      case hy => (intro w0 hSw; (try dsimp only at hSw); simp only [List.getElem_toArray, List.getElem_cons_zero, List.getElem_cons_succ]; go_simp; first | done | with_reducible rfl)
      simp only [Act.put, List.getElem_toArray, List.getElem_cons_zero, List.getElem_cons_succ, List.setIfInBounds_toArray, List.set_cons_zero, List.set_cons_succ]
      refine wpAnyF_one (i := 7) (by kernel_rfl) rfl (fun K hK => ?_)
      go_simp
      refine hK.out _ _ (fun _ => ?_) ?_
      · exact ⟨a0, a1, b0a, b1a⟩
      clear hK K
      try simp only [Act.put, List.getElem_toArray, List.getElem_cons_zero, List.getElem_cons_succ, List.setIfInBounds_toArray, List.set_cons_zero, List.set_cons_succ]
      refine wpAnyF_one (i := 8) (by kernel_rfl) rfl (fun K hK => ?_)
      refine step_appT (by rfl) (.tmp 38) (.tmp 40) _ rfl elem_turns p c [] (t1, t2) rfl HSA.out.ox wb.heap.size 1 rfl 53 (0, 0) (World.alloc_heap_new wb.drew _) HLN.out ?_
      intro p2 c2 w2 hown2 hf2 hq2
      have hkk : ∀ b, b < wb.heap.size → ¬ inP p c b → w2.heap[b]? = wb.heap[b]? := fun b hb hn => (hf2.block b (Nat.lt_of_lt_of_le hb HXA.out.size) hn).trans (HXA.out.block b hb)
      have z0 := (World.cell?_of_block (a := ⟨wr.heap.size, 0, none⟩) (hkk wr.heap.size HLT_wb.out HNB.out)).trans HBX_wb.out.1
      have z1 := (World.cell?_of_block (a := ⟨wr.heap.size, 1, none⟩) (hkk wr.heap.size HLT_wb.out HNB.out)).trans HBX_wb.out.2
      have hL2 := (hkk L HS_wb.out.lt HS_wb.out.nx).trans HS_wb.out.hp
      have l0 := lst_c0 hL2
      have l1 := lst_c1 hL2
      have l2 := lst_fr hL2 0
      have l3 := lst_fr hL2 1
      have HW2 := Lib.hid hL2
      have HO2 := Lib.hid hown2
      have HF2 := Lib.hid (((Frn.of_below HXA.out).trans hf2))
      have HQ2 := Lib.hid hq2
      have HKK := Lib.hid hkk
      clear hown2 hf2 hq2 hL2 hkk
      refine hK.out _ _ (fun _ => ?_) ?_
      · exact ⟨l0, l1, z0, z1⟩
      clear hK K
      try simp only [Act.put, List.getElem_toArray, List.getElem_cons_zero, List.getElem_cons_succ, List.setIfInBounds_toArray, List.set_cons_zero, List.set_cons_succ]
      refine wpAnyF_one (i := 14) (by kernel_rfl) rfl (fun K hK => ?_)
      go_simp
      refine hK.out _ _ (fun _ => ?_) ?_
      · exact ⟨l0, l1, z0, z1⟩
      clear hK K
      try simp only [Act.put, List.getElem_toArray, List.getElem_cons_zero, List.getElem_cons_succ, List.setIfInBounds_toArray, List.set_cons_zero, List.set_cons_succ]
      refine wpAnyF_one (i := 15) (by kernel_rfl) rfl (fun K hK => ?_)
      go_simp
      refine hK.out _ _ (fun _ => ?_) ?_
      · exact ⟨l0, l1, z0, z1⟩
      clear hK K
      try simp only [Act.put, List.getElem_toArray, List.getElem_cons_zero, List.getElem_cons_succ, List.setIfInBounds_toArray, List.set_cons_zero, List.set_cons_succ]
      refine wpAnyF_one (i := 16) (by kernel_rfl) rfl (fun K hK => ?_)
      go_simp
      refine hK.out _ _ (fun h => Bool.noConfusion (h.symm.trans (by kernel_rfl : _ = true))) ?_
      clear hK K
      try simp only [Act.put, List.getElem_toArray, List.getElem_cons_zero, List.getElem_cons_succ, List.setIfInBounds_toArray, List.set_cons_zero, List.set_cons_succ]
      refine wpAnyF_one (i := 17) (by kernel_rfl) rfl (fun K hK => ?_)
      go_simp
      refine hK.out _ _ (fun h => Bool.noConfusion (h.symm.trans (by kernel_rfl : _ = true))) ?_
      clear hK K
      try simp only [Act.put, List.getElem_toArray, List.getElem_cons_zero, List.getElem_cons_succ, List.setIfInBounds_toArray, List.set_cons_zero, List.set_cons_succ]
      refine wpAnyF_one (i := 18) (by kernel_rfl) rfl (fun K hK => ?_)
      go_simp
      refine hK.out _ _ (fun h => Bool.noConfusion (h.symm.trans (by kernel_rfl : _ = true))) ?_
      clear hK K
      try simp only [Act.put, List.getElem_toArray, List.getElem_cons_zero, List.getElem_cons_succ, List.setIfInBounds_toArray, List.set_cons_zero, List.set_cons_succ]
      refine wpAnyF_one (i := 19) (by kernel_rfl) rfl (fun K hK => ?_)
      go_simp
      refine hK.out _ _ (fun h => Bool.noConfusion (h.symm.trans (by kernel_rfl : _ = true))) ?_
      clear hK K
      try simp only [Act.put, List.getElem_toArray, List.getElem_cons_zero, List.getElem_cons_succ, List.setIfInBounds_toArray, List.set_cons_zero, List.set_cons_succ]
      refine wpAnyF_done (by kernel_rfl) ?_ _
      refine NoPanic.normal ?_
      go_wp2_with fail
      all_goals
        go_step3
        first
        | (have h1 : d = 1 := by assumption
           subst h1
           obtain ⟨r1, r2, r3⟩ := give_step _ (if_pos rfl).symm HST.out HT.out HFR.out HBW_wb.out HF2.out HO2.out (fun b hb => (HQ2.out b hb).imp id (fun h => ⟨Nat.le_trans HXA.out.size h.1, h.2⟩))
           refine ⟨rfl, ⟨⟨_, _, _, _, _, _, _, _, _, _, _, _, _, _, _, _, _, _, _, _, _, _, _, _, _, _, _, _, _, _, _, _, _, _, _, _, _, _, _, _, _, _, _, _, _, _, _, _, _, _, rfl⟩, [] ++ [(t1, t2)], ws, r1, r2, ?_, ?_⟩, r3⟩
           · rw [← HG.out, givenT_yes HFT.out]
           · have := HL.out; simp at this ⊢; omega)
        | (have h1 : ¬ d = 1 := by assumption
           obtain ⟨r1, r2, r3⟩ := give_step _ (if_neg h1).symm HST.out HT.out HFR.out HBW_wb.out HF2.out HO2.out (fun b hb => (HQ2.out b hb).imp id (fun h => ⟨Nat.le_trans HXA.out.size h.1, h.2⟩))
           refine ⟨rfl, ⟨⟨_, _, _, _, _, _, _, _, _, _, _, _, _, _, _, _, _, _, _, _, _, _, _, _, _, _, _, _, _, _, _, _, _, _, _, _, _, _, _, _, _, _, _, _, _, _, _, _, _, _, rfl⟩, [] ++ [(t1, t2)], ws, r1, r2, ?_, ?_⟩, r3⟩
           · rw [← HG.out, givenT_yes HFT.out]
           · have := HL.out; simp at this ⊢; omega)
    · have hx1 : (((xs'.length : Int)) == 0) = false := by
        rw [beq_eq_false_iff_ne]
        have : xs'.length ≠ 0 := fun h => hx0 (List.eq_nil_of_length_eq_zero h)
        omega
      have HX0 := Lib.hid hx0
      clear hx0
      cases t2 with
      | true =>
        have HFF := Lib.hid (show freeT xs' (t1, true) = false by rw [freeT_cons _ _ HX0.out]; rfl)
        go_wp2_with fail
        simp only [Exit.jump]
        rw [HWB.out]
        go_end0
        rw [← HG.out, givenT_no HFF.out]
        exact ⟨rfl, ⟨p, c, _, d, HS_wb.out, fun b hb => grow_mono HBW_wb.out.size (HT.out b hb)⟩, HFR.out.trans (Frn.of_below HBW_wb.out)⟩
      | false =>
        go_wp2_with fail
        rw [HWB.out]
        refine (reads_any p c xs' wb HS_wb.out.ox.rds).mono ?_
        rintro e w1 ⟨rfl, hb1⟩
        have HS_w1 := Lib.hid (HS_wb.out.below hb1)
        have HBW_w1 := Lib.hid (HBW_wb.out.trans (hb1.mono HBW_wb.out.size))
        have HLT_w1 := Lib.hid (Nat.lt_of_lt_of_le HLT_wb.out hb1.size)
        have HBX_w1 := Lib.hid (show w1.cell? ⟨wr.heap.size, 0, none⟩ = some (.int .i64 t1) ∧ w1.cell? ⟨wr.heap.size, 1, none⟩ = some (.bool false) from ⟨(hb1.cell (p := ⟨wr.heap.size, 0, none⟩) HLT_wb.out).trans HBX_wb.out.1, (hb1.cell (p := ⟨wr.heap.size, 1, none⟩) HLT_wb.out).trans HBX_wb.out.2⟩)
        clear hb1 e0
        cases hr : readsT xs' with
        | false =>
          have HFF := Lib.hid (show freeT xs' (t1, false) = false by rw [freeT_cons _ _ HX0.out, hr]; rfl)
          clear hr
          go_wp2_with fail
          simp only [Exit.jump]
          go_end0
          rw [← HG.out, givenT_no HFF.out]
          exact ⟨rfl, ⟨p, c, _, d, HS_w1.out, fun b hb => grow_mono HBW_w1.out.size (HT.out b hb)⟩, HFR.out.trans (Frn.of_below HBW_w1.out)⟩
        | true =>
          have HFT := Lib.hid (show freeT xs' (t1, false) = true by rw [freeT_cons _ _ HX0.out, hr]; rfl)
          clear hr
          go_wp2_with fail
          have hXd := (Below.refl w1.heap.size w1).drew
          have sX := HS_w1.out.below hXd
          have d0 := sX.c0
          have d1 := sX.c1
          have hXa : Below w1.heap.size w1 (w1.drew.alloc (.cells #[.int .i64 t1, .bool false] 53)) := hXd.alloc (Nat.le_refl _) _
          have sA := HS_w1.out.below hXa
          have a0 := sA.c0
          have a1 := sA.c1
          have b0d : w1.drew.cell? ⟨wr.heap.size, 0, none⟩ = some (.int .i64 t1) := HBX_w1.out.1
          have b1d : w1.drew.cell? ⟨wr.heap.size, 1, none⟩ = some (.bool false) := HBX_w1.out.2
          have b0a : (w1.drew.alloc (.cells #[.int .i64 t1, .bool false] 53)).cell? ⟨wr.heap.size, 0, none⟩ = some (.int .i64 t1) := (hXa.cell (p := ⟨wr.heap.size, 0, none⟩) HLT_w1.out).trans b0d
          have b1a : (w1.drew.alloc (.cells #[.int .i64 t1, .bool false] 53)).cell? ⟨wr.heap.size, 1, none⟩ = some (.bool false) := (hXa.cell (p := ⟨wr.heap.size, 1, none⟩) HLT_w1.out).trans b1d
          have HSA := Lib.hid sA
          have HXA := Lib.hid hXa
          clear hXd sX hXa sA
          refine wp_region_noPanic ?_
          refine wp_region_F 16 (fun w' => w'.cell? ⟨L, 0, none⟩ = some (.slice p xs'.length c) ∧ w'.cell? ⟨L, 1, none⟩ = some (.slice (some ⟨g, o, none⟩) (ws.length + 1) d) ∧ w'.cell? ⟨wr.heap.size, 0, none⟩ = some (.int .i64 t1) ∧ w'.cell? ⟨wr.heap.size, 1, none⟩ = some (.bool false)) (by kernel_rfl) ?_ (fun hHeld => ?_)
          · exact ⟨d0, d1, b0d, b1d⟩
          refine' wpAnyF_takeT (i := 0) (v := _) rfl (by kernel_rfl) (by kernel_rfl) (by kernel_rfl) (by rfl) (fun _ _ _ h => h) (Or.inl ⟨by rfl, ?hy⟩) (fun _ => hHeld) _
          case hy => (intro w0 hSw; (try dsimp only at hSw); simp only [List.getElem_toArray, List.getElem_cons_zero]; go_simp; first | done | with_reducible rfl)
          simp only [Act.put, List.getElem_toArray, List.getElem_cons_zero, List.setIfInBounds_toArray, List.set_cons_zero, List.set_cons_succ]
          refine' wpAnyF_takeT (i := 1) (v := _) rfl (by kernel_rfl) (by kernel_rfl) (by kernel_rfl) (by rfl) (fun _ _ _ h => h) (Or.inl ⟨by rfl, ?hy⟩) (fun _ => hHeld) _
          case hy => (intro w0 hSw; (try dsimp only at hSw); simp only [List.getElem_toArray, List.getElem_cons_zero, List.getElem_cons_succ]; go_simp; first | done | with_reducible rfl)
          simp only [Act.put, List.getElem_toArray, List.getElem_cons_zero, List.getElem_cons_succ, List.setIfInBounds_toArray, List.set_cons_zero, List.set_cons_succ]
          refine' wpAnyF_takeT (i := 2) (v := _) rfl (by kernel_rfl) (by kernel_rfl) (by kernel_rfl) (by rfl) (fun _ _ _ h => h) (Or.inl ⟨by rfl, ?hy⟩) (fun _ => hHeld) _
          case hy => (intro w0 hSw; (try dsimp only at hSw); simp only [List.getElem_toArray, List.getElem_cons_zero, List.getElem_cons_succ]; go_simp; first | done | with_reducible rfl)
          simp only [Act.put, List.getElem_toArray, List.getElem_cons_zero, List.getElem_cons_succ, List.setIfInBounds_toArray, List.set_cons_zero, List.set_cons_succ]
          refine' wpAnyF_takeT (i := 3) (v := _) rfl (by kernel_rfl) (by kernel_rfl) (by kernel_rfl) (by rfl) (fun _ _ _ h => h) (Or.inl ⟨by rfl, ?hy⟩) (fun _ => hHeld) _
          case hy => (intro w0 hSw; (try dsimp only at hSw); simp only [List.getElem_toArray, List.getElem_cons_zero, List.getElem_cons_succ]; go_simp; first | done | with_reducible rfl)
          simp only [Act.put, List.getElem_toArray, List.getElem_cons_zero, List.getElem_cons_succ, List.setIfInBounds_toArray, List.set_cons_zero, List.set_cons_succ]
          refine' wpAnyF_takeT (i := 4) (v := _) rfl (by kernel_rfl) (by kernel_rfl) (by kernel_rfl) (by rfl) (fun _ _ _ h => h) (Or.inl ⟨by rfl, ?hy⟩) (fun _ => hHeld) _
          case hy => (intro w0 hSw; (try dsimp only at hSw); simp only [List.getElem_toArray, List.getElem_cons_zero, List.getElem_cons_succ]; go_simp; first | done | with_reducible rfl)
          simp only [Act.put, List.getElem_toArray, List.getElem_cons_zero, List.getElem_cons_succ, List.setIfInBounds_toArray, List.set_cons_zero, List.set_cons_succ]
          refine' wpAnyF_take (i := 5) (v := _) rfl (by kernel_rfl) (by kernel_rfl) (by kernel_rfl) (by kernel_rfl) (by rfl) (by kernel_rfl) (fun _ _ _ h => h) (Or.inl ⟨by rfl, ?hy⟩) hHeld _
          case hy => (intro w0 hSw; (try dsimp only at hSw); simp only [List.getElem_toArray, List.getElem_cons_zero, List.getElem_cons_succ]; go_simp; first | done | with_reducible rfl)
          simp only [Act.put, List.getElem_toArray, List.getElem_cons_zero, List.getElem_cons_succ, List.setIfInBounds_toArray, List.set_cons_zero, List.set_cons_succ]
          refine' wpAnyF_take (i := 6) (v := _) rfl (by kernel_rfl) (by kernel_rfl) (by kernel_rfl) (by kernel_rfl) (by rfl) (by kernel_rfl) (fun _ _ _ h => h) (Or.inl ⟨by rfl, ?hy⟩) hHeld _
          case hy => (intro w0 hSw; (try dsimp only at hSw); simp only [List.getElem_toArray, List.getElem_cons_zero, List.getElem_cons_succ]; go_simp; first | done | with_reducible rfl)
          simp only [Act.put, List.getElem_toArray, List.getElem_cons_zero, List.getElem_cons_succ, List.setIfInBounds_toArray, List.set_cons_zero, List.set_cons_succ]
          refine' wpAnyF_takeT (i := 9) (v := _) rfl (by kernel_rfl) (by kernel_rfl) (by kernel_rfl) (by rfl) (fun _ _ _ h => h) (Or.inl ⟨by rfl, ?hy⟩) (fun _ => hHeld) _
          case hy => (intro w0 hSw; (try dsimp only at hSw); simp only [List.getElem_toArray, List.getElem_cons_zero, List.getElem_cons_succ]; go_simp; first | done | with_reducible rfl)
          simp only [Act.put, List.getElem_toArray, List.getElem_cons_zero, List.getElem_cons_succ, List.setIfInBounds_toArray, List.set_cons_zero, List.set_cons_succ]
          refine' wpAnyF_takeT (i := 10) (v := _) rfl (by kernel_rfl) (by kernel_rfl) (by kernel_rfl) (by rfl) (fun _ _ _ h => h) (Or.inl ⟨by rfl, ?hy⟩) (fun _ => hHeld) _
          case hy => (intro w0 hSw; (try dsimp only at hSw); simp only [List.getElem_toArray, List.getElem_cons_zero, List.getElem_cons_succ]; go_simp; first | done | with_reducible rfl)
          simp only [Act.put, List.getElem_toArray, List.getElem_cons_zero, List.getElem_cons_succ, List.setIfInBounds_toArray, List.set_cons_zero, List.set_cons_succ]
          refine' wpAnyF_takeT (i := 11) (v := _) rfl (by kernel_rfl) (by kernel_rfl) (by kernel_rfl) (by rfl) (fun _ _ _ h => h) (Or.inl ⟨by rfl, ?hy⟩) (fun _ => hHeld) _
          case hy => (intro w0 hSw; (try dsimp only at hSw); simp only [List.getElem_toArray, List.getElem_cons_zero, List.getElem_cons_succ]; go_simp; first | done | with_reducible rfl)
          simp only [Act.put, List.getElem_toArray, List.getElem_cons_zero, List.getElem_cons_succ, List.setIfInBounds_toArray, List.set_cons_zero, List.set_cons_succ]
          refine' wpAnyF_take (i := 12) (v := _) rfl (by kernel_rfl) (by kernel_rfl) (by kernel_rfl) (by kernel_rfl) (by rfl) (by kernel_rfl) (fun _ _ _ h => h) (Or.inl ⟨by rfl, ?hy⟩) hHeld _
          case hy => (intro w0 hSw; (try dsimp only at hSw); simp only [List.getElem_toArray, List.getElem_cons_zero, List.getElem_cons_succ]; go_simp; first | done | with_reducible rfl)
          simp only [Act.put, List.getElem_toArray, List.getElem_cons_zero, List.getElem_cons_succ, List.setIfInBounds_toArray, List.set_cons_zero, List.set_cons_succ]
          refine' wpAnyF_takeT (i := 13) (v := _) rfl (by kernel_rfl) (by kernel_rfl) (by kernel_rfl) (by rfl) (fun _ _ _ h => h) (Or.inl ⟨by rfl, ?hy⟩) (fun _ => hHeld) _
          case hy => (intro w0 hSw; (try dsimp only at hSw); simp only [List.getElem_toArray, List.getElem_cons_zero, List.getElem_cons_succ]; go_simp; first | done | with_reducible rfl)
          simp only [Act.put, List.getElem_toArray, List.getElem_cons_zero, List.getElem_cons_succ, List.setIfInBounds_toArray, List.set_cons_zero, List.set_cons_succ]
          refine wpAnyF_one (i := 7) (by kernel_rfl) rfl (fun K hK => ?_)
          go_simp
          refine hK.out _ _ (fun _ => ?_) ?_
          · exact ⟨a0, a1, b0a, b1a⟩
          clear hK K
          try simp only [Act.put, List.getElem_toArray, List.getElem_cons_zero, List.getElem_cons_succ, List.setIfInBounds_toArray, List.set_cons_zero, List.set_cons_succ]
          refine wpAnyF_one (i := 8) (by kernel_rfl) rfl (fun K hK => ?_)
          refine step_appT (by rfl) (.tmp 38) (.tmp 40) _ rfl elem_turns p c xs' (t1, false) rfl HSA.out.ox w1.heap.size 1 rfl 53 (0, 0) (World.alloc_heap_new w1.drew _) HLN.out ?_
          intro p2 c2 w2 hown2 hf2 hq2
          have hkk : ∀ b, b < w1.heap.size → ¬ inP p c b → w2.heap[b]? = w1.heap[b]? := fun b hb hn => (hf2.block b (Nat.lt_of_lt_of_le hb HXA.out.size) hn).trans (HXA.out.block b hb)
          have z0 := (World.cell?_of_block (a := ⟨wr.heap.size, 0, none⟩) (hkk wr.heap.size HLT_w1.out HNB.out)).trans HBX_w1.out.1
          have z1 := (World.cell?_of_block (a := ⟨wr.heap.size, 1, none⟩) (hkk wr.heap.size HLT_w1.out HNB.out)).trans HBX_w1.out.2
          have hL2 := (hkk L HS_w1.out.lt HS_w1.out.nx).trans HS_w1.out.hp
          have l0 := lst_c0 hL2
          have l1 := lst_c1 hL2
          have l2 := lst_fr hL2 0
          have l3 := lst_fr hL2 1
          have HW2 := Lib.hid hL2
          have HO2 := Lib.hid hown2
          have HF2 := Lib.hid (((Frn.of_below HXA.out).trans hf2))
          have HQ2 := Lib.hid hq2
          have HKK := Lib.hid hkk
          clear hown2 hf2 hq2 hL2 hkk
          refine hK.out _ _ (fun _ => ?_) ?_
          · exact ⟨l0, l1, z0, z1⟩
          clear hK K
          try simp only [Act.put, List.getElem_toArray, List.getElem_cons_zero, List.getElem_cons_succ, List.setIfInBounds_toArray, List.set_cons_zero, List.set_cons_succ]
          refine wpAnyF_one (i := 14) (by kernel_rfl) rfl (fun K hK => ?_)
          go_simp
          refine hK.out _ _ (fun _ => ?_) ?_
          · exact ⟨l0, l1, z0, z1⟩
          clear hK K
          try simp only [Act.put, List.getElem_toArray, List.getElem_cons_zero, List.getElem_cons_succ, List.setIfInBounds_toArray, List.set_cons_zero, List.set_cons_succ]
          refine wpAnyF_one (i := 15) (by kernel_rfl) rfl (fun K hK => ?_)
          go_simp
          refine hK.out _ _ (fun _ => ?_) ?_
          · exact ⟨l0, l1, z0, z1⟩
          clear hK K
          try simp only [Act.put, List.getElem_toArray, List.getElem_cons_zero, List.getElem_cons_succ, List.setIfInBounds_toArray, List.set_cons_zero, List.set_cons_succ]
          refine wpAnyF_one (i := 16) (by kernel_rfl) rfl (fun K hK => ?_)
          go_simp
          refine hK.out _ _ (fun h => Bool.noConfusion (h.symm.trans (by kernel_rfl : _ = true))) ?_
          clear hK K
          try simp only [Act.put, List.getElem_toArray, List.getElem_cons_zero, List.getElem_cons_succ, List.setIfInBounds_toArray, List.set_cons_zero, List.set_cons_succ]
          refine wpAnyF_one (i := 17) (by kernel_rfl) rfl (fun K hK => ?_)
          go_simp
          refine hK.out _ _ (fun h => Bool.noConfusion (h.symm.trans (by kernel_rfl : _ = true))) ?_
          clear hK K
          try simp only [Act.put, List.getElem_toArray, List.getElem_cons_zero, List.getElem_cons_succ, List.setIfInBounds_toArray, List.set_cons_zero, List.set_cons_succ]
          refine wpAnyF_one (i := 18) (by kernel_rfl) rfl (fun K hK => ?_)
          go_simp
          refine hK.out _ _ (fun h => Bool.noConfusion (h.symm.trans (by kernel_rfl : _ = true))) ?_
          clear hK K
          try simp only [Act.put, List.getElem_toArray, List.getElem_cons_zero, List.getElem_cons_succ, List.setIfInBounds_toArray, List.set_cons_zero, List.set_cons_succ]
          refine wpAnyF_one (i := 19) (by kernel_rfl) rfl (fun K hK => ?_)
          go_simp
          refine hK.out _ _ (fun h => Bool.noConfusion (h.symm.trans (by kernel_rfl : _ = true))) ?_
          clear hK K
          try simp only [Act.put, List.getElem_toArray, List.getElem_cons_zero, List.getElem_cons_succ, List.setIfInBounds_toArray, List.set_cons_zero, List.set_cons_succ]
          refine wpAnyF_done (by kernel_rfl) ?_ _
          refine NoPanic.normal ?_
          go_wp2_with fail
          all_goals
            go_step3
            first
            | (have h1 : d = 1 := by assumption
               subst h1
               obtain ⟨r1, r2, r3⟩ := give_step _ (if_pos rfl).symm HST.out HT.out HFR.out HBW_w1.out HF2.out HO2.out (fun b hb => (HQ2.out b hb).imp id (fun h => ⟨Nat.le_trans HXA.out.size h.1, h.2⟩))
               refine ⟨rfl, ⟨⟨_, _, _, _, _, _, _, _, _, _, _, _, _, _, _, _, _, _, _, _, _, _, _, _, _, _, _, _, _, _, _, _, _, _, _, _, _, _, _, _, _, _, _, _, _, _, _, _, _, _, rfl⟩, xs' ++ [(t1, false)], ws, r1, r2, ?_, ?_⟩, r3⟩
               · rw [← HG.out, givenT_yes HFT.out]
               · have := HL.out; simp at this ⊢; omega)
            | (have h1 : ¬ d = 1 := by assumption
               obtain ⟨r1, r2, r3⟩ := give_step _ (if_neg h1).symm HST.out HT.out HFR.out HBW_w1.out HF2.out HO2.out (fun b hb => (HQ2.out b hb).imp id (fun h => ⟨Nat.le_trans HXA.out.size h.1, h.2⟩))
               refine ⟨rfl, ⟨⟨_, _, _, _, _, _, _, _, _, _, _, _, _, _, _, _, _, _, _, _, _, _, _, _, _, _, _, _, _, _, _, _, _, _, _, _, _, _, _, _, _, _, _, _, _, _, _, _, _, _, rfl⟩, xs' ++ [(t1, false)], ws, r1, r2, ?_, ?_⟩, r3⟩
               · rw [← HG.out, givenT_yes HFT.out]
               · have := HL.out; simp at this ⊢; omega)
end Go.Proofs.Ythhdipfadnihjaa
