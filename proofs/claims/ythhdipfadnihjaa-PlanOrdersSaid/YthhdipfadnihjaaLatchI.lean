/- The walks of the reference's given. -/
import Derived.Test.YthhdipfadnihjaaLatchH
namespace Go.Proofs.Ythhdipfadnihjaa
open Go Go.RowKit

theorem stepW_appT0 {w : World} {ops : Array Oper} {o : Oper} {a : Act} {K : Act → World → Prop} {Q : Exit → Act → World → Prop} {E : Prop} (hw : Region.wanted o (yielded ops a.tmps) = true) (s x : Operand) (t : TypeId)
    (hop : o.op = .call { callee := .builtin .append, args := #[s, x], argTypes := #[t, t] }) (he : ElemIs Try.prog t 53 (.agg #[.int .i64 0, .bool false]) 2 16)
    (base : Nat) (v : Value) (hs : a.eval s = v) (hown : w.ownsRow base 53 2 v 0 []) (p : Option Addr) (cap : Nat) (ys : List Turn) (B : Nat) (hx : a.eval x = .slice p ys.length cap) (hrd : RdS B w p cap 2 tc ys) (hn : ys.length < 1000000) (hbase : base ≤ w.heap.size)
    (h : ∀ p' cap' w', OwnT w' p' cap' ys → (∀ b, inP p' cap' b → base ≤ b) → w.grownBy w' v.ownBlock → K (a.put o.dst (.slice p' ys.length cap')) w') :
    if Region.wanted o (yielded ops a.tmps) = true then Oper.wp Try.prog o a w K Q else E := by
  rw [if_pos hw]
  refine wp_append_src s x t hop he base v 0 [] hs hown _ ys.length (ys.flatMap tc) hx (src_rds tc_len hrd) (flat_len tc_len ys) (tc_one ys) (by unfold maxLen; omega) (by omega) hbase ?_
  intro v' w' h2 h3 h4 h5
  have h2' : w'.ownsRow base 53 2 v' ys.length (ys.flatMap tc) := by simpa using h2
  obtain ⟨p', c', rfl, h1, h6⟩ := ownT_of h2'
  exact h p' c' w' h1 h6 h3
theorem wpList_appT0 {w : World} {ops : Array Oper} {rest : List Oper} {o : Oper} {a : Act} {Q : Exit → Act → World → Prop} (hgd : o.guard = none) (s x : Operand) (t : TypeId)
    (hop : o.op = .call { callee := .builtin .append, args := #[s, x], argTypes := #[t, t] }) (he : ElemIs Try.prog t 53 (.agg #[.int .i64 0, .bool false]) 2 16)
    (base : Nat) (v : Value) (hs : a.eval s = v) (hown : w.ownsRow base 53 2 v 0 []) (p : Option Addr) (cap : Nat) (ys : List Turn) (B : Nat) (hx : a.eval x = .slice p ys.length cap) (hrd : RdS B w p cap 2 tc ys) (hn : ys.length < 1000000) (hbase : base ≤ w.heap.size)
    (h : ∀ p' cap' w', OwnT w' p' cap' ys → (∀ b, inP p' cap' b → base ≤ b) → w.grownBy w' v.ownBlock → wpList Try.prog ops Q rest (a.put o.dst (.slice p' ys.length cap')) w') : wpList Try.prog ops Q (o :: rest) a w := by
  refine wpList_append_src hgd s x t hop he base v 0 [] hs hown _ ys.length (ys.flatMap tc) hx (src_rds tc_len hrd) (flat_len tc_len ys) (tc_one ys) (by unfold maxLen; omega) (by omega) hbase ?_
  intro v' w' h2 h3 h4 h5
  have h2' : w'.ownsRow base 53 2 v' ys.length (ys.flatMap tc) := by simpa using h2
  obtain ⟨p', c', rfl, h1, h6⟩ := ownT_of h2'
  exact h p' c' w' h1 h6 h3

/-- A pair of lists that a call hands back. -/
def RetL (z : List Turn × List Turn) (R : Nat → Prop) (w w' : World) (v : Value) : Prop :=
  ∃ p c q d, v = .agg #[.slice p z.1.length c, .slice q z.2.length d] ∧ RdS w'.heap.size w' p c 2 tc z.1 ∧ RdS w'.heap.size w' q d 2 tc z.2 ∧ (∀ b, inP p c b ∨ inP q d b → R b ∨ w.heap.size ≤ b)
/-- A pair of lists lies in block B. -/
structure PairAt (W : World) (B : Nat) (p : Option Addr) (c : Nat) (xs : List Turn) (q : Option Addr) (d : Nat) (ys : List Turn) : Prop where
  hp : W.heap[B]? = some (.cells #[.slice p xs.length c, .slice q ys.length d] 62 (0, 0))
  rx : RdS W.heap.size W p c 2 tc xs
  ry : RdS W.heap.size W q d 2 tc ys
theorem pair_c0 {W : World} {L : Nat} {u v : Value} {t : TypeId} (h : W.heap[L]? = some (.cells #[u, v] t (0, 0))) : W.cell? ⟨L, 0, none⟩ = some u := by simp [World.cell?, h]
theorem pair_c1 {W : World} {L : Nat} {u v : Value} {t : TypeId} (h : W.heap[L]? = some (.cells #[u, v] t (0, 0))) : W.cell? ⟨L, 1, none⟩ = some v := by simp [World.cell?, h]
theorem pair_fr {W : World} {L : Nat} {u v : Value} {t : TypeId} (h : W.heap[L]? = some (.cells #[u, v] t (0, 0))) (k : Nat) : W.frozen? ⟨L, k, none⟩ = false := by simp [World.frozen?, h]
theorem pair_set0 {W : World} {L : Nat} {u v u' : Value} {t : TypeId} (h : W.heap[L]? = some (.cells #[u, v] t (0, 0))) : (W.setCell ⟨L, 0, none⟩ u').heap[L]? = some (.cells #[u', v] t (0, 0)) := by
  have h1 := heap_setCell_same W L 0 _ t u' h
  simpa using h1
theorem pair_set1 {W : World} {L : Nat} {u v v' : Value} {t : TypeId} (h : W.heap[L]? = some (.cells #[u, v] t (0, 0))) : (W.setCell ⟨L, 1, none⟩ v').heap[L]? = some (.cells #[u, v'] t (0, 0)) := by
  have h1 := heap_setCell_same W L 1 _ t v' h
  simpa using h1
theorem PairAt.c0 {W : World} {B : Nat} {p : Option Addr} {c : Nat} {xs : List Turn} {q : Option Addr} {d : Nat} {ys : List Turn} (h : PairAt W B p c xs q d ys) : W.cell? ⟨B, 0, none⟩ = some (.slice p xs.length c) := pair_c0 h.hp
theorem PairAt.c1 {W : World} {B : Nat} {p : Option Addr} {c : Nat} {xs : List Turn} {q : Option Addr} {d : Nat} {ys : List Turn} (h : PairAt W B p c xs q d ys) : W.cell? ⟨B, 1, none⟩ = some (.slice q ys.length d) := pair_c1 h.hp
theorem PairAt.lt {W : World} {B : Nat} {p : Option Addr} {c : Nat} {xs : List Turn} {q : Option Addr} {d : Nat} {ys : List Turn} (h : PairAt W B p c xs q d ys) : B < W.heap.size := (Array.getElem?_eq_some_iff.1 h.hp).1
theorem PairAt.below {W W' : World} {B : Nat} {p : Option Addr} {c : Nat} {xs : List Turn} {q : Option Addr} {d : Nat} {ys : List Turn} (h : PairAt W B p c xs q d ys) (hb : Below W.heap.size W W') : PairAt W' B p c xs q d ys :=
  ⟨(hb.block B h.lt).trans h.hp, (h.rx.kept hb).wide hb.size, (h.ry.kept hb).wide hb.size⟩
theorem RdS.tail1 {B : Nat} {w : World} {g o d : Nat} {t : Turn} {ws : List Turn} (h : RdS B w (some ⟨g, o, none⟩) d 2 tc (t :: ws)) : RdS B w (if d = 1 then some ⟨g, o, none⟩ else some ⟨g, o + 2, none⟩) (d - 1) 2 tc ws := by
  obtain ⟨h1, h2, h3⟩ := h
  have h1' : ws.length + 1 ≤ d := h1
  refine ⟨by omega, by omega, ?_⟩
  by_cases hd : d = 1
  · exact .inl (by omega)
  · rw [if_neg hd]
    rcases h3 with h3 | ⟨b, off, hp, hb, hc⟩
    · omega
    · cases hp
      refine .inr ⟨g, o + 2, rfl, hb, fun i hi j v hv => ?_⟩
      have := hc (i + 1) (by simpa using hi) j v (by simpa using hv)
      rwa [show o + ((i + 1) * 2 + j) = o + 2 + (i * 2 + j) by omega] at this
/-- What holds in the loop of given. -/
structure GInv (w : World) (p : Option Addr) (c : Nat) (q : Option Addr) (d : Nat) (wr : World) (p' : Option Addr) (c' : Nat) (xs' : List Turn) (q' : Option Addr) (d' : Nat) (ys' : List Turn) : Prop where
  pr : PairAt wr w.heap.size p' c' xs' q' d' ys'
  src : ∀ b, inP p' c' b ∨ inP q' d' b → (inP p c b ∨ inP q d b) ∨ w.heap.size + 2 ≤ b
  res : wr.heap[w.heap.size + 1]? = some (.cells #[.slice none 0 0, .slice none 0 0] 62 (0, 0))
  bel : Below w.heap.size w wr
  siz : w.heap.size + 2 ≤ wr.heap.size
theorem lenAt_pair {W : World} {B : Nat} {p : Option Addr} {c : Nat} {xs : List Turn} {q : Option Addr} {d : Nat} {ys : List Turn} (h : PairAt W B p c xs q d ys) : lenAt B W = ys.length := by unfold lenAt; rw [h.c1]
section
variable {w wr X w9 w10 : World} {p q p' p9 p10 : Option Addr} {c d c' g o d' c9 c10 : Nat} {xs' : List Turn} {t : Turn} {ws : List Turn}
theorem given_mid (h : GInv w p c q d wr p' c' xs' (some ⟨g, o, none⟩) d' (t :: ws)) (hX : Below wr.heap.size wr X) (h9 : At X.heap.size X w9) (hpq : ∀ b, inP p c b ∨ inP q d b → b < w.heap.size) :
    (w9.setCell ⟨w.heap.size, 0, none⟩ (.slice p9 (xs'.length + 1) c9)).heap[w.heap.size]? = some (.cells #[.slice p9 (xs'.length + 1) c9, .slice (some ⟨g, o, none⟩) (ws.length + 1) d'] 62 (0, 0)) ∧
    RdS (w9.setCell ⟨w.heap.size, 0, none⟩ (.slice p9 (xs'.length + 1) c9)).heap.size (w9.setCell ⟨w.heap.size, 0, none⟩ (.slice p9 (xs'.length + 1) c9)) (if d' = 1 then some ⟨g, o, none⟩ else some ⟨g, o + 2, none⟩) (d' - 1) 2 tc ws := by
  have h9p := (h.pr.below hX).below h9.1
  refine ⟨pair_set0 h9p.hp, ?_⟩
  have hr := h9p.ry.tail1
  have hsz : (w9.setCell ⟨w.heap.size, 0, none⟩ (.slice p9 (xs'.length + 1) c9)).heap.size = w9.heap.size := by simp [World.setCell]
  rw [hsz]
  refine hr.keep fun b hb => heap_setCell_other _ ⟨w.heap.size, 0, none⟩ b _ (fun e => ?_)
  have h1 := h.src b (.inr (tail_in rfl hb))
  rcases h1 with h1 | h1
  · have := hpq b h1; simp only at e; omega
  · simp only at e; omega
theorem given_step {wS : World} (h : GInv w p c q d wr p' c' xs' (some ⟨g, o, none⟩) d' (t :: ws)) (hX : Below wr.heap.size wr X) (h9 : At X.heap.size X w9) (P9 : OwnT w9 p9 c9 (xs' ++ [t])) (Q9 : ∀ b, inP p9 c9 b → X.heap.size ≤ b)
    (hwS : w9.setCell ⟨w.heap.size, 0, none⟩ (.slice p9 (xs'.length + 1) c9) = wS) (h10 : At wS.heap.size wS w10) (P10 : OwnT w10 p10 c10 ws) (Q10 : ∀ b, inP p10 c10 b → wS.heap.size ≤ b) :
    GInv w p c q d (w10.setCell ⟨w.heap.size, 1, none⟩ (.slice p10 ws.length c10)) p9 c9 (xs' ++ [t]) p10 c10 ws ∧ lenAt w.heap.size (w10.setCell ⟨w.heap.size, 1, none⟩ (.slice p10 ws.length c10)) < lenAt w.heap.size wr := by
  have h9p := (h.pr.below hX).below h9.1
  have hS1 : wS.heap[w.heap.size]? = some (.cells #[.slice p9 (xs'.length + 1) c9, .slice (some ⟨g, o, none⟩) (ws.length + 1) d'] 62 (0, 0)) := by rw [← hwS]; exact pair_set0 h9p.hp
  have hszS : wS.heap.size = w9.heap.size := by rw [← hwS]; simp [World.setCell]
  have hothS : ∀ b, b ≠ w.heap.size → wS.heap[b]? = w9.heap[b]? := fun b hb => by rw [← hwS]; exact heap_setCell_other _ ⟨w.heap.size, 0, none⟩ b _ hb
  have hs := h.siz
  have hxs := hX.size
  have h9s := h9.2
  have hBS : w.heap.size < wS.heap.size := by omega
  have h10p := pair_set1 (v' := .slice p10 ws.length c10) ((h10.1.block _ hBS).trans hS1)
  have hoth : ∀ b, b ≠ w.heap.size → (w10.setCell ⟨w.heap.size, 1, none⟩ (.slice p10 ws.length c10)).heap[b]? = w10.heap[b]? := fun b hb => heap_setCell_other _ ⟨w.heap.size, 1, none⟩ b _ hb
  have hsz : (w10.setCell ⟨w.heap.size, 1, none⟩ (.slice p10 ws.length c10)).heap.size = w10.heap.size := by simp [World.setCell]
  have hbel : Below w.heap.size w (w10.setCell ⟨w.heap.size, 1, none⟩ (.slice p10 ws.length c10)) := by
    have b9 : Below w.heap.size w w9 := (h.bel.trans (hX.mono (by omega))).trans (h9.1.mono (by omega))
    have bS : Below w.heap.size w wS := by rw [← hwS]; exact b9.setCell (Nat.le_refl _) _
    exact (bS.trans (h10.1.mono (by omega))).setCell (Nat.le_refl _) _
  generalize hw3 : (w10.setCell ⟨w.heap.size, 1, none⟩ (.slice p10 ws.length c10)) = w3 at *
  have hn9 : ∀ b, inP p9 c9 b → b ≠ w.heap.size := fun b hb => by have := Q9 b hb; omega
  have hn10 : ∀ b, inP p10 c10 b → b ≠ w.heap.size := fun b hb => by have := Q10 b hb; omega
  have hpr : PairAt w3 w.heap.size p9 c9 (xs' ++ [t]) p10 c10 ws := by
    refine ⟨by rw [h10p, List.length_append]; rfl, ?_, ?_⟩
    · have h1 := P9.rds.keep (w' := w3) fun b hb => (hoth b (hn9 b hb)).trans ((h10.1.block b (by rw [hszS]; exact P9.lt hb)).trans (hothS b (hn9 b hb)))
      exact h1.wide (by rw [hsz]; have := h10.1.size; omega)
    · have h1 := P10.rds.keep (w' := w3) fun b hb => hoth b (hn10 b hb)
      exact h1.wide (by rw [hsz]; exact Nat.le_refl _)
  refine ⟨⟨hpr, fun b hb => ?_, ?_, hbel, by rw [hsz]; have := h10.1.size; omega⟩, by rw [lenAt_pair hpr, lenAt_pair h.pr]; simp⟩
  · rcases hb with hb | hb
    · have := Q9 b hb; exact .inr (by omega)
    · have := Q10 b hb; exact .inr (by omega)
  · exact (hoth _ (by omega)).trans ((h10.1.block _ (by omega)).trans ((hothS _ (by omega)).trans ((h9.1.block _ (by omega)).trans ((hX.block _ (by omega)).trans h.res))))
end

theorem given_end {w wr W1 : World} {p q p' q' : Option Addr} {c d c' d' : Nat} {xs' ys' : List Turn} (h : GInv w p c q d wr p' c' xs' q' d' ys') (hW : Below wr.heap.size wr W1) (hpq : ∀ b, inP p c b ∨ inP q d b → b < w.heap.size) :
    (W1.setCell ⟨w.heap.size + 1, 0, none⟩ (.slice p' xs'.length c')).cell? ⟨w.heap.size + 1, 0, none⟩ = some (.slice p' xs'.length c') ∧
    ((W1.setCell ⟨w.heap.size + 1, 0, none⟩ (.slice p' xs'.length c')).setCell ⟨w.heap.size + 1, 1, none⟩ (.slice q' ys'.length d')).cell? ⟨w.heap.size + 1, 1, none⟩ = some (.slice q' ys'.length d') ∧
    RetL (xs', ys') (fun b => inP p c b ∨ inP q d b) w ((W1.setCell ⟨w.heap.size + 1, 0, none⟩ (.slice p' xs'.length c')).setCell ⟨w.heap.size + 1, 1, none⟩ (.slice q' ys'.length d')) (.agg #[.slice p' xs'.length c', .slice q' ys'.length d']) ∧
    Below w.heap.size w ((W1.setCell ⟨w.heap.size + 1, 0, none⟩ (.slice p' xs'.length c')).setCell ⟨w.heap.size + 1, 1, none⟩ (.slice q' ys'.length d')) := by
  have hs := h.siz
  have hR := (hW.block (w.heap.size + 1) (by omega)).trans h.res
  have h0 := pair_set0 (u' := .slice p' xs'.length c') hR
  have h1 := pair_set1 (v' := .slice q' ys'.length d') h0
  have hp := h.pr.below hW
  have hsz : ((W1.setCell ⟨w.heap.size + 1, 0, none⟩ (.slice p' xs'.length c')).setCell ⟨w.heap.size + 1, 1, none⟩ (.slice q' ys'.length d')).heap.size = W1.heap.size := by simp [World.setCell]
  have hoth : ∀ b, b ≠ w.heap.size + 1 → ((W1.setCell ⟨w.heap.size + 1, 0, none⟩ (.slice p' xs'.length c')).setCell ⟨w.heap.size + 1, 1, none⟩ (.slice q' ys'.length d')).heap[b]? = W1.heap[b]? := fun b hb => (heap_setCell_other _ ⟨w.heap.size + 1, 1, none⟩ b _ hb).trans (heap_setCell_other _ ⟨w.heap.size + 1, 0, none⟩ b _ hb)
  have hne : ∀ b, inP p' c' b ∨ inP q' d' b → b ≠ w.heap.size + 1 := fun b hb => by
    rcases h.src b hb with hh | hh
    · have := hpq b hh; omega
    · omega
  refine ⟨pair_c0 h0, pair_c1 h1, ⟨p', c', q', d', rfl, ?_, ?_, fun b hb => (h.src b hb).imp id (fun hh => by omega)⟩, ((h.bel.trans (hW.mono (by omega))).setCell (show w.heap.size ≤ w.heap.size + 1 by omega) _).setCell (show w.heap.size ≤ w.heap.size + 1 by omega) _⟩
  · rw [hsz]; exact hp.rx.keep fun b hb => hoth b (hne b (.inl hb))
  · rw [hsz]; exact hp.ry.keep fun b hb => hoth b (hne b (.inr hb))

set_option maxRecDepth 100000 in
set_option maxHeartbeats 4000000 in
theorem given_any (p : Option Addr) (c : Nat) (xs : List Turn) (q : Option Addr) (d : Nat) (ys : List Turn) (w : World) (hx : RdS w.heap.size w p c 2 tc xs) (hy : RdS w.heap.size w q d 2 tc ys) (hn : xs.length + ys.length < 100000) :
    Calls Try.prog 102 #[.agg #[.slice p xs.length c, .slice q ys.length d]] w fun e w' => ∃ v, e = .returned v ∧ RetL (givenT xs ys) (fun b => inP p c b ∨ inP q d b) w w' v ∧ Below w.heap.size w w' := by
  have hpq : ∀ b, inP p c b ∨ inP q d b → b < w.heap.size := fun b hb => hb.elim hx.inlt hy.inlt
  obtain ⟨wa, hwa⟩ : ∃ wa, (w.alloc (.cells #[.slice p xs.length c, .slice q ys.length d] 62)).alloc (.cells #[.slice none 0 0, .slice none 0 0] 62) = wa := ⟨_, rfl⟩
  have h0 : GInv w p c q d wa p c xs q d ys := by
    have hb1 : Below w.heap.size w (w.alloc (.cells #[.slice p xs.length c, .slice q ys.length d] 62)) := (Below.refl _ _).alloc (Nat.le_refl _) _
    have hb2 : Below w.heap.size w wa := by rw [← hwa]; exact hb1.alloc (by simp) _
    have hz : wa.heap.size = w.heap.size + 2 := by rw [← hwa]; simp
    refine ⟨⟨?_, (hx.kept hb2).wide hb2.size, (hy.kept hb2).wide hb2.size⟩, fun b hb => .inl hb, ?_, hb2, by omega⟩
    · rw [← hwa, Below.heap_alloc _ _ _ (by simp)]; exact World.alloc_heap_new w _
    · have := World.alloc_heap_new (w.alloc (.cells #[.slice p xs.length c, .slice q ys.length d] 62)) (.cells #[.slice none 0 0, .slice none 0 0] 62)
      rw [World.size_alloc] at this
      rw [← hwa]; exact this
  have HPQ := Lib.hid hpq
  have H0 := Lib.hid h0
  have HWA := Lib.hid hwa
  clear hx hy hpq h0 hwa
  go_enter Try.func102, Try.ntmps102
  go_wp2_with fail
  rw [HWA.out]
  go_loopw [3] (fun _ wr => ∃ p' c' xs' q' d' ys', GInv w p c q d wr p' c' xs' q' d' ys' ∧ givenT xs' ys' = givenT xs ys ∧ xs'.length + ys'.length = xs.length + ys.length) (fun _ wr => lenAt w.heap.size wr)
  case atStart => exact ⟨p, c, xs, q, d, ys, H0.out, rfl, rfl⟩
  case round =>
    obtain ⟨p', c', xs', q', d', ys', hI, hg, hl⟩ := hrel
    have HI := Lib.hid hI
    have HG := Lib.hid hg
    have HL := Lib.hid hl
    have m0d : wr.drew.cell? ⟨w.heap.size, 0, none⟩ = some (.slice p' xs'.length c') := hI.pr.c0
    have m1d : wr.drew.cell? ⟨w.heap.size, 1, none⟩ = some (.slice q' ys'.length d') := hI.pr.c1
    have m0 := hI.pr.c0
    have m1 := hI.pr.c1
    have hlx := hI.pr.rx.len
    have r0 : wr.cell? ⟨w.heap.size + 1, 0, none⟩ = some (.slice none 0 0) := pair_c0 hI.res
    have r1 : wr.cell? ⟨w.heap.size + 1, 1, none⟩ = some (.slice none 0 0) := pair_c1 hI.res
    have rf := fun k => pair_fr hI.res k
    have r0d : wr.drew.cell? ⟨w.heap.size + 1, 0, none⟩ = some (.slice none 0 0) := r0
    have r1d : wr.drew.cell? ⟨w.heap.size + 1, 1, none⟩ = some (.slice none 0 0) := r1
    have rfd : ∀ k, wr.drew.frozen? ⟨w.heap.size + 1, k, none⟩ = false := fun k => rf k
    clear hg hl
    cases ys' with
    | nil =>
      clear hI
      go_wp2_with fail
      refine wp_region_noPanic ?_
      refine wp_region_held_drew (S := (fun w' => w'.cell? ⟨w.heap.size, 1, none⟩ = some (.slice q' 0 d'))) (by kernel_rfl) ?_ (fun hHeld => ?_)
      · exact m1d
      refine' wpAnyH_take (i := 0) (v := _) rfl (by kernel_rfl) (by kernel_rfl) (by kernel_rfl) (fun _ _ _ h => h) (Or.inl ⟨by rfl, ?hy⟩) hHeld _
      case hy => (intro w0 hSw; (try dsimp only at hSw); simp only [List.getElem_toArray, List.getElem_cons_zero]; go_simp; first | done | with_reducible rfl)
      simp only [Act.put, List.getElem_toArray, List.getElem_cons_zero, List.setIfInBounds_toArray, List.set_cons_zero, List.set_cons_succ]
      refine' wpAnyH_take (i := 1) (v := _) rfl (by kernel_rfl) (by kernel_rfl) (by kernel_rfl) (fun _ _ _ h => h) (Or.inl ⟨by rfl, ?hy⟩) hHeld _
      case hy => (intro w0 hSw; (try dsimp only at hSw); simp only [List.getElem_toArray, List.getElem_cons_zero, List.getElem_cons_succ]; go_simp; first | done | with_reducible rfl)
      simp only [Act.put, List.getElem_toArray, List.getElem_cons_zero, List.getElem_cons_succ, List.setIfInBounds_toArray, List.set_cons_zero, List.set_cons_succ]
      refine' wpAnyH_take (i := 2) (v := _) rfl (by kernel_rfl) (by kernel_rfl) (by kernel_rfl) (fun _ _ _ h => h) (Or.inl ⟨by rfl, ?hy⟩) hHeld _
      case hy => (intro w0 hSw; (try dsimp only at hSw); simp only [List.getElem_toArray, List.getElem_cons_zero, List.getElem_cons_succ]; go_simp; first | done | with_reducible rfl)
      simp only [Act.put, List.getElem_toArray, List.getElem_cons_zero, List.getElem_cons_succ, List.setIfInBounds_toArray, List.set_cons_zero, List.set_cons_succ]
      refine' wpAnyH_take (i := 3) (v := _) rfl (by kernel_rfl) (by kernel_rfl) (by kernel_rfl) (fun _ _ _ h => h) (Or.inl ⟨by rfl, ?hy⟩) hHeld _
      case hy => (intro w0 hSw; (try dsimp only at hSw); simp only [List.getElem_toArray, List.getElem_cons_zero, List.getElem_cons_succ]; go_simp; first | done | with_reducible rfl)
      simp only [Act.put, List.getElem_toArray, List.getElem_cons_zero, List.getElem_cons_succ, List.setIfInBounds_toArray, List.set_cons_zero, List.set_cons_succ]
      refine' wpAnyH_take (i := 4) (v := _) rfl (by kernel_rfl) (by kernel_rfl) (by kernel_rfl) (fun _ _ _ h => h) (Or.inl ⟨by rfl, ?hy⟩) hHeld _
      case hy => (intro w0 hSw; (try dsimp only at hSw); simp only [List.getElem_toArray, List.getElem_cons_zero, List.getElem_cons_succ]; go_simp; first | done | with_reducible rfl)
      simp only [Act.put, List.getElem_toArray, List.getElem_cons_zero, List.getElem_cons_succ, List.setIfInBounds_toArray, List.set_cons_zero, List.set_cons_succ]
      refine wpAnyH_take (i := 5) (v := undef) rfl (by kernel_rfl) (by kernel_rfl) (by kernel_rfl) (fun _ _ _ h => h) (Or.inr ⟨by rfl, rfl⟩) hHeld ?_
      simp only [Act.put, List.getElem_toArray, List.getElem_cons_zero, List.getElem_cons_succ, List.setIfInBounds_toArray, List.set_cons_zero, List.set_cons_succ]
      refine wpAnyH_take (i := 6) (v := undef) rfl (by kernel_rfl) (by kernel_rfl) (by kernel_rfl) (fun _ _ _ h => h) (Or.inr ⟨by rfl, rfl⟩) hHeld ?_
      simp only [Act.put, List.getElem_toArray, List.getElem_cons_zero, List.getElem_cons_succ, List.setIfInBounds_toArray, List.set_cons_zero, List.set_cons_succ]
      refine wpAnyH_take (i := 7) (v := undef) rfl (by kernel_rfl) (by kernel_rfl) (by kernel_rfl) (fun _ _ _ h => h) (Or.inr ⟨by rfl, rfl⟩) hHeld ?_
      simp only [Act.put, List.getElem_toArray, List.getElem_cons_zero, List.getElem_cons_succ, List.setIfInBounds_toArray, List.set_cons_zero, List.set_cons_succ]
      refine wpAnyH_take (i := 8) (v := undef) rfl (by kernel_rfl) (by kernel_rfl) (by kernel_rfl) (fun _ _ _ h => h) (Or.inr ⟨by rfl, rfl⟩) hHeld ?_
      simp only [Act.put, List.getElem_toArray, List.getElem_cons_zero, List.getElem_cons_succ, List.setIfInBounds_toArray, List.set_cons_zero, List.set_cons_succ]
      refine wpAnyH_take (i := 9) (v := undef) rfl (by kernel_rfl) (by kernel_rfl) (by kernel_rfl) (fun _ _ _ h => h) (Or.inr ⟨by rfl, rfl⟩) hHeld ?_
      simp only [Act.put, List.getElem_toArray, List.getElem_cons_zero, List.getElem_cons_succ, List.setIfInBounds_toArray, List.set_cons_zero, List.set_cons_succ]
      refine wpAnyH_take (i := 10) (v := undef) rfl (by kernel_rfl) (by kernel_rfl) (by kernel_rfl) (fun _ _ _ h => h) (Or.inr ⟨by rfl, rfl⟩) hHeld ?_
      simp only [Act.put, List.getElem_toArray, List.getElem_cons_zero, List.getElem_cons_succ, List.setIfInBounds_toArray, List.set_cons_zero, List.set_cons_succ]
      refine wpAnyH_take (i := 11) (v := undef) rfl (by kernel_rfl) (by kernel_rfl) (by kernel_rfl) (fun _ _ _ h => h) (Or.inr ⟨by rfl, rfl⟩) hHeld ?_
      simp only [Act.put, List.getElem_toArray, List.getElem_cons_zero, List.getElem_cons_succ, List.setIfInBounds_toArray, List.set_cons_zero, List.set_cons_succ]
      refine' wpAnyH_take (i := 12) (v := _) rfl (by kernel_rfl) (by kernel_rfl) (by kernel_rfl) (fun _ _ _ h => h) (Or.inl ⟨by rfl, ?hy⟩) hHeld _
      case hy => (intro w0 hSw; (try dsimp only at hSw); simp only [List.getElem_toArray, List.getElem_cons_zero, List.getElem_cons_succ]; go_simp; first | done | with_reducible rfl)
      simp only [Act.put, List.getElem_toArray, List.getElem_cons_zero, List.getElem_cons_succ, List.setIfInBounds_toArray, List.set_cons_zero, List.set_cons_succ]
      refine wpAnyH_done (by kernel_rfl) ?_ _
      refine NoPanic.normal ?_
      go_wp2_with fail
      have hend := given_end HI.out (Below.refl _ _) HPQ.out
      obtain ⟨e0, e1, e2, e3⟩ := hend
      have e1' : ((wr.setCell ⟨w.heap.size + 1, 0, none⟩ (.slice p' xs'.length c')).setCell ⟨w.heap.size + 1, 1, none⟩ (.slice q' 0 d')).cell? ⟨w.heap.size + 1, 1, none⟩ = some (.slice q' 0 d') := e1
      refine bodyPost_ret (v := .agg #[.slice p' xs'.length c', .slice q' 0 d']) (by simp [results, Try.results102, go_sem, e0, e1']) rfl ?_
      rw [← HG.out]
      exact ⟨_, rfl, e2, e3.drew⟩
    | cons t ws =>
      obtain ⟨t1, t2⟩ := t
      obtain ⟨g, o, rfl, hgl, g0, g1⟩ := hI.pr.ry.rows 0 (by simp)
      simp only [Nat.zero_mul, Nat.add_zero, List.getElem_cons_zero] at g0 g1
      have hfree := refFree_any p' c' xs' (t1, t2) wr.drew hI.pr.rx
      have HGX0 := Lib.hid (show ∀ W', Below wr.heap.size wr W' → W'.cell? ⟨g, o, none⟩ = some (.int .i64 t1) ∧ W'.cell? ⟨g, o + 1, none⟩ = some (.bool t2) from fun W' hb => ⟨(hb.cell (p := ⟨g, o, none⟩) hgl).trans g0, (hb.cell (p := ⟨g, o + 1, none⟩) hgl).trans g1⟩)
      have g0d : wr.drew.cell? ⟨g, o, none⟩ = some (.int .i64 t1) := g0
      have g1d : wr.drew.cell? ⟨g, o + 1, none⟩ = some (.bool t2) := g1
      have HLN := Lib.hid (show xs'.length < 1000000 by have := HL.out; omega)
      have HLW := Lib.hid (show ws.length < 1000000 by have := HL.out; simp at this; omega)
      have HFR := Lib.hid hfree
      clear hI hfree g0 g1
      go_wp2_with fail
      go_region_held3 (fun w' => w'.cell? ⟨w.heap.size, 0, none⟩ = some (.slice p' xs'.length c') ∧ w'.cell? ⟨w.heap.size, 1, none⟩ = some (.slice (some ⟨g, o, none⟩) (ws.length + 1) d') ∧ w'.cell? ⟨g, o, none⟩ = some (.int .i64 t1) ∧ w'.cell? ⟨g, o + 1, none⟩ = some (.bool t2))
        (first | exact ⟨m0d, m1d, g0d, g1d⟩ | exact ⟨n0, n1, n2, n3⟩)
        (first
        | (go_at_call 132
           refine HFR.out.mono ?_
           rintro e w1 ⟨rfl, hb1⟩
           have HB1 := Lib.hid (show Below wr.heap.size wr w1 from (Below.refl _ _).drew.trans hb1)
           have n0 := (HI.out.pr.below HB1.out).c0
           have n1 := (HI.out.pr.below HB1.out).c1
           have n2 := (HGX0.out _ HB1.out).1
           have n3 := (HGX0.out _ HB1.out).2
           clear hb1))
      clear m0d m1d g0d g1d
      have n0d : w1.drew.cell? ⟨w.heap.size, 0, none⟩ = some (.slice p' xs'.length c') := n0
      have HP := Lib.hid (show PairAt w1.drew w.heap.size p' c' xs' (some ⟨g, o, none⟩) d' ((t1, t2) :: ws) from (HI.out.pr.below HB1.out).below (Below.refl _ _).drew)
      have HGX := Lib.hid (show ∀ W', Below w1.drew.heap.size w1.drew W' → W'.cell? ⟨g, o, none⟩ = some (.int .i64 t1) ∧ W'.cell? ⟨g, o + 1, none⟩ = some (.bool t2) from fun W' hb => HGX0.out W' (HB1.out.trans ((Below.refl _ _).drew.trans (hb.mono HB1.out.size))))
      cases hfr : freeT xs' (t1, t2) with
      | false =>
        have HFF := Lib.hid hfr
        have hR1 := (HB1.out.block _ (show w.heap.size + 1 < wr.heap.size by have := HI.out.siz; omega)).trans HI.out.res
        have r0 := pair_c0 hR1
        have r1 := pair_c1 hR1
        have rf := fun k => pair_fr hR1 k
        clear hfr
        go_wp2_with fail
        obtain ⟨e0, e1, e2, e3⟩ := given_end HI.out HB1.out HPQ.out
        have e1' : ((w1.setCell ⟨w.heap.size + 1, 0, none⟩ (.slice p' xs'.length c')).setCell ⟨w.heap.size + 1, 1, none⟩ (.slice (some ⟨g, o, none⟩) (ws.length + 1) d')).cell? ⟨w.heap.size + 1, 1, none⟩ = some (.slice (some ⟨g, o, none⟩) (ws.length + 1) d') := e1
        refine bodyPost_ret (v := .agg #[.slice p' xs'.length c', .slice (some ⟨g, o, none⟩) (ws.length + 1) d']) (by simp [results, Try.results102, go_sem, e0, e1']) rfl ?_
        rw [← HG.out, givenT_no HFF.out]
        exact ⟨_, rfl, e2, e3⟩
      | true =>
      have HFT := Lib.hid hfr
      clear hfr
      go_wp2_with fail
      have B0 := Lib.hid (At.start w1.drew)
      refine wp_region_noPanic ?_
      refine wp_region_F 11 (fun w' => w'.cell? ⟨w.heap.size, 0, none⟩ = some (.slice p' xs'.length c') ∧ w'.cell? ⟨w.heap.size, 1, none⟩ = some (.slice (some ⟨g, o, none⟩) (ws.length + 1) d') ∧ w'.cell? ⟨g, o, none⟩ = some (.int .i64 t1) ∧ w'.cell? ⟨g, o + 1, none⟩ = some (.bool t2)) (by kernel_rfl) ?_ (fun hHeld => ?_)
      · exact ⟨(HP.out.below B0.out.1).c0, (HP.out.below B0.out.1).c1, (HGX.out _ B0.out.1).1, (HGX.out _ B0.out.1).2⟩
      refine' wpAnyF_takeT (i := 1) (v := _) rfl (by kernel_rfl) (by kernel_rfl) (by kernel_rfl) (by rfl) (fun _ _ _ h => h) (Or.inl ⟨by rfl, ?hy⟩) (fun _ => hHeld) _
      case hy => (intro w0 hSw; (try dsimp only at hSw); simp only [List.getElem_toArray, List.getElem_cons_zero, List.getElem_cons_succ]; go_simp; first | done | with_reducible rfl)
      simp only [Act.put, List.getElem_toArray, List.getElem_cons_zero, List.getElem_cons_succ, List.setIfInBounds_toArray, List.set_cons_zero, List.set_cons_succ]
      refine' wpAnyF_take (i := 2) (v := _) rfl (by kernel_rfl) (by kernel_rfl) (by kernel_rfl) (by kernel_rfl) (by rfl) (by kernel_rfl) (fun _ _ _ h => h) (Or.inl ⟨by rfl, ?hy⟩) hHeld _
      case hy => (intro w0 hSw; (try dsimp only at hSw); simp only [List.getElem_toArray, List.getElem_cons_zero, List.getElem_cons_succ]; go_simp; first | done | with_reducible rfl)
      simp only [Act.put, List.getElem_toArray, List.getElem_cons_zero, List.getElem_cons_succ, List.setIfInBounds_toArray, List.set_cons_zero, List.set_cons_succ]
      refine' wpAnyF_takeT (i := 4) (v := _) rfl (by kernel_rfl) (by kernel_rfl) (by kernel_rfl) (by rfl) (fun _ _ _ h => h) (Or.inl ⟨by rfl, ?hy⟩) (fun _ => hHeld) _
      case hy => (intro w0 hSw; (try dsimp only at hSw); simp only [List.getElem_toArray, List.getElem_cons_zero, List.getElem_cons_succ]; go_simp; first | done | with_reducible rfl)
      simp only [Act.put, List.getElem_toArray, List.getElem_cons_zero, List.getElem_cons_succ, List.setIfInBounds_toArray, List.set_cons_zero, List.set_cons_succ]
      refine' wpAnyF_take (i := 5) (v := _) rfl (by kernel_rfl) (by kernel_rfl) (by kernel_rfl) (by kernel_rfl) (by rfl) (by kernel_rfl) (fun _ _ _ h => h) (Or.inl ⟨by rfl, ?hy⟩) hHeld _
      case hy => (intro w0 hSw; (try dsimp only at hSw); simp only [List.getElem_toArray, List.getElem_cons_zero, List.getElem_cons_succ]; go_simp; first | done | with_reducible rfl)
      simp only [Act.put, List.getElem_toArray, List.getElem_cons_zero, List.getElem_cons_succ, List.setIfInBounds_toArray, List.set_cons_zero, List.set_cons_succ]
      refine' wpAnyF_takeT (i := 6) (v := _) rfl (by kernel_rfl) (by kernel_rfl) (by kernel_rfl) (by rfl) (fun _ _ _ h => h) (Or.inl ⟨by rfl, ?hy⟩) (fun _ => hHeld) _
      case hy => (intro w0 hSw; (try dsimp only at hSw); simp only [List.getElem_toArray, List.getElem_cons_zero, List.getElem_cons_succ]; go_simp; first | done | with_reducible rfl)
      simp only [Act.put, List.getElem_toArray, List.getElem_cons_zero, List.getElem_cons_succ, List.setIfInBounds_toArray, List.set_cons_zero, List.set_cons_succ]
      refine' wpAnyF_take (i := 7) (v := _) rfl (by kernel_rfl) (by kernel_rfl) (by kernel_rfl) (by kernel_rfl) (by rfl) (by kernel_rfl) (fun _ _ _ h => h) (Or.inl ⟨by rfl, ?hy⟩) hHeld _
      case hy => (intro w0 hSw; (try dsimp only at hSw); simp only [List.getElem_toArray, List.getElem_cons_zero, List.getElem_cons_succ]; go_simp; first | done | with_reducible rfl)
      simp only [Act.put, List.getElem_toArray, List.getElem_cons_zero, List.getElem_cons_succ, List.setIfInBounds_toArray, List.set_cons_zero, List.set_cons_succ]
      refine wpAnyF_two (i := 0) (j := 8) (by kernel_rfl) rfl rfl (fun K hK => ?_) (fun K hK => ?_)
      · skip
        go_simp
        have B1 := Lib.hid (show At w1.heap.size w1.drew (w1.alloc (.cells #[] 53)).drew from At.alloc B0.out (.cells #[] 53))
        have O1 := Lib.hid (show (w1.alloc (.cells #[] 53)).drew.ownsRow w1.heap.size 53 2 (.slice (some ⟨w1.heap.size, 0, none⟩) 0 0) 0 [] from by have h := own_empty w1 w1.heap.size 53 2 B0.out.2; exact h)
        refine hK.out _ _ (fun _ => ?_) ?_
        · exact ⟨(HP.out.below B1.out.1).c0, (HP.out.below B1.out.1).c1, (HGX.out _ B1.out.1).1, (HGX.out _ B1.out.1).2⟩
        clear hK K
        try simp only [Act.put, List.getElem_toArray, List.getElem_cons_zero, List.getElem_cons_succ, List.setIfInBounds_toArray, List.set_cons_zero, List.set_cons_succ]
        refine wpAnyF_two (i := 3) (j := 8) (by kernel_rfl) rfl rfl (fun K hK => ?_) (fun K hK => ?_)
        · skip
          refine stepW_appT0 (by rfl) (.tmp 16) (.tmp 18) _ rfl elem_turn w1.heap.size _ rfl O1.out p' c' xs' _ rfl (HP.out.below B1.out.1).rx HLN.out B1.out.2 ?_
          intro pz cz wz2 hown hqz hg
          have B2 := Lib.hid (At.grown B1.out hg (fun b hb => (O1.out.lt b hb).1))
          have P2 := Lib.hid hown
          have Q2 := Lib.hid hqz
          clear hown hqz hg
          refine hK.out _ _ (fun _ => ?_) ?_
          · exact ⟨(HP.out.below B2.out.1).c0, (HP.out.below B2.out.1).c1, (HGX.out _ B2.out.1).1, (HGX.out _ B2.out.1).2⟩
          clear hK K
          try simp only [Act.put, List.getElem_toArray, List.getElem_cons_zero, List.getElem_cons_succ, List.setIfInBounds_toArray, List.set_cons_zero, List.set_cons_succ]
          refine wpAnyF_one (i := 8) (by kernel_rfl) rfl (fun K hK => ?_)
          go_simp
          have B3 := Lib.hid (show At w1.heap.size w1.drew (wz2.alloc (.cells #[.int .i64 t1, .bool t2] 53)) from At.alloc B2.out (.cells #[.int .i64 t1, .bool t2] 53))
          have E3 := Lib.hid (show (wz2.alloc (.cells #[.int .i64 t1, .bool t2] 53)).heap[wz2.heap.size]? = some (.cells #[.int .i64 t1, .bool t2] 53 (0, 0)) from by have h := World.alloc_heap_new wz2 (.cells #[.int .i64 t1, .bool t2] 53); exact h)
          have P3 := Lib.hid (show OwnT (wz2.alloc (.cells #[.int .i64 t1, .bool t2] 53)) pz cz xs' from OwnT.below P2.out ((Below.refl _ _).alloc (Nat.le_refl _) (.cells #[.int .i64 t1, .bool t2] 53)))
          refine hK.out _ _ (fun _ => ?_) ?_
          · exact ⟨(HP.out.below B3.out.1).c0, (HP.out.below B3.out.1).c1, (HGX.out _ B3.out.1).1, (HGX.out _ B3.out.1).2⟩
          clear hK K
          try simp only [Act.put, List.getElem_toArray, List.getElem_cons_zero, List.getElem_cons_succ, List.setIfInBounds_toArray, List.set_cons_zero, List.set_cons_succ]
          refine wpAnyF_one (i := 9) (by kernel_rfl) rfl (fun K hK => ?_)
          refine step_appT (by rfl) (.tmp 19) (.tmp 24) _ rfl elem_turn pz cz xs' (t1, t2) rfl P3.out _ 1 rfl _ _ E3.out HLN.out ?_
          intro p9 c9 w9 hown hf hq
          have B9 := Lib.hid (show At w1.heap.size w1.drew w9 from ⟨Below.trans B3.out.1 (hf.below B3.out.2 Q2.out), Nat.le_trans B3.out.2 hf.size⟩)
          have P9 := Lib.hid hown
          have Q9 := Lib.hid (show ∀ b, inP p9 c9 b → w1.heap.size ≤ b from fun b hb => (hq b hb).elim (Q2.out b) (fun h => Nat.le_trans B3.out.2 h.1))
          clear hown hf hq
          refine hK.out _ _ (fun _ => ?_) ?_
          · exact ⟨(HP.out.below B9.out.1).c0, (HP.out.below B9.out.1).c1, (HGX.out _ B9.out.1).1, (HGX.out _ B9.out.1).2⟩
          clear hK K
          try simp only [Act.put, List.getElem_toArray, List.getElem_cons_zero, List.getElem_cons_succ, List.setIfInBounds_toArray, List.set_cons_zero, List.set_cons_succ]
          refine wpAnyF_one (i := 10) (by kernel_rfl) rfl (fun K hK => ?_)
          go_simp
          refine hK.out _ _ (fun _ => ?_) ?_
          · exact ⟨(HP.out.below B9.out.1).c0, (HP.out.below B9.out.1).c1, (HGX.out _ B9.out.1).1, (HGX.out _ B9.out.1).2⟩
          clear hK K
          try simp only [Act.put, List.getElem_toArray, List.getElem_cons_zero, List.getElem_cons_succ, List.setIfInBounds_toArray, List.set_cons_zero, List.set_cons_succ]
          have l0 := (HP.out.below B9.out.1).c0
          have l2 := pair_fr (HP.out.below B9.out.1).hp 0
          refine wpAnyF_one (i := 11) (by kernel_rfl) rfl (fun K hK => ?_)
          go_simp
          refine hK.out _ _ (fun h => Bool.noConfusion (h.symm.trans (by kernel_rfl : _ = true))) ?_
          clear hK K
          try simp only [Act.put, List.getElem_toArray, List.getElem_cons_zero, List.getElem_cons_succ, List.setIfInBounds_toArray, List.set_cons_zero, List.set_cons_succ]
          refine wpAnyF_done (by kernel_rfl) ?_ _
          refine NoPanic.normal ?_
          clear l0 l2
          obtain ⟨hm1, hm2⟩ := given_mid (p9 := p9) (c9 := c9) HI.out HB1.out.drew B9.out HPQ.out
          obtain ⟨wS, hwS⟩ : ∃ wS, w9.setCell ⟨w.heap.size, 0, none⟩ (.slice p9 (xs'.length + 1) c9) = wS := ⟨_, rfl⟩
          rw [hwS] at hm1 hm2
          have s1 := pair_c1 hm1
          have HM := Lib.hid hm1
          have s1a : (wS.alloc (.cells #[] 53)).cell? ⟨w.heap.size, 1, none⟩ = some (.slice (some ⟨g, o, none⟩) (ws.length + 1) d') := (((Below.refl _ _).alloc (Nat.le_refl _) (.cells #[] 53)).cell (p := ⟨w.heap.size, 1, none⟩) (Array.getElem?_eq_some_iff.1 hm1).1).trans s1
          have HWS := Lib.hid hwS
          have hBS : w.heap.size < wS.heap.size := (Array.getElem?_eq_some_iff.1 hm1).1
          have HBS := Lib.hid hBS
          clear hm1 hwS hBS
          by_cases hd : d' = 1
          · subst hd
            rw [if_pos rfl] at hm2
            have HM2 := Lib.hid (hm2.kept ((Below.refl _ _).alloc (Nat.le_refl _) (.cells #[] 53)))
            clear hm2
            rw [HWS.out]
            go_wp2_with (
              at_builtin
              refine wpList_appT0 rfl (.tmp 27) (.tmp 30) _ rfl elem_turn wS.heap.size _ rfl (own_empty wS _ _ _ (Nat.le_refl _)) _ _ ws _ rfl HM2.out HLW.out (by simp) ?_
              intro p10 c10 w10 hown hq hg
              have h10 : At wS.heap.size wS w10 := At.grown ((At.start wS).alloc _) hg (by intro b hb; cases hb; exact Nat.le_refl _)
              have l1 := (h10.1.cell (p := ⟨w.heap.size, 1, none⟩) HBS.out).trans s1
              have l2 := pair_fr ((h10.1.block _ HBS.out).trans HM.out) 1
              have H10 := Lib.hid h10
              have P10 := Lib.hid hown
              have Q10 := Lib.hid hq
              clear h10 hown hq hg)
            obtain ⟨r1, r2⟩ := given_step HI.out HB1.out.drew B9.out P9.out Q9.out HWS.out H10.out P10.out Q10.out
            refine ⟨⟨p9, c9, xs' ++ [(t1, t2)], p10, c10, ws, r1, ?_, ?_⟩, r2⟩
            · rw [← HG.out, givenT_yes HFT.out]
            · have := HL.out; simp at this ⊢; omega
          · rw [if_neg hd] at hm2
            have hd' : (d' = 1) = False := by simp [hd]
            have HM2 := Lib.hid (hm2.kept ((Below.refl _ _).alloc (Nat.le_refl _) (.cells #[] 53)))
            clear hm2 hd
            rw [HWS.out]
            go_wp2_with (
              at_builtin
              refine wpList_appT0 rfl (.tmp 27) (.tmp 30) _ rfl elem_turn wS.heap.size _ rfl (own_empty wS _ _ _ (Nat.le_refl _)) _ _ ws _ rfl HM2.out HLW.out (by simp) ?_
              intro p10 c10 w10 hown hq hg
              have h10 : At wS.heap.size wS w10 := At.grown ((At.start wS).alloc _) hg (by intro b hb; cases hb; exact Nat.le_refl _)
              have l1 := (h10.1.cell (p := ⟨w.heap.size, 1, none⟩) HBS.out).trans s1
              have l2 := pair_fr ((h10.1.block _ HBS.out).trans HM.out) 1
              have H10 := Lib.hid h10
              have P10 := Lib.hid hown
              have Q10 := Lib.hid hq
              clear h10 hown hq hg)
            obtain ⟨r1, r2⟩ := given_step HI.out HB1.out.drew B9.out P9.out Q9.out HWS.out H10.out P10.out Q10.out
            refine ⟨⟨p9, c9, xs' ++ [(t1, t2)], p10, c10, ws, r1, ?_, ?_⟩, r2⟩
            · rw [← HG.out, givenT_yes HFT.out]
            · have := HL.out; simp at this ⊢; omega
        · skip
          go_simp
          have B5 := Lib.hid (show At w1.heap.size w1.drew ((w1.alloc (.cells #[] 53)).alloc (.cells #[.int .i64 t1, .bool t2] 53)).drew from At.alloc B1.out (.cells #[.int .i64 t1, .bool t2] 53))
          have E5 := Lib.hid (show ((w1.alloc (.cells #[] 53)).alloc (.cells #[.int .i64 t1, .bool t2] 53)).drew.heap[w1.heap.size + 1]? = some (.cells #[.int .i64 t1, .bool t2] 53 (0, 0)) from by have h := World.alloc_heap_new (w1.alloc (.cells #[] 53)) (.cells #[.int .i64 t1, .bool t2] 53); rw [World.size_alloc] at h; exact h)
          have O5 := Lib.hid (show ((w1.alloc (.cells #[] 53)).alloc (.cells #[.int .i64 t1, .bool t2] 53)).drew.ownsRow w1.heap.size 53 2 _ 0 [] from own_below O1.out ((Below.refl _ _).alloc (Nat.le_refl _) (.cells #[.int .i64 t1, .bool t2] 53)))
          refine hK.out _ _ (fun _ => ?_) ?_
          · exact ⟨(HP.out.below B5.out.1).c0, (HP.out.below B5.out.1).c1, (HGX.out _ B5.out.1).1, (HGX.out _ B5.out.1).2⟩
          clear hK K
          try simp only [Act.put, List.getElem_toArray, List.getElem_cons_zero, List.getElem_cons_succ, List.setIfInBounds_toArray, List.set_cons_zero, List.set_cons_succ]
          refine wpAnyF_one (i := 3) (by kernel_rfl) rfl (fun K hK => ?_)
          refine stepW_appT0 (by rfl) (.tmp 16) (.tmp 18) _ rfl elem_turn w1.heap.size _ rfl O5.out p' c' xs' _ rfl (HP.out.below B5.out.1).rx HLN.out B5.out.2 ?_
          intro pz cz wz6 hown hqz hg
          have B6 := Lib.hid (At.grown B5.out hg (fun b hb => (O5.out.lt b hb).1))
          have P6 := Lib.hid hown
          have Q6 := Lib.hid hqz
          have E6 := Lib.hid ((hg.block _ (Array.getElem?_eq_some_iff.1 E5.out).1 (show some (w1.heap.size + 1) ≠ (Value.slice (some ⟨w1.heap.size, 0, none⟩) 0 0).ownBlock from by simp [Value.ownBlock])).trans E5.out)
          clear hown hqz hg
          refine hK.out _ _ (fun _ => ?_) ?_
          · exact ⟨(HP.out.below B6.out.1).c0, (HP.out.below B6.out.1).c1, (HGX.out _ B6.out.1).1, (HGX.out _ B6.out.1).2⟩
          clear hK K
          try simp only [Act.put, List.getElem_toArray, List.getElem_cons_zero, List.getElem_cons_succ, List.setIfInBounds_toArray, List.set_cons_zero, List.set_cons_succ]
          refine wpAnyF_one (i := 9) (by kernel_rfl) rfl (fun K hK => ?_)
          refine step_appT (by rfl) (.tmp 19) (.tmp 24) _ rfl elem_turn pz cz xs' (t1, t2) rfl P6.out _ 1 rfl _ _ E6.out HLN.out ?_
          intro p9 c9 w9 hown hf hq
          have B9 := Lib.hid (show At w1.heap.size w1.drew w9 from ⟨Below.trans B6.out.1 (hf.below B6.out.2 Q6.out), Nat.le_trans B6.out.2 hf.size⟩)
          have P9 := Lib.hid hown
          have Q9 := Lib.hid (show ∀ b, inP p9 c9 b → w1.heap.size ≤ b from fun b hb => (hq b hb).elim (Q6.out b) (fun h => Nat.le_trans B6.out.2 h.1))
          clear hown hf hq
          refine hK.out _ _ (fun _ => ?_) ?_
          · exact ⟨(HP.out.below B9.out.1).c0, (HP.out.below B9.out.1).c1, (HGX.out _ B9.out.1).1, (HGX.out _ B9.out.1).2⟩
          clear hK K
          try simp only [Act.put, List.getElem_toArray, List.getElem_cons_zero, List.getElem_cons_succ, List.setIfInBounds_toArray, List.set_cons_zero, List.set_cons_succ]
          refine wpAnyF_one (i := 10) (by kernel_rfl) rfl (fun K hK => ?_)
          go_simp
          refine hK.out _ _ (fun _ => ?_) ?_
          · exact ⟨(HP.out.below B9.out.1).c0, (HP.out.below B9.out.1).c1, (HGX.out _ B9.out.1).1, (HGX.out _ B9.out.1).2⟩
          clear hK K
          try simp only [Act.put, List.getElem_toArray, List.getElem_cons_zero, List.getElem_cons_succ, List.setIfInBounds_toArray, List.set_cons_zero, List.set_cons_succ]
          have l0 := (HP.out.below B9.out.1).c0
          have l2 := pair_fr (HP.out.below B9.out.1).hp 0
          refine wpAnyF_one (i := 11) (by kernel_rfl) rfl (fun K hK => ?_)
          go_simp
          refine hK.out _ _ (fun h => Bool.noConfusion (h.symm.trans (by kernel_rfl : _ = true))) ?_
          clear hK K
          try simp only [Act.put, List.getElem_toArray, List.getElem_cons_zero, List.getElem_cons_succ, List.setIfInBounds_toArray, List.set_cons_zero, List.set_cons_succ]
          refine wpAnyF_done (by kernel_rfl) ?_ _
          refine NoPanic.normal ?_
          clear l0 l2
          obtain ⟨hm1, hm2⟩ := given_mid (p9 := p9) (c9 := c9) HI.out HB1.out.drew B9.out HPQ.out
          obtain ⟨wS, hwS⟩ : ∃ wS, w9.setCell ⟨w.heap.size, 0, none⟩ (.slice p9 (xs'.length + 1) c9) = wS := ⟨_, rfl⟩
          rw [hwS] at hm1 hm2
          have s1 := pair_c1 hm1
          have HM := Lib.hid hm1
          have s1a : (wS.alloc (.cells #[] 53)).cell? ⟨w.heap.size, 1, none⟩ = some (.slice (some ⟨g, o, none⟩) (ws.length + 1) d') := (((Below.refl _ _).alloc (Nat.le_refl _) (.cells #[] 53)).cell (p := ⟨w.heap.size, 1, none⟩) (Array.getElem?_eq_some_iff.1 hm1).1).trans s1
          have HWS := Lib.hid hwS
          have hBS : w.heap.size < wS.heap.size := (Array.getElem?_eq_some_iff.1 hm1).1
          have HBS := Lib.hid hBS
          clear hm1 hwS hBS
          by_cases hd : d' = 1
          · subst hd
            rw [if_pos rfl] at hm2
            have HM2 := Lib.hid (hm2.kept ((Below.refl _ _).alloc (Nat.le_refl _) (.cells #[] 53)))
            clear hm2
            rw [HWS.out]
            go_wp2_with (
              at_builtin
              refine wpList_appT0 rfl (.tmp 27) (.tmp 30) _ rfl elem_turn wS.heap.size _ rfl (own_empty wS _ _ _ (Nat.le_refl _)) _ _ ws _ rfl HM2.out HLW.out (by simp) ?_
              intro p10 c10 w10 hown hq hg
              have h10 : At wS.heap.size wS w10 := At.grown ((At.start wS).alloc _) hg (by intro b hb; cases hb; exact Nat.le_refl _)
              have l1 := (h10.1.cell (p := ⟨w.heap.size, 1, none⟩) HBS.out).trans s1
              have l2 := pair_fr ((h10.1.block _ HBS.out).trans HM.out) 1
              have H10 := Lib.hid h10
              have P10 := Lib.hid hown
              have Q10 := Lib.hid hq
              clear h10 hown hq hg)
            obtain ⟨r1, r2⟩ := given_step HI.out HB1.out.drew B9.out P9.out Q9.out HWS.out H10.out P10.out Q10.out
            refine ⟨⟨p9, c9, xs' ++ [(t1, t2)], p10, c10, ws, r1, ?_, ?_⟩, r2⟩
            · rw [← HG.out, givenT_yes HFT.out]
            · have := HL.out; simp at this ⊢; omega
          · rw [if_neg hd] at hm2
            have hd' : (d' = 1) = False := by simp [hd]
            have HM2 := Lib.hid (hm2.kept ((Below.refl _ _).alloc (Nat.le_refl _) (.cells #[] 53)))
            clear hm2 hd
            rw [HWS.out]
            go_wp2_with (
              at_builtin
              refine wpList_appT0 rfl (.tmp 27) (.tmp 30) _ rfl elem_turn wS.heap.size _ rfl (own_empty wS _ _ _ (Nat.le_refl _)) _ _ ws _ rfl HM2.out HLW.out (by simp) ?_
              intro p10 c10 w10 hown hq hg
              have h10 : At wS.heap.size wS w10 := At.grown ((At.start wS).alloc _) hg (by intro b hb; cases hb; exact Nat.le_refl _)
              have l1 := (h10.1.cell (p := ⟨w.heap.size, 1, none⟩) HBS.out).trans s1
              have l2 := pair_fr ((h10.1.block _ HBS.out).trans HM.out) 1
              have H10 := Lib.hid h10
              have P10 := Lib.hid hown
              have Q10 := Lib.hid hq
              clear h10 hown hq hg)
            obtain ⟨r1, r2⟩ := given_step HI.out HB1.out.drew B9.out P9.out Q9.out HWS.out H10.out P10.out Q10.out
            refine ⟨⟨p9, c9, xs' ++ [(t1, t2)], p10, c10, ws, r1, ?_, ?_⟩, r2⟩
            · rw [← HG.out, givenT_yes HFT.out]
            · have := HL.out; simp at this ⊢; omega
      · skip
        go_simp
        have B8 := Lib.hid (show At w1.heap.size w1.drew (w1.alloc (.cells #[.int .i64 t1, .bool t2] 53)).drew from At.alloc B0.out (.cells #[.int .i64 t1, .bool t2] 53))
        have E8 := Lib.hid (show (w1.alloc (.cells #[.int .i64 t1, .bool t2] 53)).drew.heap[w1.heap.size]? = some (.cells #[.int .i64 t1, .bool t2] 53 (0, 0)) from by have h := World.alloc_heap_new w1 (.cells #[.int .i64 t1, .bool t2] 53); exact h)
        refine hK.out _ _ (fun _ => ?_) ?_
        · exact ⟨(HP.out.below B8.out.1).c0, (HP.out.below B8.out.1).c1, (HGX.out _ B8.out.1).1, (HGX.out _ B8.out.1).2⟩
        clear hK K
        try simp only [Act.put, List.getElem_toArray, List.getElem_cons_zero, List.getElem_cons_succ, List.setIfInBounds_toArray, List.set_cons_zero, List.set_cons_succ]
        refine wpAnyF_one (i := 0) (by kernel_rfl) rfl (fun K hK => ?_)
        go_simp
        have B9 := Lib.hid (show At w1.heap.size w1.drew ((w1.alloc (.cells #[.int .i64 t1, .bool t2] 53)).alloc (.cells #[] 53)).drew from At.alloc B8.out (.cells #[] 53))
        have O9 := Lib.hid (show ((w1.alloc (.cells #[.int .i64 t1, .bool t2] 53)).alloc (.cells #[] 53)).drew.ownsRow w1.heap.size 53 2 (.slice (some ⟨w1.heap.size + 1, 0, none⟩) 0 0) 0 [] from by have h := own_empty (w1.alloc (.cells #[.int .i64 t1, .bool t2] 53)) w1.heap.size 53 2 B8.out.2; rw [World.size_alloc] at h; exact h)
        have E9 := Lib.hid (show ((w1.alloc (.cells #[.int .i64 t1, .bool t2] 53)).alloc (.cells #[] 53)).drew.heap[w1.heap.size]? = _ from (Below.heap_alloc (w1.alloc (.cells #[.int .i64 t1, .bool t2] 53)) (.cells #[] 53) _ (Array.getElem?_eq_some_iff.1 E8.out).1).trans E8.out)
        refine hK.out _ _ (fun _ => ?_) ?_
        · exact ⟨(HP.out.below B9.out.1).c0, (HP.out.below B9.out.1).c1, (HGX.out _ B9.out.1).1, (HGX.out _ B9.out.1).2⟩
        clear hK K
        try simp only [Act.put, List.getElem_toArray, List.getElem_cons_zero, List.getElem_cons_succ, List.setIfInBounds_toArray, List.set_cons_zero, List.set_cons_succ]
        refine wpAnyF_one (i := 3) (by kernel_rfl) rfl (fun K hK => ?_)
        refine stepW_appT0 (by rfl) (.tmp 16) (.tmp 18) _ rfl elem_turn w1.heap.size _ rfl O9.out p' c' xs' _ rfl (HP.out.below B9.out.1).rx HLN.out B9.out.2 ?_
        intro pz cz wz10 hown hqz hg
        have B10 := Lib.hid (At.grown B9.out hg (fun b hb => (O9.out.lt b hb).1))
        have P10 := Lib.hid hown
        have Q10 := Lib.hid hqz
        have E10 := Lib.hid ((hg.block _ (Array.getElem?_eq_some_iff.1 E9.out).1 (show some (w1.heap.size) ≠ (Value.slice (some ⟨w1.heap.size + 1, 0, none⟩) 0 0).ownBlock from by simp [Value.ownBlock])).trans E9.out)
        clear hown hqz hg
        refine hK.out _ _ (fun _ => ?_) ?_
        · exact ⟨(HP.out.below B10.out.1).c0, (HP.out.below B10.out.1).c1, (HGX.out _ B10.out.1).1, (HGX.out _ B10.out.1).2⟩
        clear hK K
        try simp only [Act.put, List.getElem_toArray, List.getElem_cons_zero, List.getElem_cons_succ, List.setIfInBounds_toArray, List.set_cons_zero, List.set_cons_succ]
        refine wpAnyF_one (i := 9) (by kernel_rfl) rfl (fun K hK => ?_)
        refine step_appT (by rfl) (.tmp 19) (.tmp 24) _ rfl elem_turn pz cz xs' (t1, t2) rfl P10.out _ 1 rfl _ _ E10.out HLN.out ?_
        intro p9 c9 w9 hown hf hq
        have B9 := Lib.hid (show At w1.heap.size w1.drew w9 from ⟨Below.trans B10.out.1 (hf.below B10.out.2 Q10.out), Nat.le_trans B10.out.2 hf.size⟩)
        have P9 := Lib.hid hown
        have Q9 := Lib.hid (show ∀ b, inP p9 c9 b → w1.heap.size ≤ b from fun b hb => (hq b hb).elim (Q10.out b) (fun h => Nat.le_trans B10.out.2 h.1))
        clear hown hf hq
        refine hK.out _ _ (fun _ => ?_) ?_
        · exact ⟨(HP.out.below B9.out.1).c0, (HP.out.below B9.out.1).c1, (HGX.out _ B9.out.1).1, (HGX.out _ B9.out.1).2⟩
        clear hK K
        try simp only [Act.put, List.getElem_toArray, List.getElem_cons_zero, List.getElem_cons_succ, List.setIfInBounds_toArray, List.set_cons_zero, List.set_cons_succ]
        refine wpAnyF_one (i := 10) (by kernel_rfl) rfl (fun K hK => ?_)
        go_simp
        refine hK.out _ _ (fun _ => ?_) ?_
        · exact ⟨(HP.out.below B9.out.1).c0, (HP.out.below B9.out.1).c1, (HGX.out _ B9.out.1).1, (HGX.out _ B9.out.1).2⟩
        clear hK K
        try simp only [Act.put, List.getElem_toArray, List.getElem_cons_zero, List.getElem_cons_succ, List.setIfInBounds_toArray, List.set_cons_zero, List.set_cons_succ]
        have l0 := (HP.out.below B9.out.1).c0
        have l2 := pair_fr (HP.out.below B9.out.1).hp 0
        refine wpAnyF_one (i := 11) (by kernel_rfl) rfl (fun K hK => ?_)
        go_simp
        refine hK.out _ _ (fun h => Bool.noConfusion (h.symm.trans (by kernel_rfl : _ = true))) ?_
        clear hK K
        try simp only [Act.put, List.getElem_toArray, List.getElem_cons_zero, List.getElem_cons_succ, List.setIfInBounds_toArray, List.set_cons_zero, List.set_cons_succ]
        refine wpAnyF_done (by kernel_rfl) ?_ _
        refine NoPanic.normal ?_
        clear l0 l2
        obtain ⟨hm1, hm2⟩ := given_mid (p9 := p9) (c9 := c9) HI.out HB1.out.drew B9.out HPQ.out
        obtain ⟨wS, hwS⟩ : ∃ wS, w9.setCell ⟨w.heap.size, 0, none⟩ (.slice p9 (xs'.length + 1) c9) = wS := ⟨_, rfl⟩
        rw [hwS] at hm1 hm2
        have s1 := pair_c1 hm1
        have HM := Lib.hid hm1
        have s1a : (wS.alloc (.cells #[] 53)).cell? ⟨w.heap.size, 1, none⟩ = some (.slice (some ⟨g, o, none⟩) (ws.length + 1) d') := (((Below.refl _ _).alloc (Nat.le_refl _) (.cells #[] 53)).cell (p := ⟨w.heap.size, 1, none⟩) (Array.getElem?_eq_some_iff.1 hm1).1).trans s1
        have HWS := Lib.hid hwS
        have hBS : w.heap.size < wS.heap.size := (Array.getElem?_eq_some_iff.1 hm1).1
        have HBS := Lib.hid hBS
        clear hm1 hwS hBS
        by_cases hd : d' = 1
        · subst hd
          rw [if_pos rfl] at hm2
          have HM2 := Lib.hid (hm2.kept ((Below.refl _ _).alloc (Nat.le_refl _) (.cells #[] 53)))
          clear hm2
          rw [HWS.out]
          go_wp2_with (
            at_builtin
            refine wpList_appT0 rfl (.tmp 27) (.tmp 30) _ rfl elem_turn wS.heap.size _ rfl (own_empty wS _ _ _ (Nat.le_refl _)) _ _ ws _ rfl HM2.out HLW.out (by simp) ?_
            intro p10 c10 w10 hown hq hg
            have h10 : At wS.heap.size wS w10 := At.grown ((At.start wS).alloc _) hg (by intro b hb; cases hb; exact Nat.le_refl _)
            have l1 := (h10.1.cell (p := ⟨w.heap.size, 1, none⟩) HBS.out).trans s1
            have l2 := pair_fr ((h10.1.block _ HBS.out).trans HM.out) 1
            have H10 := Lib.hid h10
            have P10 := Lib.hid hown
            have Q10 := Lib.hid hq
            clear h10 hown hq hg)
          obtain ⟨r1, r2⟩ := given_step HI.out HB1.out.drew B9.out P9.out Q9.out HWS.out H10.out P10.out Q10.out
          refine ⟨⟨p9, c9, xs' ++ [(t1, t2)], p10, c10, ws, r1, ?_, ?_⟩, r2⟩
          · rw [← HG.out, givenT_yes HFT.out]
          · have := HL.out; simp at this ⊢; omega
        · rw [if_neg hd] at hm2
          have hd' : (d' = 1) = False := by simp [hd]
          have HM2 := Lib.hid (hm2.kept ((Below.refl _ _).alloc (Nat.le_refl _) (.cells #[] 53)))
          clear hm2 hd
          rw [HWS.out]
          go_wp2_with (
            at_builtin
            refine wpList_appT0 rfl (.tmp 27) (.tmp 30) _ rfl elem_turn wS.heap.size _ rfl (own_empty wS _ _ _ (Nat.le_refl _)) _ _ ws _ rfl HM2.out HLW.out (by simp) ?_
            intro p10 c10 w10 hown hq hg
            have h10 : At wS.heap.size wS w10 := At.grown ((At.start wS).alloc _) hg (by intro b hb; cases hb; exact Nat.le_refl _)
            have l1 := (h10.1.cell (p := ⟨w.heap.size, 1, none⟩) HBS.out).trans s1
            have l2 := pair_fr ((h10.1.block _ HBS.out).trans HM.out) 1
            have H10 := Lib.hid h10
            have P10 := Lib.hid hown
            have Q10 := Lib.hid hq
            clear h10 hown hq hg)
          obtain ⟨r1, r2⟩ := given_step HI.out HB1.out.drew B9.out P9.out Q9.out HWS.out H10.out P10.out Q10.out
          refine ⟨⟨p9, c9, xs' ++ [(t1, t2)], p10, c10, ws, r1, ?_, ?_⟩, r2⟩
          · rw [← HG.out, givenT_yes HFT.out]
          · have := HL.out; simp at this ⊢; omega
end Go.Proofs.Ythhdipfadnihjaa
