/- Plain helpers: a slice of the call's own, as a list of whatever is laid into cells (OwnO, with its list); appends of a new block's elements; lists that are read. -/
import Derived.Test.YtenmogokbelahaaOwnO
import Derived.Test.YtenmogokbelahaaKeep
namespace Go.Proofs.Ytenmogokbelahaa
open Go Go.RowKit

section
variable {α : Type}
def OwnG (e : TypeId) (c : Nat) (enc : α → List Value) (w : World) (p : Option Addr) (cap : Nat) (ys : List α) : Prop := OwnO w e c p cap ys.length (ys.flatMap enc)
variable {e : TypeId} {c : Nat} {enc : α → List Value}
theorem OwnG.rds (he : ∀ y, (enc y).length = c) {w : World} {p : Option Addr} {cap : Nat} {ys : List α} (h : OwnG e c enc w p cap ys) : RdS w.heap.size w p cap c enc ys := OwnO.rds he h
theorem OwnG.keep {w w' : World} {p : Option Addr} {cap : Nat} {ys : List α} (h : OwnG e c enc w p cap ys) (hb : ∀ b, inP p cap b → w'.heap[b]? = w.heap[b]?) : OwnG e c enc w' p cap ys := OwnO.keep h hb
theorem OwnG.below {w w' : World} {p : Option Addr} {cap : Nat} {ys : List α} (h : OwnG e c enc w p cap ys) (hb : Below w.heap.size w w') : OwnG e c enc w' p cap ys := OwnO.below h hb
theorem OwnG.lt {w : World} {p : Option Addr} {cap : Nat} {ys : List α} (h : OwnG e c enc w p cap ys) {b : Nat} (hb : inP p cap b) : b < w.heap.size := OwnO.lt h hb
theorem OwnG.nil (e : TypeId) (c : Nat) (enc : α → List Value) (w : World) (p : Option Addr) : OwnG e c enc w p 0 [] := OwnO.nil _ _ _ _
theorem ownG_of {w : World} {base : Nat} {v : Value} {ys : List α} (h : w.ownsRow base e c v ys.length (ys.flatMap enc)) : ∃ p cap, v = .slice p ys.length cap ∧ OwnG e c enc w p cap ys ∧ (∀ b, inP p cap b → base ≤ b) := by
  rcases h.2 with ⟨hv, h0⟩ | ⟨g, cc, cur, hv, hb, hr⟩
  · subst hv
    refine ⟨none, 0, by rw [h0], ?_, by rintro b ⟨a, ha, _⟩; cases ha⟩
    have h1 := h
    rw [h0] at h1
    have := OwnO.of_owns h1
    unfold OwnG
    rw [h0]; exact this
  · subst hv
    exact ⟨_, _, rfl, OwnO.of_owns h, by rintro b ⟨a, ha, rfl, _⟩; cases ha; exact hb⟩
/-- The block of a new slice owns its cells. -/
theorem OwnG.block {w : World} {g : Nat} {ys : List α} (he : ∀ y, (enc y).length = c) (hg : w.heap[g]? = some (.cells (ys.flatMap enc).toArray e (0, 0))) (hm : ys.length ≤ maxLen) : OwnG e c enc w (some ⟨g, 0, none⟩) ys.length ys :=
  ⟨flat_len he ys, Nat.le_refl _, hm, .inr ⟨g, 0, _, rfl, hg, by simp [flat_len he ys], by rw [List.drop_zero]; exact (List.take_of_length_le (by rw [← flat_len he ys]; simp))⟩⟩
theorem flat_one (h : ∀ y, ∀ u ∈ enc y, u.oneCell' = true) (ys : List α) : ∀ u ∈ ys.flatMap enc, u.oneCell' = true := by
  intro u hu
  obtain ⟨t, _, ht⟩ := List.mem_flatMap.1 hu
  exact h t u ht
theorem block_news {w : World} {g : Nat} {cs : List Value} {t : TypeId} {fr : Nat × Nat} (h : w.heap[g]? = some (.cells cs.toArray t fr)) : ∀ j u, cs[j]? = some u → w.cell? ((⟨g, 0, none⟩ : Addr).add j) = some u := by
  intro j u hj
  rw [Addr.add_lit]
  simp [World.cell?, h, hj]
/-- What an append leaves. -/
def AppG (e : TypeId) (c : Nat) (enc : α → List Value) (p : Option Addr) (cap : Nat) (w : World) (zs : List α) (p' : Option Addr) (cap' : Nat) (w' : World) : Prop :=
  OwnG e c enc w' p' cap' zs ∧ Frn (inP p cap) w w' ∧ (∀ b, inP p' cap' b → inP p cap b ∨ (w.heap.size ≤ b ∧ b < w'.heap.size))

theorem AppG.of {p : Option Addr} {cap : Nat} {w X : World} {zs : List α} {p' : Option Addr} {cap' : Nat} {w' : World} (hf : Frn (inP p cap) w X) (h : AppG e c enc p cap X zs p' cap' w') : AppG e c enc p cap w zs p' cap' w' :=
  ⟨h.1, hf.trans h.2.1, fun b hb => (h.2.2 b hb).imp id fun hh => ⟨Nat.le_trans hf.size hh.1, hh.2⟩⟩

variable {P : Program}
/-- Append of a new block's elements (one or more). -/
theorem wpList_appG {w : World} {ops : Array Oper} {rest : List Oper} {o : Oper} {a : Act} {Q : Exit → Act → World → Prop} (hgd : o.guard = none) (s x : Operand) (t : TypeId)
    (hop : o.op = .call { callee := .builtin .append, args := #[s, x], argTypes := #[t, t] }) {z : Value} {bytes : Nat} (he : ElemIs P t e z c bytes) (hb : bytes ≤ 1000) (hc : ∀ y, (enc y).length = c) (h1 : ∀ y, ∀ u ∈ enc y, u.oneCell' = true)
    (p : Option Addr) (cap : Nat) (ys zs : List α) (hs : a.eval s = .slice p ys.length cap) (hown : OwnG e c enc w p cap ys)
    (g cg m : Nat) (hm : m = zs.length) (hx : a.eval x = .slice (some ⟨g, 0, none⟩) m cg) (te : TypeId) (fr : Nat × Nat) (hg : w.heap[g]? = some (.cells (zs.flatMap enc).toArray te fr)) (hz : 0 < zs.length) (hn : ys.length < 1000000 ∧ zs.length < 1000000)
    (h : ∀ p' cap' w', AppG e c enc p cap w (ys ++ zs) p' cap' w' → wpList P ops Q rest (a.put o.dst (.slice p' (ys.length + m) cap')) w') : wpList P ops Q (o :: rest) a w := by
  subst hm
  refine wpList_append_ownO hgd s x t hop he p cap ys.length (ys.flatMap enc) hs hown ⟨g, 0, none⟩ zs.length cg (zs.flatMap enc) hx (flat_len hc zs) (block_news hg) (flat_one h1 zs) hz (by unfold maxLen; omega) ?_ ?_
  · have : (ys.length + zs.length) * bytes ≤ 2000000 * 1000 := Nat.mul_le_mul (by omega) hb
    omega
  · intro p' cap' w' h2 h3 h4
    exact h p' cap' w' ⟨by unfold OwnG; simpa using h2, h3, h4⟩
theorem step_appG {w : World} {ops : Array Oper} {o : Oper} {a : Act} {K : Act → World → Prop} {Q : Exit → Act → World → Prop} {E : Prop} (hw : Region.wanted o (yielded ops a.tmps) = true) (s x : Operand) (t : TypeId)
    (hop : o.op = .call { callee := .builtin .append, args := #[s, x], argTypes := #[t, t] }) {z : Value} {bytes : Nat} (he : ElemIs P t e z c bytes) (hb : bytes ≤ 1000) (hc : ∀ y, (enc y).length = c) (h1 : ∀ y, ∀ u ∈ enc y, u.oneCell' = true)
    (p : Option Addr) (cap : Nat) (ys zs : List α) (hs : a.eval s = .slice p ys.length cap) (hown : OwnG e c enc w p cap ys)
    (g cg m : Nat) (hm : m = zs.length) (hx : a.eval x = .slice (some ⟨g, 0, none⟩) m cg) (te : TypeId) (fr : Nat × Nat) (hg : w.heap[g]? = some (.cells (zs.flatMap enc).toArray te fr)) (hz : 0 < zs.length) (hn : ys.length < 1000000 ∧ zs.length < 1000000)
    (h : ∀ p' cap' w', AppG e c enc p cap w (ys ++ zs) p' cap' w' → K (a.put o.dst (.slice p' (ys.length + m) cap')) w') : if Region.wanted o (yielded ops a.tmps) = true then Oper.wp P o a w K Q else E := by
  subst hm
  refine step_append_ownO hw s x t hop he p cap ys.length (ys.flatMap enc) hs hown ⟨g, 0, none⟩ zs.length cg (zs.flatMap enc) hx (flat_len hc zs) (block_news hg) (flat_one h1 zs) hz (by unfold maxLen; omega) ?_ ?_
  · have : (ys.length + zs.length) * bytes ≤ 2000000 * 1000 := Nat.mul_le_mul (by omega) hb
    omega
  · intro p' cap' w' h2 h3 h4
    exact h p' cap' w' ⟨by unfold OwnG; simpa using h2, h3, h4⟩
theorem wpListIn_appG {F : Fence} {nn : Nat} {w : World} {ops : Array Oper} {rest : List Oper} {o : Oper} {a : Act} {Q : Exit → Act → World → Prop} (hgd : o.guard = none) (s x : Operand) (t : TypeId)
    (hop : o.op = .call { callee := .builtin .append, args := #[s, x], argTypes := #[t, t] }) {z : Value} {bytes : Nat} (he : ElemIs P t e z c bytes) (hb : bytes ≤ 1000) (hc : ∀ y, (enc y).length = c) (h1 : ∀ y, ∀ u ∈ enc y, u.oneCell' = true)
    (p : Option Addr) (cap : Nat) (ys zs : List α) (hs : a.eval s = .slice p ys.length cap) (hown : OwnG e c enc w p cap ys)
    (g cg m : Nat) (hm : m = zs.length) (hx : a.eval x = .slice (some ⟨g, 0, none⟩) m cg) (te : TypeId) (fr : Nat × Nat) (hg : w.heap[g]? = some (.cells (zs.flatMap enc).toArray te fr)) (hz : 0 < zs.length) (hn : ys.length < 1000000 ∧ zs.length < 1000000)
    (h : ∀ p' cap' w', AppG e c enc p cap w (ys ++ zs) p' cap' w' → wpListIn F nn P ops Q rest (a.put o.dst (.slice p' (ys.length + m) cap')) w') : wpListIn F nn P ops Q (o :: rest) a w := by
  subst hm
  refine wpListIn_append_ownO hgd s x t hop he p cap ys.length (ys.flatMap enc) hs hown ⟨g, 0, none⟩ zs.length cg (zs.flatMap enc) hx (flat_len hc zs) (block_news hg) (flat_one h1 zs) hz (by unfold maxLen; omega) ?_ ?_
  · have : (ys.length + zs.length) * bytes ≤ 2000000 * 1000 := Nat.mul_le_mul (by omega) hb
    omega
  · intro p' cap' w' h2 h3 h4
    exact h p' cap' w' ⟨by unfold OwnG; simpa using h2, h3, h4⟩
/-- append([]T{}, xs...): a copy of what is read. -/
theorem wpList_copyG {w : World} {ops : Array Oper} {rest : List Oper} {o : Oper} {a : Act} {Q : Exit → Act → World → Prop} (hgd : o.guard = none) (s x : Operand) (t : TypeId)
    (hop : o.op = .call { callee := .builtin .append, args := #[s, x], argTypes := #[t, t] }) {z : Value} {bytes : Nat} (he : ElemIs P t e z c bytes) (hb : bytes ≤ 1000) (hc : ∀ y, (enc y).length = c) (h1 : ∀ y, ∀ u ∈ enc y, u.oneCell' = true)
    (base : Nat) (v : Value) (hs : a.eval s = v) (hown : w.ownsRow base e c v 0 []) (p : Option Addr) (cap : Nat) (ys : List α) (B : Nat) (hx : a.eval x = .slice p ys.length cap) (hrd : RdS B w p cap c enc ys) (hn : ys.length < 1000000) (hbase : base ≤ w.heap.size)
    (h : ∀ p' cap' w', OwnG e c enc w' p' cap' ys → (∀ b, inP p' cap' b → base ≤ b) → w.grownBy w' v.ownBlock → wpList P ops Q rest (a.put o.dst (.slice p' ys.length cap')) w') : wpList P ops Q (o :: rest) a w := by
  refine wpList_append_src hgd s x t hop he base v 0 [] hs hown _ ys.length (ys.flatMap enc) hx (src_rds hc hrd) (flat_len hc ys) (flat_one h1 ys) (by unfold maxLen; omega) ?_ hbase ?_
  · have : (0 + ys.length) * bytes ≤ 2000000 * 1000 := Nat.mul_le_mul (by omega) hb
    omega
  intro v' w' h2 h3 h4 h5
  have h2' : w'.ownsRow base e c v' ys.length (ys.flatMap enc) := by simpa using h2
  obtain ⟨p', c', rfl, h1, h6⟩ := ownG_of h2'
  exact h p' c' w' h1 h6 h3
theorem wpListIn_copyG {F : Fence} {nn : Nat} {w : World} {ops : Array Oper} {rest : List Oper} {o : Oper} {a : Act} {Q : Exit → Act → World → Prop} (hgd : o.guard = none) (s x : Operand) (t : TypeId)
    (hop : o.op = .call { callee := .builtin .append, args := #[s, x], argTypes := #[t, t] }) {z : Value} {bytes : Nat} (he : ElemIs P t e z c bytes) (hb : bytes ≤ 1000) (hc : ∀ y, (enc y).length = c) (h1 : ∀ y, ∀ u ∈ enc y, u.oneCell' = true)
    (base : Nat) (v : Value) (hs : a.eval s = v) (hown : w.ownsRow base e c v 0 []) (p : Option Addr) (cap : Nat) (ys : List α) (B : Nat) (hx : a.eval x = .slice p ys.length cap) (hrd : RdS B w p cap c enc ys) (hn : ys.length < 1000000) (hbase : base ≤ w.heap.size)
    (h : ∀ p' cap' w', OwnG e c enc w' p' cap' ys → (∀ b, inP p' cap' b → base ≤ b) → w.grownBy w' v.ownBlock → wpListIn F nn P ops Q rest (a.put o.dst (.slice p' ys.length cap')) w') : wpListIn F nn P ops Q (o :: rest) a w := by
  refine wpListIn_append_src hgd s x t hop he base v 0 [] hs hown _ ys.length (ys.flatMap enc) hx (src_rds hc hrd) (flat_len hc ys) (flat_one h1 ys) (by unfold maxLen; omega) ?_ hbase ?_
  · have : (0 + ys.length) * bytes ≤ 2000000 * 1000 := Nat.mul_le_mul (by omega) hb
    omega
  intro v' w' h2 h3 h4 h5
  have h2' : w'.ownsRow base e c v' ys.length (ys.flatMap enc) := by simpa using h2
  obtain ⟨p', c', rfl, h1, h6⟩ := ownG_of h2'
  exact h p' c' w' h1 h6 h3
theorem RdS.kpsG {B : Nat} {w w' : World} {p : Option Addr} {cap : Nat} {ys : List α} {T : Nat → Prop} (h : RdS B w p cap c enc ys) (hB : B ≤ w.heap.size) (hb : Kps T w w') (hT : ∀ b, inP p cap b → T b) : RdS B w' p cap c enc ys :=
  h.keep fun b hi => hb.block b (hT b hi) (Nat.lt_of_lt_of_le (h.inlt hi) hB)
end
end Go.Proofs.Ytenmogokbelahaa
