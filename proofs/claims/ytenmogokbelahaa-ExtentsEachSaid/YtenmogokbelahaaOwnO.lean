/- Plain helpers: a slice of the call's own at any place of its block (what s[1:] leaves): append onto it, its tail; elements of many cells. -/
import Derived.Test.YtenmogokbelahaaApp
import Derived.Test.YtenmogokbelahaaOpen
namespace Go.Proofs.Ytenmogokbelahaa
open Go Go.RowKit

/-- The slice value (p, n, cap) owns a row that holds xs, from some place of its block to the block's end. -/
structure OwnO (w : World) (e : TypeId) (size : Nat) (p : Option Addr) (cap n : Nat) (xs : List Value) : Prop where
  len : xs.length = n * size
  le : n ≤ cap
  max : cap ≤ maxLen
  row : cap = 0 ∨ ∃ g o cur, p = some ⟨g, o, none⟩ ∧ w.heap[g]? = some (.cells cur e (0, 0)) ∧ cur.size = o + cap * size ∧ (cur.toList.drop o).take (n * size) = xs

theorem OwnO.nil (w : World) (e : TypeId) (size : Nat) (p : Option Addr) : OwnO w e size p 0 0 [] := ⟨by simp, Nat.le_refl _, Nat.zero_le _, .inl rfl⟩
theorem OwnO.of_owns {w : World} {base : Nat} {e : TypeId} {size : Nat} {p : Option Addr} {cap n : Nat} {xs : List Value} (h : w.ownsRow base e size (.slice p n cap) n xs) : OwnO w e size p cap n xs := by
  rcases h.2 with ⟨hv, h0⟩ | ⟨g, c, cur, hv, _, hg, hn, hm, hs, ht⟩
  · cases hv
    exact ⟨h.1, Nat.le_refl _, Nat.zero_le _, .inl rfl⟩
  · cases hv
    exact ⟨h.1, hn, hm, .inr ⟨g, 0, cur, rfl, hg, by omega, by simpa using ht⟩⟩
theorem OwnO.keep {w w' : World} {e : TypeId} {size : Nat} {p : Option Addr} {cap n : Nat} {xs : List Value} (h : OwnO w e size p cap n xs) (hb : ∀ b, inP p cap b → w'.heap[b]? = w.heap[b]?) : OwnO w' e size p cap n xs := by
  refine ⟨h.len, h.le, h.max, ?_⟩
  rcases h.row with h0 | ⟨g, o, cur, rfl, hg, r⟩
  · exact .inl h0
  · by_cases h0 : cap = 0
    · exact .inl h0
    · exact .inr ⟨g, o, cur, rfl, (hb g ⟨_, rfl, rfl, by omega⟩).trans hg, r⟩
theorem OwnO.lt {w : World} {e : TypeId} {size : Nat} {p : Option Addr} {cap n : Nat} {xs : List Value} (h : OwnO w e size p cap n xs) {b : Nat} (hb : inP p cap b) : b < w.heap.size := by
  obtain ⟨a, rfl, rfl, h0⟩ := hb
  rcases h.row with h1 | ⟨g, o, cur, hp, hg, _⟩
  · omega
  · cases hp
    exact (Array.getElem?_eq_some_iff.1 hg).1
theorem OwnO.below {w w' : World} {e : TypeId} {size : Nat} {p : Option Addr} {cap n : Nat} {xs : List Value} (h : OwnO w e size p cap n xs) (hb : Below w.heap.size w w') : OwnO w' e size p cap n xs :=
  h.keep fun b hi => hb.block b (h.lt hi)
theorem OwnO.cellAt {w : World} {e : TypeId} {size : Nat} {g o cap n : Nat} {xs : List Value} (h : OwnO w e size (some ⟨g, o, none⟩) cap n xs) (j : Nat) (hj : j < n * size) : w.cell? ⟨g, o + j, none⟩ = xs[j]? := by
  have hn : 0 < n := by
    rcases Nat.eq_zero_or_pos n with h0 | h0
    · subst h0; simp at hj
    · exact h0
  rcases h.row with h1 | ⟨g', o', cur, hp, hg, hs, ht⟩
  · have := h.le; omega
  · cases hp
    rw [← ht, List.getElem?_take, if_pos hj, List.getElem?_drop]
    simp [World.cell?, hg]
/-- s[1:]. -/
theorem OwnO.tail0 {w : World} {e : TypeId} {size : Nat} {p : Option Addr} {n : Nat} {xs : List Value} (h : OwnO w e size p 1 (n + 1) xs) : n = 0 ∧ OwnO w e size p 0 n (xs.drop size) := by
  have := h.le
  have h0 : n = 0 := by omega
  subst h0
  refine ⟨rfl, ?_⟩
  have hx : xs.drop size = [] := List.drop_eq_nil_of_le (by have := h.len; omega)
  rw [hx]
  exact OwnO.nil _ _ _ _
theorem OwnO.tail1 {w : World} {e : TypeId} {size : Nat} {g o cap n : Nat} {xs : List Value} (h : OwnO w e size (some ⟨g, o, none⟩) cap (n + 1) xs) : OwnO w e size (some ⟨g, o + size, none⟩) (cap - 1) n (xs.drop size) := by
  have hle := h.le
  have hm := h.max
  refine ⟨?_, by omega, by omega, ?_⟩
  · rw [List.length_drop, h.len, Nat.add_mul, Nat.one_mul, Nat.add_sub_cancel]
  · rcases h.row with h1 | ⟨g', o', cur, hp, hg, hs, ht⟩
    · omega
    · cases hp
      refine .inr ⟨g, o + size, cur, rfl, hg, ?_, ?_⟩
      · rw [hs, Nat.sub_mul, Nat.one_mul]
        have : 1 * size ≤ cap * size := Nat.mul_le_mul_right _ (by omega)
        omega
      · rw [← ht, Nat.add_mul, Nat.one_mul, List.drop_take, List.drop_drop, Nat.add_sub_cancel]

section
variable {P : Program}
theorem run_append_room_off (w : World) (t ty e : TypeId) (i : TypeInfo) (ht : P.underlying t = some (.slice e)) (hi : P.info? e = some i)
    (g o sLen sCap : Nat) (cur : Array Value) (hg : w.heap[g]? = some (.cells cur e (0, 0)))
    (a : Addr) (m c : Nat) (news : List Value) (hl : news.length = m * i.size) (hnews : ∀ j u, news[j]? = some u → w.cell? (a.add j) = some u) (h1 : ∀ u ∈ news, u.oneCell' = true)
    (hroom : sLen + m ≤ sCap) (hfit : o + sLen * i.size + news.length ≤ cur.size) :
    (Builtin.append_ #[t, t] ty #[.slice (some ⟨g, o, none⟩) sLen sCap, .slice (some a) m c]).run P w =
      .ok (.slice (some ⟨g, o, none⟩) (sLen + m) sCap) (w.setRow g (cur.toList.take (o + sLen * i.size) ++ news ++ cur.toList.drop (o + sLen * i.size + news.length)).toArray) := by
  have hf := run_firstCells_some (P := P) w i.size m a m c news hl hnews
  have hst := run_storeCells_at P g (o + sLen * i.size) e news 0 cur w hg (by simpa using hfit) h1
  simp only [Nat.add_zero] at hst
  simp [Builtin.append_, run_underlying ht, sizeOf, typeInfo, hi, Builtin.lenOf, hroom, hf, Addr.add_lit, hst]

theorem run_append_ownO (w : World) {t ty e : TypeId} {z : Value} {size bytes : Nat} (he : ElemIs P t e z size bytes) {p : Option Addr} {cap n : Nat} {xs : List Value} (hown : OwnO w e size p cap n xs)
    (ad : Addr) (m c : Nat) (news : List Value) (hl : news.length = m * size) (hnews : ∀ j u, news[j]? = some u → w.cell? (ad.add j) = some u) (h1 : ∀ u ∈ news, u.oneCell' = true) (hm0 : 0 < m) (h63 : n + m ≤ maxLen) (hby : (n + m) * bytes ≤ 140737488355328) :
    ∃ p' cap' w', (Builtin.append_ #[t, t] ty #[.slice p n cap, .slice (some ad) m c]).run P w = .ok (.slice p' (n + m) cap') w' ∧ OwnO w' e size p' cap' (n + m) (xs ++ news) ∧ Frn (inP p cap) w w' ∧ (∀ b, inP p' cap' b → inP p cap b ∨ (w.heap.size ≤ b ∧ b < w'.heap.size)) := by
  obtain ⟨i, hi, hz0, hz1, hz2⟩ := info_parts he.info
  have hlen : (xs ++ news).length = (n + m) * size := by rw [List.length_append, hown.len, hl, Nat.add_mul]
  have h63' : n + m ≤ 9223372036854775807 := by simpa only [maxLen] using h63
  have grown : ∀ (old : Nat) , ∃ p' cap', Value.slice (some ⟨w.heap.size, 0, none⟩) (n + m) (grownCap w (n + m) old e) = .slice p' (n + m) cap' ∧
      OwnO (w.drew.alloc (.cells (xs.toArray ++ news.toArray ++ Builtin.zeroCells z.cells (grownCap w (n + m) old e - (n + m))) e)) e size p' cap' (n + m) (xs ++ news) ∧
      Frn (inP p cap) w (w.drew.alloc (.cells (xs.toArray ++ news.toArray ++ Builtin.zeroCells z.cells (grownCap w (n + m) old e - (n + m))) e)) ∧
      (∀ b, inP p' cap' b → inP p cap b ∨ (w.heap.size ≤ b ∧ b < (w.drew.alloc (.cells (xs.toArray ++ news.toArray ++ Builtin.zeroCells z.cells (grownCap w (n + m) old e - (n + m))) e)).heap.size)) := by
    intro old
    have hge := grownCap_ge w (n + m) old e
    have hcm : grownCap w (n + m) old e ≤ maxLen := grownCap_le_maxLen w (n + m) old e h63
    refine ⟨_, _, rfl, ⟨hlen, hge, hcm, .inr ⟨w.heap.size, 0, _, rfl, World.alloc_heap_new w.drew _, ?_, ?_⟩⟩, ((Frn.refl _ w).drew).allocR _, ?_⟩
    · simp only [Array.size_append, List.size_toArray, size_zeroCells, he.zero, hown.len, hl, ← Nat.add_mul, Nat.zero_add]
      congr 1
      omega
    · simp only [Array.toList_append, List.append_assoc, List.drop_zero]
      rw [← List.append_assoc, ← hlen]
      exact List.take_left
    · rintro b ⟨a, ha, rfl, _⟩
      cases ha
      exact .inr ⟨Nat.le_refl _, by simp⟩
  by_cases hroom : n + m ≤ cap
  · rcases hown.row with h0 | ⟨g, o, cur, rfl, hg, hs, ht⟩
    · omega
    · have hfit : o + n * i.size + news.length ≤ cur.size := by
        rw [hs, hl, hz1, Nat.add_assoc, ← Nat.add_mul]
        exact Nat.add_le_add_left (Nat.mul_le_mul_right _ hroom) _
      have hr := run_append_room_off (P := P) w t ty e i he.under hi g o n cap cur hg ad m c news (by rw [hz1]; exact hl) hnews h1 hroom hfit
      rw [hz1] at hr hfit
      refine ⟨_, _, _, hr, ⟨hlen, hroom, hown.max, .inr ⟨g, o, _, rfl, setRow_heap w g cur _ e _ hg, ?_, ?_⟩⟩, ⟨rfl, rfl, rfl, by simp, fun k _ hk => setRow_other w g k _ (fun e => hk ⟨_, rfl, e.symm, by omega⟩)⟩, fun b hb => .inl hb⟩
      · simp only [List.size_toArray, List.length_append, List.length_take, List.length_drop, Array.length_toList]
        omega
      · have hd : (cur.toList.take (o + n * size) ++ news ++ cur.toList.drop (o + n * size + news.length)).drop o = xs ++ news ++ cur.toList.drop (o + n * size + news.length) := by
          rw [List.append_assoc, List.drop_append_of_le_length (by rw [List.length_take, Array.length_toList]; omega), List.drop_take, Nat.add_sub_cancel_left, ht, List.append_assoc]
        rw [hd, ← hlen]
        exact List.take_left
  · have hbytes := growslice_fits (need := n + m) (old := cap) (bytes := bytes) (by omega) hby
    obtain ⟨p', cap', hv, h2, h3, h4⟩ := grown cap
    cases hp : p with
    | none =>
      have hc0 : cap = 0 := by
        rcases hown.row with h0 | ⟨_, _, _, h, _⟩
        · exact h0
        · rw [hp] at h; cases h
      have hn0 : n = 0 := by have := hown.le; omega
      have hx : xs = [] := List.eq_nil_of_length_eq_zero (by rw [hown.len, hn0]; simp)
      subst hc0; subst hn0; subst hx
      have hb := hby
      simp only [Nat.zero_add] at hb
      have hr := run_append_nil (P := P) w t ty e i z he.under hi hz0 ad m c news (by rw [hz1]; exact hl) hnews hm0 (by omega) (by rw [hz2]; omega)
      simp only [Nat.zero_add, List.nil_append, Array.empty_append] at h2 h3 h4 hv ⊢
      refine ⟨p', cap', _, ?_, h2, by rw [← hp]; exact h3, by rw [← hp]; exact h4⟩
      rw [hr, hv]
    | some a =>
      have holds : ∀ j u, xs[j]? = some u → w.cell? (a.add j) = some u := by
        intro j u hj
        have hjl := (List.getElem?_eq_some_iff.1 hj).1
        rcases hown.row with h0 | ⟨g, o, cur, h, hg, _, ht⟩
        · have hle := hown.le
          have := hown.len
          have hn0 : n = 0 := by omega
          rw [hn0] at this
          simp at this
          subst this
          simp at hjl
        · rw [hp] at h
          cases h
          rw [Addr.add_lit]
          have hown' := hown
          rw [hp] at hown'
          rw [hown'.cellAt j (by rw [← hown.len]; exact hjl), hj]
      have hr := run_append_grow (P := P) w t ty e i z he.under hi hz0 a n cap xs (by rw [hz1]; exact hown.len) holds ad m c news (by rw [hz1]; exact hl) hnews (by omega) (by omega) (by rw [hz2]; exact hbytes)
      refine ⟨p', cap', _, ?_, h2, by rw [← hp]; exact h3, by rw [← hp]; exact h4⟩
      rw [hr, hv]

theorem wp_append_ownO {w : World} {o : Oper} {a : Act} {K : Act → World → Prop} {Q : Exit → Act → World → Prop} (s x : Operand) (t : TypeId)
    (hop : o.op = .call { callee := .builtin .append, args := #[s, x], argTypes := #[t, t] }) {e : TypeId} {z : Value} {size bytes : Nat} (he : ElemIs P t e z size bytes)
    (p : Option Addr) (cap n : Nat) (xs : List Value) (hs : a.eval s = .slice p n cap) (hown : OwnO w e size p cap n xs)
    (ad : Addr) (m c : Nat) (news : List Value) (hx : a.eval x = .slice (some ad) m c) (hl : news.length = m * size) (hnews : ∀ j u, news[j]? = some u → w.cell? (ad.add j) = some u) (h1 : ∀ u ∈ news, u.oneCell' = true) (hm0 : 0 < m) (h63 : n + m ≤ maxLen) (hby : (n + m) * bytes ≤ 140737488355328)
    (h : ∀ p' cap' w', OwnO w' e size p' cap' (n + m) (xs ++ news) → Frn (inP p cap) w w' → (∀ b, inP p' cap' b → inP p cap b ∨ (w.heap.size ≤ b ∧ b < w'.heap.size)) → K (a.put o.dst (.slice p' (n + m) cap')) w') : o.wp P a w K Q := by
  obtain ⟨p', cap', w', hr, h2, h3, h4⟩ := run_append_ownO (P := P) w (ty := o.type) he hown ad m c news hl hnews h1 hm0 h63 hby
  unfold Oper.wp execOp
  simp only [hop, resolve, invoke, builtin, Sem.run_bind, Sem.run_pure, Result.andThen_ok, List.map_toArray, List.map_cons, List.map_nil, hs, hx, hr]
  exact h p' cap' w' h2 h3 h4

/-- At a plain walk. -/
theorem wpList_append_ownO {w : World} {ops : Array Oper} {rest : List Oper} {o : Oper} {a : Act} {Q : Exit → Act → World → Prop} (hgd : o.guard = none) (s x : Operand) (t : TypeId)
    (hop : o.op = .call { callee := .builtin .append, args := #[s, x], argTypes := #[t, t] }) {e : TypeId} {z : Value} {size bytes : Nat} (he : ElemIs P t e z size bytes)
    (p : Option Addr) (cap n : Nat) (xs : List Value) (hs : a.eval s = .slice p n cap) (hown : OwnO w e size p cap n xs)
    (ad : Addr) (m c : Nat) (news : List Value) (hx : a.eval x = .slice (some ad) m c) (hl : news.length = m * size) (hnews : ∀ j u, news[j]? = some u → w.cell? (ad.add j) = some u) (h1 : ∀ u ∈ news, u.oneCell' = true) (hm0 : 0 < m) (h63 : n + m ≤ maxLen) (hby : (n + m) * bytes ≤ 140737488355328)
    (h : ∀ p' cap' w', OwnO w' e size p' cap' (n + m) (xs ++ news) → Frn (inP p cap) w w' → (∀ b, inP p' cap' b → inP p cap b ∨ (w.heap.size ≤ b ∧ b < w'.heap.size)) → wpList P ops Q rest (a.put o.dst (.slice p' (n + m) cap')) w') : wpList P ops Q (o :: rest) a w :=
  wpList_plain hgd fun _ hK => wp_append_ownO s x t hop he p cap n xs hs hown ad m c news hx hl hnews h1 hm0 h63 hby fun p' cap' w' h2 h3 h4 => hK _ _ (h p' cap' w' h2 h3 h4)
/-- Within a region that draws its order. -/
theorem step_append_ownO {w : World} {ops : Array Oper} {o : Oper} {a : Act} {K : Act → World → Prop} {Q : Exit → Act → World → Prop} {E : Prop} (hw : Region.wanted o (yielded ops a.tmps) = true) (s x : Operand) (t : TypeId)
    (hop : o.op = .call { callee := .builtin .append, args := #[s, x], argTypes := #[t, t] }) {e : TypeId} {z : Value} {size bytes : Nat} (he : ElemIs P t e z size bytes)
    (p : Option Addr) (cap n : Nat) (xs : List Value) (hs : a.eval s = .slice p n cap) (hown : OwnO w e size p cap n xs)
    (ad : Addr) (m c : Nat) (news : List Value) (hx : a.eval x = .slice (some ad) m c) (hl : news.length = m * size) (hnews : ∀ j u, news[j]? = some u → w.cell? (ad.add j) = some u) (h1 : ∀ u ∈ news, u.oneCell' = true) (hm0 : 0 < m) (h63 : n + m ≤ maxLen) (hby : (n + m) * bytes ≤ 140737488355328)
    (h : ∀ p' cap' w', OwnO w' e size p' cap' (n + m) (xs ++ news) → Frn (inP p cap) w w' → (∀ b, inP p' cap' b → inP p cap b ∨ (w.heap.size ≤ b ∧ b < w'.heap.size)) → K (a.put o.dst (.slice p' (n + m) cap')) w') : if Region.wanted o (yielded ops a.tmps) = true then Oper.wp P o a w K Q else E := by
  rw [if_pos hw]
  exact wp_append_ownO s x t hop he p cap n xs hs hown ad m c news hx hl hnews h1 hm0 h63 hby h
/-- At a walk within a fence. -/
theorem wpIn_append_ownO {F : Fence} {nn : Nat} {w : World} {o : Oper} {a : Act} {K : Act → World → Prop} {Q : Exit → Act → World → Prop} (s x : Operand) (t : TypeId)
    (hop : o.op = .call { callee := .builtin .append, args := #[s, x], argTypes := #[t, t] }) {e : TypeId} {z : Value} {size bytes : Nat} (he : ElemIs P t e z size bytes)
    (p : Option Addr) (cap n : Nat) (xs : List Value) (hs : a.eval s = .slice p n cap) (hown : OwnO w e size p cap n xs)
    (ad : Addr) (m c : Nat) (news : List Value) (hx : a.eval x = .slice (some ad) m c) (hl : news.length = m * size) (hnews : ∀ j u, news[j]? = some u → w.cell? (ad.add j) = some u) (h1 : ∀ u ∈ news, u.oneCell' = true) (hm0 : 0 < m) (h63 : n + m ≤ maxLen) (hby : (n + m) * bytes ≤ 140737488355328)
    (h : ∀ p' cap' w', OwnO w' e size p' cap' (n + m) (xs ++ news) → Frn (inP p cap) w w' → (∀ b, inP p' cap' b → inP p cap b ∨ (w.heap.size ≤ b ∧ b < w'.heap.size)) → K (a.put o.dst (.slice p' (n + m) cap')) w') : o.wpIn F nn P a w K Q := by
  obtain ⟨p', cap', w', hr, h2, h3, h4⟩ := run_append_ownO (P := P) w (ty := o.type) he hown ad m c news hl hnews h1 hm0 h63 hby
  unfold Oper.wpIn
  refine ⟨?_, ?_⟩
  · simp [Oper.about, hop, resolve, Target.leads, Sem.run_pure]
  · rw [Oper.semAt_plain F _ _ (by rw [hop]; intro c hc'; cases hc')]
    simp [execOp, hop, resolve, invoke, builtin, hs, hx, hr, Result.andThen]
    exact h p' cap' w' h2 h3 h4
theorem wpListIn_append_ownO {F : Fence} {nn : Nat} {w : World} {ops : Array Oper} {rest : List Oper} {o : Oper} {a : Act} {Q : Exit → Act → World → Prop} (hgd : o.guard = none) (s x : Operand) (t : TypeId)
    (hop : o.op = .call { callee := .builtin .append, args := #[s, x], argTypes := #[t, t] }) {e : TypeId} {z : Value} {size bytes : Nat} (he : ElemIs P t e z size bytes)
    (p : Option Addr) (cap n : Nat) (xs : List Value) (hs : a.eval s = .slice p n cap) (hown : OwnO w e size p cap n xs)
    (ad : Addr) (m c : Nat) (news : List Value) (hx : a.eval x = .slice (some ad) m c) (hl : news.length = m * size) (hnews : ∀ j u, news[j]? = some u → w.cell? (ad.add j) = some u) (h1 : ∀ u ∈ news, u.oneCell' = true) (hm0 : 0 < m) (h63 : n + m ≤ maxLen) (hby : (n + m) * bytes ≤ 140737488355328)
    (h : ∀ p' cap' w', OwnO w' e size p' cap' (n + m) (xs ++ news) → Frn (inP p cap) w w' → (∀ b, inP p' cap' b → inP p cap b ∨ (w.heap.size ≤ b ∧ b < w'.heap.size)) → wpListIn F nn P ops Q rest (a.put o.dst (.slice p' (n + m) cap')) w') : wpListIn F nn P ops Q (o :: rest) a w :=
  wpListIn_plain hgd fun _ hK => wpIn_append_ownO s x t hop he p cap n xs hs hown ad m c news hx hl hnews h1 hm0 h63 hby fun p' cap' w' h2 h3 h4 => hK _ _ (h p' cap' w' h2 h3 h4)
end

/-- Lists of elements of many cells, cell by cell. -/
theorem flat_get {α : Type} {c : Nat} {enc : α → List Value} (he : ∀ y, (enc y).length = c) (ys : List α) (i : Nat) (hi : i < ys.length) (j : Nat) (hj : j < c) : (ys.flatMap enc)[i * c + j]? = (enc ys[i])[j]? := by
  induction ys generalizing i with
  | nil => simp at hi
  | cons y ys ih =>
    cases i with
    | zero => simp [List.getElem?_append, he, hj]
    | succ i =>
      have := ih i (by simpa using hi)
      rw [List.flatMap_cons, List.getElem?_append_right (by rw [he, Nat.add_mul]; omega), he, show (i + 1) * c + j - c = i * c + j by rw [Nat.add_mul]; omega, this]
      simp
theorem flat_len {α : Type} {c : Nat} {enc : α → List Value} (he : ∀ y, (enc y).length = c) (ys : List α) : (ys.flatMap enc).length = ys.length * c := by
  induction ys with
  | nil => simp
  | cons y ys ih => rw [List.flatMap_cons, List.length_append, he, ih, List.length_cons, Nat.add_mul, Nat.one_mul, Nat.add_comm]
theorem flat_drop {α : Type} {c : Nat} {enc : α → List Value} (he : ∀ y, (enc y).length = c) (y : α) (ys : List α) : ((y :: ys).flatMap enc).drop c = ys.flatMap enc := by
  rw [List.flatMap_cons, ← he y, List.drop_left]
theorem src_rds {α : Type} {B : Nat} {w : World} {p : Option Addr} {cap c : Nat} {enc : α → List Value} (he : ∀ y, (enc y).length = c) {ys : List α} (h : RdS B w p cap c enc ys) : Src w (.slice p ys.length cap) ys.length (ys.flatMap enc) := by
  obtain ⟨h1, _, h3⟩ := h
  rcases h3 with rfl | ⟨b, off, rfl, hb, hc⟩
  · have : ys = [] := List.eq_nil_of_length_eq_zero (by omega)
    subst this
    cases p with
    | none => exact .inl ⟨rfl, rfl, rfl⟩
    | some x => exact .inr ⟨x, 0, rfl, fun j u hj => by simp at hj⟩
  · refine .inr ⟨_, cap, rfl, fun j u hj => ?_⟩
    rw [Addr.add_lit]
    have hjl := (List.getElem?_eq_some_iff.1 hj).1
    rw [flat_len he] at hjl
    have hc0 : 0 < c := by
      rcases Nat.eq_zero_or_pos c with h0 | h0
      · subst h0; simp at hjl
      · exact h0
    have hi : j / c < ys.length := Nat.div_lt_of_lt_mul (by rw [Nat.mul_comm]; exact hjl)
    have hjc : j / c * c + j % c = j := by rw [Nat.mul_comm]; exact Nat.div_add_mod j c
    rw [← hjc, flat_get he ys _ hi _ (Nat.mod_lt _ hc0)] at hj
    rw [← hjc]
    exact hc _ hi _ _ hj
theorem OwnO.rds {α : Type} {w : World} {e : TypeId} {p : Option Addr} {cap c : Nat} {enc : α → List Value} (he : ∀ y, (enc y).length = c) {ys : List α} (h : OwnO w e c p cap ys.length (ys.flatMap enc)) : RdS w.heap.size w p cap c enc ys := by
  refine ⟨h.le, h.max, ?_⟩
  by_cases h0 : cap = 0
  · exact .inl h0
  · have h' := h
    rcases h.row with h1 | ⟨g, o, cur, rfl, hg, r⟩
    · exact absurd h1 h0
    · refine .inr ⟨g, o, rfl, (Array.getElem?_eq_some_iff.1 hg).1, fun i hi j v hv => ?_⟩
      have hjc : j < c := by have := (List.getElem?_eq_some_iff.1 hv).1; rwa [he] at this
      rw [h'.cellAt (i * c + j) (by
        have : (i + 1) * c ≤ ys.length * c := Nat.mul_le_mul_right _ hi
        rw [Nat.add_mul] at this; omega), flat_get he ys i hi j hjc, hv]
theorem RdS.keep {α : Type} {B : Nat} {w w' : World} {p : Option Addr} {cap c : Nat} {enc : α → List Value} {ys : List α} (h : RdS B w p cap c enc ys) (hb : ∀ b, inP p cap b → w'.heap[b]? = w.heap[b]?) : RdS B w' p cap c enc ys := by
  obtain ⟨h1, h2, h3⟩ := h
  refine ⟨h1, h2, ?_⟩
  by_cases h0 : cap = 0
  · exact .inl h0
  · rcases h3 with h3 | ⟨b, off, rfl, hl, hc⟩
    · exact absurd h3 h0
    · exact .inr ⟨b, off, rfl, hl, fun i hi j v hv => (World.cell?_of_block (a := ⟨b, off + (i * c + j), none⟩) (hb b ⟨_, rfl, rfl, by omega⟩)).trans (hc i hi j v hv)⟩
theorem RdS.inlt {α : Type} {B : Nat} {w : World} {p : Option Addr} {cap c : Nat} {enc : α → List Value} {ys : List α} (h : RdS B w p cap c enc ys) {b : Nat} (hb : inP p cap b) : b < B := by
  obtain ⟨a, rfl, rfl, h0⟩ := hb
  rcases h.2.2 with h1 | ⟨b, off, hp, hl, _⟩
  · omega
  · cases hp; exact hl
theorem OwnO.set {w : World} {e : TypeId} {size : Nat} {g o cap n : Nat} {xs : List Value} (h : OwnO w e size (some ⟨g, o, none⟩) cap n xs) (k : Nat) (u : Value) : OwnO (w.setCell ⟨g, o + k, none⟩ u) e size (some ⟨g, o, none⟩) cap n (xs.set k u) := by
  refine ⟨by rw [List.length_set]; exact h.len, h.le, h.max, ?_⟩
  rcases h.row with h0 | ⟨g', o', cur, hp, hg, hs, ht⟩
  · exact .inl h0
  · cases hp
    refine .inr ⟨g, o, cur.setIfInBounds (o + k) u, rfl, heap_setCell_same w g (o + k) cur e u hg, by simpa using hs, ?_⟩
    rw [Array.toList_setIfInBounds, ← ht, List.drop_set, if_neg (by omega), Nat.add_sub_cancel_left, List.take_set]
theorem OwnO.free {w : World} {e : TypeId} {size : Nat} {g o cap n : Nat} {xs : List Value} (h : OwnO w e size (some ⟨g, o, none⟩) cap n xs) (hc : 0 < cap) (k : Nat) : w.frozen? ⟨g, k, none⟩ = false := by
  rcases h.row with h0 | ⟨g', o', cur, hp, hg, hs, ht⟩
  · omega
  · cases hp
    simp [World.frozen?, hg]
/-- clear(s[i:]). -/
theorem OwnO.clear {P : Program} {w : World} {e t : TypeId} {size : Nat} {z : Value} {bytes : Nat} (he : ElemIs P t e z size bytes) (h1 : ∀ u ∈ z.cells.toList, u.oneCell' = true) {g o cap n : Nat} {xs : List Value} (h : OwnO w e size (some ⟨g, o, none⟩) cap n xs) (i : Nat) (hi : i < n) :
    ∃ w', (∀ ty c, (Builtin.clear_ #[t] ty #[.slice (some ⟨g, o + i * size, none⟩) (n - i) c]).run P w = .ok (.tuple #[]) w') ∧ OwnO w' e size (some ⟨g, o, none⟩) cap i (xs.take (i * size)) ∧ Frn (fun b => b = g) w w' := by
  obtain ⟨inf, hin, hz0, hz1, hz2⟩ := info_parts he.info
  have hle := h.le
  rcases h.row with h0 | ⟨g', o', cur, hp, hg, hs, ht⟩
  · omega
  · cases hp
    have hzl : (Builtin.zeroCells z.cells (n - i)).toList.length = (n - i) * size := by rw [Array.length_toList, size_zeroCells, he.zero]
    have hadd : i * size + (n - i) * size = n * size := by rw [← Nat.add_mul]; congr 1; omega
    have hcap : n * size ≤ cap * size := Nat.mul_le_mul_right _ hle
    have hst := run_storeCells_at P g (o + i * size) e (Builtin.zeroCells z.cells (n - i)).toList 0 cur w hg (by rw [hzl]; omega) (by
      intro v hv
      simp only [Builtin.zeroCells, Array.toList_map, List.mem_map] at hv
      obtain ⟨j, _, rfl⟩ := hv
      have hpos : 0 < z.cells.size := by rw [he.zero]; exact he.pos
      rw [getElem!_pos z.cells (j % z.cells.size) (Nat.mod_lt _ hpos)]
      exact h1 _ (by simp))
    simp only [Nat.add_zero] at hst
    refine ⟨_, fun ty c => ?_, ⟨by rw [List.length_take, h.len]; exact Nat.min_eq_left (Nat.mul_le_mul_right _ (by omega)), by omega, h.max, .inr ⟨g, o, _, rfl, setRow_heap w g cur (cur.toList.take (o + i * size) ++ (Builtin.zeroCells z.cells (n - i)).toList ++ cur.toList.drop (o + i * size + (Builtin.zeroCells z.cells (n - i)).toList.length)).toArray e _ hg, ?_, ?_⟩⟩, ⟨rfl, rfl, rfl, by simp, fun k _ hk => setRow_other w g k _ hk⟩⟩
    · obtain ⟨m, hm⟩ : ∃ m, n - i = m + 1 := ⟨n - i - 1, by omega⟩
      rw [hm] at hst ⊢
      have hzv : ∀ w', (zeroValue e).run P w' = .ok z w' := fun w' => by simp [zeroValue, typeInfo, hin, hz0]
      simp [Builtin.clear_, run_underlying he.under, hzv, hst]
    · simp only [List.size_toArray, List.length_append, List.length_take, List.length_drop, Array.length_toList, hzl]
      rw [hzl] at hst
      omega
    · rw [← ht, List.take_take, Nat.min_eq_left (by omega)]
      simp only
      rw [List.append_assoc, List.drop_append_of_le_length (by rw [List.length_take, Array.length_toList]; omega), List.drop_take, Nat.add_sub_cancel_left, List.take_append_of_le_length (by rw [List.length_take, List.length_drop, Array.length_toList]; omega), List.take_take, Nat.min_self]
theorem wpList_clearO {P : Program} {w w' : World} {ops : Array Oper} {rest : List Oper} {o : Oper} {a : Act} {Q : Exit → Act → World → Prop} (hgd : o.guard = none) (s : Operand) (t : TypeId)
    (hop : o.op = .call { callee := .builtin .clear, args := #[s], argTypes := #[t] }) (v : Value) (hs : a.eval s = v) (hrun : (Builtin.clear_ #[t] o.type #[v]).run P w = .ok (.tuple #[]) w')
    (h : wpList P ops Q rest (a.put o.dst (.tuple #[])) w') : wpList P ops Q (o :: rest) a w := by
  refine wpList_plain hgd fun K hK => ?_
  unfold Oper.wp execOp
  simp only [hop, resolve, invoke, builtin, Sem.run_bind, Sem.run_pure, Result.andThen_ok, List.map_toArray, List.map_cons, List.map_nil, hs, hrun]
  exact hK _ _ h
end Go.Proofs.Ytenmogokbelahaa
