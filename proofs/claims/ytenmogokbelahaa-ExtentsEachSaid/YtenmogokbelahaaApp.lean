/- Plain helpers of this claim's texts: append to a slice of the call's own, in three places of a walk. -/
import Derived.Test.YtenmogokbelahaaMem
import Derived.Laws.AppendOwnNone
import Derived.OwnWalkIn
namespace Go.Proofs.Ytenmogokbelahaa
open Go Go.RowKit

/-- What a slice's element type is: its zero value, how many cells, how many bytes. -/
structure ElemIs (P : Program) (t e : TypeId) (z : Value) (size bytes : Nat) : Prop where
  under : P.underlying t = some (.slice e)
  info : (P.info? e).map (fun i => (i.zero, i.size, i.bytes)) = some (some z, size, bytes)
  zero : z.cells.size = size
  pos : 0 < size

/-- The source of an append: a slice value that reads as the cells 'news' (m elements), or nil. -/
def Src (w : World) (v : Value) (m : Nat) (news : List Value) : Prop :=
  (v = .slice none 0 0 ∧ m = 0 ∧ news = []) ∨ ∃ ad c, v = .slice (some ad) m c ∧ ∀ j u, news[j]? = some u → w.cell? (ad.add j) = some u

theorem src_rdl {α : Type} {B : Nat} {w : World} {p : Option Addr} {cap : Nat} {enc : α → Value} {ys : List α} (h : RdL B w p cap enc ys) : Src w (.slice p ys.length cap) ys.length (ys.map enc) := by
  obtain ⟨h1, _, h3⟩ := h
  rcases h3 with rfl | ⟨b, off, rfl, hb, hc⟩
  · have : ys = [] := List.eq_nil_of_length_eq_zero (by omega)
    subst this
    cases p with
    | none => exact .inl ⟨rfl, rfl, rfl⟩
    | some x => exact .inr ⟨x, 0, rfl, fun j u hj => by simp at hj⟩
  · refine .inr ⟨_, cap, rfl, fun j u hj => ?_⟩
    rw [Addr.add_lit]
    rw [List.getElem?_map] at hj
    cases hy : ys[j]? with
    | none => rw [hy] at hj; cases hj
    | some y =>
      rw [hy] at hj
      simp only [Option.map_some, Option.some.injEq] at hj
      obtain ⟨hlt, rfl⟩ := List.getElem?_eq_some_iff.1 hy
      rw [← hj]; exact hc j hlt
theorem src_one {w : World} {g : Nat} {c : Nat} {u : Value} (h : w.cell? ⟨g, 0, none⟩ = some u) : Src w (.slice (some ⟨g, 0, none⟩) 1 c) 1 [u] := by
  refine .inr ⟨_, c, rfl, fun j v hj => ?_⟩
  cases j with
  | zero => simp at hj; subst hj; simpa [Addr.add] using h
  | succ j => simp at hj
theorem src_block {w : World} {g : Nat} {c m : Nat} {cs : List Value} {t : TypeId} {fr : Nat × Nat} (h : w.heap[g]? = some (.cells cs.toArray t fr)) : Src w (.slice (some ⟨g, 0, none⟩) m c) m cs := by
  refine .inr ⟨_, c, rfl, fun j v hj => ?_⟩
  rw [Addr.add_lit]
  simp [World.cell?, h, hj]

section
variable {P : Program}
/-- The block of a slice behind an append: as it was, or a new one. -/
def Blk (w : World) (v v' : Value) : Prop := v'.ownBlock = v.ownBlock ∨ ∃ g, v'.ownBlock = some g ∧ w.heap.size ≤ g

theorem run_append_src (w : World) {t ty e : TypeId} {z : Value} {size bytes : Nat} (he : ElemIs P t e z size bytes) (base : Nat) {v : Value} {n : Nat} {xs : List Value} (hown : w.ownsRow base e size v n xs)
    {sv : Value} {m : Nat} {news : List Value} (hsrc : Src w sv m news) (hl : news.length = m * size) (h1 : ∀ u ∈ news, u.oneCell' = true) (h63 : n + m ≤ maxLen) (hby : (n + m) * bytes ≤ 140737488355328) (hbase : base ≤ w.heap.size) :
    ∃ v' w', (Builtin.append_ #[t, t] ty #[v, sv]).run P w = .ok v' w' ∧ w'.ownsRow base e size v' (n + m) (xs ++ news) ∧ w.grownBy w' v.ownBlock ∧ (v' = .slice none 0 0 ↔ v = .slice none 0 0 ∧ m = 0) ∧ Blk w v v' := by
  obtain ⟨i, hi, hz0, hz1, hz2⟩ := info_parts he.info
  rcases hsrc with ⟨rfl, rfl, rfl⟩ | ⟨ad, c, rfl, hnews⟩
  · have hrun := run_append_owned_none (P := P) (w := w) base t ty e i size he.under hi v n xs hown
    exact ⟨v, w, hrun, by simpa using hown, ⟨rfl, rfl, rfl, Nat.le_refl _, fun _ _ _ => rfl⟩, by simp, .inl rfl⟩
  · obtain ⟨v', w', hr, h2, h3, h4⟩ := run_append_own (P := P) w base t ty e i z size bytes he.under hi hz0 hz1 hz2 he.zero he.pos v n xs hown ad m c news hl hnews h1 h63 hby hbase
    refine ⟨v', w', hr, h2, h3, h4, ?_⟩
    have h63' : n + m ≤ 9223372036854775807 := by simpa only [maxLen] using h63
    rcases hown.2 with ⟨rfl, rfl⟩ | ⟨g, cap, cur, rfl, hbg, hg, hnc, hcm, hcs, htake⟩
    · by_cases hm : m = 0
      · exact .inl (by rw [h4.2 ⟨rfl, hm⟩])
      · have hr2 := run_append_nil (P := P) w t ty e i z he.under hi hz0 ad m c news (by rw [hz1]; exact hl) hnews (by omega) (by omega) (by rw [hz2]; have hb := hby; simp only [Nat.zero_add] at hb; omega)
        rw [hr2] at hr
        cases hr
        exact .inr ⟨_, rfl, Nat.le_refl _⟩
    · by_cases hroom : n + m ≤ cap
      · have hfit : n * i.size + news.length ≤ cur.size := by rw [hl, hcs, hz1, ← Nat.add_mul]; exact Nat.mul_le_mul_right _ hroom
        have hr2 := run_append_room (P := P) w t ty e i he.under hi g n cap cur hg ad m c news (by rw [hz1]; exact hl) hnews h1 hroom hfit
        rw [hr2] at hr
        cases hr
        exact .inl rfl
      · have holds : ∀ j u, xs[j]? = some u → w.cell? ((⟨g, 0, none⟩ : Addr).add j) = some u := hown.cells (g := g) rfl
        have hr2 := run_append_grow (P := P) w t ty e i z he.under hi hz0 ⟨g, 0, none⟩ n cap xs (by rw [hz1]; exact hown.1) holds ad m c news (by rw [hz1]; exact hl) hnews (by omega) (by omega) (growslice_fits (by omega) (by rw [hz2]; exact hby))
        rw [hr2] at hr
        cases hr
        exact .inr ⟨_, rfl, Nat.le_refl _⟩

theorem wp_append_src {w : World} {o : Oper} {a : Act} {K : Act → World → Prop} {Q : Exit → Act → World → Prop} (s x : Operand) (t : TypeId)
    (hop : o.op = .call { callee := .builtin .append, args := #[s, x], argTypes := #[t, t] }) {e : TypeId} {z : Value} {size bytes : Nat} (he : ElemIs P t e z size bytes)
    (base : Nat) (v : Value) (n : Nat) (xs : List Value) (hs : a.eval s = v) (hown : w.ownsRow base e size v n xs)
    (sv : Value) (m : Nat) (news : List Value) (hx : a.eval x = sv) (hsrc : Src w sv m news) (hl : news.length = m * size) (h1 : ∀ u ∈ news, u.oneCell' = true) (h63 : n + m ≤ maxLen) (hby : (n + m) * bytes ≤ 140737488355328) (hbase : base ≤ w.heap.size)
    (h : ∀ v' w', w'.ownsRow base e size v' (n + m) (xs ++ news) → w.grownBy w' v.ownBlock → (v' = .slice none 0 0 ↔ v = .slice none 0 0 ∧ m = 0) → Blk w v v' → K (a.put o.dst v') w') : o.wp P a w K Q := by
  obtain ⟨v', w', hr, h2, h3, h4, h5⟩ := run_append_src (P := P) w (ty := o.type) he base hown hsrc hl h1 h63 hby hbase
  unfold Oper.wp execOp
  simp only [hop, resolve, invoke, builtin, Sem.run_bind, Sem.run_pure, Result.andThen_ok, List.map_toArray, List.map_cons, List.map_nil, hs, hx, hr]
  exact h v' w' h2 h3 h4 h5

/-- At a plain walk. -/
theorem wpList_append_src {w : World} {ops : Array Oper} {rest : List Oper} {o : Oper} {a : Act} {Q : Exit → Act → World → Prop} (hgd : o.guard = none) (s x : Operand) (t : TypeId)
    (hop : o.op = .call { callee := .builtin .append, args := #[s, x], argTypes := #[t, t] }) {e : TypeId} {z : Value} {size bytes : Nat} (he : ElemIs P t e z size bytes)
    (base : Nat) (v : Value) (n : Nat) (xs : List Value) (hs : a.eval s = v) (hown : w.ownsRow base e size v n xs)
    (sv : Value) (m : Nat) (news : List Value) (hx : a.eval x = sv) (hsrc : Src w sv m news) (hl : news.length = m * size) (h1 : ∀ u ∈ news, u.oneCell' = true) (h63 : n + m ≤ maxLen) (hby : (n + m) * bytes ≤ 140737488355328) (hbase : base ≤ w.heap.size)
    (h : ∀ v' w', w'.ownsRow base e size v' (n + m) (xs ++ news) → w.grownBy w' v.ownBlock → (v' = .slice none 0 0 ↔ v = .slice none 0 0 ∧ m = 0) → Blk w v v' → wpList P ops Q rest (a.put o.dst v') w') : wpList P ops Q (o :: rest) a w :=
  wpList_plain hgd fun _ hK => wp_append_src s x t hop he base v n xs hs hown sv m news hx hsrc hl h1 h63 hby hbase fun v' w' h2 h3 h4 h5 => hK _ _ (h v' w' h2 h3 h4 h5)

/-- Within a region that draws its order. -/
theorem step_append_src {w : World} {ops : Array Oper} {o : Oper} {a : Act} {K : Act → World → Prop} {Q : Exit → Act → World → Prop} {E : Prop} (hgd : o.guard = none) (s x : Operand) (t : TypeId)
    (hop : o.op = .call { callee := .builtin .append, args := #[s, x], argTypes := #[t, t] }) {e : TypeId} {z : Value} {size bytes : Nat} (he : ElemIs P t e z size bytes)
    (base : Nat) (v : Value) (n : Nat) (xs : List Value) (hs : a.eval s = v) (hown : w.ownsRow base e size v n xs)
    (sv : Value) (m : Nat) (news : List Value) (hx : a.eval x = sv) (hsrc : Src w sv m news) (hl : news.length = m * size) (h1 : ∀ u ∈ news, u.oneCell' = true) (h63 : n + m ≤ maxLen) (hby : (n + m) * bytes ≤ 140737488355328) (hbase : base ≤ w.heap.size)
    (h : ∀ v' w', w'.ownsRow base e size v' (n + m) (xs ++ news) → w.grownBy w' v.ownBlock → (v' = .slice none 0 0 ↔ v = .slice none 0 0 ∧ m = 0) → Blk w v v' → K (a.put o.dst v') w') :
    if Region.wanted o (yielded ops a.tmps) = true then Oper.wp P o a w K Q else E := by
  have hw : Region.wanted o (yielded ops a.tmps) = true := by simp [Region.wanted, hgd]
  rw [if_pos hw]
  exact wp_append_src s x t hop he base v n xs hs hown sv m news hx hsrc hl h1 h63 hby hbase h

theorem wpIn_append_src {F : Fence} {nn : Nat} {w : World} {o : Oper} {a : Act} {K : Act → World → Prop} {Q : Exit → Act → World → Prop} (s x : Operand) (t : TypeId)
    (hop : o.op = .call { callee := .builtin .append, args := #[s, x], argTypes := #[t, t] }) {e : TypeId} {z : Value} {size bytes : Nat} (he : ElemIs P t e z size bytes)
    (base : Nat) (v : Value) (n : Nat) (xs : List Value) (hs : a.eval s = v) (hown : w.ownsRow base e size v n xs)
    (sv : Value) (m : Nat) (news : List Value) (hx : a.eval x = sv) (hsrc : Src w sv m news) (hl : news.length = m * size) (h1 : ∀ u ∈ news, u.oneCell' = true) (h63 : n + m ≤ maxLen) (hby : (n + m) * bytes ≤ 140737488355328) (hbase : base ≤ w.heap.size)
    (h : ∀ v' w', w'.ownsRow base e size v' (n + m) (xs ++ news) → w.grownBy w' v.ownBlock → (v' = .slice none 0 0 ↔ v = .slice none 0 0 ∧ m = 0) → Blk w v v' → K (a.put o.dst v') w') : o.wpIn F nn P a w K Q := by
  obtain ⟨v', w', hr, h2, h3, h4, h5⟩ := run_append_src (P := P) w (ty := o.type) he base hown hsrc hl h1 h63 hby hbase
  unfold Oper.wpIn
  refine ⟨?_, ?_⟩
  · simp [Oper.about, hop, resolve, Target.leads, Sem.run_pure]
  · rw [Oper.semAt_plain F _ _ (by rw [hop]; intro c hc'; cases hc')]
    simp [execOp, hop, resolve, invoke, builtin, hs, hx, hr, Result.andThen]
    exact h v' w' h2 h3 h4 h5

/-- At a walk within a fence. -/
theorem wpListIn_append_src {F : Fence} {nn : Nat} {w : World} {ops : Array Oper} {rest : List Oper} {o : Oper} {a : Act} {Q : Exit → Act → World → Prop} (hgd : o.guard = none) (s x : Operand) (t : TypeId)
    (hop : o.op = .call { callee := .builtin .append, args := #[s, x], argTypes := #[t, t] }) {e : TypeId} {z : Value} {size bytes : Nat} (he : ElemIs P t e z size bytes)
    (base : Nat) (v : Value) (n : Nat) (xs : List Value) (hs : a.eval s = v) (hown : w.ownsRow base e size v n xs)
    (sv : Value) (m : Nat) (news : List Value) (hx : a.eval x = sv) (hsrc : Src w sv m news) (hl : news.length = m * size) (h1 : ∀ u ∈ news, u.oneCell' = true) (h63 : n + m ≤ maxLen) (hby : (n + m) * bytes ≤ 140737488355328) (hbase : base ≤ w.heap.size)
    (h : ∀ v' w', w'.ownsRow base e size v' (n + m) (xs ++ news) → w.grownBy w' v.ownBlock → (v' = .slice none 0 0 ↔ v = .slice none 0 0 ∧ m = 0) → Blk w v v' → wpListIn F nn P ops Q rest (a.put o.dst v') w') : wpListIn F nn P ops Q (o :: rest) a w :=
  wpListIn_plain hgd fun _ hK => wpIn_append_src s x t hop he base v n xs hs hown sv m news hx hsrc hl h1 h63 hby hbase fun v' w' h2 h3 h4 h5 => hK _ _ (h v' w' h2 h3 h4 h5)
end

/-- The call hands back a slice of its own that reads as ys; below it nothing has turned. -/
def RetOwn {α : Type} (E : TypeId) (enc : α → Value) (ys : List α) (w : World) (e : Ending) (w' : World) : Prop :=
  ∃ v, e = .returned v ∧ w'.ownsRow w.heap.size E 1 v ys.length (ys.map enc) ∧ Below w.heap.size w w'

theorem own_wide {w : World} {base base' : Nat} {e : TypeId} {size : Nat} {v : Value} {n : Nat} {xs : List Value} (h : w.ownsRow base e size v n xs) (hb : base' ≤ base) : w.ownsRow base' e size v n xs :=
  ⟨h.1, h.2.imp id (fun ⟨g, cap, cur, hv, hg, r⟩ => ⟨g, cap, cur, hv, Nat.le_trans hb hg, r⟩)⟩

theorem own_below {w w' : World} {base : Nat} {e : TypeId} {size : Nat} {v : Value} {n : Nat} {xs : List Value} (h : w.ownsRow base e size v n xs) (hb : Below w.heap.size w w') : w'.ownsRow base e size v n xs := by
  refine ⟨h.1, h.2.imp id ?_⟩
  rintro ⟨g, cap, cur, hv, hg, hh, r⟩
  exact ⟨g, cap, cur, hv, hg, (hb.block g (Array.getElem?_eq_some_iff.1 hh).1).trans hh, r⟩
theorem own_empty (w : World) (base : Nat) (e : TypeId) (size : Nat) (hb : base ≤ w.heap.size) : (w.alloc (.cells #[] e)).ownsRow base e size (.slice (some ⟨w.heap.size, 0, none⟩) 0 0) 0 [] :=
  World.ownsRow_made w #[] 0 hb (by unfold maxLen; omega) (by simp)
theorem below_grown {n : Nat} {a w w' : World} {v : Value} (h : Below n a w) (hg : w.grownBy w' v.ownBlock) (hn : n ≤ w.heap.size) (hv : ∀ b, v.ownBlock = some b → n ≤ b) : Below n a w' := h.grown hg hn hv

/-- Append of one element, put into a new block first. -/
theorem wpList_append1 {P : Program}  {w : World} {ops : Array Oper} {rest : List Oper} {o : Oper} {a : Act} {Q : Exit → Act → World → Prop} (hgd : o.guard = none) (s x : Operand) (t : TypeId)
    (hop : o.op = .call { callee := .builtin .append, args := #[s, x], argTypes := #[t, t] }) {e : TypeId} {z : Value} {bytes : Nat} (he : ElemIs P t e z 1 bytes)
    {α : Type} (enc : α → Value) (base : Nat) (ys : List α) (y : α) (v : Value) (hs : a.eval s = v) (g c : Nat) (hx : a.eval x = .slice (some ⟨g, 0, none⟩) 1 c) (hown : w.ownsRow base e 1 v ys.length (ys.map enc)) (te : TypeId) (hbox : Box w g te (enc y))
    (h1 : (enc y).oneCell' = true) (hn : ys.length < 1000000000) (hby : bytes ≤ 1000) (hbase : base ≤ w.heap.size)
    (h : ∀ v' w', w'.ownsRow base e 1 v' (ys ++ [y]).length ((ys ++ [y]).map enc) → w.grownBy w' v.ownBlock → v' ≠ .slice none 0 0 → Blk w v v' → wpList P ops Q rest (a.put o.dst v') w') : wpList P ops Q (o :: rest) a w := by
  refine wpList_append_src hgd s x t hop he base v ys.length (ys.map enc) hs hown _ 1 [enc y] hx (src_one hbox.cell) rfl (by simpa using h1) (by unfold maxLen; omega) ?_ hbase ?_
  · have : (ys.length + 1) * bytes ≤ 1000000000 * 1000 := Nat.mul_le_mul (by omega) hby
    omega
  · intro v' w' h2 h3 h4 h5
    exact h v' w' (by simpa using h2) h3 (fun e => by have := (h4.1 e).2; omega) h5

theorem wpListIn_append1 {P : Program} {F : Fence} {nn : Nat} {w : World} {ops : Array Oper} {rest : List Oper} {o : Oper} {a : Act} {Q : Exit → Act → World → Prop} (hgd : o.guard = none) (s x : Operand) (t : TypeId)
    (hop : o.op = .call { callee := .builtin .append, args := #[s, x], argTypes := #[t, t] }) {e : TypeId} {z : Value} {bytes : Nat} (he : ElemIs P t e z 1 bytes)
    {α : Type} (enc : α → Value) (base : Nat) (ys : List α) (y : α) (v : Value) (hs : a.eval s = v) (g c : Nat) (hx : a.eval x = .slice (some ⟨g, 0, none⟩) 1 c) (hown : w.ownsRow base e 1 v ys.length (ys.map enc)) (te : TypeId) (hbox : Box w g te (enc y))
    (h1 : (enc y).oneCell' = true) (hn : ys.length < 1000000000) (hby : bytes ≤ 1000) (hbase : base ≤ w.heap.size)
    (h : ∀ v' w', w'.ownsRow base e 1 v' (ys ++ [y]).length ((ys ++ [y]).map enc) → w.grownBy w' v.ownBlock → v' ≠ .slice none 0 0 → Blk w v v' → wpListIn F nn P ops Q rest (a.put o.dst v') w') : wpListIn F nn P ops Q (o :: rest) a w := by
  refine wpListIn_append_src hgd s x t hop he base v ys.length (ys.map enc) hs hown _ 1 [enc y] hx (src_one hbox.cell) rfl (by simpa using h1) (by unfold maxLen; omega) ?_ hbase ?_
  · have : (ys.length + 1) * bytes ≤ 1000000000 * 1000 := Nat.mul_le_mul (by omega) hby
    omega
  · intro v' w' h2 h3 h4 h5
    exact h v' w' (by simpa using h2) h3 (fun e => by have := (h4.1 e).2; omega) h5

theorem step_append1 {P : Program} {K : Act → World → Prop} {E : Prop} {w : World} {ops : Array Oper} {o : Oper} {a : Act} {Q : Exit → Act → World → Prop} (hgd : o.guard = none) (s x : Operand) (t : TypeId)
    (hop : o.op = .call { callee := .builtin .append, args := #[s, x], argTypes := #[t, t] }) {e : TypeId} {z : Value} {bytes : Nat} (he : ElemIs P t e z 1 bytes)
    {α : Type} (enc : α → Value) (base : Nat) (ys : List α) (y : α) (v : Value) (hs : a.eval s = v) (g c : Nat) (hx : a.eval x = .slice (some ⟨g, 0, none⟩) 1 c) (hown : w.ownsRow base e 1 v ys.length (ys.map enc)) (te : TypeId) (hbox : Box w g te (enc y))
    (h1 : (enc y).oneCell' = true) (hn : ys.length < 1000000000) (hby : bytes ≤ 1000) (hbase : base ≤ w.heap.size)
    (h : ∀ v' w', w'.ownsRow base e 1 v' (ys ++ [y]).length ((ys ++ [y]).map enc) → w.grownBy w' v.ownBlock → v' ≠ .slice none 0 0 → Blk w v v' → K (a.put o.dst v') w') : if Region.wanted o (yielded ops a.tmps) = true then Oper.wp P o a w K Q else E := by
  refine step_append_src hgd s x t hop he base v ys.length (ys.map enc) hs hown _ 1 [enc y] hx (src_one hbox.cell) rfl (by simpa using h1) (by unfold maxLen; omega) ?_ hbase ?_
  · have : (ys.length + 1) * bytes ≤ 1000000000 * 1000 := Nat.mul_le_mul (by omega) hby
    omega
  · intro v' w' h2 h3 h4 h5
    exact h v' w' (by simpa using h2) h3 (fun e => by have := (h4.1 e).2; omega) h5

theorem below_drewN {n : Nat} {a w : World} (h : Below n a w) (k : Nat) : Below n a (w.drewN k) := ⟨h.os, h.tape, h.output, h.size, h.block⟩

/-- What a law knows of the world at a place of its walk: below n it is as w was. -/
def At (n : Nat) (w w' : World) : Prop := Below n w w' ∧ n ≤ w'.heap.size
theorem At.start (w : World) : At w.heap.size w w := ⟨Below.refl _ _, Nat.le_refl _⟩
theorem At.below {n : Nat} {w a b : World} (h : At n w a) (hb : Below a.heap.size a b) : At n w b := ⟨h.1.trans (hb.mono h.2), Nat.le_trans h.2 hb.size⟩
theorem At.alloc {n : Nat} {w a : World} (h : At n w a) (o : Obj) : At n w (a.alloc o) := h.below ((Below.refl _ a).alloc (Nat.le_refl _) o)
theorem At.grown {n : Nat} {w a b : World} {v : Value} (h : At n w a) (hg : a.grownBy b v.ownBlock) (hv : ∀ g, v.ownBlock = some g → n ≤ g) : At n w b := ⟨h.1.grown hg h.2 hv, Nat.le_trans h.2 hg.size⟩
theorem At.drewN {n : Nat} {w a : World} (h : At n w a) (k : Nat) : At n w (a.drewN k) := ⟨below_drewN h.1 k, h.2⟩
theorem At.drew {n : Nat} {w a : World} (h : At n w a) : At n w a.drew := ⟨h.1.drew, h.2⟩
theorem At.rdl {α : Type} {n : Nat} {w a : World} {p : Option Addr} {cap : Nat} {enc : α → Value} {ys : List α} (h : At n w a) (hr : RdL n w p cap enc ys) : RdL a.heap.size a p cap enc ys := (hr.below h.1).wide h.2
theorem RdL.on {α : Type} {w a : World} {p : Option Addr} {cap : Nat} {enc : α → Value} {ys : List α} (hr : RdL w.heap.size w p cap enc ys) (hb : Below w.heap.size w a) : RdL a.heap.size a p cap enc ys := (hr.below hb).wide hb.size

/-- Append of all that a slice reads as, onto what the call owns; onto an empty slice of its own. -/
theorem wpList_appendR {P : Program}  {w : World} {ops : Array Oper} {rest : List Oper} {o : Oper} {a : Act} {Q : Exit → Act → World → Prop} (hgd : o.guard = none) (s x : Operand) (t : TypeId)
    (hop : o.op = .call { callee := .builtin .append, args := #[s, x], argTypes := #[t, t] }) {e : TypeId} {z : Value} {bytes : Nat} (he : ElemIs P t e z 1 bytes)
    {α : Type} (enc : α → Value) (base : Nat) (zs ys : List α) (v : Value) (hs : a.eval s = v) (p : Option Addr) (cap B : Nat) (hx : a.eval x = .slice p ys.length cap) (hown : w.ownsRow base e 1 v zs.length (zs.map enc)) (hrd : RdL B w p cap enc ys)
    (h1 : ∀ y, (enc y).oneCell' = true) (hn : zs.length + ys.length < 1000000000) (hby : bytes ≤ 1000) (hbase : base ≤ w.heap.size)
    (h : ∀ v' w', w'.ownsRow base e 1 v' (zs ++ ys).length ((zs ++ ys).map enc) → w.grownBy w' v.ownBlock → Blk w v v' → wpList P ops Q rest (a.put o.dst v') w') : wpList P ops Q (o :: rest) a w := by
  refine wpList_append_src hgd s x t hop he base v zs.length (zs.map enc) hs hown _ ys.length (ys.map enc) hx (src_rdl hrd) (by simp) (by simpa using fun y _ => h1 y) (by unfold maxLen; omega) ?_ hbase ?_
  · have : (zs.length + ys.length) * bytes ≤ 1000000000 * 1000 := Nat.mul_le_mul (by omega) hby
    omega
  · intro v' w' h2 h3 _ h5
    exact h v' w' (by simpa using h2) h3 h5

theorem wpList_append0 {P : Program}  {w : World} {ops : Array Oper} {rest : List Oper} {o : Oper} {a : Act} {Q : Exit → Act → World → Prop} (hgd : o.guard = none) (s x : Operand) (t : TypeId)
    (hop : o.op = .call { callee := .builtin .append, args := #[s, x], argTypes := #[t, t] }) {e : TypeId} {z : Value} {bytes : Nat} (he : ElemIs P t e z 1 bytes)
    {α : Type} (enc : α → Value) (base : Nat) (ys : List α) (v : Value) (hs : a.eval s = v) (p : Option Addr) (cap B : Nat) (hx : a.eval x = .slice p ys.length cap) (hown : w.ownsRow base e 1 v 0 []) (hrd : RdL B w p cap enc ys)
    (h1 : ∀ y, (enc y).oneCell' = true) (hn : ys.length < 1000000000) (hby : bytes ≤ 1000) (hbase : base ≤ w.heap.size)
    (h : ∀ v' w', w'.ownsRow base e 1 v' ys.length (ys.map enc) → w.grownBy w' v.ownBlock → Blk w v v' → wpList P ops Q rest (a.put o.dst v') w') : wpList P ops Q (o :: rest) a w :=
  wpList_appendR hgd s x t hop he enc base [] ys v hs p cap B hx hown hrd h1 (by simpa using hn) hby hbase h

theorem wpListIn_appendR {P : Program} {F : Fence} {nn : Nat} {w : World} {ops : Array Oper} {rest : List Oper} {o : Oper} {a : Act} {Q : Exit → Act → World → Prop} (hgd : o.guard = none) (s x : Operand) (t : TypeId)
    (hop : o.op = .call { callee := .builtin .append, args := #[s, x], argTypes := #[t, t] }) {e : TypeId} {z : Value} {bytes : Nat} (he : ElemIs P t e z 1 bytes)
    {α : Type} (enc : α → Value) (base : Nat) (zs ys : List α) (v : Value) (hs : a.eval s = v) (p : Option Addr) (cap B : Nat) (hx : a.eval x = .slice p ys.length cap) (hown : w.ownsRow base e 1 v zs.length (zs.map enc)) (hrd : RdL B w p cap enc ys)
    (h1 : ∀ y, (enc y).oneCell' = true) (hn : zs.length + ys.length < 1000000000) (hby : bytes ≤ 1000) (hbase : base ≤ w.heap.size)
    (h : ∀ v' w', w'.ownsRow base e 1 v' (zs ++ ys).length ((zs ++ ys).map enc) → w.grownBy w' v.ownBlock → Blk w v v' → wpListIn F nn P ops Q rest (a.put o.dst v') w') : wpListIn F nn P ops Q (o :: rest) a w := by
  refine wpListIn_append_src hgd s x t hop he base v zs.length (zs.map enc) hs hown _ ys.length (ys.map enc) hx (src_rdl hrd) (by simp) (by simpa using fun y _ => h1 y) (by unfold maxLen; omega) ?_ hbase ?_
  · have : (zs.length + ys.length) * bytes ≤ 1000000000 * 1000 := Nat.mul_le_mul (by omega) hby
    omega
  · intro v' w' h2 h3 _ h5
    exact h v' w' (by simpa using h2) h3 h5

theorem wpListIn_append0 {P : Program} {F : Fence} {nn : Nat} {w : World} {ops : Array Oper} {rest : List Oper} {o : Oper} {a : Act} {Q : Exit → Act → World → Prop} (hgd : o.guard = none) (s x : Operand) (t : TypeId)
    (hop : o.op = .call { callee := .builtin .append, args := #[s, x], argTypes := #[t, t] }) {e : TypeId} {z : Value} {bytes : Nat} (he : ElemIs P t e z 1 bytes)
    {α : Type} (enc : α → Value) (base : Nat) (ys : List α) (v : Value) (hs : a.eval s = v) (p : Option Addr) (cap B : Nat) (hx : a.eval x = .slice p ys.length cap) (hown : w.ownsRow base e 1 v 0 []) (hrd : RdL B w p cap enc ys)
    (h1 : ∀ y, (enc y).oneCell' = true) (hn : ys.length < 1000000000) (hby : bytes ≤ 1000) (hbase : base ≤ w.heap.size)
    (h : ∀ v' w', w'.ownsRow base e 1 v' ys.length (ys.map enc) → w.grownBy w' v.ownBlock → Blk w v v' → wpListIn F nn P ops Q rest (a.put o.dst v') w') : wpListIn F nn P ops Q (o :: rest) a w :=
  wpListIn_appendR hgd s x t hop he enc base [] ys v hs p cap B hx hown hrd h1 (by simpa using hn) hby hbase h

theorem step_appendR {P : Program} {K : Act → World → Prop} {E : Prop} {w : World} {ops : Array Oper} {o : Oper} {a : Act} {Q : Exit → Act → World → Prop} (hgd : o.guard = none) (s x : Operand) (t : TypeId)
    (hop : o.op = .call { callee := .builtin .append, args := #[s, x], argTypes := #[t, t] }) {e : TypeId} {z : Value} {bytes : Nat} (he : ElemIs P t e z 1 bytes)
    {α : Type} (enc : α → Value) (base : Nat) (zs ys : List α) (v : Value) (hs : a.eval s = v) (p : Option Addr) (cap B : Nat) (hx : a.eval x = .slice p ys.length cap) (hown : w.ownsRow base e 1 v zs.length (zs.map enc)) (hrd : RdL B w p cap enc ys)
    (h1 : ∀ y, (enc y).oneCell' = true) (hn : zs.length + ys.length < 1000000000) (hby : bytes ≤ 1000) (hbase : base ≤ w.heap.size)
    (h : ∀ v' w', w'.ownsRow base e 1 v' (zs ++ ys).length ((zs ++ ys).map enc) → w.grownBy w' v.ownBlock → Blk w v v' → K (a.put o.dst v') w') : if Region.wanted o (yielded ops a.tmps) = true then Oper.wp P o a w K Q else E := by
  refine step_append_src hgd s x t hop he base v zs.length (zs.map enc) hs hown _ ys.length (ys.map enc) hx (src_rdl hrd) (by simp) (by simpa using fun y _ => h1 y) (by unfold maxLen; omega) ?_ hbase ?_
  · have : (zs.length + ys.length) * bytes ≤ 1000000000 * 1000 := Nat.mul_le_mul (by omega) hby
    omega
  · intro v' w' h2 h3 _ h5
    exact h v' w' (by simpa using h2) h3 h5

theorem step_append0 {P : Program} {K : Act → World → Prop} {E : Prop} {w : World} {ops : Array Oper} {o : Oper} {a : Act} {Q : Exit → Act → World → Prop} (hgd : o.guard = none) (s x : Operand) (t : TypeId)
    (hop : o.op = .call { callee := .builtin .append, args := #[s, x], argTypes := #[t, t] }) {e : TypeId} {z : Value} {bytes : Nat} (he : ElemIs P t e z 1 bytes)
    {α : Type} (enc : α → Value) (base : Nat) (ys : List α) (v : Value) (hs : a.eval s = v) (p : Option Addr) (cap B : Nat) (hx : a.eval x = .slice p ys.length cap) (hown : w.ownsRow base e 1 v 0 []) (hrd : RdL B w p cap enc ys)
    (h1 : ∀ y, (enc y).oneCell' = true) (hn : ys.length < 1000000000) (hby : bytes ≤ 1000) (hbase : base ≤ w.heap.size)
    (h : ∀ v' w', w'.ownsRow base e 1 v' ys.length (ys.map enc) → w.grownBy w' v.ownBlock → Blk w v v' → K (a.put o.dst v') w') : if Region.wanted o (yielded ops a.tmps) = true then Oper.wp P o a w K Q else E :=
  step_appendR hgd s x t hop he enc base [] ys v hs p cap B hx hown hrd h1 (by simpa using hn) hby hbase h

theorem own_pos {w : World} {base : Nat} {e : TypeId} {size : Nat} {v : Value} {n : Nat} {xs : List Value} (h : w.ownsRow base e size v n xs) (hn : 0 < n) : ∃ g cap, v = .slice (some ⟨g, 0, none⟩) n cap ∧ base ≤ g ∧ n ≤ cap ∧ cap ≤ 9223372036854775807 := by
  rcases h.2 with ⟨_, h0⟩ | ⟨g, cap, _, hv, hb, _, hc, hm, _⟩
  · omega
  · exact ⟨g, cap, hv, hb, hc, hm⟩
theorem own_at {α : Type} {w : World} {base g n cap : Nat} {e : TypeId} {enc : α → Value} {ys : List α} (h : w.ownsRow base e 1 (.slice (some ⟨g, 0, none⟩) n cap) n (ys.map enc)) (k : Nat) (hk : k < ys.length) : w.cell? ⟨g, k, none⟩ = some (enc ys[k]) := by
  have h1 := h.1
  rw [h.cellAt k (by simp at h1; omega)]
  simp [hk]
theorem own_set {α : Type} {w : World} {base g n cap : Nat} {e : TypeId} {enc : α → Value} {ys : List α} (h : w.ownsRow base e 1 (.slice (some ⟨g, 0, none⟩) n cap) n (ys.map enc)) (k : Nat) (y : α) :
    (w.setCell ⟨g, k, none⟩ (enc y)).ownsRow base e 1 (.slice (some ⟨g, 0, none⟩) n cap) n ((ys.set k y).map enc) := by
  have := (h.stored k (enc y)).1
  rwa [← List.map_set] at this
theorem At.setCell {n : Nat} {w a : World} (h : At n w a) (p : Addr) (hp : n ≤ p.block) (u : Value) : At n w (a.setCell p u) := ⟨h.1.setCell hp u, by simpa [World.setCell] using h.2⟩

end Go.Proofs.Ytenmogokbelahaa
