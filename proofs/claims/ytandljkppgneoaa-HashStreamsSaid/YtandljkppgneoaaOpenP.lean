/- Plain helpers of this claim's texts: slices of slices of bytes that came in, opened. -/
import Derived.Test.YtandljkppgneoaaOpen
namespace Go.Proofs.Ytandljkppgneoaa
open Go Go.RowKit Go.ChangeShapes Go.WideShapes Go.Deep

/-- A slice's cell, of elements that are known in this world. -/
theorem rows_in {α : Type} {P : Program} {t e : TypeId} {c : Nat} {enc : α → List Value} {R : α → Prop} (ht : P.underlying t = some (.slice e)) (hce : P.cellsOf e = c) (hsize : ∀ y, (enc y).length = c) (hc : 0 < c) {H : Type} {en : TypeId × Value → H} {w : World} {held : Bool}
    (hread : ∀ {fuel : Nat} {cs : List Value} {x : DataW H × List MemPlace}, DataW.trod en P w 0 (fun _ => true) held fuel e cs = some x → ∃ y, cs = enc y ∧ R y)
    {fuel : Nat} {cs : List Value} {x : DataW H × List MemPlace} (h : DataW.trod en P w 0 (fun _ => true) held fuel t cs = some x) :
    ∃ (a : Option Addr) (cap : Nat) (ys : List α), cs = [.slice a ys.length cap] ∧ RdS w.heap.size w a cap c enc ys ∧ ∀ y ∈ ys, R y := by
  rcases DataW.trod_slice ht h with ⟨h0, _⟩ | ⟨x, len, cap, elems, rest, n, _, h0, _, _, hl, hm, hlen, hel, hsp, _⟩
  · exact ⟨none, 0, [], h0, ⟨by simp, by simp [maxLen], .inl rfl⟩, by simp⟩
  · rw [hce] at hel hsp
    obtain ⟨hr1, hr2⟩ := hsp rfl
    have hcs : ∀ i, i < cap → ∃ cs, w.cells? 0 (x.add (i * c)) c = some cs ∧ ∃ y, cs = enc y ∧ R y := by
      intro i hi
      by_cases hil : i < len
      · have := hel i hil
        rw [List.getElem?_eq_getElem (by omega)] at this
        obtain ⟨cs, h1, h2⟩ := Option.bind_eq_some_iff.1 this
        exact ⟨cs, h1, hread h2⟩
      · have := hr2 (i - len) (by omega)
        rw [List.getElem?_eq_getElem (by omega), show len + (i - len) = i by omega] at this
        obtain ⟨cs, h1, h2⟩ := Option.bind_eq_some_iff.1 this
        exact ⟨cs, h1, hread h2⟩
    have hys : ∀ m, m ≤ cap → ∃ ys : List α, ys.length = m ∧ (∀ i (h : i < ys.length), w.cells? 0 (x.add (i * c)) c = some (enc ys[i])) ∧ ∀ y ∈ ys, R y := by
      intro m
      induction m with
      | zero => exact fun _ => ⟨[], rfl, fun i h => by simp at h, by simp⟩
      | succ m ih =>
        intro hm
        obtain ⟨ys, hy1, hy2, hy3⟩ := ih (by omega)
        obtain ⟨cs, h1, y, rfl, hy⟩ := hcs m (by omega)
        refine ⟨ys ++ [y], by simp [hy1], fun i hi => ?_, ?_⟩
        · by_cases hlt : i < ys.length
          · rw [List.getElem_append_left hlt]; exact hy2 i hlt
          · have : i = m := by simp at hi; omega
            subst this
            rw [List.getElem_append_right (by omega)]
            simpa using h1
        · intro z hz
          rcases List.mem_append.1 hz with hz | hz
          · exact hy3 z hz
          · rw [List.mem_singleton.1 hz]; exact hy
    obtain ⟨ys, rfl, hy, hyR⟩ := hys len hl
    refine ⟨some x, cap, ys, h0, ⟨hl, hm, ?_⟩, hyR⟩
    by_cases hz : cap = 0
    · exact .inl hz
    · obtain ⟨cs, h1, y, rfl, _⟩ := hcs 0 (by omega)
      obtain ⟨_, _, hat⟩ := World.cells?_some h1
      have hx := hat 0 hc
      have hs := hsize y
      rw [List.getElem?_eq_getElem (by omega)] at hx
      have hlt := World.block_lt_of_cell? w _ hx
      obtain ⟨b, off, sp⟩ := x
      have hsp : sp = none := by
        cases sp with
        | none => rfl
        | some s =>
          exfalso
          unfold World.cell? Addr.add at hx
          simp at hx
          split at hx <;> simp at hx
      subst hsp
      refine .inr ⟨b, off, rfl, by simpa [Addr.add] using hlt, fun i hi j v hj => ?_⟩
      obtain ⟨_, _, hat⟩ := World.cells?_some (hy i hi)
      have hjc : j < c := by
        have := (List.getElem?_eq_some_iff.1 hj).1
        rw [hsize] at this; exact this
      have := hat j hjc
      rw [hj, Addr.add_lit, Addr.add_lit, Nat.add_assoc] at this
      exact this
/-- A piece: where it lies, its room, its bytes. -/
abbrev Piece := Option Addr × Nat × List (BitVec 8)
def encP (z : Piece) : Value := .slice z.1 z.2.2.length z.2.1
theorem open_pieces {P : Program} {t e u : TypeId} (ht : P.underlying t = some (.slice e)) (he : P.underlying e = some (.slice u)) (hu : P.underlying u = some (.int .u8)) (ce : P.cellsOf e = 1) (cu : P.cellsOf u = 1) {H : Type} {en : TypeId × Value → H} {w : World} {held : Bool} {a : Option Addr} {len cap : Nat} {d : DataW H} {p : List MemPlace}
    (h : DataW.Trod en P w 0 (fun _ => true) held t (.slice a len cap) d p) : ∃ zs : List Piece, len = zs.length ∧ RdL w.heap.size w a cap encP zs ∧ ∀ z ∈ zs, RdL w.heap.size w z.1 z.2.1 vb z.2.2 := by
  obtain ⟨fuel, h⟩ := h
  obtain ⟨a', cap', zs, h0, h1, h2⟩ := rows_in (R := fun z : Piece => RdL w.heap.size w z.1 z.2.1 vb z.2.2) (enc := fun z => [encP z]) ht ce (fun _ => rfl) (by omega) (fun {fuel cs x} hx => by
    obtain ⟨a1, c1, bs, e1, r1, _⟩ := rows_in (R := fun _ => True) (enc := fun y : BitVec 8 => [vb y]) he cu (fun _ => rfl) (by omega) (fun {fuel cs x} hx => by
      obtain ⟨y, hy⟩ := (flat_u8 hu cu).read hx
      exact ⟨y, hy, trivial⟩) hx
    exact ⟨(a1, c1, bs), e1, rdl_of_rds r1⟩) h
  simp [Value.cells] at h0
  obtain ⟨rfl, rfl, rfl⟩ := h0
  exact ⟨zs, rfl, rdl_of_rds h1, h2⟩
end Go.Proofs.Ytandljkppgneoaa
