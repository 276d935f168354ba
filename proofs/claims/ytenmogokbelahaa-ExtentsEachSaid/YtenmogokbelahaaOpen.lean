/- Plain helpers of this claim's texts: arguments of flat types (numbers, bools, structs and arrays of them), and slices of these, opened. -/
import Derived.Test.YtenmogokbelahaaMem
import Derived.Lib.SmallJoins
import Derived.OpenShut
import Derived.ChangeSame
import Derived.ChangeSlices
import Derived.Deep.Slices
import Derived.Deep.Fields
import Derived.ProofKit
namespace Go.Proofs.Ytenmogokbelahaa
open Go Go.RowKit Go.ChangeShapes Go.WideShapes Go.Deep

/-- Whatever reads as a type's value is one of these lists of cells. -/
structure FlatOf {α : Type} (P : Program) (t : TypeId) (c : Nat) (enc : α → List Value) : Prop where
  cells : P.cellsOf t = c
  size : ∀ y, (enc y).length = c
  read : ∀ {H : Type} {en : TypeId × Value → H} {w : World} {base : Nat} {spare : Nat → Bool} {held : Bool} {fuel : Nat} {cs : List Value} {x : DataW H × List MemPlace},
    DataW.trod en P w base spare held fuel t cs = some x → ∃ y, cs = enc y

/-- Numbers of a kind. -/
abbrev IntOf (q : IntKind) := { x : Int // (Lit.int q x).wf = true }
theorem flat_int {P : Program} {t : TypeId} {q : IntKind} (ht : P.underlying t = some (.int q)) (hc : P.cellsOf t = 1) : FlatOf P t 1 (fun y : IntOf q => [.int q y.1]) :=
  ⟨hc, fun _ => rfl, fun h => by
    obtain ⟨n, rfl, _, hw⟩ := DataW.trod_int ht h
    exact ⟨⟨n, hw⟩, rfl⟩⟩
theorem flat_bool {P : Program} {t : TypeId} (ht : P.underlying t = some .bool) (hc : P.cellsOf t = 1) : FlatOf P t 1 (fun y : Bool => [.bool y]) :=
  ⟨hc, fun _ => rfl, fun h => by
    obtain ⟨b, rfl, _⟩ := DataW.trod_bool ht h
    exact ⟨b, rfl⟩⟩
theorem flat_array2 {α : Type} {P : Program} {t e : TypeId} {c : Nat} {enc : α → List Value} (ht : P.underlying t = some (.array 2 e)) (hc : P.cellsOf t = 2 * c) (he : FlatOf P e c enc) :
    FlatOf P t (2 * c) (fun y : α × α => enc y.1 ++ enc y.2) := by
  refine ⟨hc, fun y => by simp [he.size]; omega, fun h => ?_⟩
  obtain ⟨xs, m, _, _, hl, hx, hf⟩ := DataW.trod_array ht h
  have h0 := hf 0 (by omega)
  have h1 := hf 1 (by omega)
  rw [he.cells] at h0 h1
  rw [List.getElem?_eq_getElem (by omega)] at h0 h1
  obtain ⟨y0, e0⟩ := he.read h0
  obtain ⟨y1, e1⟩ := he.read h1
  refine ⟨(y0, y1), ?_⟩
  have := he.size y1
  rw [hc] at hl
  simp only [Nat.zero_mul, List.drop_zero, Nat.one_mul] at e0 e1
  rw [List.take_of_length_le (by simp; omega)] at e1
  simp only
  rw [← e0, ← e1, List.take_append_drop]
theorem flat_struct2 {α β : Type} {P : Program} {t : TypeId} {f0 f1 : Field} {c d : Nat} {en0 : α → List Value} {en1 : β → List Value} (ht : P.underlying t = some (.struct #[f0, f1])) (hc : P.cellsOf t = c + d)
    (h0 : FlatOf P f0.type c en0) (h1 : FlatOf P f1.type d en1) (o0 : f0.offset = 0) (o1 : f1.offset = c) : FlatOf P t (c + d) (fun y : α × β => en0 y.1 ++ en1 y.2) := by
  refine ⟨hc, fun y => by simp [h0.size, h1.size], fun h => ?_⟩
  obtain ⟨xs, m, _, _, hl, hx, hf⟩ := DataW.trod_struct ht h
  have g0 := hf 0 f0 rfl
  have g1 := hf 1 f1 rfl
  have hx' : xs.length = 2 := hx
  rw [h0.cells, o0] at g0
  rw [h1.cells, o1] at g1
  rw [List.getElem?_eq_getElem (by omega)] at g0 g1
  obtain ⟨y0, e0⟩ := h0.read g0
  obtain ⟨y1, e1⟩ := h1.read g1
  refine ⟨(y0, y1), ?_⟩
  rw [hc] at hl
  simp only [List.drop_zero] at e0
  rw [List.take_of_length_le (by simp; omega)] at e1
  simp only
  rw [← e0, ← e1, List.take_append_drop]
theorem flat_struct3 {α β γ : Type} {P : Program} {t : TypeId} {f0 f1 f2 : Field} {c d e : Nat} {en0 : α → List Value} {en1 : β → List Value} {en2 : γ → List Value} (ht : P.underlying t = some (.struct #[f0, f1, f2])) (hc : P.cellsOf t = c + d + e)
    (h0 : FlatOf P f0.type c en0) (h1 : FlatOf P f1.type d en1) (h2 : FlatOf P f2.type e en2) (o0 : f0.offset = 0) (o1 : f1.offset = c) (o2 : f2.offset = c + d) : FlatOf P t (c + d + e) (fun y : α × β × γ => en0 y.1 ++ en1 y.2.1 ++ en2 y.2.2) := by
  refine ⟨hc, fun y => by simp [h0.size, h1.size, h2.size]; omega, fun h => ?_⟩
  obtain ⟨xs, m, _, _, hl, hx, hf⟩ := DataW.trod_struct ht h
  have g0 := hf 0 f0 rfl
  have g1 := hf 1 f1 rfl
  have g2 := hf 2 f2 rfl
  have hx' : xs.length = 3 := hx
  rw [h0.cells, o0] at g0
  rw [h1.cells, o1] at g1
  rw [h2.cells, o2] at g2
  rw [List.getElem?_eq_getElem (by omega)] at g0 g1 g2
  obtain ⟨y0, e0⟩ := h0.read g0
  obtain ⟨y1, e1⟩ := h1.read g1
  obtain ⟨y2, e2⟩ := h2.read g2
  refine ⟨(y0, y1, y2), ?_⟩
  rw [hc] at hl
  simp only [List.drop_zero] at e0
  rw [List.take_of_length_le (by simp; omega)] at e2
  simp only
  rw [← e0, ← e1, ← e2, ← List.take_add, List.take_append_drop]

/-- A flat argument by value. -/
theorem open_flat {α : Type} {P : Program} {t : TypeId} {c : Nat} {enc : α → List Value} (hf : FlatOf P t c enc) {H : Type} {en : TypeId × Value → H} {w : World} {base : Nat} {spare : Nat → Bool} {held : Bool} {cs : Array Value} {d : DataW H} {p : List MemPlace}
    (h : DataW.Trod en P w base spare held t (.agg cs) d p) : ∃ y, cs = (enc y).toArray := by
  obtain ⟨fuel, h⟩ := h
  obtain ⟨y, hy⟩ := hf.read h
  refine ⟨y, ?_⟩
  simp only [Value.cells] at hy
  rw [← hy]
theorem okWide_array {P : Program} {w : World} {r : Reach} {base : Nat} {t : TypeId} {v : Value} {n : Nat} {e : TypeId} (ht : P.underlying t = some (.array n e)) (h : Value.okWide P w r base t v) : ∃ cs, v = .agg cs := by
  simp only [Value.okWide, ht] at h
  obtain ⟨cs, h1, _⟩ := h
  exact ⟨cs, h1⟩

/-- The slice value (p, ys.length, cap) reads, in a block below B, as the list ys, c cells an element. -/
def RdS {α : Type} (B : Nat) (w : World) (p : Option Addr) (cap c : Nat) (enc : α → List Value) (ys : List α) : Prop :=
  ys.length ≤ cap ∧ cap ≤ maxLen ∧ (cap = 0 ∨ ∃ b off, p = some ⟨b, off, none⟩ ∧ b < B ∧ ∀ i (h : i < ys.length) j v, (enc ys[i])[j]? = some v → w.cell? ⟨b, off + (i * c + j), none⟩ = some v)

theorem choose_list {α β : Type} {f : β → α} : ∀ {l : List α}, (∀ x ∈ l, ∃ y, x = f y) → ∃ ys : List β, l = ys.map f
  | [], _ => ⟨[], rfl⟩
  | x :: l, h => by
    obtain ⟨y, rfl⟩ := h x (by simp)
    obtain ⟨ys, rfl⟩ := choose_list (l := l) (fun z hz => h z (by simp [hz]))
    exact ⟨y :: ys, rfl⟩

/-- A slice of flat elements that came in. -/
theorem open_rows {α : Type} {P : Program} {t e : TypeId} {c : Nat} {enc : α → List Value} (ht : P.underlying t = some (.slice e)) (he : FlatOf P e c enc) (hc : 0 < c) {H : Type} {en : TypeId × Value → H} {w : World} {held : Bool} {a : Option Addr} {len cap : Nat} {d : DataW H} {p : List MemPlace}
    (h : DataW.Trod en P w 0 (fun _ => true) held t (.slice a len cap) d p) : ∃ ys : List α, len = ys.length ∧ RdS w.heap.size w a cap c enc ys := by
  obtain ⟨fuel, h⟩ := h
  rcases DataW.trod_slice ht h with ⟨h0, _⟩ | ⟨x, l, k, elems, rest, n, _, h0, _, _, hl, hm, hlen, hel, hsp, _⟩
  · simp [Value.cells] at h0
    obtain ⟨rfl, rfl, rfl⟩ := h0
    exact ⟨[], rfl, by simp, by simp [maxLen], .inl rfl⟩
  · simp [Value.cells] at h0
    obtain ⟨rfl, rfl, rfl⟩ := h0
    rw [he.cells] at hel hsp
    obtain ⟨hr1, hr2⟩ := hsp rfl
    have hcs : ∀ i, i < cap → ∃ cs, w.cells? 0 (x.add (i * c)) c = some cs ∧ ∃ y, cs = enc y := by
      intro i hi
      by_cases hil : i < len
      · have := hel i hil
        rw [List.getElem?_eq_getElem (by omega)] at this
        obtain ⟨cs, h1, h2⟩ := Option.bind_eq_some_iff.1 this
        exact ⟨cs, h1, he.read h2⟩
      · have := hr2 (i - len) (by omega)
        rw [List.getElem?_eq_getElem (by omega), show len + (i - len) = i by omega] at this
        obtain ⟨cs, h1, h2⟩ := Option.bind_eq_some_iff.1 this
        exact ⟨cs, h1, he.read h2⟩
    have hys : ∀ m, m ≤ cap → ∃ ys : List α, ys.length = m ∧ ∀ i (h : i < ys.length), w.cells? 0 (x.add (i * c)) c = some (enc ys[i]) := by
      intro m
      induction m with
      | zero => exact fun _ => ⟨[], rfl, fun i h => by simp at h⟩
      | succ m ih =>
        intro hm
        obtain ⟨ys, hy1, hy2⟩ := ih (by omega)
        obtain ⟨cs, h1, y, rfl⟩ := hcs m (by omega)
        refine ⟨ys ++ [y], by simp [hy1], fun i hi => ?_⟩
        by_cases hlt : i < ys.length
        · rw [List.getElem_append_left hlt]; exact hy2 i hlt
        · have : i = m := by simp at hi; omega
          subst this
          rw [List.getElem_append_right (by omega)]
          simpa using h1
    obtain ⟨ys, rfl, hy⟩ := hys len hl
    refine ⟨ys, rfl, hl, hm, ?_⟩
    by_cases hz : cap = 0
    · exact .inl hz
    · obtain ⟨cs, h1, y, rfl⟩ := hcs 0 (by omega)
      obtain ⟨_, _, hat⟩ := World.cells?_some h1
      have hx := hat 0 hc
      have hs := he.size y
      rw [List.getElem?_eq_getElem (by omega)] at hx
      have hlt := World.block_lt_of_cell? w _ hx
      obtain ⟨b, off, sp⟩ := x
      have hsp : sp = none := by
        cases sp with
        | none => rfl
        | some s =>
          exfalso
          unfold World.cell? Addr.add at hx
          simp at hx
          split at hx <;> simp at hx
      subst hsp
      refine .inr ⟨b, off, rfl, by simpa [Addr.add] using hlt, fun i hi j v hj => ?_⟩
      obtain ⟨_, _, hat⟩ := World.cells?_some (hy i hi)
      have hjc : j < c := by
        have := (List.getElem?_eq_some_iff.1 hj).1
        rw [he.size] at this; exact this
      have := hat j hjc
      rw [hj, Addr.add_lit, Addr.add_lit, Nat.add_assoc] at this
      exact this
theorem flat_u64 {P : Program} {t : TypeId} (ht : P.underlying t = some (.int .u64)) (hc : P.cellsOf t = 1) : FlatOf P t 1 (fun y : BitVec 64 => [vw y]) :=
  ⟨hc, fun _ => rfl, fun h => by
    obtain ⟨n, rfl, _, hw⟩ := DataW.trod_int ht h
    obtain ⟨x, rfl⟩ := word_of hw
    exact ⟨x, rfl⟩⟩
theorem byte_of {a : Int} (h : (Lit.int .u8 a).wf = true) : ∃ x : BitVec 8, a = (x.toNat : Int) := by
  have h3 : 0 ≤ a ∧ a ≤ 255 := by simpa [Lit.wf, IntKind.min, IntKind.max, IntKind.bits, IntKind.signed] using h
  refine ⟨BitVec.ofInt 8 a, ?_⟩
  simp [BitVec.toNat_ofInt]
  omega
theorem flat_u8 {P : Program} {t : TypeId} (ht : P.underlying t = some (.int .u8)) (hc : P.cellsOf t = 1) : FlatOf P t 1 (fun y : BitVec 8 => [vb y]) :=
  ⟨hc, fun _ => rfl, fun h => by
    obtain ⟨n, rfl, _, hw⟩ := DataW.trod_int ht h
    obtain ⟨x, rfl⟩ := byte_of hw
    exact ⟨x, rfl⟩⟩
theorem rdl_of_rds {α : Type} {B : Nat} {w : World} {p : Option Addr} {cap : Nat} {enc : α → Value} {ys : List α} (h : RdS B w p cap 1 (fun y => [enc y]) ys) : RdL B w p cap enc ys := by
  obtain ⟨h1, h2, h3⟩ := h
  refine ⟨h1, h2, h3.imp id ?_⟩
  rintro ⟨b, off, hp, hb, hc⟩
  exact ⟨b, off, hp, hb, fun i hi => by simpa using hc i hi 0 _ rfl⟩

end Go.Proofs.Ytenmogokbelahaa
