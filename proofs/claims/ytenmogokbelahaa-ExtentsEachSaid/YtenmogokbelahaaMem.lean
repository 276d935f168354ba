/- Plain helpers of this claim's texts: words and bytes as values; slices that read as a list. -/
import Derived.Test.YtenmogokbelahaaLib
import Derived.Laws.BitsAllLaws
namespace Go.Proofs.Ytenmogokbelahaa
open Go Go.RowKit

/-- A word, a byte, a number, as values. -/
abbrev vw (x : BitVec 64) : Value := .int .u64 (x.toNat : Int)
abbrev vb (x : BitVec 8) : Value := .int .u8 (x.toNat : Int)

/-- Operations on words, each behind a name (so that no rewriting looks into them). -/
def xorw (x y : BitVec 64) : BitVec 64 := x ^^^ y
def andw (x y : BitVec 64) : BitVec 64 := x &&& y
def orw (x y : BitVec 64) : BitVec 64 := x ||| y
def shrw (x : BitVec 64) (n : Nat) : BitVec 64 := x >>> n
def shlw (x : BitVec 64) (n : Nat) : BitVec 64 := x <<< n
def ofb (b : BitVec 8) : BitVec 64 := b.setWidth 64
def notw (x : BitVec 64) : BitVec 64 := ~~~x

theorem bits_xor_w (x y : BitVec 64) : bits .xor .u64 (x.toNat : Int) (y.toNat : Int) = ((xorw x y).toNat : Int) := by
  rw [u64_xor_nat _ _ x.isLt y.isLt, xorw, BitVec.toNat_xor]
theorem bits_and_w (x y : BitVec 64) : bits .and .u64 (x.toNat : Int) (y.toNat : Int) = ((andw x y).toNat : Int) := by
  rw [u64_and_nat _ _ x.isLt y.isLt, andw, BitVec.toNat_and]
theorem bits_or_w (x y : BitVec 64) : bits .or .u64 (x.toNat : Int) (y.toNat : Int) = ((orw x y).toNat : Int) := by
  rw [u64_or_nat _ _ x.isLt y.isLt, orw, BitVec.toNat_or]
theorem shr_w (x : BitVec 64) (n : Nat) : (x.toNat : Int) / ((2 ^ n : Nat) : Int) = ((shrw x n).toNat : Int) := by
  rw [shrw, BitVec.toNat_ushiftRight, Nat.shiftRight_eq_div_pow]; simp
theorem shr1_w (x : BitVec 64) : (x.toNat : Int) / (2 : Int) = ((shrw x 1).toNat : Int) := shr_w x 1
theorem and1_w (x : BitVec 64) : bits .and .u64 (x.toNat : Int) 1 = ((x.toNat % 2 : Nat) : Int) := by
  rw [show (1 : Int) = ((1 : Nat) : Int) from rfl, u64_and_nat _ _ x.isLt (by decide), nat_mask1]
theorem ofb_w (b : BitVec 8) : (b.toNat : Int) = ((ofb b).toNat : Int) := by
  simp [ofb, BitVec.toNat_setWidth]; omega
theorem not_w (x : BitVec 64) : bits BinOp.xor IntKind.u64 IntKind.u64.max (x.toNat : Int) = ((notw x).toNat : Int) := by
  have h : IntKind.u64.max = ((BitVec.allOnes 64).toNat : Int) := by decide
  rw [h, bits_xor_w]
  unfold xorw notw
  rw [BitVec.allOnes_xor]
theorem cell_new_l (W : World) (v : Value) (t : TypeId) : (W.alloc (.cells #[v] t)).cell? ⟨W.heap.size, 0, none⟩ = some v := by
  rw [World.cell?_alloc_new]; rfl

/-- The slice value (p, ys.length, cap) reads, in a block below B, as the list ys, one cell an element. -/
def RdL {α : Type} (B : Nat) (w : World) (p : Option Addr) (cap : Nat) (enc : α → Value) (ys : List α) : Prop :=
  ys.length ≤ cap ∧ cap ≤ maxLen ∧ (cap = 0 ∨ ∃ b off, p = some ⟨b, off, none⟩ ∧ b < B ∧ ∀ i (h : i < ys.length), w.cell? ⟨b, off + i, none⟩ = some (enc ys[i]))

theorem RdL.nil {α : Type} (B : Nat) (w : World) (enc : α → Value) : RdL B w none 0 enc [] := ⟨by simp, by simp [maxLen], .inl rfl⟩
theorem RdL.at {α : Type} {B : Nat} {w : World} {p : Option Addr} {cap : Nat} {enc : α → Value} {ys : List α} (h : RdL B w p cap enc ys) (i : Nat) (hi : i < ys.length) :
    ∃ b off, p = some ⟨b, off, none⟩ ∧ b < B ∧ w.cell? ⟨b, off + i, none⟩ = some (enc ys[i]) := by
  obtain ⟨h1, h2, h3⟩ := h
  rcases h3 with rfl | ⟨b, off, hp, hb, hc⟩
  · omega
  · exact ⟨b, off, hp, hb, hc i hi⟩
theorem RdL.len {α : Type} {B : Nat} {w : World} {p : Option Addr} {cap : Nat} {enc : α → Value} {ys : List α} (h : RdL B w p cap enc ys) : ys.length ≤ 9223372036854775807 := by
  have := h.1; have := h.2.1; unfold maxLen at this; omega
theorem RdL.wide {α : Type} {B B' : Nat} {w : World} {p : Option Addr} {cap : Nat} {enc : α → Value} {ys : List α} (h : RdL B w p cap enc ys) (hB : B ≤ B') : RdL B' w p cap enc ys := by
  obtain ⟨h1, h2, h3⟩ := h
  refine ⟨h1, h2, h3.imp id ?_⟩
  rintro ⟨b, off, hp, hb, hc⟩
  exact ⟨b, off, hp, Nat.lt_of_lt_of_le hb hB, hc⟩
theorem RdL.isNil {α : Type} {B : Nat} {w : World} {cap : Nat} {enc : α → Value} {ys : List α} (h : RdL B w none cap enc ys) : ys = [] ∧ cap = 0 := by
  obtain ⟨h1, h2, h3⟩ := h
  rcases h3 with rfl | ⟨b, off, hp, _⟩
  · exact ⟨List.eq_nil_of_length_eq_zero (by omega), rfl⟩
  · cases hp
/-- It reads so in every world that has kept its block. -/
theorem RdL.keep {α : Type} {B : Nat} {w w' : World} {p : Option Addr} {cap : Nat} {enc : α → Value} {ys : List α} (h : RdL B w p cap enc ys) (hb : ∀ a, p = some a → 0 < cap → w'.heap[a.block]? = w.heap[a.block]?) : RdL B w' p cap enc ys := by
  obtain ⟨h1, h2, h3⟩ := h
  refine ⟨h1, h2, ?_⟩
  by_cases h0 : cap = 0
  · exact .inl h0
  rcases h3 with h3 | ⟨b, off, hp, hb', hc⟩
  · exact absurd h3 h0
  · exact .inr ⟨b, off, hp, hb', fun i hi => (World.cell?_of_block (w := w) (a := ⟨b, off + i, Option.none⟩) (hb ⟨b, off, Option.none⟩ hp (by omega))).trans (hc i hi)⟩
theorem RdL.lt {α : Type} {B : Nat} {w : World} {p : Option Addr} {cap : Nat} {enc : α → Value} {ys : List α} (h : RdL B w p cap enc ys) {a : Addr} (ha : p = some a) (h0 : 0 < cap) : a.block < B := by
  obtain ⟨h1, h2, h3⟩ := h
  rcases h3 with rfl | ⟨b, off, hp, hb, hc⟩
  · omega
  · rw [hp] at ha; cases ha; exact hb
theorem RdL.below {α : Type} {B : Nat} {w w' : World} {p : Option Addr} {cap : Nat} {enc : α → Value} {ys : List α} (h : RdL B w p cap enc ys) (hb : Below B w w') : RdL B w' p cap enc ys :=
  h.keep fun _ ha h0 => hb.block _ (h.lt ha h0)

/-- The blocks that a slice value lies in. -/
def inP (p : Option Addr) (cap b : Nat) : Prop := ∃ a, p = some a ∧ a.block = b ∧ 0 < cap
theorem RdL.inlt {α : Type} {B : Nat} {w : World} {p : Option Addr} {cap : Nat} {enc : α → Value} {ys : List α} (h : RdL B w p cap enc ys) {b : Nat} (hb : inP p cap b) : b < B := by
  obtain ⟨a, ha, rfl, h0⟩ := hb; exact h.lt ha h0
theorem RdL.kps {α : Type} {B : Nat} {w w' : World} {p : Option Addr} {cap : Nat} {enc : α → Value} {ys : List α} {T : Nat → Prop} (h : RdL B w p cap enc ys) (hB : B ≤ w.heap.size) (hb : Kps T w w') (hT : ∀ b, inP p cap b → T b) : RdL B w' p cap enc ys :=
  h.keep fun a ha h0 => hb.block _ (hT _ ⟨a, ha, rfl, h0⟩) (Nat.lt_of_lt_of_le (h.lt ha h0) hB)

/-- What the call owns reads so. -/
theorem rdl_of_owns {α : Type} {base : Nat} {w : World} {E : TypeId} {v : Value} {enc : α → Value} {ys : List α} (h : w.ownsRow base E 1 v ys.length (ys.map enc)) :
    ∃ p cap, v = .slice p ys.length cap ∧ RdL w.heap.size w p cap enc ys ∧ (∀ a : Addr, p = some a → base ≤ a.block) := by
  rcases h.2 with ⟨rfl, hn⟩ | ⟨g, cap, cur, rfl, hb, hg, hn, hm, hs, ht⟩
  · have : ys = [] := List.eq_nil_of_length_eq_zero hn
    subst this
    exact ⟨none, 0, rfl, RdL.nil _ _ _, fun _ h => by cases h⟩
  · refine ⟨_, cap, rfl, ⟨hn, hm, .inr ⟨g, 0, rfl, (Array.getElem?_eq_some_iff.1 hg).1, fun i hi => ?_⟩⟩, fun a ha => by cases ha; exact hb⟩
    simp only [World.cell?, hg]
    have h1 : cur.toList.take ys.length = ys.map enc := by simpa using ht
    have h2 : (cur.toList.take ys.length)[i]? = some (enc ys[i]) := by rw [h1]; simp [hi]
    rw [List.getElem?_take, if_pos hi] at h2
    simpa using h2

def byteAt (x : BitVec 64) (n : Nat) : BitVec 8 := (x >>> (8 * n)).setWidth 8
theorem Frn.trans {T : Nat → Prop} {A B C : World} (h : Frn T A B) (k : Frn T B C) : Frn T A C :=
  ⟨k.os.trans h.os, k.tape.trans h.tape, k.output.trans h.output, Nat.le_trans h.size k.size, fun b hb hn => (k.block b (Nat.lt_of_lt_of_le hb h.size) hn).trans (h.block b hb hn)⟩
theorem Frn.below {T : Nat → Prop} {A B : World} {n : Nat} (h : Frn T A B) (hn : n ≤ A.heap.size) (hT : ∀ b, T b → n ≤ b) : Below n A B :=
  ⟨h.os, h.tape, h.output, h.size, fun b hb => h.block b (Nat.lt_of_lt_of_le hb hn) (fun ht => by have := hT b ht; omega)⟩
theorem Frn.of_grownBy {T : Nat → Prop} {A B : World} {row : Option Nat} (h : A.grownBy B row) (hT : ∀ r, row = some r → T r) : Frn T A B :=
  ⟨h.os, h.tape, h.output, h.size, fun b hb hn => h.block b hb (fun e => hn (hT b e.symm))⟩
theorem Frn.drew {T : Nat → Prop} {A B : World} (h : Frn T A B) : Frn T A B.drew := ⟨h.os, h.tape, h.output, h.size, h.block⟩
theorem Frn.drewN {T : Nat → Prop} {A B : World} (h : Frn T A B) (n : Nat) : Frn T A (B.drewN n) := ⟨h.os, h.tape, h.output, h.size, h.block⟩
theorem Frn.allocR {T : Nat → Prop} {A B : World} (h : Frn T A B) (o : Obj) : Frn T A (B.alloc o) :=
  ⟨h.os, h.tape, h.output, Nat.le_trans h.size (by simp), fun b hb hn => (Below.heap_alloc B o b (Nat.lt_of_lt_of_le hb h.size)).trans (h.block b hb hn)⟩

theorem RdL.front {α : Type} {B : Nat} {w : World} {p : Option Addr} {cap cap' : Nat} {enc : α → Value} {ys zs : List α} (h : RdL B w p cap enc (ys ++ zs)) (h1 : ys.length ≤ cap') (h2 : cap' ≤ cap) : RdL B w p cap' enc ys := by
  obtain ⟨h3, h4, h5⟩ := h
  refine ⟨h1, Nat.le_trans h2 h4, ?_⟩
  rcases h5 with rfl | ⟨b, off, hp, hb, hc⟩
  · exact .inl (by omega)
  · refine .inr ⟨b, off, hp, hb, fun i hi => ?_⟩
    have := hc i (by rw [List.length_append]; omega)
    rwa [List.getElem_append_left hi] at this

theorem nil_or_snoc {α : Type} (l : List α) : l = [] ∨ ∃ ys y, l = ys ++ [y] := by
  rcases List.eq_nil_or_concat l with h | ⟨ys, y, h⟩
  · exact .inl h
  · exact .inr ⟨ys, y, by simpa using h⟩

/-- A block that is known whole reads as its list. -/
theorem rdl_block {α : Type} {w : World} {g : Nat} {t : TypeId} {fr : Nat × Nat} (enc : α → Value) (ys : List α) (h : w.heap[g]? = some (.cells (ys.map enc).toArray t fr)) (hm : ys.length ≤ maxLen) : RdL w.heap.size w (some ⟨g, 0, none⟩) ys.length enc ys :=
  ⟨Nat.le_refl _, hm, .inr ⟨g, 0, rfl, (Array.getElem?_eq_some_iff.1 h).1, fun i hi => by simp [World.cell?, h, hi]⟩⟩
theorem rdl_new {α : Type} (w : World) (t : TypeId) (enc : α → Value) (ys : List α) (hm : ys.length ≤ maxLen) : RdL (w.alloc (.cells (ys.map enc).toArray t)).heap.size (w.alloc (.cells (ys.map enc).toArray t)) (some ⟨w.heap.size, 0, none⟩) ys.length enc ys :=
  rdl_block enc ys (World.alloc_heap_new w _) hm

/-- A slice that came in (as the frame of a law's proof tells it) reads as words, as bytes. -/
theorem rdl_words {w : World} {a : Option Addr} {len cap : Nat} {zs : List Int} (h : (a = none ∧ len = 0 ∧ cap = 0 ∧ zs = []) ∨
    ∃ x, a = some x ∧ len ≤ cap ∧ cap ≤ maxLen ∧ zs.length = cap ∧ (∀ i, i < zs.length → w.cell? (x.add i) = some (.int .u64 (zs.getD i 0))) ∧ ∀ n ∈ zs, (Lit.int .u64 n).wf = true) :
    ∃ ys : List (BitVec 64), len = ys.length ∧ RdL w.heap.size w a cap vw ys := by
  rcases h with ⟨rfl, rfl, rfl, rfl⟩ | ⟨x, rfl, hl, hm, hz, hc, hw⟩
  · exact ⟨[], rfl, RdL.nil _ _ _⟩
  · refine ⟨(zs.take len).map (BitVec.ofInt 64), by simp; omega, by simp; omega, hm, ?_⟩
    by_cases h0 : cap = 0
    · exact .inl h0
    obtain ⟨b, off, sp⟩ := x
    have hx := hc 0 (by omega)
    have hlt := World.block_lt_of_cell? w _ hx
    have hsp : sp = none := by
      cases sp with
      | none => rfl
      | some s =>
        exfalso
        unfold World.cell? Addr.add at hx
        simp at hx
        split at hx <;> simp at hx
    subst hsp
    refine .inr ⟨b, off, rfl, by simpa [Addr.add] using hlt, fun i hi => ?_⟩
    have hi' : i < zs.length := by simp at hi; omega
    have h1 := hc i hi'
    rw [Addr.add_lit] at h1
    rw [h1]
    have h2 := hw zs[i] (List.getElem_mem _)
    have h3 : 0 ≤ zs[i] ∧ zs[i] ≤ 18446744073709551615 := by simpa [Lit.wf, IntKind.min, IntKind.max, IntKind.bits, IntKind.signed] using h2
    simp [hi', vw, BitVec.toNat_ofInt]
    omega
theorem rdl_bytes {w : World} {a : Option Addr} {len cap : Nat} {zs : List Int} (h : (a = none ∧ len = 0 ∧ cap = 0 ∧ zs = []) ∨
    ∃ x, a = some x ∧ len ≤ cap ∧ cap ≤ maxLen ∧ zs.length = cap ∧ (∀ i, i < zs.length → w.cell? (x.add i) = some (.int .u8 (zs.getD i 0))) ∧ ∀ n ∈ zs, (Lit.int .u8 n).wf = true) :
    ∃ ys : List (BitVec 8), len = ys.length ∧ RdL w.heap.size w a cap vb ys := by
  rcases h with ⟨rfl, rfl, rfl, rfl⟩ | ⟨x, rfl, hl, hm, hz, hc, hw⟩
  · exact ⟨[], rfl, RdL.nil _ _ _⟩
  · refine ⟨(zs.take len).map (BitVec.ofInt 8), by simp; omega, by simp; omega, hm, ?_⟩
    by_cases h0 : cap = 0
    · exact .inl h0
    obtain ⟨b, off, sp⟩ := x
    have hx := hc 0 (by omega)
    have hlt := World.block_lt_of_cell? w _ hx
    have hsp : sp = none := by
      cases sp with
      | none => rfl
      | some s =>
        exfalso
        unfold World.cell? Addr.add at hx
        simp at hx
        split at hx <;> simp at hx
    subst hsp
    refine .inr ⟨b, off, rfl, by simpa [Addr.add] using hlt, fun i hi => ?_⟩
    have hi' : i < zs.length := by simp at hi; omega
    have h1 := hc i hi'
    rw [Addr.add_lit] at h1
    rw [h1]
    have h2 := hw zs[i] (List.getElem_mem _)
    have h3 : 0 ≤ zs[i] ∧ zs[i] ≤ 255 := by simpa [Lit.wf, IntKind.min, IntKind.max, IntKind.bits, IntKind.signed] using h2
    simp [hi', vb, BitVec.toNat_ofInt]
    omega

/-- A number that came in, as a word. -/
theorem word_of {a : Int} (h : (Lit.int .u64 a).wf = true) : ∃ x : BitVec 64, a = (x.toNat : Int) := by
  have h3 : 0 ≤ a ∧ a ≤ 18446744073709551615 := by simpa [Lit.wf, IntKind.min, IntKind.max, IntKind.bits, IntKind.signed] using h
  refine ⟨BitVec.ofInt 64 a, ?_⟩
  simp [BitVec.toNat_ofInt]
  omega

theorem shl_b (b : BitVec 8) (n : Nat) : IntKind.u64.wrap ((b.toNat : Int) * 2 ^ n) = ((shlw (ofb b) n).toNat : Int) := by
  rw [IntKind.wrap_u64, shlw, ofb, BitVec.toNat_shiftLeft, BitVec.toNat_setWidth, Nat.shiftLeft_eq, Nat.mod_eq_of_lt (show b.toNat < 2 ^ 64 by have := b.isLt; omega)]
  simp
theorem shl_w (x : BitVec 64) (n : Nat) : IntKind.u64.wrap ((x.toNat : Int) * 2 ^ n) = ((shlw x n).toNat : Int) := by
  rw [IntKind.wrap_u64, shlw, BitVec.toNat_shiftLeft, Nat.shiftLeft_eq]
  simp

theorem RdL.tail {α : Type} {B : Nat} {w : World} {b off : Nat} {cap : Nat} {enc : α → Value} {ys : List α} (h : RdL B w (some ⟨b, off, none⟩) cap enc ys) (k : Nat) (hk : k ≤ ys.length) : RdL B w (some ⟨b, off + k, none⟩) (cap - k) enc (ys.drop k) := by
  obtain ⟨h1, h2, h3⟩ := h
  refine ⟨by simp; omega, by omega, ?_⟩
  rcases h3 with rfl | ⟨b', off', hp, hb, hc⟩
  · exact .inl (by omega)
  · cases hp
    refine .inr ⟨b, off + k, rfl, hb, fun i hi => ?_⟩
    have hi' : i < ys.length - k := by simpa using hi
    have := hc (k + i) (by omega)
    rw [List.getElem_drop, Nat.add_assoc]
    exact this

def subw (x y : BitVec 64) : BitVec 64 := x - y
def addw (x y : BitVec 64) : BitVec 64 := x + y
theorem wrap_u64 (n : Int) : IntKind.u64.wrap n = n % 18446744073709551616 := by
  simp [IntKind.wrap, IntKind.signed, IntKind.bits]
theorem sub_w (x y : BitVec 64) : IntKind.u64.wrap ((x.toNat : Int) - (y.toNat : Int)) = ((subw x y).toNat : Int) := by
  have hx := x.isLt
  have hy := y.isLt
  unfold subw
  rw [wrap_u64, BitVec.toNat_sub]
  omega
theorem add_w (x y : BitVec 64) : IntKind.u64.wrap ((x.toNat : Int) + (y.toNat : Int)) = ((addw x y).toNat : Int) := by
  have hx := x.isLt
  have hy := y.isLt
  unfold addw
  rw [wrap_u64, BitVec.toNat_add]
  omega

end Go.Proofs.Ytenmogokbelahaa
