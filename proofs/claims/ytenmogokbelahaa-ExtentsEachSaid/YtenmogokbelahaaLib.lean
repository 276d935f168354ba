/- Plain helpers of this claim's texts: what a step may turn of memory, and one law for a range over a function whose items are a known list. -/
import Derived.RangeFuncNested
import Derived.RangeFuncBound
import Derived.RangeFuncCalls
import Derived.RangeFuncLeaves
import Derived.Shelf.Abstract
import Derived.Shelf.RegionOpen
import Derived.WalkKit
import Derived.WalkSpells
import Derived.WalkLawsBesides
import Derived.OwnWalkIn
import Derived.TacticsInMore
import Derived.LoopNIn
import Derived.LoopIn
import Derived.Lib.Hide
import Derived.Scope
import Derived.WalkMore
namespace Go.Proofs.Ytenmogokbelahaa
open Go Go.RowKit

/-- A step of another party: of what lay, only blocks in T have turned. -/
structure Frn (T : Nat → Prop) (W W' : World) : Prop where
  os : W'.os = W.os
  tape : W'.tape = W.tape
  output : W'.output = W.output
  size : W.heap.size ≤ W'.heap.size
  block : ∀ b, b < W.heap.size → ¬ T b → W'.heap[b]? = W.heap[b]?

/-- A step that keeps the blocks in T. -/
structure Kps (T : Nat → Prop) (W W' : World) : Prop where
  os : W'.os = W.os
  tape : W'.tape = W.tape
  output : W'.output = W.output
  size : W.heap.size ≤ W'.heap.size
  block : ∀ b, T b → b < W.heap.size → W'.heap[b]? = W.heap[b]?

/-- The set T and all blocks made between two worlds. -/
def grow (T : Nat → Prop) (W W' : World) (b : Nat) : Prop := T b ∨ (W.heap.size ≤ b ∧ b < W'.heap.size)

theorem Kps.refl (T : Nat → Prop) (W : World) : Kps T W W := ⟨rfl, rfl, rfl, Nat.le_refl _, fun _ _ _ => rfl⟩
theorem Kps.trans {T : Nat → Prop} {A B C : World} (h : Kps T A B) (k : Kps T B C) : Kps T A C :=
  ⟨k.os.trans h.os, k.tape.trans h.tape, k.output.trans h.output, Nat.le_trans h.size k.size,
   fun b hb hl => (k.block b hb (Nat.lt_of_lt_of_le hl h.size)).trans (h.block b hb hl)⟩
theorem Kps.mono {T T' : Nat → Prop} {A B : World} (h : Kps T A B) (hT : ∀ b, T' b → T b) : Kps T' A B :=
  ⟨h.os, h.tape, h.output, h.size, fun b hb hl => h.block b (hT b hb) hl⟩
theorem Kps.alloc {T : Nat → Prop} {A B : World} (h : Kps T A B) (o : Obj) : Kps T A (B.alloc o) :=
  ⟨h.os, h.tape, h.output, Nat.le_trans h.size (by simp), fun b hb hl => (Below.heap_alloc B o b (Nat.lt_of_lt_of_le hl h.size)).trans (h.block b hb hl)⟩
theorem Kps.setCell {T : Nat → Prop} {A B : World} (h : Kps T A B) (p : Addr) (hp : ¬ T p.block) (u : Value) : Kps T A (B.setCell p u) :=
  ⟨h.os, h.tape, h.output, by simpa [World.setCell] using h.size, fun b hb hl => (Below.heap_setCell B p u b (fun e => hp (e ▸ hb))).trans (h.block b hb hl)⟩
theorem Kps.drew {T : Nat → Prop} {A B : World} (h : Kps T A B) : Kps T A B.drew := ⟨h.os, h.tape, h.output, h.size, h.block⟩
theorem Kps.drewN {T : Nat → Prop} {A B : World} (h : Kps T A B) (n : Nat) : Kps T A (B.drewN n) := ⟨h.os, h.tape, h.output, h.size, h.block⟩
theorem Kps.of_below {T : Nat → Prop} {A B : World} {n : Nat} (h : Below n A B) (hT : ∀ b, T b → b < n) : Kps T A B :=
  ⟨h.os, h.tape, h.output, h.size, fun b hb _ => h.block b (hT b hb)⟩
theorem Kps.of_grownBy {T : Nat → Prop} {A B : World} {row : Option Nat} (h : A.grownBy B row) (hT : ∀ r, row = some r → ¬ T r) : Kps T A B :=
  ⟨h.os, h.tape, h.output, h.size, fun b hb hl => h.block b hl (fun e => hT b e.symm hb)⟩
theorem Kps.below {A B : World} {n : Nat} (h : Kps (· < n) A B) (hn : n ≤ A.heap.size) : Below n A B :=
  ⟨h.os, h.tape, h.output, h.size, fun b hb => h.block b hb (Nat.lt_of_lt_of_le hb hn)⟩

theorem Frn.refl (T : Nat → Prop) (W : World) : Frn T W W := ⟨rfl, rfl, rfl, Nat.le_refl _, fun _ _ _ => rfl⟩
theorem Frn.alloc (T : Nat → Prop) (W : World) (o : Obj) : Frn T W (W.alloc o) :=
  ⟨rfl, rfl, rfl, by simp, fun b hl _ => Below.heap_alloc W o b hl⟩
theorem Frn.putObj {T : Nat → Prop} (W : World) {l : Nat} (hl : T l) (o : Obj) : Frn T W (W.putObj l o) :=
  ⟨rfl, rfl, rfl, by simp, fun b _ hb => World.putObj_heap_other (fun e => hb (e ▸ hl))⟩
theorem Frn.setCell {T : Nat → Prop} {A B : World} (h : Frn T A B) (p : Addr) (hp : T p.block ∨ A.heap.size ≤ p.block) (u : Value) : Frn T A (B.setCell p u) :=
  ⟨h.os, h.tape, h.output, by simpa [World.setCell] using h.size, fun b hl hb => (Below.heap_setCell B p u b (fun e => by
    rcases hp with hp | hp
    · exact hb (e ▸ hp)
    · omega)).trans (h.block b hl hb)⟩
theorem Frn.of_below {T : Nat → Prop} {A B : World} (h : Below A.heap.size A B) : Frn T A B := ⟨h.os, h.tape, h.output, h.size, fun b hl _ => h.block b hl⟩

/-- An invariant that another party's steps do not touch. -/
def Abd {β : Type} (J : β → (Nat → Prop) → World → Prop) : Prop :=
  ∀ k T W W', J k T W → Frn T W W' → J k (grow T W W') W'

theorem grow_same {T : Nat → Prop} {W W' : World} (h : W'.heap.size = W.heap.size) : grow T W W' = T := by
  funext b; apply propext; unfold grow; constructor
  · rintro (h' | ⟨a, c⟩)
    · exact h'
    · omega
  · exact Or.inl
theorem Abd.same {β : Type} {J : β → (Nat → Prop) → World → Prop} (h : Abd J) {k : β} {T : Nat → Prop} {W W' : World} (hs : W'.heap.size = W.heap.size) (hJ : J k T W) (hf : Frn T W W') : J k T W' := by
  have := h k T W W' hJ hf
  rwa [grow_same hs] at this

/-- What an iterator's function value promises: it hands over the items of a known list, one by one, while the rounds keep the blocks that it reads (FP) and those of its own. -/
def Iter (P : Program) (g : Nat) (lb : Array Value) (encs : List (Array Value)) (FP : Nat → Prop) (w : World) : Prop :=
  ∀ (l : Nat) (J Jx : Nat → (Nat → Prop) → World → Prop) (W : World) (T : Nat → Prop),
    Kps FP w W → (∀ b, T b → b < W.heap.size) → Abd J → Abd Jx →
    (∀ k (hk : k < encs.length) T' W1, (∀ b, T' b → b < W1.heap.size) → J k T' W1 → YieldAt Fence.wide 0 P l encs[k] W1 fun e W' =>
      (e = .returned (.bool true) ∧ J (k + 1) T' W' ∧ Kps (fun b => FP b ∨ T' b) W1 W') ∨
      (e = .returned (.bool false) ∧ Jx (k + 1) T' W' ∧ Kps (fun b => FP b ∨ T' b) W1 W')) →
    J 0 T W →
    CallsIn Fence.wide 0 P g (#[.func (.yield l) #[] #[]] ++ lb) W fun e W' => (∃ v, e = .returned v) ∧
      ((∃ T', J encs.length T' W' ∧ (∀ b, T' b → b < W'.heap.size)) ∨ (∃ k T', k ≤ encs.length ∧ 1 ≤ k ∧ Jx k T' W' ∧ (∀ b, T' b → b < W'.heap.size)))

theorem Iter.mono {P : Program} {g : Nat} {lb : Array Value} {encs : List (Array Value)} {FP : Nat → Prop} {w w' : World} (h : Iter P g lb encs FP w) (hk : Kps FP w w') : Iter P g lb encs FP w' :=
  fun l J Jx W T hW => h l J Jx W T (hk.trans hW)

/-- How a round may be left. -/
def rpost (FP : Nat → Prop) (J : Nat → (Nat → Prop) → World → Prop) (Jx : Code → Nat → (Nat → Prop) → World → Prop) (k : Nat) (T : Nat → Prop) (W : World) : Exit → Act → World → Prop
  | .normal, _, W' => J (k + 1) T W' ∧ Kps (fun b => FP b ∨ T b) W W'
  | .ret, _, W' => Jx .ret (k + 1) T W' ∧ Kps (fun b => FP b ∨ T b) W W'
  | .exit id, _, W' => Jx (.exit id) (k + 1) T W' ∧ Kps (fun b => FP b ∨ T b) W W'
  | .goto t, _, W' => Jx (.goto t) (k + 1) T W' ∧ Kps (fun b => FP b ∨ T b) W W'
  | .panic _, _, _ => False
  | .outgrown, _, _ => False

/-- The law's heart: one loop's record in block l (and, of the bookkeeping, the other blocks of X); what lies behind the iterator's call. -/
theorem rf_core {P : Program} {FP : Nat → Prop} {encs : List (Array Value)} {gf : Nat} {lb : Array Value} {W1 : World} {l D fn : Nat} {tmps : Array Value} {ps : Array Tmp} {assign body : Code} {X : Nat → Prop}
    (hit : Iter P gf lb encs FP W1) (hps : ∀ x ∈ encs, x.size = ps.size)
    (J : Nat → (Nat → Prop) → World → Prop) (Jx : Code → Nat → (Nat → Prop) → World → Prop) (hJ : Abd J) (hJx : ∀ c, Abd (Jx c))
    (hX : ∀ b, X b → b < W1.heap.size) (hXl : X l) (hFX : ∀ b, X b → ¬ FP b)
    (h0 : J 0 X W1) (hol : W1.heap[l]? = some (.loop { state := .ready, pending := none, fn, tmps, params := ps, assign, body, defers := D }))
    (hround : ∀ k (hk : k < encs.length) T W, J k T W → (∀ b, X b → T b) → (∀ b, T b → b < W.heap.size) → Kps FP W1 W →
      assign.wpIn (Fence.wide.inRound l) 0 P (Exit.then (fun a1 Wa => Kps (fun b => FP b ∨ T b) W Wa ∧ ∀ W2, Frn T Wa W2 → W2.heap.size = Wa.heap.size → Kps FP Wa W2 → (∃ r, W2.heap[l]? = some (.loop r)) →
        body.wpIn (Fence.wide.inRound l) 0 P (rpost FP J Jx k T W2) a1 W2) (fun _ _ _ => False))
        { tmps := (ps.zip encs[k]).foldl (fun t (p, v) => t.setIfInBounds p v) tmps, defers := [] } W) :
    CallsIn Fence.wide 0 P gf (#[.func (.yield l) #[] #[]] ++ lb) W1 fun e W' => (∃ v, e = .returned v) ∧
      ((∃ T', J encs.length T' W' ∧ (∀ b, X b → T' b) ∧ (∀ b, T' b → b < W'.heap.size) ∧ (∀ b, X b → b ≠ l → W'.heap[b]? = W1.heap[b]?) ∧ Kps FP W1 W' ∧ (∃ r : Loop, W'.heap[l]? = some (.loop r) ∧ r.state ≠ .busy ∧ r.pending = none)) ∨
       (∃ k c T', k ≤ encs.length ∧ 1 ≤ k ∧ Jx c k T' W' ∧ (∀ b, X b → T' b) ∧ (∀ b, T' b → b < W'.heap.size) ∧ (∀ b, X b → b ≠ l → W'.heap[b]? = W1.heap[b]?) ∧ Kps FP W1 W' ∧ (∃ r : Loop, W'.heap[l]? = some (.loop r) ∧ r.state ≠ .busy ∧ r.pending = some c))) := by
  obtain ⟨rec, hrec⟩ : ∃ rec : LoopState → Option Code → Loop, rec = fun st pe => { state := st, pending := pe, fn, tmps, params := ps, assign, body, defers := D } := ⟨_, rfl⟩
  have hol' : W1.heap[l]? = some (.loop (rec .ready none)) := by rw [hrec]; exact hol
  clear hol
  let BK : (Nat → Prop) → World → Prop := fun T W => (∀ b, X b → ¬ T b) ∧ (∀ b, X b → b ≠ l → W.heap[b]? = W1.heap[b]?) ∧ Kps FP W1 W ∧ (∀ b, T b → FP b → W1.heap.size ≤ b)
  let U : (Nat → Prop) → Nat → Prop := fun T b => T b ∨ X b
  let J' : Nat → (Nat → Prop) → World → Prop := fun k T W => J k (U T) W ∧ BK T W ∧ W.heap[l]? = some (.loop (rec .ready none))
  let Jx' : Nat → (Nat → Prop) → World → Prop := fun k T W => ∃ c, Jx c k (U T) W ∧ BK T W ∧ W.heap[l]? = some (.loop (rec .done (some c)))
  have hgr : ∀ (T : Nat → Prop) (W W' : World), U (grow T W W') = grow (U T) W W' := by
    intro T W W'; funext b; apply propext; simp only [U, grow]; constructor
    · rintro ((h | h) | h)
      · exact .inl (.inl h)
      · exact .inr h
      · exact .inl (.inr h)
    · rintro ((h | h) | h)
      · exact .inl (.inl h)
      · exact .inr h
      · exact .inl (.inr h)
  have hfw : ∀ {T : Nat → Prop} {W W' : World}, Frn T W W' → Frn (U T) W W' := fun h => ⟨h.os, h.tape, h.output, h.size, fun b hb hn => h.block b hb (fun ht => hn (.inl ht))⟩
  have hBK : ∀ {T : Nat → Prop} {W W' : World}, BK T W → Frn T W W' → BK (grow T W W') W' := by
    rintro T W W' ⟨h1, h2, h3, h4⟩ hf
    refine ⟨fun b hb => ?_, fun b hb hne => ?_, ?_, fun b hb hF => ?_⟩
    · rintro (h | ⟨h, _⟩)
      · exact h1 b hb h
      · have := hX b hb; have := h3.size; omega
    · rw [← h2 b hb hne]
      exact hf.block b (Nat.lt_of_lt_of_le (hX b hb) h3.size) (h1 b hb)
    · exact ⟨hf.os.trans h3.os, hf.tape.trans h3.tape, hf.output.trans h3.output, Nat.le_trans h3.size hf.size, fun b hb hl =>
        (hf.block b (Nat.lt_of_lt_of_le hl h3.size) (fun ht => by have := h4 b ht hb; omega)).trans (h3.block b hb hl)⟩
    · rcases hb with hb | ⟨hb, _⟩
      · exact h4 b hb hF
      · exact Nat.le_trans h3.size hb
  have hrc : ∀ {T : Nat → Prop} {W W' : World} {o : Obj}, BK T W → Frn T W W' → W.heap[l]? = some o → W'.heap[l]? = some o := by
    rintro T W W' o hb hf hl
    rw [hf.block l (Array.getElem?_eq_some_iff.1 hl).1 (hb.1 l hXl)]; exact hl
  have hJ' : Abd J' := by
    rintro k T W W' ⟨h1, h2, h3⟩ hf
    refine ⟨?_, hBK h2 hf, hrc h2 hf h3⟩
    rw [hgr]; exact hJ k _ W W' h1 (hfw hf)
  have hJx' : Abd Jx' := by
    rintro k T W W' ⟨c, h1, h2, h3⟩ hf
    refine ⟨c, ?_, hBK h2 hf, hrc h2 hf h3⟩
    rw [hgr]; exact hJx c k _ W W' h1 (hfw hf)
  have hBK0 : BK (fun _ => False) W1 := ⟨fun _ _ h => h, fun _ _ _ => rfl, Kps.refl _ _, fun _ h => h.elim⟩
  have hU0 : U (fun _ => False) = X := by funext b; exact propext ⟨fun h => h.elim (fun h => h.elim) id, .inr⟩
  refine (hit l J' Jx' W1 (fun _ => False) (Kps.refl _ _) (fun _ h => h.elim) hJ' hJx' ?_ ⟨by rw [hU0]; exact h0, hBK0, hol'⟩).mono ?_
  · -- one round
    rintro k hk T W hTW ⟨hj, hbk, hl⟩
    have hlt : l < W.heap.size := (Array.getElem?_eq_some_iff.1 hl).1
    have hUX : ∀ b, X b → U T b := fun b hb => .inr hb
    have hUW : ∀ b, U T b → b < W.heap.size := by
      rintro b (h | h)
      · exact hTW b h
      · exact Nat.lt_of_lt_of_le (hX b h) hbk.2.2.1.size
    have hy := run_yield (P := P) (args := encs[k]) hl (by rw [hrec]; exact hps _ (List.getElem_mem _))
    rw [hrec] at hy
    refine ⟨fn, _, assign, body, hy, roundIn_of_wpIn trivial (wpIn_mono (hround k hk (U T) W hj hUX hUW hbk.2.2.1) ?_)⟩
    clear hy
    rintro e a1 Wa hA
    cases e with
    | normal =>
      obtain ⟨hka, hb⟩ := hA
      have hla : Wa.heap[l]? = some (.loop (rec .ready none)) := (hka.block l (.inr (.inr hXl)) hlt).trans hl
      have hlta : l < Wa.heap.size := (Array.getElem?_eq_some_iff.1 hla).1
      refine ⟨_, run_beginRound hla (by rw [hrec]), ?_⟩
      have hl2 : (Wa.putObj l (.loop { rec .ready none with state := .busy })).heap[l]? = some (.loop { rec .ready none with state := .busy }) := World.putObj_heap_same hlta
      have hf2 : Frn (U T) Wa (Wa.putObj l (.loop { rec .ready none with state := .busy })) := Frn.putObj Wa (T := U T) (hUX l hXl) _
      have hkeep : ∀ (V : World) (o : Obj), Kps (fun b => FP b ∨ (T b ∨ (X b ∧ b ≠ l))) V (V.putObj l o) := fun V o => ⟨rfl, rfl, rfl, by simp, fun b hb _ => World.putObj_heap_other (fun e => by
        subst e
        rcases hb with h | h | h
        · exact hFX b hXl h
        · exact hbk.1 b hXl h
        · exact h.2 rfl)⟩
      have hsub : ∀ b, (FP b ∨ (T b ∨ (X b ∧ b ≠ l))) → (FP b ∨ U T b) := by
        rintro b (h | h | h)
        · exact .inl h
        · exact .inr (.inl h)
        · exact .inr (.inr h.1)
      have hk2 := (hka.mono hsub).trans (hkeep Wa (.loop { rec .ready none with state := .busy }))
      refine wpIn_mono (hb _ hf2 (by simp) ((hkeep Wa _).mono (fun b hb => .inl hb)) ⟨_, hl2⟩) ?_
      have fin : ∀ (jump : Option Code) (W3 : World), Kps (fun b => FP b ∨ U T b) (Wa.putObj l (.loop { rec .ready none with state := .busy })) W3 →
          (Instr.endRound l jump).run P W3 = .ok (.bool jump.isNone) (W3.putObj l (.loop (rec (if jump.isNone then .ready else .done) jump))) ∧
          (W3.putObj l (.loop (rec (if jump.isNone then .ready else .done) jump))).heap[l]? = some (.loop (rec (if jump.isNone then .ready else .done) jump)) ∧
          Frn (U T) W3 (W3.putObj l (.loop (rec (if jump.isNone then .ready else .done) jump))) ∧
          Kps (fun b => FP b ∨ (T b ∨ (X b ∧ b ≠ l))) W (W3.putObj l (.loop (rec (if jump.isNone then .ready else .done) jump))) := fun jump W3 hk3 => by
        have hl3 := (hk3.block l (.inr (.inr hXl)) (by simpa using hlta)).trans hl2
        have hr := run_endRound (P := P) jump hl3
        have hlt3 := (Array.getElem?_eq_some_iff.1 hl3).1
        refine ⟨?_, World.putObj_heap_same hlt3, Frn.putObj W3 (T := U T) (hUX l hXl) _, (hk2.trans (hk3.mono hsub)).trans (hkeep W3 _)⟩
        rw [hrec] at hr ⊢
        exact hr
      have hbk4 : ∀ (V : World), Kps (fun b => FP b ∨ (T b ∨ (X b ∧ b ≠ l))) W V → BK T V := fun V hV => ⟨hbk.1, fun b hb hne => (hV.block b (.inr (.inr ⟨hb, hne⟩)) (hUW b (.inr hb))).trans (hbk.2.1 b hb hne), hbk.2.2.1.trans (hV.mono fun b hb => .inl hb), hbk.2.2.2⟩
      have hres : ∀ (V : World), Kps (fun b => FP b ∨ (T b ∨ (X b ∧ b ≠ l))) W V → Kps (fun b => FP b ∨ T b) W V := fun V hV => hV.mono (fun b hb => hb.elim .inl (fun h => .inr (.inl h)))
      rintro e a3 W3 hp
      cases e with
      | normal =>
        obtain ⟨hj3, hk3⟩ := hp
        obtain ⟨hr, hl4, hf4, hk4⟩ := fin none W3 hk3
        exact ⟨_, _, hr, .inl ⟨rfl, ⟨hJ.same (by simp) hj3 hf4, hbk4 _ hk4, hl4⟩, hres _ hk4⟩⟩
      | ret =>
        obtain ⟨hj3, hk3⟩ := hp
        obtain ⟨hr, hl4, hf4, hk4⟩ := fin (some .ret) W3 hk3
        exact ⟨_, _, hr, .inr ⟨rfl, ⟨.ret, (hJx _).same (by simp) hj3 hf4, hbk4 _ hk4, hl4⟩, hres _ hk4⟩⟩
      | exit id =>
        obtain ⟨hj3, hk3⟩ := hp
        obtain ⟨hr, hl4, hf4, hk4⟩ := fin (some (.exit id)) W3 hk3
        exact ⟨_, _, hr, .inr ⟨rfl, ⟨.exit id, (hJx _).same (by simp) hj3 hf4, hbk4 _ hk4, hl4⟩, hres _ hk4⟩⟩
      | goto t =>
        obtain ⟨hj3, hk3⟩ := hp
        obtain ⟨hr, hl4, hf4, hk4⟩ := fin (some (.goto t)) W3 hk3
        exact ⟨_, _, hr, .inr ⟨rfl, ⟨.goto t, (hJx _).same (by simp) hj3 hf4, hbk4 _ hk4, hl4⟩, hres _ hk4⟩⟩
      | panic ch => exact hp.elim
      | outgrown => exact hp.elim
    | ret => exact hA.elim
    | exit id => exact hA.elim
    | goto t => exact hA.elim
    | panic ch => exact hA.elim
    | outgrown => exact hA.elim
  · -- behind the iterator
    have hUb : ∀ (T : Nat → Prop) (V : World), Kps FP W1 V → (∀ b, T b → b < V.heap.size) → ∀ b, U T b → b < V.heap.size := by
      rintro T V hV hT b (h | h)
      · exact hT b h
      · exact Nat.lt_of_lt_of_le (hX b h) hV.size
    rintro e W2 ⟨hv, (⟨T', ⟨hj, hbk, hl⟩, hb⟩ | ⟨k, T', hk, hk1, ⟨c, hj, hbk, hl⟩, hb⟩)⟩
    · exact ⟨hv, .inl ⟨U T', hj, fun b h => .inr h, hUb _ _ hbk.2.2.1 hb, hbk.2.1, hbk.2.2.1, _, hl, by rw [hrec]; simp, by rw [hrec]⟩⟩
    · exact ⟨hv, .inr ⟨k, c, U T', hk, hk1, hj, fun b h => .inr h, hUb _ _ hbk.2.2.1 hb, hbk.2.1, hbk.2.2.1, _, hl, by rw [hrec]; simp, by rw [hrec]⟩⟩

/-- A range over a function, outside of every round. -/
theorem rf_law {P : Program} {FP : Nat → Prop} {encs : List (Array Value)} {gf : Nat} {lb : Array Value} {w : World} {g : Operand} {ps : Array Tmp} {assign body : Code} {Q : Exit → Act → World → Prop} {a : Act}
    (hg : a.eval g = .func (.func gf) #[] lb) (eg : ∀ args w, (callFunc gf args).run P w = .ok (.enter gf args) w)
    (hit : Iter P gf lb encs FP w) (hps : ∀ x ∈ encs, x.size = ps.size) (hFP : ∀ b, FP b → b < w.heap.size)
    (J : Nat → (Nat → Prop) → World → Prop) (Jx : Code → Nat → (Nat → Prop) → World → Prop) (hJ : Abd J) (hJx : ∀ c, Abd (Jx c))
    (h0 : J 0 (fun _ => False) w)
    (hround : ∀ l k (hk : k < encs.length) T W, J k T W → T l → (∀ b, T b → b < W.heap.size) → Kps FP w W →
      assign.wpIn (Fence.wide.inRound l) 0 P (Exit.then (fun a1 Wa => Kps (fun b => FP b ∨ T b) W Wa ∧ ∀ W2, Frn T Wa W2 → W2.heap.size = Wa.heap.size → Kps FP Wa W2 → (∃ r, W2.heap[l]? = some (.loop r)) →
        body.wpIn (Fence.wide.inRound l) 0 P (rpost FP J Jx k T W2) a1 W2) (fun _ _ _ => False))
        { tmps := (ps.zip encs[k]).foldl (fun t (p, v) => t.setIfInBounds p v) a.tmps, defers := [] } W)
    (hdone : ∀ (D : Nat) T (W : World), J encs.length T W → T D → (∀ b, T b → b < W.heap.size) → Kps FP w W → w.heap.size ≤ D → W.heap[D]? = some (.deferred (some [])) → Q .normal { a with defers := { target := .collected D, args := #[] } :: a.defers } W)
    (hstop : ∀ (D : Nat) (c : Code) k T (W : World), k ≤ encs.length → 1 ≤ k → Jx c k T W → T D → (∀ b, T b → b < W.heap.size) → Kps FP w W → w.heap.size ≤ D → W.heap[D]? = some (.deferred (some [])) → c.wpIn Fence.wide 0 P Q { a with defers := { target := .collected D, args := #[] } :: a.defers } W) :
    (Code.rangeFunc g ps assign body).wpIn Fence.wide 0 P Q a w := by
  refine wpIn_rangeFunc ?_
  intro fn _
  show ∃ _, _
  obtain ⟨W1, hW1⟩ : ∃ W1, (w.alloc (.deferred (some []))).alloc (.loop { state := .ready, pending := none, fn, tmps := a.tmps, params := ps, assign, body, defers := w.heap.size }) = W1 := ⟨_, rfl⟩
  have hL1 : W1.heap[w.heap.size + 1]? = some (.loop { state := .ready, pending := none, fn, tmps := a.tmps, params := ps, assign, body, defers := w.heap.size }) := by
    rw [← hW1]; have := World.alloc_heap_new (w.alloc (.deferred (some []))) (.loop { state := .ready, pending := none, fn, tmps := a.tmps, params := ps, assign, body, defers := w.heap.size }); rwa [World.size_alloc] at this
  have hK1 : W1.heap[w.heap.size]? = some (.deferred (some [])) := by
    rw [← hW1]; exact (Below.heap_alloc _ _ _ (by simp)).trans (World.alloc_heap_new w _)
  have hS1 : W1.heap.size = w.heap.size + 2 := by rw [← hW1]; simp
  have hb1 : Below w.heap.size w W1 := by
    rw [← hW1]; exact ((Below.refl _ w).alloc (Nat.le_refl _) _).alloc (by simp) _
  have hkF : Kps FP w W1 := Kps.of_below hb1 hFP
  have hX : (grow (fun _ => False) w W1) = fun b => b = w.heap.size + 1 ∨ b = w.heap.size := by
    funext b; apply propext; unfold grow; rw [hS1]; constructor
    · rintro (h | h)
      · exact h.elim
      · omega
    · intro h; right; omega
  have h01 := hJ 0 _ w W1 h0 (Frn.of_below hb1)
  rw [hX] at h01
  refine ⟨w.heap.size + 1, [{ target := .collected w.heap.size, args := #[] }], W1, { target := .fn (.func gf) lb, args := #[.func (.yield (w.heap.size + 1)) #[] #[]] }, W1, gf,
    #[.func (.yield (w.heap.size + 1)) #[] #[]] ++ lb, W1, ?_, ?_, ?_, ?_, fun h => by simp [Fence.wide] at h, ?_⟩
  · rw [← hW1]; exact run_enterLoop_outer _ _ _ _ _
  · simp only [resolve, hg]
    simp [go_sem]
  · intro f' _; trivial
  · simp [invoke, go_sem, eg]
  · refine (rf_core (X := fun b => b = w.heap.size + 1 ∨ b = w.heap.size) (hit.mono hkF) hps J Jx hJ hJx (by rintro b (rfl | rfl) <;> omega) (.inl rfl) (by rintro b (rfl | rfl) h <;> (have := hFP _ h; omega)) h01 hL1
      (fun k hk T W hj hXT hTW hkW => hround _ k hk T W hj (hXT _ (.inl rfl)) hTW (hkF.trans hkW))).mono ?_
    rintro e W2 ⟨⟨v, rfl⟩, (⟨T', hj, hXT, hTW, hoth, hkW, r, hl, hrb, hrp⟩ | ⟨k, c, T', hk, hk1, hj, hXT, hTW, hoth, hkW, r, hl, hrb, hrp⟩)⟩
    · have hD2 : W2.heap[w.heap.size]? = some (.deferred (some [])) := (hoth _ (.inr rfl) (by omega)).trans hK1
      have hf := Frn.putObj W2 (T := T') (hXT _ (.inl rfl)) (.loop { r with state := .exhausted })
      refine ⟨none, _, (run_endLoop (P := P) hl hrb).trans (by rw [hrp]), hdone w.heap.size T' _ (hJ.same (by simp) hj hf) (hXT _ (.inr rfl)) (by simpa using hTW) ?_ (Nat.le_refl _) ((World.putObj_heap_other (by omega)).trans hD2)⟩
      exact (hkF.trans hkW).trans ⟨rfl, rfl, rfl, by simp, fun b hb _ => World.putObj_heap_other (fun e => by have := hFP b hb; omega)⟩
    · have hD2 : W2.heap[w.heap.size]? = some (.deferred (some [])) := (hoth _ (.inr rfl) (by omega)).trans hK1
      have hf := Frn.putObj W2 (T := T') (hXT _ (.inl rfl)) (.loop { r with state := .exhausted })
      refine ⟨some c, _, (run_endLoop (P := P) hl hrb).trans (by rw [hrp]), hstop w.heap.size c k T' _ hk hk1 ((hJx c).same (by simp) hj hf) (hXT _ (.inr rfl)) (by simpa using hTW) ?_ (Nat.le_refl _) ((World.putObj_heap_other (by omega)).trans hD2)⟩
      exact (hkF.trans hkW).trans ⟨rfl, rfl, rfl, by simp, fun b hb _ => World.putObj_heap_other (fun e => by have := hFP b hb; omega)⟩

/-- What a statement leaves, said once; it goes on, in no other way. -/
theorem wpIn_cutF {F : Fence} {rm : Nat} {P : Program} {s : Code} {K : Act → World → Prop} {Q' : Exit → Act → World → Prop} {a : Act} {w : World} (R : Act → World → Prop)
    (rest : ∀ a' w', R a' w' → K a' w')
    (first : ∀ K' : Act → World → Prop, (∀ a' w', R a' w' → K' a' w') → s.wpIn F rm P (Exit.then K' (fun _ _ _ => False)) a w) : s.wpIn F rm P (Exit.then K Q') a w := by
  refine wpIn_mono (first R (fun _ _ q => q)) ?_
  intro e a' w' hq
  cases e with
  | normal => exact rest _ _ hq
  | exit id => exact hq.elim
  | goto l => exact hq.elim
  | ret => exact hq.elim
  | panic ch => exact hq.elim
  | outgrown => exact hq.elim

/-- It goes on in no other way. -/
theorem wpIn_noQ {F : Fence} {rm : Nat} {P : Program} {s : Code} {K : Act → World → Prop} {Q' : Exit → Act → World → Prop} {a : Act} {w : World}
    (h : s.wpIn F rm P (Exit.then K (fun _ _ _ => False)) a w) : s.wpIn F rm P (Exit.then K Q') a w := by
  refine wpIn_mono h ?_
  intro e a' w' hq
  cases e with
  | normal => exact hq
  | exit id => exact hq.elim
  | goto l => exact hq.elim
  | ret => exact hq.elim
  | panic ch => exact hq.elim
  | outgrown => exact hq.elim

/-- A return behind one loop over a function, behind two. -/
theorem leave1 {F : Fence} {n : Nat} {P : Program} {fn : Func} {R : Ending → World → Prop} {a : Act} {W : World} {D : Nat} {v : Value} (hd : a.defers = [{ target := .collected D, args := #[] }])
    (h1 : W.heap[D]? = some (.deferred (some []))) (hr : (results fn a.tmps).run P (W.putObj D (.deferred none)) = .ok v (W.putObj D (.deferred none))) (hR : R (.returned v) (W.putObj D (.deferred none))) : bodyPostM F n P fn R .ret a W := by
  show LeavesInM F n P fn a.tmps R a.defers .returning W
  rw [hd]
  exact ⟨by simp, .inl ⟨_, _, rfl, run_takeDeferred h1, ⟨_, hr, hR⟩⟩⟩
theorem leave2 {F : Fence} {n : Nat} {P : Program} {fn : Func} {R : Ending → World → Prop} {a : Act} {W : World} {D D' : Nat} {v : Value} (hd : a.defers = [{ target := .collected D, args := #[] }, { target := .collected D', args := #[] }])
    (h1 : W.heap[D]? = some (.deferred (some []))) (h2 : W.heap[D']? = some (.deferred (some []))) (hne : D' ≠ D)
    (hr : (results fn a.tmps).run P ((W.putObj D (.deferred none)).putObj D' (.deferred none)) = .ok v ((W.putObj D (.deferred none)).putObj D' (.deferred none)))
    (hR : R (.returned v) ((W.putObj D (.deferred none)).putObj D' (.deferred none))) : bodyPostM F n P fn R .ret a W := by
  show LeavesInM F n P fn a.tmps R a.defers .returning W
  rw [hd]
  exact ⟨by simp, .inl ⟨_, _, rfl, run_takeDeferred h1, by simp, .inl ⟨_, _, rfl, run_takeDeferred ((World.putObj_heap_other hne).trans h2), ⟨_, hr, hR⟩⟩⟩⟩

/-- A loop left by its end, or by a break out of the block around it. -/
theorem exit_or {id : Nat} {Q : Exit → Act → World → Prop} {e : Exit} {a : Act} {w : World} (he : e = .normal ∨ e = .exit id) (h : Exit.inBlock id Q .normal a w) : Exit.inBlock id Q e a w := by
  rcases he with rfl | rfl
  · exact h
  · simpa [Exit.inBlock] using h

/-- A range over a function, outside of every round, that may be left by a break: both ways meet behind it. -/
theorem rf_brk {P : Program} {FP : Nat → Prop} {encs : List (Array Value)} {gf : Nat} {lb : Array Value} {w : World} {g : Operand} {ps : Array Tmp} {assign body : Code} {Q : Exit → Act → World → Prop} {a : Act} {id : Nat}
    (hg : a.eval g = .func (.func gf) #[] lb) (eg : ∀ args w, (callFunc gf args).run P w = .ok (.enter gf args) w)
    (hit : Iter P gf lb encs FP w) (hps : ∀ x ∈ encs, x.size = ps.size) (hFP : ∀ b, FP b → b < w.heap.size)
    (J Jb : Nat → (Nat → Prop) → World → Prop) (hJ : Abd J) (hJb : Abd Jb) (Post : Nat → World → Prop)
    (h0 : J 0 (fun _ => False) w)
    (hround : ∀ l k (hk : k < encs.length) T W, J k T W → T l → (∀ b, T b → b < W.heap.size) → Kps FP w W →
      assign.wpIn (Fence.wide.inRound l) 0 P (Exit.then (fun a1 Wa => Kps (fun b => FP b ∨ T b) W Wa ∧ ∀ W2, Frn T Wa W2 → W2.heap.size = Wa.heap.size → Kps FP Wa W2 → (∃ r, W2.heap[l]? = some (.loop r)) →
        body.wpIn (Fence.wide.inRound l) 0 P (rpost FP J (fun c k T W => c = .exit id ∧ Jb k T W) k T W2) a1 W2) (fun _ _ _ => False))
        { tmps := (ps.zip encs[k]).foldl (fun t (p, v) => t.setIfInBounds p v) a.tmps, defers := [] } W)
    (hdone : ∀ (D : Nat) T (W : World), J encs.length T W → T D → (∀ b, T b → b < W.heap.size) → Kps FP w W → w.heap.size ≤ D → W.heap[D]? = some (.deferred (some [])) → Post D W)
    (hstop : ∀ (D : Nat) k T (W : World), k ≤ encs.length → 1 ≤ k → Jb k T W → T D → (∀ b, T b → b < W.heap.size) → Kps FP w W → w.heap.size ≤ D → W.heap[D]? = some (.deferred (some [])) → Post D W)
    (hrest : ∀ (D : Nat) (W : World), Post D W → Exit.inBlock id Q .normal { a with defers := { target := .collected D, args := #[] } :: a.defers } W) :
    (Code.rangeFunc g ps assign body).wpIn Fence.wide 0 P (Exit.inBlock id Q) a w := by
  refine rf_law hg eg hit hps hFP J (fun c k T W => c = .exit id ∧ Jb k T W) hJ (fun c k T W W' h hf => ⟨h.1, hJb k T W W' h.2 hf⟩) h0 hround ?_ ?_
  · intro D T W h1 h2 h3 h4 h5 h6
    exact hrest D W (hdone D T W h1 h2 h3 h4 h5 h6)
  · rintro D c k T W hk hk1 ⟨rfl, h1⟩ h2 h3 h4 h5 h6
    exact wpIn_exit (exit_or (.inr rfl) (hrest D W (hstop D k T W hk hk1 h1 h2 h3 h4 h5 h6)))

/-- A range over a function within a round of loop l₀ (which lies in block l₀). -/
theorem rf_lawN {P : Program} {FP : Nat → Prop} {encs : List (Array Value)} {gf : Nat} {lb : Array Value} {w : World} {g : Operand} {ps : Array Tmp} {assign body : Code} {Q : Exit → Act → World → Prop} {a : Act}
    {l₀ : Nat} {r₀ : Loop} (hl₀ : w.heap[l₀]? = some (.loop r₀))
    (hg : a.eval g = .func (.func gf) #[] lb) (eg : ∀ args w, (callFunc gf args).run P w = .ok (.enter gf args) w)
    (hit : Iter P gf lb encs FP w) (hps : ∀ x ∈ encs, x.size = ps.size) (hFP : ∀ b, FP b → b < w.heap.size)
    (J : Nat → (Nat → Prop) → World → Prop) (Jx : Code → Nat → (Nat → Prop) → World → Prop) (hJ : Abd J) (hJx : ∀ c, Abd (Jx c))
    (h0 : J 0 (fun _ => False) w)
    (hround : ∀ l k (hk : k < encs.length) T W, J k T W → T l → (∀ b, T b → b < W.heap.size) → Kps FP w W →
      assign.wpIn (Fence.wide.inRound l) 0 P (Exit.then (fun a1 Wa => Kps (fun b => FP b ∨ T b) W Wa ∧ ∀ W2, Frn T Wa W2 → W2.heap.size = Wa.heap.size → Kps FP Wa W2 → (∃ r, W2.heap[l]? = some (.loop r)) →
        body.wpIn (Fence.wide.inRound l) 0 P (rpost FP J Jx k T W2) a1 W2) (fun _ _ _ => False))
        { tmps := (ps.zip encs[k]).foldl (fun t (p, v) => t.setIfInBounds p v) a.tmps, defers := [] } W)
    (hdone : ∀ T (W : World), J encs.length T W → (∀ b, T b → b < W.heap.size) → Kps FP w W → Q .normal a W)
    (hstop : ∀ (c : Code) k T (W : World), k ≤ encs.length → 1 ≤ k → Jx c k T W → (∀ b, T b → b < W.heap.size) → Kps FP w W → c.wpIn (Fence.wide.inRound l₀) 0 P Q a W) :
    (Code.rangeFunc g ps assign body).wpIn (Fence.wide.inRound l₀) 0 P Q a w := by
  refine wpIn_rangeFunc ?_
  intro fn _
  show ∃ _, _
  obtain ⟨W1, hW1⟩ : ∃ W1, w.alloc (.loop { state := .ready, pending := none, fn, tmps := a.tmps, params := ps, assign, body, defers := r₀.defers }) = W1 := ⟨_, rfl⟩
  have hL1 : W1.heap[w.heap.size]? = some (.loop { state := .ready, pending := none, fn, tmps := a.tmps, params := ps, assign, body, defers := r₀.defers }) := by
    rw [← hW1]; exact World.alloc_heap_new w _
  have hS1 : W1.heap.size = w.heap.size + 1 := by rw [← hW1]; simp
  have hb1 : Below w.heap.size w W1 := by
    rw [← hW1]; exact (Below.refl _ w).alloc (Nat.le_refl _) _
  have hkF : Kps FP w W1 := Kps.of_below hb1 hFP
  have hX : (grow (fun _ => False) w W1) = fun b => b = w.heap.size := by
    funext b; apply propext; unfold grow; rw [hS1]; constructor
    · rintro (h | h)
      · exact h.elim
      · omega
    · intro h; right; omega
  have h01 := hJ 0 _ w W1 h0 (Frn.of_below hb1)
  rw [hX] at h01
  refine ⟨w.heap.size, [], W1, { target := .fn (.func gf) lb, args := #[.func (.yield w.heap.size) #[] #[]] }, W1, gf,
    #[.func (.yield w.heap.size) #[] #[]] ++ lb, W1, ?_, ?_, ?_, ?_, fun h => by simp [Fence.wide] at h, ?_⟩
  · rw [← hW1]; exact run_enterLoop_inner hl₀ _ _ _ _ _
  · simp only [resolve, hg]
    simp [go_sem]
  · intro f' _; trivial
  · simp [invoke, go_sem, eg]
  · refine CallsIn.mono (R := _) (CallsIn.inRound l₀ (rf_core (X := fun b => b = w.heap.size) (hit.mono hkF) hps J Jx hJ hJx (by rintro b rfl; omega) rfl (by rintro b rfl h; have := hFP _ h; omega) h01 hL1
      (fun k hk T W hj hXT hTW hkW => hround _ k hk T W hj (hXT _ rfl) hTW (hkF.trans hkW)))) ?_
    rintro e W2 ⟨⟨v, rfl⟩, (⟨T', hj, hXT, hTW, hoth, hkW, r, hl, hrb, hrp⟩ | ⟨k, c, T', hk, hk1, hj, hXT, hTW, hoth, hkW, r, hl, hrb, hrp⟩)⟩
    · have hf := Frn.putObj W2 (T := T') (hXT _ rfl) (.loop { r with state := .exhausted })
      refine ⟨none, _, (run_endLoop (P := P) hl hrb).trans (by rw [hrp]), hdone T' _ (hJ.same (by simp) hj hf) (by simpa using hTW) ?_⟩
      exact (hkF.trans hkW).trans ⟨rfl, rfl, rfl, by simp, fun b hb _ => World.putObj_heap_other (fun e => by have := hFP b hb; omega)⟩
    · have hf := Frn.putObj W2 (T := T') (hXT _ rfl) (.loop { r with state := .exhausted })
      refine ⟨some c, _, (run_endLoop (P := P) hl hrb).trans (by rw [hrp]), hstop c k T' _ hk hk1 ((hJx c).same (by simp) hj hf) (by simpa using hTW) ?_⟩
      exact (hkF.trans hkW).trans ⟨rfl, rfl, rfl, by simp, fun b hb _ => World.putObj_heap_other (fun e => by have := hFP b hb; omega)⟩

/-- The result stands in a variable's cell. -/
theorem results_cell1 {P : Program} {fn : Func} {p : Tmp} {ty : TypeId} (h : fn.results = #[.cell p ty]) (tmps : Array Value) (w : World) {g : Nat} {v : Value}
    (hp : tmps.getD p undef = .pointer (some ⟨g, 0, none⟩)) (hl : (loadVar ty ⟨g, 0, none⟩).run P w = .ok v w) : (results fn tmps).run P w = .ok v w := by
  have hp' : tmps[p]?.getD undef = .pointer (some ⟨g, 0, none⟩) := by simpa using hp
  simp [results, h, hp', asAddr, hl]
theorem cell_putObj {W : World} {D B : Nat} {o : Obj} (h : D ≠ B) (i : Nat) : (W.putObj D o).cell? ⟨B, i, none⟩ = W.cell? ⟨B, i, none⟩ :=
  World.cell?_of_block (w := W) (a := ⟨B, i, none⟩) (World.putObj_heap_other (Ne.symm h))

/-- A scope (of labels), at the wide fence. -/
theorem wpIn_scope_wide {P : Program} {n : Nat} {c : Code} {Q : Exit → Act → World → Prop} {a : Act} {w : World} (h : c.wpIn Fence.wide n P (Exit.noGoto Q) a w) : (Code.scope c).wpIn Fence.wide n P Q a w :=
  wpIn_wide.2 (wp_scope_straight (wpIn_wide.1 h))

/-- A contract at a call, outside of every round; and within one. -/
theorem wcall {P : Program} {f : FuncId} {args : Array Value} {w : World} {R R' : Ending → World → Prop} (h : Calls P f args w R) (hr : ∀ e w', R e w' → R' e w') :
    Fence.wide.fn f ∧ Fence.wide.depth = none ∧ CallsIn Fence.wide 0 P f args w R' := ⟨trivial, rfl, (callsIn_wide.2 h).mono hr⟩
theorem rcall {P : Program} {f : FuncId} {args : Array Value} {w : World} {R R' : Ending → World → Prop} {l : Nat} (h : Calls P f args w R) (hr : ∀ e w', R e w' → R' e w') :
    (Fence.wide.inRound l).fn f ∧ (Fence.wide.inRound l).depth = none ∧ CallsIn (Fence.wide.inRound l) 0 P f args w R' := ⟨trivial, rfl, (CallsIn.inRound l (callsIn_wide.2 h)).mono hr⟩

/-- Below n the world is as w was; the other party's blocks T lie from n on, and hold none of one's own. -/
structure Sep (n : Nat) (w : World) (own : Nat → Prop) (T : Nat → Prop) (W : World) : Prop where
  below : Below n w W
  hn : n ≤ W.heap.size
  old : ∀ b, T b → n ≤ b
  sep : ∀ b, own b → ¬ T b
  lt : ∀ b, own b → b < W.heap.size

theorem Sep.frn {n : Nat} {w W W' : World} {own T : Nat → Prop} (h : Sep n w own T W) (hf : Frn T W W') : Sep n w own (grow T W W') W' := by
  refine ⟨h.below.trans ⟨hf.os, hf.tape, hf.output, hf.size, fun b hb => hf.block b (Nat.lt_of_lt_of_le hb h.hn) (fun ht => by have := h.old b ht; omega)⟩, Nat.le_trans h.hn hf.size, ?_, ?_, fun b hb => Nat.lt_of_lt_of_le (h.lt b hb) hf.size⟩
  · rintro b (hb | ⟨hb, _⟩)
    · exact h.old b hb
    · exact Nat.le_trans h.hn hb
  · rintro b hb (ht | ⟨ht, _⟩)
    · exact h.sep b hb ht
    · have := h.lt b hb; omega
theorem Sep.same {n : Nat} {w W W' : World} {own T : Nat → Prop} (h : Sep n w own T W) (hf : Frn T W W') {b : Nat} (hb : own b) : W'.heap[b]? = W.heap[b]? := hf.block b (h.lt b hb) (h.sep b hb)
theorem Sep.frnSame {n : Nat} {w W W' : World} {own T : Nat → Prop} (h : Sep n w own T W) (hf : Frn T W W') (hs : W'.heap.size = W.heap.size) : Sep n w own T W' := by
  have := h.frn hf; rwa [grow_same hs] at this
theorem Sep.step {n : Nat} {w W W' : World} {own T : Nat → Prop} (h : Sep n w own T W) (hb : Below n W W') : Sep n w own T W' :=
  ⟨h.below.trans hb, Nat.le_trans h.hn hb.size, h.old, h.sep, fun b hb' => Nat.lt_of_lt_of_le (h.lt b hb') hb.size⟩
theorem Sep.own {n : Nat} {w W : World} {own own' T : Nat → Prop} (h : Sep n w own T W) (hT : ∀ b, T b → b < W.heap.size) {W' : World} (hb : Below n W W') (ho : ∀ b, own' b → own b ∨ (W.heap.size ≤ b ∧ b < W'.heap.size)) : Sep n w own' T W' :=
  ⟨h.below.trans hb, Nat.le_trans h.hn hb.size, h.old, fun b hb' ht => (ho b hb').elim (fun h' => h.sep b h' ht) (fun h' => by have := hT b ht; omega),
   fun b hb' => (ho b hb').elim (fun h' => Nat.lt_of_lt_of_le (h.lt b h') hb.size) (fun h' => h'.2)⟩
theorem Sep.start {n : Nat} {w W : World} {own : Nat → Prop} (hb : Below n w W) (hn : n ≤ w.heap.size) (ho : ∀ b, own b → b < W.heap.size) : Sep n w own (fun _ => False) W :=
  ⟨hb, Nat.le_trans hn hb.size, fun _ h => h.elim, fun _ _ h => h, ho⟩

/-- What stands in a box. -/
def Box (W : World) (B : Nat) (t : TypeId) (v : Value) : Prop := W.heap[B]? = some (.cells #[v] t (0, 0))
theorem Box.cell {W : World} {B : Nat} {t : TypeId} {v : Value} (h : Box W B t v) : W.cell? ⟨B, 0, none⟩ = some v := Boxed.cell h
theorem Box.free {W : World} {B : Nat} {t : TypeId} {v : Value} (h : Box W B t v) : W.frozen? ⟨B, 0, none⟩ = false := Boxed.frozen h
theorem Box.lt {W : World} {B : Nat} {t : TypeId} {v : Value} (h : Box W B t v) : B < W.heap.size := Boxed.lt h
theorem Box.new (W : World) (t : TypeId) (v : Value) : Box (W.alloc (.cells #[v] t)) W.heap.size t v := Boxed.new W t v
theorem Box.alloc {W : World} {B : Nat} {t : TypeId} {v : Value} (h : Box W B t v) (o : Obj) : Box (W.alloc o) B t v := (Below.heap_alloc W o B h.lt).trans h
theorem Box.kept {W W' : World} {B : Nat} {t : TypeId} {v : Value} (h : Box W B t v) (e : W'.heap[B]? = W.heap[B]?) : Box W' B t v := e.trans h
theorem Box.below {W W' : World} {n B : Nat} {t : TypeId} {v : Value} (h : Box W B t v) (hb : Below n W W') (hl : B < n) : Box W' B t v := (hb.block B hl).trans h
theorem Box.set {W : World} {B : Nat} {t : TypeId} {v : Value} (h : Box W B t v) (u : Value) : Box (W.setCell ⟨B, 0, none⟩ u) B t u := by
  unfold Box at *
  show (W.heap.modify B _)[B]? = _
  rw [Array.getElem?_modify, if_pos rfl, h]
  simp
theorem Box.other {W : World} {B B' : Nat} {t : TypeId} {v : Value} (h : Box W B t v) (hne : B ≠ B') (u : Value) (i : Nat) : Box (W.setCell ⟨B', i, none⟩ u) B t v := (Below.heap_setCell W ⟨B', i, none⟩ u B hne).trans h

theorem below_putObj {n : Nat} {a W : World} (h : Below n a W) {l : Nat} (hl : n ≤ l) (o : Obj) : Below n a (W.putObj l o) :=
  h.trans ⟨rfl, rfl, rfl, by simp, fun k hk => World.putObj_heap_other (by omega)⟩

end Go.Proofs.Ytenmogokbelahaa
