/- Plain helpers of this claim's texts: what a loop over a function keeps: all blocks that lay ahead of it but those of X. -/
import Derived.Test.YtenmogokbelahaaMem
import Derived.Test.YtenmogokbelahaaApp
namespace Go.Proofs.Ytenmogokbelahaa
open Go Go.RowKit

/-- Of what lay in W only blocks of X have turned; the other party's blocks T were made since. -/
structure Keep (X : Nat → Prop) (W : World) (T : Nat → Prop) (W' : World) : Prop where
  frn : Frn X W W'
  old : ∀ b, T b → W.heap.size ≤ b
theorem Keep.start (X : Nat → Prop) (W : World) : Keep X W (fun _ => False) W := ⟨Frn.refl _ _, fun _ h => h.elim⟩
theorem Keep.own {X : Nat → Prop} {W : World} {T : Nat → Prop} {W' W'' : World} (h : Keep X W T W') (hf : Frn T W' W'') {b : Nat} (hb : b < W.heap.size) : W''.heap[b]? = W'.heap[b]? :=
  hf.block b (Nat.lt_of_lt_of_le hb h.frn.size) (fun ht => by have := h.old b ht; omega)
theorem Keep.go {X : Nat → Prop} {W : World} {T : Nat → Prop} {W' W'' : World} (h : Keep X W T W') (hf : Frn T W' W'') : Keep X W (grow T W' W'') W'' :=
  ⟨⟨hf.os.trans h.frn.os, hf.tape.trans h.frn.tape, hf.output.trans h.frn.output, Nat.le_trans h.frn.size hf.size, fun b hb hn => (h.own hf hb).trans (h.frn.block b hb hn)⟩,
   fun b hb => hb.elim (h.old b) (fun h2 => Nat.le_trans h.frn.size h2.1)⟩
theorem Keep.goSame {X : Nat → Prop} {W : World} {T : Nat → Prop} {W' W'' : World} (h : Keep X W T W') (hf : Frn T W' W'') (hs : W''.heap.size = W'.heap.size) : Keep X W T W'' := by
  have := h.go hf; rwa [grow_same hs] at this
theorem Keep.set {X : Nat → Prop} {W : World} {T : Nat → Prop} {W' : World} (h : Keep X W T W') (p : Addr) (hp : X p.block ∨ W.heap.size ≤ p.block) (u : Value) : Keep X W T (W'.setCell p u) :=
  ⟨h.frn.setCell p hp u, h.old⟩
theorem Keep.below {X : Nat → Prop} {W : World} {T : Nat → Prop} {W' W'' : World} (h : Keep X W T W') (hb : Below W'.heap.size W' W'') : Keep X W T W'' :=
  ⟨h.frn.trans (Frn.of_below hb), h.old⟩
theorem Keep.drewN {X : Nat → Prop} {W : World} {T : Nat → Prop} {W' : World} (h : Keep X W T W') (n : Nat) : Keep X W T (W'.drewN n) := ⟨h.frn.drewN n, h.old⟩
theorem Keep.alloc {X : Nat → Prop} {W : World} {T : Nat → Prop} {W' : World} (h : Keep X W T W') (o : Obj) : Keep X W T (W'.alloc o) := ⟨h.frn.allocR o, h.old⟩
theorem Keep.box {X : Nat → Prop} {W : World} {T : Nat → Prop} {W' : World} (h : Keep X W T W') {B : Nat} {t : TypeId} {v : Value} (hb : Box W B t v) (hx : ¬ X B) : Box W' B t v :=
  hb.kept (h.frn.block B hb.lt hx)
theorem Keep.at {n : Nat} {w : World} {X : Nat → Prop} {W : World} {T : Nat → Prop} {W' : World} (h : Keep X W T W') (hA : At n w W) (hX : ∀ b, X b → n ≤ b) : At n w W' :=
  ⟨hA.1.trans (h.frn.below hA.2 hX), Nat.le_trans hA.2 h.frn.size⟩
theorem Keep.rdl {α : Type} {X : Nat → Prop} {W : World} {T : Nat → Prop} {W' : World} {p : Option Addr} {cap : Nat} {enc : α → Value} {ys : List α} (h : Keep X W T W') (hr : RdL W.heap.size W p cap enc ys) (hX : ∀ b, X b → ¬ inP p cap b) : RdL W'.heap.size W' p cap enc ys :=
  (hr.keep (fun a ha h0 => h.frn.block _ (hr.lt ha h0) (fun hx => hX _ hx ⟨a, ha, rfl, h0⟩))).wide h.frn.size
/-- A store into a block that is neither read by the iterator nor another party's. -/
theorem kps_set {FP T : Nat → Prop} {W : World} (p : Addr) (h1 : ¬ FP p.block) (h2 : ¬ T p.block) (u : Value) : Kps (fun b => FP b ∨ T b) W (W.setCell p u) :=
  Kps.setCell (Kps.refl _ _) p (fun h => h.elim h1 h2) u
theorem Keep.notT {X : Nat → Prop} {W : World} {T : Nat → Prop} {W' : World} (h : Keep X W T W') {b : Nat} (hb : b < W.heap.size) : ¬ T b := fun ht => by have := h.old b ht; omega

end Go.Proofs.Ytenmogokbelahaa
