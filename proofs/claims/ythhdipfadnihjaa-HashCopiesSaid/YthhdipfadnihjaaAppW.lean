/- Plain helpers: appends within a region that draws its order, behind a guard. -/
import Derived.Test.YthhdipfadnihjaaApp
import Derived.Deep.RegionLaw
namespace Go.Proofs.Ythhdipfadnihjaa
open Go Go.RowKit

theorem stepW_appendR {P : Program} {K : Act → World → Prop} {E : Prop} {w : World} {ops : Array Oper} {o : Oper} {a : Act} {Q : Exit → Act → World → Prop} (hw : Region.wanted o (yielded ops a.tmps) = true) (s x : Operand) (t : TypeId)
    (hop : o.op = .call { callee := .builtin .append, args := #[s, x], argTypes := #[t, t] }) {e : TypeId} {z : Value} {bytes : Nat} (he : ElemIs P t e z 1 bytes)
    {α : Type} (enc : α → Value) (base : Nat) (zs ys : List α) (v : Value) (hs : a.eval s = v) (p : Option Addr) (cap B : Nat) (hx : a.eval x = .slice p ys.length cap) (hown : w.ownsRow base e 1 v zs.length (zs.map enc)) (hrd : RdL B w p cap enc ys)
    (h1 : ∀ y, (enc y).oneCell' = true) (hn : zs.length + ys.length < 1000000000) (hby : bytes ≤ 1000) (hbase : base ≤ w.heap.size)
    (h : ∀ v' w', w'.ownsRow base e 1 v' (zs ++ ys).length ((zs ++ ys).map enc) → w.grownBy w' v.ownBlock → Blk w v v' → K (a.put o.dst v') w') : if Region.wanted o (yielded ops a.tmps) = true then Oper.wp P o a w K Q else E := by
  rw [if_pos hw]
  refine wp_append_src s x t hop he base v zs.length (zs.map enc) hs hown _ ys.length (ys.map enc) hx (src_rdl hrd) (by simp) (by simpa using fun y _ => h1 y) (by unfold maxLen; omega) ?_ hbase ?_
  · have : (zs.length + ys.length) * bytes ≤ 1000000000 * 1000 := Nat.mul_le_mul (by omega) hby
    omega
  · intro v' w' h2 h3 _ h5
    exact h v' w' (by simpa using h2) h3 h5
theorem stepW_append0 {P : Program} {K : Act → World → Prop} {E : Prop} {w : World} {ops : Array Oper} {o : Oper} {a : Act} {Q : Exit → Act → World → Prop} (hw : Region.wanted o (yielded ops a.tmps) = true) (s x : Operand) (t : TypeId)
    (hop : o.op = .call { callee := .builtin .append, args := #[s, x], argTypes := #[t, t] }) {e : TypeId} {z : Value} {bytes : Nat} (he : ElemIs P t e z 1 bytes)
    {α : Type} (enc : α → Value) (base : Nat) (ys : List α) (v : Value) (hs : a.eval s = v) (p : Option Addr) (cap B : Nat) (hx : a.eval x = .slice p ys.length cap) (hown : w.ownsRow base e 1 v 0 []) (hrd : RdL B w p cap enc ys)
    (h1 : ∀ y, (enc y).oneCell' = true) (hn : ys.length < 1000000000) (hby : bytes ≤ 1000) (hbase : base ≤ w.heap.size)
    (h : ∀ v' w', w'.ownsRow base e 1 v' ys.length (ys.map enc) → w.grownBy w' v.ownBlock → Blk w v v' → K (a.put o.dst v') w') : if Region.wanted o (yielded ops a.tmps) = true then Oper.wp P o a w K Q else E :=
  stepW_appendR hw s x t hop he enc base [] ys v hs p cap B hx hown hrd h1 (by simpa using hn) hby hbase h
end Go.Proofs.Ythhdipfadnihjaa
