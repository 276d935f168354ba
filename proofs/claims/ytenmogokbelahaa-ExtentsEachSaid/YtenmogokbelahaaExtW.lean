/- Plain helpers of the law ExtentsEach. -/
import Derived.Test.YtenmogokbelahaaExtV
import Derived.Test.YtenmogokbelahaaPlanA
import Derived.Test.YtenmogokbelahaaLawExtents
namespace Go.Proofs.Ytenmogokbelahaa
open Go Go.RowKit

/-- Numbers as values. -/
def vnE (n : Nat) : Value := .int .i64 (n : Int)
/-- How the first turn is left. -/
def LeaveAtE (many : Int) (len m : Nat) : Prop := (many ≤ 1 ∧ m ≤ 1 ∧ m ≤ len ∧ (m = 1 ∨ m = len)) ∨ (1 < many ∧ (m : Int) ≤ many ∧ m ≤ len ∧ ((m : Int) = many ∨ m = len))
/-- What stands while the turns run: n's box, the result's box, the reference's table, the box of the list of blocks, the table, the turn's box. -/
structure PE (w : World) (t tm : List Int) (zs : List Nat) (many : Int) (Bm Bw Bs bt : Nat) (qw : Option Addr) (dw : Nat) (turn : Nat) (W : World) : Prop where
  at_ : At w.heap.size w W
  lm : w.heap.size + 2 ≤ Bm
  lw : w.heap.size + 2 ≤ Bw
  ls : w.heap.size + 2 ≤ Bs
  ltm : Bm < bt
  ltw : Bw < bt
  lts : Bs < bt
  bm : Box W w.heap.size 3 (.int .i64 many)
  br : Box W (w.heap.size + 1) 4 (.bool false)
  mt : TabAt W Bm 95 tm
  bw : Box W Bw 43 (.slice qw zs.length dw)
  bs : TabAt W Bs 132 t
  tn : Box W bt 3 (vnE turn)
  rw : RdL bt W qw dw vnE zs
/-- Another block that turns. -/
theorem PE.kept {w : World} {t tm : List Int} {zs : List Nat} {many : Int} {Bm Bw Bs bt : Nat} {qw : Option Addr} {dw : Nat} {turn : Nat} {W W' : World} {X T : Nat → Prop} (h : PE w t tm zs many Bm Bw Bs bt qw dw turn W) (hk : Keep X W T W')
    (hX : ∀ b, X b → bt < b) : PE w t tm zs many Bm Bw Bs bt qw dw turn W' := by
  have h0 := h.lm
  have h1 := h.lw
  have h2 := h.ls
  have h5 := h.ltm
  have h3 := h.ltw
  have h4 := h.lts
  have nx : ∀ b, b ≤ bt → ¬ X b := fun b hb hx => by have := hX b hx; omega
  have hbl := h.tn.lt
  exact ⟨hk.at h.at_ (fun b hb => by have := hX b hb; omega), h0, h1, h2, h5, h3, h4, hk.box h.bm (nx _ (by omega)), hk.box h.br (nx _ (by omega)), h.mt.keep (hk.frn.block _ (by omega) (nx _ (by omega))), hk.box h.bw (nx _ (by omega)), h.bs.keep (hk.frn.block _ (by omega) (nx _ (by omega))), hk.box h.tn (nx _ (by omega)), h.rw.keep fun a ha hc => hk.frn.block _ (by have := h.rw.lt ha hc; omega) (nx _ (by have := h.rw.lt ha hc; omega))⟩
/-- Another variable of turns. -/
theorem PE.next {w : World} {t tm : List Int} {zs : List Nat} {many : Int} {Bm Bw Bs bt : Nat} {qw : Option Addr} {dw : Nat} {turn : Nat} {W : World} (h : PE w t tm zs many Bm Bw Bs bt qw dw turn W) (k : Nat) :
    PE w t tm zs many Bm Bw Bs W.heap.size qw dw k (W.alloc (.cells #[.int .i64 (k : Int)] 3)) := by
  have h2 := h.kept (X := fun _ => False) (T := fun _ => False) ((Keep.start _ _).alloc (Obj.cells #[Value.int IntKind.i64 k] 3)) (fun _ h => h.elim)
  have hl := h.tn.lt
  exact ⟨h2.at_, h2.lm, h2.lw, h2.ls, by have := h2.ltm; omega, by have := h2.ltw; omega, by have := h2.lts; omega, h2.bm, h2.br, h2.mt, h2.bw, h2.bs, Box.new _ _ _, h2.rw.wide (Nat.le_of_lt hl)⟩
theorem funcX_nil (W : World) (k : Nat) : (binOp .eql 99 (.func (.func 84) #[] #[.pointer (some ⟨k, 0, none⟩)]) .nilFunc).run Try.prog W = .ok (.bool false) W := by kernel_rfl
end Go.Proofs.Ytenmogokbelahaa
