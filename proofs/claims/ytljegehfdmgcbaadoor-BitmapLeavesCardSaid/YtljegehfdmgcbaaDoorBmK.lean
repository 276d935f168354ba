/- What the law of leaving the runs knows between its loops. -/
import Derived.Test.YtljegehfdmgcbaaDoorBmJ
namespace Go.Proofs.YtljegehfdmgcbaaDoor
open Go Go.RowKit

/-- How many rounds there are where one leaves behind so many. -/
def LeaveAtB (many : Int) (len m : Nat) : Prop := (many ≤ 1 ∧ m ≤ 1 ∧ m ≤ len ∧ (m = 1 ∨ m = len)) ∨ (1 < many ∧ (m : Int) ≤ many ∧ m ≤ len ∧ ((m : Int) = many ∨ m = len))
structure PR (w : World) (zs : List Run2) (many : Int) (Bw Bs bt O g c : Nat) (ws : List (BitVec 64)) (n : Nat) (qw : Option Addr) (dw : Nat) (turn : Nat) (W : World) : Prop where
  at_ : At w.heap.size w W
  lw : w.heap.size + 2 ≤ Bw
  ls : w.heap.size + 2 ≤ Bs
  ltw : Bw < bt
  lts : Bs < bt
  ltO : O < bt
  ltg : g < bt
  bm : Box W w.heap.size 3 (.int .i64 many)
  br : Box W (w.heap.size + 1) 4 (.bool false)
  bw : Box W Bw 33 (.slice qw zs.length dw)
  bs : Box W Bs 24 (.pointer (some ⟨O, 0, none⟩))
  mp : BmAt W O g c ws n
  tn : Box W bt 3 (vnB turn)
  rw : RdS bt W qw dw 2 rc2 zs
theorem RdS.widenB {α : Type} {B B' : Nat} {w : World} {p : Option Addr} {cap c : Nat} {enc : α → List Value} {ys : List α} (h : RdS B w p cap c enc ys) (hB : B ≤ B') : RdS B' w p cap c enc ys := by
  obtain ⟨h1, h2, h3⟩ := h
  refine ⟨h1, h2, h3.imp id ?_⟩
  rintro ⟨b, off, hp, hb, hc⟩
  exact ⟨b, off, hp, Nat.lt_of_lt_of_le hb hB, hc⟩
/-- Another block that turns. -/
theorem PR.kept {w : World} {zs : List Run2} {many : Int} {Bw Bs bt O g c : Nat} {ws : List (BitVec 64)} {n : Nat} {qw : Option Addr} {dw : Nat} {turn : Nat} {W W' : World} {X T : Nat → Prop} (h : PR w zs many Bw Bs bt O g c ws n qw dw turn W) (hk : Keep X W T W')
    (hX : ∀ b, X b → bt < b) : PR w zs many Bw Bs bt O g c ws n qw dw turn W' := by
  have h1 := h.lw
  have h2 := h.ls
  have h3 := h.ltw
  have h4 := h.lts
  have h5 := h.ltO
  have h6 := h.ltg
  have nx : ∀ b, b ≤ bt → ¬ X b := fun b hb hx => by have := hX b hx; omega
  have hbl := h.tn.lt
  exact ⟨hk.at h.at_ (fun b hb => by have := hX b hb; omega), h1, h2, h3, h4, h5, h6, hk.box h.bm (nx _ (by omega)), hk.box h.br (nx _ (by omega)), hk.box h.bw (nx _ (by omega)), hk.box h.bs (nx _ (by omega)),
    h.mp.keep (hk.frn.block O (by omega) (nx _ (by omega))) (hk.frn.block g (by omega) (nx _ (by omega))), hk.box h.tn (nx _ (by omega)),
    h.rw.keep fun b hb => hk.frn.block _ (by have := h.rw.inlt hb; omega) (nx _ (by have := h.rw.inlt hb; omega))⟩
/-- Another variable of turns. -/
theorem PR.next {w : World} {zs : List Run2} {many : Int} {Bw Bs bt O g c : Nat} {ws : List (BitVec 64)} {n : Nat} {qw : Option Addr} {dw : Nat} {turn : Nat} {W : World} (h : PR w zs many Bw Bs bt O g c ws n qw dw turn W) (t : Nat) :
    PR w zs many Bw Bs W.heap.size O g c ws n qw dw t (W.alloc (.cells #[.int .i64 (t : Int)] 3)) := by
  have h2 := h.kept (X := fun _ => False) (T := fun _ => False) ((Keep.start _ _).alloc (Obj.cells #[Value.int IntKind.i64 t] 3)) (fun _ h => h.elim)
  have hl := h.tn.lt
  exact ⟨h2.at_, h2.lw, h2.ls, by have := h2.ltw; omega, by have := h2.lts; omega, by have := h2.ltO; omega, by have := h2.ltg; omega, h2.bm, h2.br, h2.bw, h2.bs, h2.mp, Box.new _ _ _, h2.rw.widenB (Nat.le_of_lt hl)⟩
end Go.Proofs.YtljegehfdmgcbaaDoor
