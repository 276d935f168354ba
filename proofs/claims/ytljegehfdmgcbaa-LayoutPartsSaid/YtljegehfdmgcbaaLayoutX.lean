/- What the law of parts knows between its loops. -/
import Derived.Test.YtljegehfdmgcbaaLayoutN
import Derived.Test.YtljegehfdmgcbaaLayoutV
import Derived.Test.YtljegehfdmgcbaaLayoutW
import Derived.Test.YtljegehfdmgcbaaAgg
namespace Go.Proofs.Ytljegehfdmgcbaa
open Go Go.RowKit

theorem RdS.widen {α : Type} {B B' : Nat} {w : World} {p : Option Addr} {cap c : Nat} {enc : α → List Value} {ys : List α} (h : RdS B w p cap c enc ys) (hB : B ≤ B') : RdS B' w p cap c enc ys := by
  obtain ⟨h1, h2, h3⟩ := h
  refine ⟨h1, h2, h3.imp id ?_⟩
  rintro ⟨b, off, hp, hb, hc⟩
  exact ⟨b, off, hp, Nat.lt_of_lt_of_le hb hB, hc⟩
theorem RdS.keptB {α : Type} {B : Nat} {w w' : World} {p : Option Addr} {cap c : Nat} {enc : α → List Value} {ys : List α} (h : RdS B w p cap c enc ys) (hb : Below B w w') : RdS B w' p cap c enc ys :=
  h.keep fun b hi => hb.block b (h.inlt hi)
def vnL (k : Nat) : Value := .int .i64 (k : Int)
/-- How many rounds there are where one leaves behind so many. -/
def LeaveAtL (many : Int) (len m : Nat) : Prop := (many ≤ 1 ∧ m ≤ 1 ∧ m ≤ len ∧ (m = 1 ∨ m = len)) ∨ (1 < many ∧ (m : Int) ≤ many ∧ m ≤ len ∧ ((m : Int) = many ∨ m = len))
structure PL (w : World) (zs : List Itm) (l : Lay) (many : Int) (Bw Bs bt : Nat) (qw : Option Addr) (dw : Nat) (qa : Option Addr) (da : Nat) (turn : Nat) (W : World) : Prop where
  at_ : At w.heap.size w W
  lw : w.heap.size + 4 ≤ Bw
  ls : w.heap.size + 4 ≤ Bs
  ltw : Bw + 1 < bt
  lts : Bs < bt
  bm : Box W (w.heap.size + 2) 3 (.int .i64 many)
  br : Box W (w.heap.size + 3) 4 (.bool false)
  bw : Box W Bw 61 (.slice qw zs.length dw)
  ba : Box W (Bw + 1) 62 (.slice qa zs.length da)
  bs : LayAt W Bs l
  tn : Box W bt 3 (vnL turn)
  rw : RdS bt W qw dw 2 pe (zs.map (·.2))
  ra : RdS bt W qa da 1 ie (zs.map (·.1))
/-- Another block that turns. -/
theorem PL.kept {w : World} {zs : List Itm} {l : Lay} {many : Int} {Bw Bs bt : Nat} {qw : Option Addr} {dw : Nat} {qa : Option Addr} {da : Nat} {turn : Nat} {W W' : World} {X T : Nat → Prop} (h : PL w zs l many Bw Bs bt qw dw qa da turn W) (hk : Keep X W T W')
    (hX : ∀ b, X b → bt < b) : PL w zs l many Bw Bs bt qw dw qa da turn W' := by
  have h1 := h.lw
  have h2 := h.ls
  have h3 := h.ltw
  have h4 := h.lts
  have nx : ∀ b, b ≤ bt → ¬ X b := fun b hb hx => by have := hX b hx; omega
  have hbl := h.tn.lt
  exact ⟨hk.at h.at_ (fun b hb => by have := hX b hb; omega), h1, h2, h3, h4, hk.box h.bm (nx _ (by omega)), hk.box h.br (nx _ (by omega)), hk.box h.bw (nx _ (by omega)), hk.box h.ba (nx _ (by omega)),
    (hk.frn.block Bs (by omega) (nx _ (by omega))).trans h.bs, hk.box h.tn (nx _ (by omega)),
    h.rw.keep fun b hb => hk.frn.block _ (by have := h.rw.inlt hb; omega) (nx _ (by have := h.rw.inlt hb; omega)),
    h.ra.keep fun b hb => hk.frn.block _ (by have := h.ra.inlt hb; omega) (nx _ (by have := h.ra.inlt hb; omega))⟩
/-- Another variable of turns. -/
theorem PL.next {w : World} {zs : List Itm} {l : Lay} {many : Int} {Bw Bs bt : Nat} {qw : Option Addr} {dw : Nat} {qa : Option Addr} {da : Nat} {turn : Nat} {W : World} (h : PL w zs l many Bw Bs bt qw dw qa da turn W) (t : Nat) :
    PL w zs l many Bw Bs W.heap.size qw dw qa da t (W.alloc (.cells #[.int .i64 (t : Int)] 3)) := by
  have h2 := h.kept (X := fun _ => False) (T := fun _ => False) ((Keep.start _ _).alloc (Obj.cells #[Value.int IntKind.i64 t] 3)) (fun _ h => h.elim)
  have hl := h.tn.lt
  exact ⟨h2.at_, h2.lw, h2.ls, by have := h2.ltw; omega, by have := h2.lts; omega, h2.bm, h2.br, h2.bw, h2.ba, h2.bs, Box.new _ _ _, h2.rw.widen (Nat.le_of_lt hl), h2.ra.widen (Nat.le_of_lt hl)⟩
theorem PL.at2 {w : World} {zs : List Itm} {l : Lay} {many : Int} {Bw Bs bt : Nat} {qw : Option Addr} {dw : Nat} {qa : Option Addr} {da : Nat} {turn : Nat} {W : World} (h : PL w zs l many Bw Bs bt qw dw qa da turn W) (k : Nat) (hk : k < zs.length) :
    (∃ b off, qw = some ⟨b, off, none⟩ ∧ b < bt ∧ W.cell? ⟨b, off + k * 2, none⟩ = some (.int .i64 zs[k].2.1) ∧ W.cell? ⟨b, off + k * 2 + 1, none⟩ = some (.int .i64 zs[k].2.2)) ∧
    (∃ b off, qa = some ⟨b, off, none⟩ ∧ b < bt ∧ W.cell? ⟨b, off + k, none⟩ = some (.int .i64 zs[k].1)) := by
  constructor
  · obtain ⟨h1, h2, h3⟩ := h.rw
    rcases h3 with h3 | ⟨b, off, hp, hb, hc⟩
    · rw [List.length_map] at h1; omega
    · refine ⟨b, off, hp, hb, ?_, ?_⟩
      · exact hc k (by simpa using hk) 0 _ (by simp [pe])
      · have := hc k (by simpa using hk) 1 (.int .i64 zs[k].2.2) (by simp [pe])
        rwa [show off + (k * 2 + 1) = off + k * 2 + 1 by omega] at this
  · obtain ⟨h1, h2, h3⟩ := h.ra
    rcases h3 with h3 | ⟨b, off, hp, hb, hc⟩
    · rw [List.length_map] at h1; omega
    · refine ⟨b, off, hp, hb, ?_⟩
      have := hc k (by simpa using hk) 0 (.int .i64 zs[k].1) (by simp [ie])
      rwa [show off + (k * 1 + 0) = off + k by omega] at this
theorem part_neq (x y : Int) (W : World) : (binOp .neq 46 (.agg #[.int .i64 x, .int .i64 y]) (.agg #[.int .i64 x, .int .i64 y])).run Try.prog W = .ok (.bool false) W := by
  simp [go_sem]
end Go.Proofs.Ytljegehfdmgcbaa
