/- Plain helpers: loads and stores of arrays and structs as a whole, within a fence and in regions that draw (after Derived.Deep.MidRow). -/
import Derived.Test.YtenmogokbelahaaLib
import Derived.Test.YtenmogokbelahaaQuietR
import Derived.Deep.MidRow
namespace Go.Proofs.Ytenmogokbelahaa
open Go Go.RowKit

section
variable {F : Fence} {n : Nat} {P : Program} {ops : Array Oper} {C : World → Prop}
/-- A load of an array or struct in a quiet region. -/
theorem wpQuietIn_load_mid {Q : Act → Prop} {rest : List Oper} {o : Oper} {a : Act} (hw : Region.wanted o (yielded ops a.tmps) = true) (ty : TypeId) (x : Operand) (ho : o.op = .load ty x)
    (b off : Nat) (hx : a.eval x = .pointer (some ⟨b, off, none⟩)) (cs : List Value) (d : TypeDesc) (hC : ∀ w, C w → w.rangeAt b off cs)
    (hu : P.underlying ty = some d) (hd : d.isRow = true) (hi : (P.info? ty).map (·.size) = some cs.length)
    (h : wpQuietIn F n P ops C Q rest (a.put o.dst (.agg cs.toArray))) : wpQuietIn F n P ops C Q (o :: rest) a := by
  refine BigFrame.wpQuietIn_want (BigFrame.askedIn_plain (fun c hc => by rw [ho] at hc; cases hc)) hw fun K hK => ⟨.agg cs.toArray, fun w hw' => ?_, hK _ h⟩
  unfold Oper.quietAtIn execOp
  simp only [ho, hx, Instr.loadAt, Instr.sureAddr, Sem.run_bind, Sem.run_pure, Result.andThen_ok, run_loadVar_mid w b off ty cs d (hC w hw') hu hd hi]
  exact ⟨rfl, rfl⟩
theorem wpIn_of_run {K : Act → World → Prop} {Q : Exit → Act → World → Prop} {o : Oper} {a : Act} {w w' : World} {x : Next} (hp : plainOp o = true) (hab : o.about P w a.eval = none) (hr : (execOp a.eval o).run P w = .ok x w')
    (h : Oper.uponIn F n P o a K Q (.ok x w')) : o.wpIn F n P a w K Q := by
  unfold Oper.wpIn
  refine ⟨fun f hf => (by rw [hab] at hf; cases hf), ?_⟩
  rw [Oper.semAt_plain F _ _ (plainOp_spec hp), hr]
  exact h
theorem wpListIn_load_mid {Q : Exit → Act → World → Prop} {rest : List Oper} {o : Oper} {a : Act} {w : World} (hgd : o.guard = none) (ty : TypeId) (x : Operand) (ho : o.op = .load ty x)
    (b off : Nat) (hx : a.eval x = .pointer (some ⟨b, off, none⟩)) (cs : List Value) (d : TypeDesc) (hc : w.rangeAt b off cs)
    (hu : P.underlying ty = some d) (hd : d.isRow = true) (hi : (P.info? ty).map (·.size) = some cs.length)
    (h : wpListIn F n P ops Q rest (a.put o.dst (.agg cs.toArray)) w) : wpListIn F n P ops Q (o :: rest) a w :=
  wpListIn_plain hgd fun K hK => by
    refine wpIn_of_run (x := .value (.agg cs.toArray)) (w' := w) (by simp [plainOp, ho]) (by simp [Oper.about, ho]) ?_ ?_
    · unfold execOp
      simp only [ho, hx, Instr.loadAt, Instr.sureAddr, Sem.run_bind, Sem.run_pure, Result.andThen_ok, run_loadVar_mid w b off ty cs d hc hu hd hi]
    · exact hK _ _ h
theorem wpListIn_store_mid {Q : Exit → Act → World → Prop} {rest : List Oper} {op : Oper} {a : Act} {w : World} (hgd : op.guard = none) (ty : TypeId) (x y : Operand) (ho : op.op = .store ty x y)
    (b o : Nat) (cells : Array Value) (hx : a.eval x = .pointer (some ⟨b, o, none⟩)) (hy : a.eval y = .agg cells)
    (ht : w.there b o cells.size) (hi : (P.info? ty).map (·.size) = some cells.size) (h1 : cells.all (·.oneCell') = true)
    (h : wpListIn F n P ops Q rest (a.put op.dst undef) (w.setCells b o cells.toList)) : wpListIn F n P ops Q (op :: rest) a w :=
  wpListIn_plain hgd fun K hK => by
    refine wpIn_of_run (x := .skip) (w' := w.setCells b o cells.toList) (by simp [plainOp, ho]) (by simp [Oper.about, ho]) ?_ ?_
    · unfold execOp
      simp only [ho, hx, hy, Instr.storeAt, Instr.sureAddr, Sem.run_bind, Sem.run_pure, Result.andThen_ok, run_storeVar_mid w b o ty cells ht hi h1]
    · exact hK _ _ h
end
theorem rangeAt2 {w : World} {b o : Nat} {x y : Value} (h0 : w.cell? ⟨b, o, none⟩ = some x) (h1 : w.cell? ⟨b, o + 1, none⟩ = some y) : w.rangeAt b o [x, y] := by
  intro j v hv
  match j with
  | 0 => simp at hv; subst hv; exact h0
  | 1 => simp at hv; subst hv; exact h1
  | j + 2 => simp at hv
end Go.Proofs.Ytenmogokbelahaa
