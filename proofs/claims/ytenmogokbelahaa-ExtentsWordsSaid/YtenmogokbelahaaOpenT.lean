/- Opening an argument: an array of ten words; the law ExtentsWords at the statement's own rows. -/
import Derived.Test.YtenmogokbelahaaOpen
import Derived.Test.YtenmogokbelahaaLawExtentsWords
namespace Go.Proofs.Ytenmogokbelahaa
open Go Go.RowKit Go.ChangeShapes Go.WideShapes Go.Deep

/-- Ten words. -/
abbrev W10 := { ws : List (BitVec 64) // ws.length = 10 }
theorem flat_ten {P : Program} {t e : TypeId} (ht : P.underlying t = some (.array 10 e)) (hc : P.cellsOf t = 10) (he : FlatOf P e 1 (fun y : BitVec 64 => [vw y])) :
    FlatOf P t 10 (fun y : W10 => tw y.1) := by
  refine ⟨hc, fun y => (tw_len y.1).trans y.2, fun {H en w base spare held fuel cs x} h => ?_⟩
  obtain ⟨xs, m, _, _, hl, hx, hf⟩ := DataW.trod_array ht h
  rw [hc] at hl
  have hg : ∀ i, i < 10 → ∃ y : BitVec 64, cs[i]? = some (vw y) := by
    intro i hi
    have h0 := hf i hi
    rw [he.cells, List.getElem?_eq_getElem (by omega)] at h0
    obtain ⟨y, ey⟩ := he.read h0
    refine ⟨y, ?_⟩
    have h2 : ((cs.drop (i * 1)).take 1)[0]? = some (vw y) := by rw [ey]; rfl
    rw [Nat.mul_one, List.getElem?_take_of_lt (by omega), List.getElem?_drop] at h2
    simpa using h2
  refine ⟨⟨(List.range 10).map (fun i => if hi : i < 10 then (hg i hi).choose else 0#64), by simp⟩, ?_⟩
  apply List.ext_getElem?
  intro i
  by_cases hi : i < 10
  · rw [(hg i hi).choose_spec]
    simp [tw, hi]
  · rw [List.getElem?_eq_none (by omega), List.getElem?_eq_none (by rw [tw_len]; simp; omega)]
theorem lawExtentsWords_of {α : Type} {enc : α → List Value} (p : Option Addr) (cap : Nat) (ys : List α) (v : W10) (W : World) (hr : RdS W.heap.size W p cap 3 enc ys) (g : α → Ext3) (hg : ∀ y, enc y = xc (g y)) :
    Calls Try.prog 11 #[.slice p ys.length cap, .agg (tw v.1).toArray] W fun e w' => e = .returned (.bool true) ∧ Below W.heap.size W w' := by
  have := lawExtentsWords p cap (ys.map g) v.1 v.2 W (hr.mapX g hg)
  rwa [List.length_map] at this
end Go.Proofs.Ytenmogokbelahaa
