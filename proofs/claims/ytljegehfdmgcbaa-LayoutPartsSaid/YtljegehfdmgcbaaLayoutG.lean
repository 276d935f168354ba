/- The parts of a layout, whichever. -/
import Derived.Test.YtljegehfdmgcbaaLayoutF
namespace Go.Proofs.Ytljegehfdmgcbaa
open Go Go.RowKit

/-- A part as a value; its cells in a block; all parts' cells; a layout under way. -/
abbrev pvs (k : Nat) : Array Value := #[.int .i64 (pKind k), .func (.func (fromF k)) #[] #[], .func (.func (manyF k)) #[] #[], .int .i64 (pWide k), .int .i64 (pFirst k)]
def PAt (W : World) (O k : Nat) : Prop := W.heap[O]? = some (.cells #[.int .i64 (pKind k), .func (.func (fromF k)) #[] #[], .func (.func (manyF k)) #[] #[], .int .i64 (pWide k), .int .i64 (pFirst k)] 78 (0, 0))
def UAt (W : World) (O : Nat) (l : Lay) : Prop := W.heap[O]? = some (.cells #[.int .i64 l.B, .int .i64 l.I, .int .i64 l.R, .int .i64 l.T, vw l.k0, vw l.k1, .int .i64 l.i, .int .i64 l.r, .int .i64 l.m, .int .i64 l.d] 73 (0, 0))
def QAt (W : World) (O : Nat) : Prop := W.heap[O]? = some (.cells (pcs 0 ++ pcs 1 ++ pcs 2 ++ pcs 3 ++ pcs 4 ++ pcs 5).toArray 78 (0, 0))
theorem PAt.cells {W : World} {O k : Nat} (h : PAt W O k) : W.cell? ⟨O, 0, none⟩ = some (.int .i64 (pKind k)) ∧ W.cell? ⟨O, 1, none⟩ = some (.func (.func (fromF k)) #[] #[]) ∧ W.cell? ⟨O, 2, none⟩ = some (.func (.func (manyF k)) #[] #[]) ∧ W.cell? ⟨O, 3, none⟩ = some (.int .i64 (pWide k)) ∧ W.cell? ⟨O, 4, none⟩ = some (.int .i64 (pFirst k)) := by
  refine ⟨?_, ?_, ?_, ?_, ?_⟩ <;> simp [World.cell?, show W.heap[O]? = _ from h]
theorem QAt.cells {W : World} {O : Nat} (h : QAt W O) (k : Nat) (hk : k < 6) : W.cell? ⟨O, k * 5, none⟩ = some (.int .i64 (pKind k)) ∧ W.cell? ⟨O, k * 5 + 1, none⟩ = some (.func (.func (fromF k)) #[] #[]) ∧ W.cell? ⟨O, k * 5 + 2, none⟩ = some (.func (.func (manyF k)) #[] #[]) ∧ W.cell? ⟨O, k * 5 + 3, none⟩ = some (.int .i64 (pWide k)) ∧ W.cell? ⟨O, k * 5 + 4, none⟩ = some (.int .i64 (pFirst k)) := by
  have hc : ∀ j, W.cell? ⟨O, j, none⟩ = (pcs 0 ++ pcs 1 ++ pcs 2 ++ pcs 3 ++ pcs 4 ++ pcs 5)[j]? := fun j => by simp [World.cell?, show W.heap[O]? = _ from h]
  rcases (show k = 0 ∨ k = 1 ∨ k = 2 ∨ k = 3 ∨ k = 4 ∨ k = 5 by omega) with rfl | rfl | rfl | rfl | rfl | rfl <;> exact ⟨hc _, hc _, hc _, hc _, hc _⟩

theorem at_any (k : Nat) (hk : k < 6) (l : Lay) (h : RightL l) (n : Int) (hn : 0 ≤ n ∧ n ≤ 2048) (w : World) : Calls Try.prog 35 #[.agg (pvs k), lv l, .int .i64 n] w fun e w' => e = .returned (.int .i64 (pAt l k n)) ∧ Below w.heap.size w w' := by
  have hb := right_bounds h
  rcases (show k = 0 ∨ k = 1 ∨ k = 2 ∨ k = 3 ∨ k = 4 ∨ k = 5 by omega) with rfl | rfl | rfl | rfl | rfl | rfl
  · refine (at_0 l n hn w).mono ?_; rintro e w' ⟨rfl, hb⟩; exact ⟨by simp [pAt, pFrom, pWide], hb⟩
  · refine (at_1 l n hn w).mono ?_; rintro e w' ⟨rfl, hb⟩; exact ⟨by simp [pAt, pFrom, pWide], hb⟩
  · exact at_2 l n (by omega) hn w
  · exact at_3 l n (by omega) hn w
  · exact at_4 l n (by omega) hn w
  · exact at_5 l n (by omega) hn w
theorem number_any (k : Nat) (hk : k < 6) (l : Lay) (h : RightL l) (n : Int) (hn : 0 ≤ n ∧ n ≤ 2048) (w : World) : Calls Try.prog 36 #[.agg (pvs k), lv l, .int .i64 n] w fun e w' => e = .returned (.int .i64 (pNum l k n)) ∧ Below w.heap.size w w' := by
  have hb := right_bounds h
  rcases (show k = 0 ∨ k = 1 ∨ k = 2 ∨ k = 3 ∨ k = 4 ∨ k = 5 by omega) with rfl | rfl | rfl | rfl | rfl | rfl
  · refine (number_0 l n hn w).mono ?_; rintro e w' ⟨rfl, hb⟩; exact ⟨by simp [pNum, pFirst], hb⟩
  · refine (number_1 l n hn w).mono ?_; rintro e w' ⟨rfl, hb⟩; exact ⟨by simp [pNum, pFirst], hb⟩
  · exact number_2 l n hn w
  · exact number_3 l n hn w
  · refine (number_4 l n hn w).mono ?_; rintro e w' ⟨rfl, hb⟩; exact ⟨by simp [pNum, pFirst], hb⟩
  · exact number_5 l n (by omega) hn w

theorem call_many (k : Nat) (args : Array Value) (W : World) : (callFunc (manyF k) args).run Try.prog W = .ok (.enter (manyF k) args) W := by
  match k with
  | 0 =>
    show (callFunc 45 args).run Try.prog W = .ok (.enter 45 args) W
    kernel_rfl
  | 1 =>
    show (callFunc 47 args).run Try.prog W = .ok (.enter 47 args) W
    kernel_rfl
  | 2 =>
    show (callFunc 49 args).run Try.prog W = .ok (.enter 49 args) W
    kernel_rfl
  | 3 =>
    show (callFunc 51 args).run Try.prog W = .ok (.enter 51 args) W
    kernel_rfl
  | 4 =>
    show (callFunc 45 args).run Try.prog W = .ok (.enter 45 args) W
    kernel_rfl
  | (n + 5) =>
    show (callFunc 54 args).run Try.prog W = .ok (.enter 54 args) W
    kernel_rfl
end Go.Proofs.Ytljegehfdmgcbaa
