/- Plain helpers of this claim's texts: bytes as a string. -/
import Derived.Test.YtaflbfmlajbjcaaMem
import Derived.Laws.BytesArg
namespace Go.Proofs.Ytaflbfmlajbjcaa
open Go Go.RowKit

def strB (ys : List (BitVec 8)) : ByteArray := strOfNums (ys.map fun y => (y.toNat : Int))
theorem run_str {P : Program} {B : Nat} {w : World} {p : Option Addr} {cap : Nat} {ys : List (BitVec 8)} (h : RdL B w p cap vb ys) (src e dst : TypeId) (hs : P.underlying src = some (.slice e)) (he : P.underlying e = some (.int .u8)) (hd : P.underlying dst = some .string) :
    (convert src dst (.slice p ys.length cap)).run P w = .ok (.string (strB ys)) w := by
  obtain ⟨h1, h2, h3⟩ := h
  by_cases h0 : cap = 0
  · subst h0
    have : ys = [] := List.eq_nil_of_length_eq_zero (by omega)
    subst this
    rw [run_convert_bytes_string w src dst e _ _ _ hs he hd]
    cases p with
    | none => simp [Conv.bytesToString]; rfl
    | some a => simp [Conv.bytesToString, loadCells, loadCellsFrom]; rfl
  · rcases h3 with h3 | ⟨b, off, rfl, hb, hc⟩
    · exact absurd h3 h0
    · exact run_convert_bytes_arg w src e hs he b off ys.length cap _ (by simp) (fun i hi => by rw [hc i hi]; simp [vb, hi]) dst hd

end Go.Proofs.Ytaflbfmlajbjcaa
