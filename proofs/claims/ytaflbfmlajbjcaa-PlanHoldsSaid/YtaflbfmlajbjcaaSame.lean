/- The walk of the reference's Same: are two lists of words the same. -/
import Derived.Test.YtaflbfmlajbjcaaMem
import Derived.Test.YtaflbfmlajbjcaaRows
import Derived.Deep.QuietTactic
import Derived.BigQuiet
namespace Go.Proofs.Ytaflbfmlajbjcaa
open Go Go.RowKit

def sameB (xs ys : List (BitVec 64)) : Bool := decide (xs = ys)
/-- The first k items are the same. -/
def sameTo (xs ys : List (BitVec 64)) (k : Nat) : Prop := xs.take k = ys.take k
theorem sameTo_zero (xs ys : List (BitVec 64)) : sameTo xs ys 0 := rfl
theorem sameTo_succ {xs ys : List (BitVec 64)} {k : Nat} (h : sameTo xs ys k) (h1 : k < xs.length) (h2 : k < ys.length) (e : xs[k] = ys[k]) : sameTo xs ys (k + 1) := by
  unfold sameTo at *
  rw [List.take_succ_eq_append_getElem h1, List.take_succ_eq_append_getElem h2, h, e]
theorem sameB_all {xs ys : List (BitVec 64)} (hl : xs.length = ys.length) (h : sameTo xs ys xs.length) : sameB xs ys = true := by
  unfold sameTo at h
  rw [List.take_length, hl, List.take_length] at h
  simp [sameB, h]
theorem sameB_len {xs ys : List (BitVec 64)} (hl : xs.length ≠ ys.length) : sameB xs ys = false := by
  simp only [sameB, decide_eq_false_iff_not]; rintro rfl; exact hl rfl
theorem sameB_at {xs ys : List (BitVec 64)} {k : Nat} (h1 : k < xs.length) (h2 : k < ys.length) (e : xs[k] ≠ ys[k]) : sameB xs ys = false := by
  simp only [sameB, decide_eq_false_iff_not]; rintro rfl; exact e rfl

set_option maxRecDepth 100000 in
set_option maxHeartbeats 1000000 in
theorem same_any (p q : Option Addr) (cp cq : Nat) (xs ys : List (BitVec 64)) (w : World) (hx : RdL w.heap.size w p cp vw xs) (hy : RdL w.heap.size w q cq vw ys) :
    Calls Try.prog 43 #[.slice p xs.length cp, .slice q ys.length cq] w fun e w' => e = .returned (.bool (sameB xs ys)) ∧ ∃ n, w.drewN n = w' := by
  have hlx := hx.len
  have hly := hy.len
  have HX := Lib.hid hx
  have HY := Lib.hid hy
  clear hx hy
  by_cases hl : xs.length = ys.length
  · have hl0 : ((xs.length : Int) != (ys.length : Int)) = false := by rw [hl]; simp
    have HL := Lib.hid hl
    clear hl
    go_enter Try.func43, Try.ntmps43
    go_wp2
    clear hl0
    go_loopw [5] (fun i wr => ∃ k n : Nat, k ≤ xs.length ∧ i = .int .i64 k ∧ sameTo xs ys k ∧ w.drewN n = wr) (fun i _ => xs.length - (intOf i).toNat)
    case atStart => exact ⟨0, 0, Nat.zero_le _, rfl, sameTo_zero _ _, rfl⟩
    case round =>
      obtain ⟨k, n, hk, rfl, hs, rfl⟩ := hrel
      by_cases hlt : k < xs.length
      · have hlt2 : k < ys.length := by rw [← HL.out]; exact hlt
        obtain ⟨b, off, rfl, hb, hcx⟩ := HX.out.at k hlt
        obtain ⟨b', off', rfl, hb', hcy⟩ := HY.out.at k hlt2
        have hcx' : (w.drewN n).cell? ⟨b, off + k, none⟩ = some (vw xs[k]) := hcx
        have hcy' : (w.drewN n).cell? ⟨b', off' + k, none⟩ = some (vw ys[k]) := hcy
        have h1 : (k : Int) < (xs.length : Int) := by omega
        have h2 : (k : Int) < (ys.length : Int) := by omega
        go_wp2
        go_quiet (fail)
        by_cases he : xs[k] = ys[k]
        · have hne : ((xs[k].toNat : Int) != (ys[k].toNat : Int)) = false := by rw [he]; simp
          have HE := Lib.hid he
          clear he
          go_wp2
          go_roundw
          case rel => exact ⟨k + 1, n + nq, by omega, by go_num, sameTo_succ hs hlt hlt2 HE.out, by first | rfl | rw [World.drewN_drewN]⟩
          case measure => simp [intOf]; omega
        · have hne : ((xs[k].toNat : Int) != (ys[k].toNat : Int)) = true := by
            simp only [bne_iff_ne, ne_eq, Int.natCast_inj]
            exact fun h => he (BitVec.eq_of_toNat_eq h)
          have HE := Lib.hid (sameB_at hlt hlt2 he)
          clear he
          go_wp2
          go_ret
          exact ⟨by rw [HE.out]; rfl, n + nq, by first | rfl | rw [World.drewN_drewN]⟩
      · obtain rfl : k = xs.length := by omega
        have HE := Lib.hid (sameB_all HL.out hs)
        go_wp2
        go_ret
        exact ⟨by rw [HE.out]; rfl, n, rfl⟩
  · have hl0 : ((xs.length : Int) != (ys.length : Int)) = true := by
      simp only [bne_iff_ne, ne_eq, Int.natCast_inj]; exact hl
    have HE := Lib.hid (sameB_len hl)
    clear hl
    go_enter Try.func43, Try.ntmps43
    go_wp2
    go_ret
    exact ⟨by rw [HE.out]; rfl, 0, rfl⟩

theorem sameB_self (xs : List (BitVec 64)) : sameB xs xs = true := by simp [sameB]

end Go.Proofs.Ytaflbfmlajbjcaa
