/- The walks of slices.Equal, ContainsFunc at words; the bounds of layout.Read. -/
import Derived.Test.YtljegehfdmgcbaaLayoutN
namespace Go.Proofs.Ytljegehfdmgcbaa
open Go Go.RowKit

set_option maxRecDepth 100000 in
set_option maxHeartbeats 1000000 in
theorem equalW_any (p q : Option Addr) (cp cq : Nat) (xs ys : List (BitVec 64)) (w : World) (hx : RdL w.heap.size w p cp vw xs) (hy : RdL w.heap.size w q cq vw ys) :
    Calls Try.prog 40 #[.slice p xs.length cp, .slice q ys.length cq] w fun e w' => e = .returned (.bool (sameB xs ys)) ∧ ∃ n, w.drewN n = w' := by
  have hlx := hx.len
  have hly := hy.len
  have HX := Lib.hid hx
  have HY := Lib.hid hy
  clear hx hy
  by_cases hl : xs.length = ys.length
  · have hl0 : ((xs.length : Int) != (ys.length : Int)) = false := by rw [hl]; simp
    have HL := Lib.hid hl
    clear hl
    go_enter Try.func40, Try.ntmps40
    go_wp2
    clear hl0
    go_loopw [13] (fun i wr => ∃ k n : Nat, k ≤ xs.length ∧ i = .int .i64 k ∧ sameTo xs ys k ∧ w.drewN n = wr) (fun i _ => xs.length - (intOf i).toNat)
    case atStart => exact ⟨0, 0, Nat.zero_le _, rfl, sameTo_zero _ _, rfl⟩
    case round =>
      obtain ⟨k, n, hk, rfl, hs, rfl⟩ := hrel
      by_cases hlt : k < xs.length
      · have hlt2 : k < ys.length := by rw [← HL.out]; exact hlt
        obtain ⟨b, off, rfl, hb, hcx⟩ := HX.out.at k hlt
        obtain ⟨b', off', rfl, hb', hcy⟩ := HY.out.at k hlt2
        have hcx' : (w.drewN n).cell? ⟨b, off + k, none⟩ = some (vw xs[k]) := hcx
        have hcy' : (w.drewN n).cell? ⟨b', off' + k, none⟩ = some (vw ys[k]) := hcy
        have h1 : (k : Int) < (xs.length : Int) := by omega
        have h2 : (k : Int) < (ys.length : Int) := by omega
        go_wp2
        go_quiet (fail)
        by_cases he : xs[k] = ys[k]
        · have hne : ((xs[k].toNat : Int) != (ys[k].toNat : Int)) = false := by rw [he]; simp
          have HE := Lib.hid he
          clear he
          go_wp2
          go_roundw
          case rel => exact ⟨k + 1, n + nq, by omega, by go_num, sameTo_succ hs hlt hlt2 HE.out, by first | rfl | rw [World.drewN_drewN]⟩
          case measure => simp [intOf]; omega
        · have hne : ((xs[k].toNat : Int) != (ys[k].toNat : Int)) = true := by
            simp only [bne_iff_ne, ne_eq, Int.natCast_inj]
            exact fun h => he (BitVec.eq_of_toNat_eq h)
          have HE := Lib.hid (sameB_at hlt hlt2 he)
          clear he
          go_wp2
          go_ret
          exact ⟨by rw [HE.out]; rfl, n + nq, by first | rfl | rw [World.drewN_drewN]⟩
      · obtain rfl : k = xs.length := by omega
        have HE := Lib.hid (sameB_all HL.out hs)
        go_wp2
        go_ret
        exact ⟨by rw [HE.out]; rfl, n, rfl⟩
  · have hl0 : ((xs.length : Int) != (ys.length : Int)) = true := by
      simp only [bne_iff_ne, ne_eq, Int.natCast_inj]; exact hl
    have HE := Lib.hid (sameB_len hl)
    clear hl
    go_enter Try.func40, Try.ntmps40
    go_wp2
    go_ret
    exact ⟨by rw [HE.out]; rfl, 0, rfl⟩


/-- Is a word out of 1 to 2048? -/
def offW (x : BitVec 64) : Bool := !(decide (1 ≤ x.toNat) && decide (x.toNat ≤ 2048))
theorem inU_any (x : BitVec 64) (w : World) : Calls Try.prog 39 #[vw x, .int .u64 1, .int .u64 2048] w fun e w' => e = .returned (.bool (decide (1 ≤ x.toNat) && decide (x.toNat ≤ 2048))) ∧ w = w' := by
  unfold vw
  by_cases h : 1 ≤ x.toNat
  · have h' : (1 : Int) ≤ (x.toNat : Int) := by omega
    by_cases h2 : x.toNat ≤ 2048
    · have h2' : (x.toNat : Int) ≤ 2048 := by omega
      go_enter Try.func39, Try.ntmps39
      go_wp2
      go_ret
      simp [h, h2]
    · have h2' : ¬ (x.toNat : Int) ≤ 2048 := by omega
      go_enter Try.func39, Try.ntmps39
      go_wp2
      go_ret
      simp [h, h2, h2']
  · have h' : ¬ (1 : Int) ≤ (x.toNat : Int) := by omega
    go_enter Try.func39, Try.ntmps39
    go_wp2
    go_ret
    simp [h]
theorem read1_any (x : BitVec 64) (w : World) : Calls Try.prog 38 #[vw x] w fun e w' => e = .returned (.bool (offW x)) ∧ w = w' := by
  have hi := inU_any x
  have HI := Lib.hid hi
  clear hi
  unfold offW
  generalize hb : (decide (1 ≤ x.toNat) && decide (x.toNat ≤ 2048)) = b at HI
  have HI2 : Hid (∀ w, Calls Try.prog 39 #[vw x, .int .u64 1, .int .u64 2048] w fun e w' => e = .returned (.bool b) ∧ w = w') := Lib.hid fun w => HI.out w
  clear hb HI
  go_enter Try.func38, Try.ntmps38
  go_wp2_with (go_at_call 39; refine (HI2.out _).mono ?_; rintro e w' ⟨rfl, rfl⟩)
  go_ret
  exact ⟨rfl, rfl⟩

def idxW (ys : List (BitVec 64)) : Int := if ys.any offW = true then (ys.findIdx offW : Int) else -1
set_option maxHeartbeats 1000000 in
theorem indexW_any (p : Option Addr) (cap : Nat) (ys : List (BitVec 64)) (w : World) (hrd : RdL w.heap.size w p cap vw ys) :
    Calls Try.prog 55 #[.slice p ys.length cap, .func (.func 38) #[] #[]] w fun e w' => e = .returned (.int .i64 (idxW ys)) ∧ w = w' := by
  have hlen := hrd.len
  have HR := Lib.hid hrd
  clear hrd
  go_enter Try.func55, Try.ntmps55
  go_wp2_with fail
  go_loopw [8] (fun i wr => ∃ k : Nat, k ≤ ys.length ∧ i = .int .i64 k ∧ (ys.take k).any offW = false ∧ w = wr) (fun i _ => ys.length - (intOf i).toNat)
  case atStart => exact ⟨0, Nat.zero_le _, rfl, rfl, rfl⟩
  case round =>
    obtain ⟨k, hk, rfl, hno, rfl⟩ := hrel
    have HNO := Lib.hid hno
    clear hno
    by_cases hlt : k < ys.length
    · obtain ⟨b, off, rfl, hbl, h0⟩ := HR.out.at k hlt
      have hlt' : (k : Int) < (ys.length : Int) := by omega
      obtain ⟨y, hy⟩ : ∃ y, ys[k] = y := ⟨_, rfl⟩
      rw [hy] at h0
      have hys : ys.take (k + 1) = ys.take k ++ [y] := by rw [List.take_succ_eq_append_getElem hlt, hy]
      have hidx : offW y = true → idxW ys = (k : Int) := by
        intro hfy
        have hno := HNO.out
        have hany : ys.any offW = true := List.any_eq_true.2 ⟨y, by rw [← hy]; exact List.getElem_mem hlt, hfy⟩
        unfold idxW
        rw [if_pos hany]
        have : ys.findIdx offW = k := by
          rw [List.findIdx_eq hlt]
          refine ⟨by rw [hy]; exact hfy, fun j hj => ?_⟩
          have hm : ys[j] ∈ ys.take k := by
            rw [List.mem_take_iff_getElem]
            exact ⟨j, by omega, rfl⟩
          have := List.any_eq_false.1 hno _ hm
          simpa using this
        rw [this]
      have HYS := Lib.hid hys
      have HIDX := Lib.hid hidx
      clear hys hidx hy
      go_wp2_with fail
      refine (read1_any y w).mono ?_
      rintro e w1 ⟨rfl, hw1⟩
      subst hw1
      cases hfy : offW y with
      | true =>
        have HI := Lib.hid (HIDX.out hfy)
        clear hfy
        go_wp2_with fail
        go_ret
        exact ⟨by rw [HI.out]; rfl, rfl⟩
      | false =>
        have HN := Lib.hid (show (ys.take (k + 1)).any offW = false by rw [HYS.out, List.any_append, HNO.out]; simp [hfy])
        clear hfy
        go_wp2_with fail
        refine ⟨⟨k + 1, by omega, by go_num, HN.out, trivial⟩, by simp [intOf]; omega⟩
    · obtain rfl : k = ys.length := by omega
      have h := HNO.out
      rw [List.take_length] at h
      have HI := Lib.hid (show idxW ys = -1 by unfold idxW; rw [if_neg (by simp [h])])
      clear h
      go_wp2_with fail
      go_ret
      exact ⟨by rw [HI.out]; rfl, rfl⟩
set_option maxHeartbeats 1000000 in
theorem containsW_any (p : Option Addr) (cap : Nat) (ys : List (BitVec 64)) (w : World) (hrd : RdL w.heap.size w p cap vw ys) :
    Calls Try.prog 37 #[.slice p ys.length cap, .func (.func 38) #[] #[]] w fun e w' => e = .returned (.bool (ys.any offW)) ∧ w = w' := by
  have HI := Lib.hid (indexW_any p cap ys w hrd)
  clear hrd
  go_enter Try.func37, Try.ntmps37
  go_wp2_with fail
  refine HI.out.mono ?_
  rintro e w1 ⟨rfl, hw1⟩
  subst hw1
  cases h : ys.any offW with
  | true =>
    have hi : (0 : Int) ≤ idxW ys := by unfold idxW; rw [if_pos h]; omega
    have H := Lib.hid h
    clear h
    go_wp2_with fail
    go_ret
    exact ⟨by rw [H.out]; rfl, rfl⟩
  | false =>
    have hi : ¬ (0 : Int) ≤ idxW ys := by unfold idxW; rw [if_neg (by simp [h])]; decide
    have H := Lib.hid h
    have HI := Lib.hid (Int.not_le.1 hi)
    clear h
    go_wp2_with fail
    go_ret
    exact ⟨by rw [H.out, ← decide_eq_false (Int.not_le.2 HI.out)]; rfl, rfl⟩
end Go.Proofs.Ytljegehfdmgcbaa
