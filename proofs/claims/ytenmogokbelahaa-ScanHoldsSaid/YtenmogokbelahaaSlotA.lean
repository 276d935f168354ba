/- The walks of the reference's slots: Raw, ahead, has; the law's pair. -/
import Derived.Test.YtenmogokbelahaaScanP
import Derived.Test.YtenmogokbelahaaSetLaw
import Derived.Test.YtenmogokbelahaaOwnG
namespace Go.Proofs.Ytenmogokbelahaa
open Go Go.RowKit

def pc (x : Pr) : List Value := [vw x.1, vw x.2]
theorem pc_len (x : Pr) : (pc x).length = 2 := rfl
theorem pc_one (x : Pr) : ∀ u ∈ pc x, u.oneCell' = true := by
  intro u hu
  simp [pc] at hu
  rcases hu with rfl | rfl <;> rfl
theorem RdS.prs {B : Nat} {w : World} {p : Option Addr} {cap : Nat} {ys : List Pr} (h : RdS B w p cap 2 pc ys) (i : Nat) (hi : i < ys.length) :
    ∃ b off, p = some ⟨b, off, none⟩ ∧ b < B ∧ w.cell? ⟨b, off + i * 2, none⟩ = some (vw ys[i].1) ∧ w.cell? ⟨b, off + i * 2 + 1, none⟩ = some (vw ys[i].2) := by
  obtain ⟨h1, h2, h3⟩ := h
  rcases h3 with rfl | ⟨b, off, hp, hb, hc⟩
  · omega
  · exact ⟨b, off, hp, hb, by simpa using hc i hi 0 _ rfl, by rw [Nat.add_assoc]; exact hc i hi 1 _ rfl⟩
theorem RdS.wideB {α : Type} {B B' : Nat} {w : World} {p : Option Addr} {cap c : Nat} {enc : α → List Value} {ys : List α} (h : RdS B w p cap c enc ys) (hB : B ≤ B') : RdS B' w p cap c enc ys := by
  obtain ⟨h1, h2, h3⟩ := h
  refine ⟨h1, h2, h3.imp id ?_⟩
  rintro ⟨b, off, hp, hb, hc⟩
  exact ⟨b, off, hp, Nat.lt_of_lt_of_le hb hB, hc⟩
theorem vwi (x : BitVec 64) : vw x = .int .u64 x.toNat := rfl
theorem half {n : Nat} (h : n ≤ 1000000) : IntKind.i64.wrap ((n : Int).tdiv 2) = (n : Int) / 2 ∧ IntKind.i64.wrap ((n : Int) / 2) = (n : Int) / 2 := by
  constructor
  · rw [Int.tdiv_eq_ediv_of_nonneg (by omega), IntKind.wrap_i64]; omega
  · rw [IntKind.wrap_i64]; omega
set_option maxRecDepth 100000 in
set_option maxHeartbeats 4000000 in
theorem raw_any (p : Option Addr) (cap : Nat) (s : List (BitVec 64)) (w : World) (hrd : RdL w.heap.size w p cap vw s) (hl : s.length ≤ 100000) :
    Calls Try.prog 63 #[.slice p s.length cap] w fun e w' => e = .returned (.int .i64 (rawS s)) ∧ w = w' := by
  obtain ⟨d1, d2⟩ := half (n := s.length) (by omega)
  have HR := Lib.hid hrd
  clear hrd
  go_enter Try.func63, Try.ntmps63
  go_wp2_with fail
  go_loopw [3] (fun i wr => ∃ k : Nat, k ≤ s.length / 2 ∧ i = .int .i64 k ∧ (∀ i, i < k → ptrS s i ≠ 0#64) ∧ wr = w) (fun i _ => s.length - (intOf i).toNat)
  case atStart => exact ⟨0, Nat.zero_le _, rfl, fun i hi => by omega, rfl⟩
  case round =>
    obtain ⟨k, hk, rfl, hnz, rfl⟩ := hrel
    by_cases hlt : k < s.length / 2
    · obtain ⟨b, off, hpo, hbl, hc⟩ := HR.out.at (2 * k + 1) (by omega)
      have hps : s[2 * k + 1] = ptrS s k := by unfold ptrS; simp [show 2 * k + 1 < s.length by omega]
      rw [hps] at hc
      have hlt' : (k : Int) < (s.length : Int) / 2 := by omega
      have hk9 : (k : Int) ≤ 100000 := by omega
      by_cases hp : ptrS s k = 0#64
      · have HN := Lib.hid (raw_uniq (rawS_ok s) ⟨hk, hnz, fun _ => hp⟩)
        rw [hp] at hc
        have e0 : vw 0#64 = .int .u64 0 := rfl
        rw [e0] at hc
        subst hpo
        clear hps hp hnz e0
        have hc' : wr.cell? ⟨b, off + 1 + 2 * k, none⟩ = some (.int .u64 0) := by rw [show off + 1 + 2 * k = off + (2 * k + 1) by omega]; exact hc
        go_wp2_with fail
        go_ret
        exact ⟨by rw [HN.out]; rfl, rfl⟩
      · have HN := Lib.hid (show ∀ i, i < k + 1 → ptrS s i ≠ 0#64 from fun i hi => by
          rcases Nat.lt_succ_iff_lt_or_eq.1 hi with hi | rfl
          · exact hnz i hi
          · exact hp)
        obtain ⟨V, hV⟩ : ∃ V : Int, ((ptrS s k).toNat : Int) = V := ⟨_, rfl⟩
        have hv0 : (V != 0) = true := bne_iff_ne.2 (fun h => hp (word_eq0.1 (hV.trans h)))
        rw [vwi, hV] at hc
        subst hpo
        clear hps hp hnz hV
        go_wp2_with fail
        go_roundw
        case rel => exact ⟨k + 1, by omega, by go_num, HN.out, by trivial⟩
        case measure => simp [intOf]; omega
    · have HN := Lib.hid (raw_uniq (rawS_ok s) ⟨hk, hnz, fun h => absurd h hlt⟩)
      have hlt' : (s.length : Int) / 2 ≤ (k : Int) := by omega
      clear hnz
      go_wp2_with fail
      go_ret
      exact ⟨by rw [HN.out]; rfl, rfl⟩
set_option maxRecDepth 100000 in
set_option maxHeartbeats 4000000 in
theorem ahead_any (left : BitVec 64) (p : Option Addr) (cap : Nat) (s : List (BitVec 64)) (j : Nat) (w : World) (hrd : RdL w.heap.size w p cap vw s) (hj : 2 * j ≤ s.length) (hl : s.length ≤ 100000) :
    Calls Try.prog 64 #[vw left, .slice p s.length cap, .int .i64 j] w fun e w' => e = .returned (vw (aheadS left s j)) ∧ w = w' := by
  by_cases h0 : j = 0
  · subst h0
    have e : aheadS left s 0 = left := rfl
    rw [e]
    clear e hrd
    go_enter Try.func64, Try.ntmps64
    go_wp2_with fail
    go_ret
    exact ⟨rfl, rfl⟩
  · obtain ⟨i, rfl⟩ : ∃ i, j = i + 1 := ⟨j - 1, by omega⟩
    have e : aheadS left s (i + 1) = ptrS s i := by unfold aheadS; rw [if_neg h0]; rfl
    rw [e]
    obtain ⟨b, off, rfl, hbl, hc⟩ := hrd.at (2 * i + 1) (by omega)
    have hps : s[2 * i + 1] = ptrS s i := by unfold ptrS; simp [show 2 * i + 1 < s.length by omega]
    rw [hps] at hc
    obtain ⟨y, hy⟩ : ∃ y, ptrS s i = y := ⟨_, rfl⟩
    rw [hy] at hc ⊢
    obtain ⟨J, hJ⟩ : ∃ J : Int, ((i + 1 : Nat) : Int) = J := ⟨_, rfl⟩
    have hJ0 : (J == 0) = false := beq_eq_false_iff_ne.2 (by omega)
    have hJ1 : 2 * J - 1 = ((2 * i + 1 : Nat) : Int) := by omega
    have hw1 : IntKind.i64.wrap (2 * J) = 2 * J := by rw [IntKind.wrap_i64]; omega
    have hw2 : IntKind.i64.wrap (2 * J - 1) = ((2 * i + 1 : Nat) : Int) := by rw [IntKind.wrap_i64]; omega
    have hlt : ((2 * i + 1 : Nat) : Int) < (s.length : Int) := by omega
    have hge : 0 ≤ ((2 * i + 1 : Nat) : Int) := by omega
    have htn : (((2 * i + 1 : Nat) : Int)).toNat = 2 * i + 1 := by omega
    rw [hJ]
    clear e hps hy hrd hJ hj h0
    go_enter Try.func64, Try.ntmps64
    go_wp2_with fail
    go_ret
    exact ⟨rfl, rfl⟩
set_option maxRecDepth 100000 in
set_option maxHeartbeats 4000000 in
theorem has09_any (p : Option Addr) (cap : Nat) (l : List Pr) (ptr : BitVec 64) (w : World) (hrd : RdS w.heap.size w p cap 2 pc l) (hl : l.length ≤ 100000) :
    Calls Try.prog 89 #[.slice p l.length cap, vw ptr] w fun e w' => e = .returned (.bool (hasP l ptr)) ∧ w = w' := by
  have HR := Lib.hid hrd
  clear hrd
  go_enter Try.func89, Try.ntmps89
  go_wp2_with fail
  go_loopw [5] (fun i wr => ∃ k : Nat, k ≤ l.length ∧ i = .int .i64 k ∧ hasP (l.take k) ptr = false ∧ wr = w) (fun i _ => l.length - (intOf i).toNat)
  case atStart => exact ⟨0, Nat.zero_le _, rfl, rfl, rfl⟩
  case round =>
    obtain ⟨k, hk, rfl, hno, rfl⟩ := hrel
    by_cases hlt : k < l.length
    · obtain ⟨b, off, hpo, hbl, h0, h1⟩ := HR.out.prs k hlt
      have hts : l.take (k + 1) = l.take k ++ [l[k]] := List.take_succ_eq_append_getElem hlt
      have hlt' : (k : Int) < (l.length : Int) := by omega
      have hk9 : (k : Int) ≤ 100000 := by omega
      by_cases he : l[k].2 = ptr
      · have HN := Lib.hid (show hasP l ptr = true by
          unfold hasP
          exact List.any_eq_true.2 ⟨l[k], List.getElem_mem hlt, by simpa using he⟩)
        rw [he] at h1
        subst hpo
        clear hts hno he h0
        go_wp2_with fail
        go_ret
        exact ⟨by rw [HN.out]; rfl, rfl⟩
      · have HN := Lib.hid (show hasP (l.take (k + 1)) ptr = false by
          rw [hts]
          unfold hasP at hno ⊢
          rw [List.any_append, hno]
          simpa using he)
        obtain ⟨V, hV⟩ : ∃ V : Int, (l[k].2.toNat : Int) = V := ⟨_, rfl⟩
        obtain ⟨K, hK⟩ : ∃ V : Int, (ptr.toNat : Int) = V := ⟨_, rfl⟩
        have hne : (V == K) = false := beq_eq_false_iff_ne.2 (fun h => he (word_eq.1 ((hV.trans h).trans hK.symm)))
        rw [vwi, hV] at h1
        have eP : vw ptr = .int .u64 K := by rw [← hK]
        subst hpo
        clear hts hno he h0 hV hK
        go_wp2_with fail
        go_roundw
        case rel => exact ⟨k + 1, by omega, by go_num, HN.out, by trivial⟩
        case measure => simp [intOf]; omega
    · obtain rfl : k = l.length := by omega
      rw [List.take_length] at hno
      have HN := Lib.hid hno
      clear hno
      go_wp2_with fail
      go_ret
      exact ⟨by rw [HN.out]; rfl, rfl⟩
set_option maxRecDepth 100000 in
set_option maxHeartbeats 4000000 in
theorem pair_any (p : Option Addr) (cap : Nat) (l : List Pr) (key : BitVec 64) (w : World) (hrd : RdS w.heap.size w p cap 2 pc l) (hl : l.length ≤ 100000) :
    Calls Try.prog 23 #[.slice p l.length cap, vw key] w fun e w' => e = .returned (.tuple #[vw (pairP l key).1, .bool (pairP l key).2]) ∧ w = w' := by
  have HR := Lib.hid hrd
  clear hrd
  go_enter Try.func23, Try.ntmps23
  go_wp2_with fail
  go_loopw [6] (fun i wr => ∃ k : Nat, k ≤ l.length ∧ i = .int .i64 k ∧ (l.take k).find? (fun x => decide (x.1 = key)) = none ∧ wr = w) (fun i _ => l.length - (intOf i).toNat)
  case atStart => exact ⟨0, Nat.zero_le _, rfl, rfl, rfl⟩
  case round =>
    obtain ⟨k, hk, rfl, hno, rfl⟩ := hrel
    by_cases hlt : k < l.length
    · obtain ⟨b, off, hpo, hbl, h0, h1⟩ := HR.out.prs k hlt
      have hts : l.take (k + 1) = l.take k ++ [l[k]] := List.take_succ_eq_append_getElem hlt
      have hlt' : (k : Int) < (l.length : Int) := by omega
      have hk9 : (k : Int) ≤ 100000 := by omega
      by_cases he : l[k].1 = key
      · have HN := Lib.hid (show pairP l key = (l[k].2, true) by
          unfold pairP
          have e : l.find? (fun x => decide (x.1 = key)) = some l[k] := by
            rw [List.find?_eq_some_iff_getElem]
            refine ⟨by simpa using he, k, hlt, rfl, fun j hj => ?_⟩
            have := List.find?_eq_none.1 hno l[j] (by rw [List.mem_take_iff_getElem]; exact ⟨j, by omega, rfl⟩)
            simpa using this
          rw [e])
        obtain ⟨y, hy⟩ : ∃ y, l[k].2 = y := ⟨_, rfl⟩
        rw [he] at h0
        rw [hy] at h1 HN
        subst hpo
        clear hts hno he hy
        go_wp2_with fail
        go_ret2
        exact ⟨by rw [HN.out]; rfl, rfl⟩
      · have HN := Lib.hid (show (l.take (k + 1)).find? (fun x => decide (x.1 = key)) = none by
          rw [hts, List.find?_append, hno]
          simpa using he)
        obtain ⟨V, hV⟩ : ∃ V : Int, (l[k].1.toNat : Int) = V := ⟨_, rfl⟩
        obtain ⟨K, hK⟩ : ∃ V : Int, (key.toNat : Int) = V := ⟨_, rfl⟩
        have hne : (V == K) = false := beq_eq_false_iff_ne.2 (fun h => he (word_eq.1 ((hV.trans h).trans hK.symm)))
        rw [vwi, hV] at h0
        have eP : vw key = .int .u64 K := by rw [← hK]
        subst hpo
        clear hts hno he h1 hV hK
        go_wp2_with fail
        go_roundw
        case rel => exact ⟨k + 1, by omega, by go_num, HN.out, by trivial⟩
        case measure => simp [intOf]; omega
    · obtain rfl : k = l.length := by omega
      rw [List.take_length] at hno
      have HN := Lib.hid (show pairP l key = (0#64, false) by unfold pairP; rw [hno])
      clear hno
      go_wp2_with fail
      go_ret2
      exact ⟨by rw [HN.out]; rfl, rfl⟩
end Go.Proofs.Ytenmogokbelahaa
