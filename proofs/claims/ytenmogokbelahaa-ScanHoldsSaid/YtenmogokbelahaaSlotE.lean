/- The walks of the reference's slots: find, pointer. -/
import Derived.Test.YtenmogokbelahaaSlotD
import Derived.Test.YtenmogokbelahaaChangeLaw
namespace Go.Proofs.Ytenmogokbelahaa
open Go Go.RowKit

/-- What find tells. -/
def FindOk (l : List Pr) (key : BitVec 64) (i : Nat) (b : Bool) : Prop := i ≤ l.length ∧ (∀ j (h : j < l.length), j < i → l[j].1.toNat < key.toNat) ∧ (∀ h : i < l.length, key.toNat ≤ l[i].1.toNat) ∧ (b = true → ∃ h : i < l.length, l[i].1 = key) ∧ (b = false → ∀ h : i < l.length, l[i].1 ≠ key)
set_option maxRecDepth 100000 in
set_option maxHeartbeats 8000000 in
theorem find_any (p : Option Addr) (cap : Nat) (l : List Pr) (key : BitVec 64) (w : World) (hrd : RdS w.heap.size w p cap 2 pc l) (hl : l.length ≤ 100000) :
    Calls Try.prog 66 #[.slice p l.length cap, vw key] w fun e w' => ∃ (i : Nat) (b : Bool), e = .returned (.tuple #[.int .i64 i, .bool b]) ∧ FindOk l key i b ∧ Drw w w' := by
  have HR := Lib.hid hrd
  clear hrd
  obtain ⟨K, hK⟩ : ∃ V : Int, (key.toNat : Int) = V := ⟨_, rfl⟩
  have HK := Lib.hid hK
  rw [vwi, hK]
  clear hK
  go_enter Try.func66, Try.ntmps66
  go_wp2_with fail
  go_loopw [6] (fun i wr => ∃ k : Nat, k ≤ l.length ∧ i = .int .i64 k ∧ (∀ j (h : j < l.length), j < k → l[j].1.toNat < key.toNat) ∧ wr = w) (fun i _ => l.length - (intOf i).toNat)
  case atStart => exact ⟨0, Nat.zero_le _, rfl, fun j h h' => by omega, rfl⟩
  case round =>
    obtain ⟨k, hk, rfl, hno, rfl⟩ := hrel
    by_cases hlt : k < l.length
    · obtain ⟨b, off, hpo, hbl, h0, -⟩ := HR.out.prs k hlt
      have hlt' : (k : Int) < (l.length : Int) := by omega
      have hk9 : (k : Int) ≤ 100000 := by omega
      obtain ⟨V, hV⟩ : ∃ V : Int, (l[k].1.toNat : Int) = V := ⟨_, rfl⟩
      rw [vwi, hV] at h0
      have hK := HK.out
      subst hpo
      by_cases hvk : V < K
      · have HN := Lib.hid (show ∀ j (h : j < l.length), j < k + 1 → l[j].1.toNat < key.toNat from fun j h hj => by
          rcases Nat.lt_succ_iff_lt_or_eq.1 hj with hj | rfl
          · exact hno j h hj
          · omega)
        clear hno hV hK
        go_wp2_with fail
        go_roundw
        case rel => exact ⟨k + 1, by omega, by go_num, HN.out, by trivial⟩
        case measure => simp [intOf]; omega
      · have hvk' : decide (V < K) = false := decide_eq_false hvk
        by_cases he : V = K
        · have HN := Lib.hid (show FindOk l key k true from ⟨hk, hno, fun _ => by omega, fun _ => ⟨hlt, word_eq.1 (by omega)⟩, fun h => (by cases h)⟩)
          have he' : (V == K) = true := by rw [he]; simp
          subst he
          clear hno hV hK
          go_wp2_with fail
          go_quiet (fail)
          go_wp2_with fail
          go_ret2
          exact ⟨k, true, rfl, HN.out, _, rfl⟩
        · have HN := Lib.hid (show FindOk l key k false from ⟨hk, hno, fun _ => by omega, fun h => (by cases h), fun _ _ h => he (by rw [← hV, ← hK, h])⟩)
          have he' : (V == K) = false := beq_eq_false_iff_ne.2 he
          clear hno hV hK
          go_wp2_with fail
          go_quiet (fail)
          go_wp2_with fail
          go_ret2
          exact ⟨k, false, rfl, HN.out, _, rfl⟩
    · have HN := Lib.hid (show FindOk l key k false from ⟨hk, hno, fun h => absurd h hlt, fun h => (by cases h), fun _ h => absurd h hlt⟩)
      have hkl : k = l.length := by omega
      subst hkl
      have hlt' : ¬ (l.length : Int) < (l.length : Int) := by omega
      have hlt2 : decide ((l.length : Int) < (l.length : Int)) = false := decide_eq_false hlt'
      clear hno hlt
      go_wp2_with fail
      go_quiet (fail)
      go_wp2_with fail
      go_ret2
      exact ⟨l.length, false, rfl, HN.out, _, rfl⟩
set_option maxRecDepth 100000 in
set_option maxHeartbeats 8000000 in
theorem pointer_any (left : BitVec 64) (p : Option Addr) (cap : Nat) (s : List (BitVec 64)) (K P : BitVec 64) (w : World) (hrd : RdL w.heap.size w p cap vw s) (hl : s.length ≤ 1000) :
    Calls Try.prog 65 #[vw left, .slice p s.length cap, .agg #[vw K, vw P]] w fun e w' => ∃ v : Int, e = .returned (.int .i64 v) ∧ (v = 0 → SetR left s ∧ P ≠ 0#64 ∧ P ≠ left ∧ hasP (readL left s) P = false) ∧ Below w.heap.size w w' := by
  obtain ⟨W1, hW1⟩ : ∃ W1, w.alloc (.cells #[vw K, vw P] 49) = W1 := ⟨_, rfl⟩
  have hb1 : Below w.heap.size w W1 := by rw [← hW1]; exact (Below.refl _ _).alloc (Nat.le_refl _) _
  have hx1 : W1.heap[w.heap.size]? = some (.cells #[vw K, vw P] 49 (0, 0)) := by rw [← hW1]; exact World.alloc_heap_new _ _
  have hz1 : W1.heap.size = w.heap.size + 1 := by rw [← hW1]; simp
  have hrd1 := (hrd.below hb1).wide hb1.size
  have c1 : W1.cell? ⟨w.heap.size, 1, none⟩ = some (vw P) := by simp [World.cell?, hx1]
  have HRI := Lib.hid (refRight09_any left p cap s)
  have HCH := Lib.hid (check_any left p cap s W1 hrd1 hl)
  have HRE := Lib.hid (fun W (hb : Below w.heap.size w W) => read_any left p cap s W ((hrd.below hb).wide hb.size) (by omega))
  have HW1 := Lib.hid (And.intro hW1 (And.intro hb1 (And.intro hx1 hz1)))
  have hrl : (readL left s).length ≤ 100000 := by
    have h1 := readN_len left s (rawS s)
    have h2 := (rawS_ok s).1
    have h3 : readL left s = readN left s (rawS s) := rfl
    rw [h3]
    omega
  clear hW1 hb1 hx1 hz1 hrd hrd1
  cases hr : rightR09 left s.length with
  | false =>
    rw [hr] at HRI
    clear hr
    go_enter Try.func65, Try.ntmps65
    go_wp2_with fail
    rw [HW1.out.1]
    refine (HRI.out _).mono ?_
    rintro e w' ⟨rfl, rfl⟩
    go_wp2_with fail
    go_ret
    exact ⟨2, rfl, fun h => absurd h (by decide), HW1.out.2.1⟩
  | true =>
    rw [hr] at HRI
    clear hr
    by_cases hp0 : P = 0#64
    · rw [hp0] at c1
      have e0 : vw 0#64 = .int .u64 0 := rfl
      rw [e0] at c1
      clear e0 hp0
      go_enter Try.func65, Try.ntmps65
      go_wp2_with fail
      rw [HW1.out.1]
      refine (HRI.out _).mono ?_
      rintro e w' ⟨rfl, rfl⟩
      go_wp2_with fail
      go_ret
      exact ⟨2, rfl, fun h => absurd h (by decide), HW1.out.2.1⟩
    · have hv0 : ((P.toNat : Int) == 0) = false := beq_eq_false_iff_ne.2 (fun h => hp0 (word_eq0.1 h))
      have HP0 := Lib.hid hp0
      by_cases hpl : P = left
      · subst hpl
        clear hp0
        go_enter Try.func65, Try.ntmps65
        go_wp2_with fail
        rw [HW1.out.1]
        refine (HRI.out _).mono ?_
        rintro e w' ⟨rfl, rfl⟩
        go_wp2_with fail
        go_ret
        exact ⟨2, rfl, fun h => absurd h (by decide), HW1.out.2.1⟩
      · have hvl : ((P.toNat : Int) == (left.toNat : Int)) = false := beq_eq_false_iff_ne.2 (fun h => hpl (word_eq.1 h))
        have HPL := Lib.hid hpl
        clear hp0 hpl
        obtain ⟨ll, hll⟩ : ∃ ll, readL left s = ll := ⟨_, rfl⟩
        rw [hll] at HRE hrl
        have HHS := Lib.hid (fun q d W hrd => has09_any q d ll P W hrd hrl)
        obtain ⟨hb, hhb⟩ : ∃ hb, hasP ll P = hb := ⟨_, rfl⟩
        rw [hhb] at HHS
        have HLL := Lib.hid (And.intro hll hhb)
        clear hll hhb
        go_enter Try.func65, Try.ntmps65
        go_wp2_with fail
        rw [HW1.out.1]
        refine (HRI.out _).mono ?_
        rintro e w' ⟨rfl, rfl⟩
        go_wp2_with fail
        refine HCH.out.mono ?_
        rintro e w2 ⟨v, rfl, hset, hb2⟩
        have HB2 := Lib.hid (HW1.out.2.1.trans (hb2.mono HW1.out.2.1.size))
        have c1 := (hb2.cell (p := ⟨w.heap.size, 1, none⟩) (by show w.heap.size < W1.heap.size; have := HW1.out.2.2.2; omega)).trans c1
        have hzw : w.heap.size < w2.heap.size := by have := HW1.out.2.2.2; have := hb2.size; omega
        have HSET := Lib.hid hset
        clear hset hb2 HCH
        go_wp2_with fail
        refine (HRE.out w2 HB2.out).mono ?_
        rintro e w3 ⟨q, d, v2, rfl, hown, -, hb3⟩
        have c1 := (hb3.cell (p := ⟨w.heap.size, 1, none⟩) hzw).trans c1
        have HB3 := Lib.hid (HB2.out.trans (hb3.mono HB2.out.size))
        have HH3 := Lib.hid (HHS.out q d w3 (hown.rds pc_len))
        clear hown hb3 hzw HRE HHS
        by_cases hv : v = 0
        · subst hv
          cases hb with
          | true =>
            go_wp2_with fail
            refine HH3.out.mono ?_
            rintro e w' ⟨rfl, rfl⟩
            go_wp2_with fail
            go_ret
            exact ⟨2, rfl, fun h => absurd h (by decide), HB3.out⟩
          | false =>
            go_wp2_with fail
            refine HH3.out.mono ?_
            rintro e w' ⟨rfl, rfl⟩
            go_wp2_with fail
            go_ret
            exact ⟨0, rfl, fun _ => ⟨HSET.out (by trivial), HP0.out, HPL.out, by rw [HLL.out.1]; exact HLL.out.2⟩, HB3.out⟩
        · have hv' : (v == 0) = false := beq_eq_false_iff_ne.2 hv
          have HV := Lib.hid hv
          clear hv
          go_wp2_with fail
          go_ret
          exact ⟨v, rfl, fun h => absurd h HV.out, HB3.out⟩
end Go.Proofs.Ytenmogokbelahaa
