/- The walks of the reference's maps: Right, Of, Left, Words, Runs. -/
import Derived.Test.YtljegehfdmgcbaaDoorBmG
import Derived.Test.YtljegehfdmgcbaaDoorWordsE
namespace Go.Proofs.YtljegehfdmgcbaaDoor
open Go Go.RowKit

theorem elem_bm : ElemIs Tryd.prog 29 4 (.bool false) 1 1 := ⟨by kernel_rfl, by kernel_rfl, rfl, by decide⟩
def vbo (b : Bool) : Value := .bool b
/-- The bits of words, one by one. -/
def bitsB (l : List (BitVec 64)) (n : Nat) : List Bool := (List.range n).map (bitW l)
def curB (l : List (BitVec 64)) (n k : Nat) : List Bool := (List.range n).map fun j => decide (j < k) && bitW l j
theorem bitsB_len (l : List (BitVec 64)) (n : Nat) : (bitsB l n).length = n := by simp [bitsB]
theorem curB_len (l : List (BitVec 64)) (n k : Nat) : (curB l n k).length = n := by simp [curB]
theorem curB_zero (l : List (BitVec 64)) (n : Nat) : curB l n 0 = List.replicate n false := by
  unfold curB
  apply List.ext_getElem
  · simp
  · intro i h1 h2; simp
theorem curB_succ (l : List (BitVec 64)) (n k : Nat) (hk : k < n) : curB l n (k + 1) = (curB l n k).set k (bitW l k) := by
  apply List.ext_getElem
  · simp [curB]
  · intro i h1 h2
    simp only [curB, List.getElem_map, List.getElem_range, List.getElem_set]
    by_cases h : k = i
    · subst h; simp
    · rw [if_neg h]
      congr 1
      simp
      omega
theorem curB_more (l : List (BitVec 64)) (n k : Nat) (hk : n ≤ k) : curB l n k = bitsB l n := by
  apply List.ext_getElem
  · simp [curB, bitsB]
  · intro i h1 h2
    have : i < n := by simpa [curB] using h1
    simp [curB, bitsB, show i < k by omega]

theorem bit_quo (x : BitVec 64) (r : Nat) : ((IntKind.u64.wrap ((x.toNat : Int) / pw r)).tmod 2 == 1) = decide ((shrw x r).toNat % 2 = 1) := by
  rw [quo_wrap]
  have e : (shrw x r).toNat = x.toNat / 2 ^ r := by unfold shrw; rw [BitVec.toNat_ushiftRight, Nat.shiftRight_eq_div_pow]
  rw [e]
  generalize x.toNat / 2 ^ r = q
  rw [Int.tmod_eq_emod_of_nonneg (Int.natCast_nonneg _)]
  by_cases h : q % 2 = 1
  · rw [decide_eq_true h, beq_iff_eq]; omega
  · rw [decide_eq_false h, beq_eq_false_iff_ne]; omega
set_option maxHeartbeats 400000 in
theorem refRight05 (bits : Int) (w : World) : Calls Tryd.prog 18 #[.int .i64 bits] w fun e w' => e = .returned (.bool (decide (1 ≤ bits ∧ bits ≤ 65536))) ∧ w = w' := by
  by_cases h : 1 ≤ bits
  · go_enter Tryd.func18, Tryd.ntmps18
    go_wp2
    go_ret
    exact ⟨by simp [h], rfl⟩
  · have e : decide (1 ≤ bits ∧ bits ≤ 65536) = false := decide_eq_false (by omega)
    rw [e]
    clear e
    go_enter Tryd.func18, Tryd.ntmps18
    go_wp2
    go_ret
    exact ⟨rfl, rfl⟩
theorem made_bools (k : Nat) (hk : k ≤ 100000) (w : World) : (Instr.makeSlice 29 (.int .i64 (k : Int)) (.int .i64 (k : Int))).run Tryd.prog w =
    .ok (.slice (some ⟨w.heap.size, 0, none⟩) k k) (w.alloc (.cells (Array.replicate k (.bool false)) 4)) := by
  obtain ⟨i0, hi0, hz0, hz1, hz2⟩ := info_parts (elem_bm).info
  have h := run_makeSlice (P := Tryd.prog) (w := w) 29 4 i0 (.bool false) (elem_bm).under hi0 hz0 .i64 .i64 (k : Int) (k : Int) (by omega) (by omega) (by rw [hz1]; simp; omega) (by rw [hz2]; simp; omega) (by omega)
  rw [h, hz1]
  have e : madeCells (Value.bool false).cells ((k : Int).toNat * 1) = Array.replicate k (.bool false) := by
    apply Array.ext
    · simp [madeCells]
    · intro i h1 h2
      simp [madeCells, Value.cells, Nat.mod_one]
  rw [e]
  simp

set_option maxRecDepth 100000 in
set_option maxHeartbeats 8000000 in
theorem refOf05 (many : Int) (p : Option Addr) (cap : Nat) (l : List (BitVec 64)) (w : World) (hrd : RdL w.heap.size w p cap vw l) (hll : l.length ≤ 100000) :
    Calls Tryd.prog 10 #[.int .i64 many, .slice p l.length cap] w fun e w' =>
      (∃ g n, e = .returned (.tuple #[.slice (some ⟨g, 0, none⟩) n n, .int .i64 0]) ∧ many = (n : Nat) ∧ 1 ≤ n ∧ n ≤ 65536 ∧ RightW n l ∧ RdL w'.heap.size w' (some ⟨g, 0, none⟩) n vbo (bitsB l n) ∧ w.heap.size ≤ g ∧ Below w.heap.size w w') ∨ (e = .returned (.tuple #[.slice none 0 0, .int .i64 2]) ∧ ¬ OfOkB many l ∧ Below w.heap.size w w') := by
  have HR := Lib.hid hrd
  clear hrd
  by_cases hn : 1 ≤ many ∧ many ≤ 65536
  · obtain ⟨n, rfl⟩ : ∃ n : Nat, many = n := ⟨many.toNat, by omega⟩
    have h1 : 1 ≤ n := by omega
    have h2 : n ≤ 65536 := by omega
    have HRT := Lib.hid (refRight05 (n : Int) w)
    rw [decide_eq_true hn] at HRT
    have HN := Lib.hid (And.intro h1 h2)
    clear hn
    obtain ⟨k, hk⟩ : ∃ k, (n + 63) / 64 = k := ⟨_, rfl⟩
    have hq2 : ((n : Int) + 63).tdiv 64 = (k : Int) := by rw [Int.tdiv_eq_ediv_of_nonneg (by omega)]; omega
    have hq3 : ((n : Int) + 63) / 64 = (k : Int) := by omega
    have hw1 : IntKind.i64.wrap ((n : Int) + 63) = (n : Int) + 63 := by rw [IntKind.wrap_i64]; omega
    have hw3 : IntKind.i64.wrap (k : Int) = (k : Int) := by rw [IntKind.wrap_i64]; omega
    have HK := Lib.hid hk
    clear hk
    by_cases hl : l.length = k
    · subst hl
      have hmk := made_bools n (by omega)
      obtain ⟨wa, hwa⟩ : ∃ wa, w.alloc (.cells (Array.replicate n (.bool false)) 4) = wa := ⟨_, rfl⟩
      have hown : OwnO wa 4 1 (some ⟨w.heap.size, 0, none⟩) n n ((curB l n 0).map vbo) := by
        rw [curB_zero]
        exact ⟨by simp, Nat.le_refl _, by unfold maxLen; omega, .inr ⟨_, _, _, rfl, by rw [← hwa]; exact World.alloc_heap_new _ _, by simp, by simp [vbo]⟩⟩
      have hba : Below w.heap.size w wa := by rw [← hwa]; exact (Below.refl _ _).alloc (Nat.le_refl _) _
      have HA := Lib.hid (And.intro hown hba)
      have hnl : n ≤ 64 * l.length := by have := HK.out; omega
      have hl2 : l.length ≤ 1024 := by have := HK.out; omega
      clear hown hba
      have HWA := Lib.hid hwa
      clear hwa
      go_enter Tryd.func10, Tryd.ntmps10
      go_wp2_with fail
      refine HRT.out.mono ?_
      rintro e w' ⟨rfl, rfl⟩
      go_wp2_with fail
      rw [HWA.out]
      go_loopw [7] (fun i wr => ∃ k : Nat, k ≤ 64 * l.length ∧ i = .int .i64 k ∧ OwnO wr 4 1 (some ⟨w.heap.size, 0, none⟩) n n ((curB l n k).map vbo) ∧ (∀ j, n ≤ j → j < k → bitW l j = false) ∧ Below w.heap.size w wr) (fun i _ => 64 * l.length - (intOf i).toNat)
      case atStart => exact ⟨0, Nat.zero_le _, rfl, HA.out.1, fun j h1 h2 => by omega, HA.out.2⟩
      case round =>
        obtain ⟨k, hk, rfl, hown, hfree, hb⟩ := hrel
        have HB := Lib.hid (And.intro hown (And.intro hfree hb))
        by_cases hlt : k < 64 * l.length
        · obtain ⟨b, off, rfl, hbl, hc⟩ := HR.out.at (k / 64) (by omega)
          have hc' : wr.cell? ⟨b, off + k / 64, none⟩ = _ := (hb.cell (p := ⟨b, off + k / 64, none⟩) hbl).trans hc
          have e : bitW l k = decide ((shrw (l[k / 64]'(by omega)) (k % 64)).toNat % 2 = 1) := by
            unfold bitW
            simp [show k / 64 < l.length by omega]
          obtain ⟨x, hx⟩ : ∃ x, l[k / 64]'(by omega) = x := ⟨_, rfl⟩
          rw [hx] at hc' e
          have hq : (k : Int).tdiv 64 = ((k / 64 : Nat) : Int) := by rw [Int.tdiv_eq_ediv_of_nonneg (by omega)]; omega
          have hr : (k : Int).tmod 64 = ((k % 64 : Nat) : Int) := by rw [Int.tmod_eq_emod_of_nonneg (by omega)]; omega
          have hqe : (k : Int) / 64 = ((k / 64 : Nat) : Int) := by omega
          have hre : (k : Int) % 64 = ((k % 64 : Nat) : Int) := by omega
          have hq1 : ((k / 64 : Nat) : Int) < ((l.length : Nat) : Int) := by omega
          have hr1 : ((k % 64 : Nat) : Int) < 64 := by omega
          have hk2 : ((k / 64 : Nat) : Int) ≤ 6400000 := by omega
          have hkl : (k : Int) < 64 * (l.length : Int) := by omega
          have HE := Lib.hid e
          clear hown hfree hb hc hx e HA HWA hbl
          generalize k / 64 = q at *
          generalize hrg : k % 64 = r at *
          have hr63 : r ≤ 63 := by omega
          have hwq : IntKind.i64.wrap (q : Int) = q := by rw [IntKind.wrap_i64]; omega
          have hq0 : (0 : Int) ≤ (q : Int) := by omega
          have hr0 : (0 : Int) ≤ (r : Int) := by omega
          have hp0 : (pw r == 0) = false := by have := pw_pos r; simp; omega
          have hp1 : pw r ≠ 0 := by have := pw_pos r; omega
          clear hrg
          go_wp2_with fail
          go_quiet ((go_at_call 29; exact Calls.quiet_of_same ((power_any _ hr63 _).mono fun _ _ ⟨h1, h2⟩ => ⟨h1, h2.symm⟩)))
          rw [bit_quo x r, ← HE.out]
          have hlen : n = (curB l n k).length := (curB_len l n k).symm
          cases hbt : bitW l k with
          | true =>
            by_cases hkn : k < n
            · have hown := HB.out.1.set k (vbo (bitW l k))
              rw [← List.map_set, ← curB_succ l n k hkn, Nat.zero_add] at hown
              have hcell := HB.out.1.cellAt k (by omega)
              rw [Nat.zero_add] at hcell
              have hcs : ∃ v, (wr.drewN nq).cell? ⟨w.heap.size, k, none⟩ = some v := ⟨_, hcell.trans (by rw [List.getElem?_map, List.getElem?_eq_getElem (by rw [curB_len]; exact hkn)]; rfl)⟩
              obtain ⟨v, hcs⟩ := hcs
              have hfz : (wr.drewN nq).frozen? ⟨w.heap.size, k, none⟩ = false := HB.out.1.free (by omega) k
              have HO := Lib.hid hown
              have hkn' : (k : Int) < (n : Int) := by omega
              have HBT := Lib.hid hbt
              clear hown hcell hbt hlen
              go_wp2_with fail
              go_roundw
              case rel => exact ⟨k + 1, by omega, by go_num, by have h9 := HO.out; rw [HBT.out] at h9; exact h9.keep (fun b _ => rfl), fun j h1 h2 => by omega, by exact (below_drewN HB.out.2.2 nq).setCell (p := ⟨w.heap.size, k, none⟩) (Nat.le_refl _) _⟩
              case measure => simp [intOf]; omega
            · have HNO : Hid (¬ OfOkB (n : Int) l) := Lib.hid (by
                rintro ⟨n', h1', _, _, h4'⟩
                have : n' = n := by omega
                subst this
                have := h4'.2 k (by omega) hlt
                rw [hbt] at this
                cases this)
              have hkn' : (n : Int) ≤ (k : Int) := by omega
              clear hbt hlen
              go_wp2_with fail
              go_ret2
              exact .inr ⟨rfl, HNO.out, below_drewN HB.out.2.2 nq⟩
          | false =>
            have HBT := Lib.hid hbt
            by_cases hkn : k < n
            · have hown := HB.out.1.set k (vbo (bitW l k))
              rw [← List.map_set, ← curB_succ l n k hkn, Nat.zero_add] at hown
              have hcell := HB.out.1.cellAt k (by omega)
              rw [Nat.zero_add] at hcell
              have hcs : ∃ v, (wr.drewN nq).cell? ⟨w.heap.size, k, none⟩ = some v := ⟨_, hcell.trans (by rw [List.getElem?_map, List.getElem?_eq_getElem (by rw [curB_len]; exact hkn)]; rfl)⟩
              obtain ⟨v, hcs⟩ := hcs
              have hfz : (wr.drewN nq).frozen? ⟨w.heap.size, k, none⟩ = false := HB.out.1.free (by omega) k
              have HO := Lib.hid hown
              have hkn' : (k : Int) < (n : Int) := by omega
              clear hown hcell hbt hlen
              go_wp2_with fail
              go_roundw
              case rel => exact ⟨k + 1, by omega, by go_num, by have h9 := HO.out; rw [HBT.out] at h9; exact h9.keep (fun b _ => rfl), fun j h1 h2 => by omega, by exact (below_drewN HB.out.2.2 nq).setCell (p := ⟨w.heap.size, k, none⟩) (Nat.le_refl _) _⟩
              case measure => simp [intOf]; omega
            · have hkn' : (n : Int) ≤ (k : Int) := by omega
              clear hbt hlen
              go_wp2_with fail
              go_roundw
              case rel => exact ⟨k + 1, by omega, by go_num, by rw [curB_more l n (k + 1) (by omega), ← curB_more l n k (by omega)]; exact HB.out.1.keep (fun b _ => rfl), fun j h1 h2 => by
                by_cases hj : j = k
                · rw [hj]; exact HBT.out
                · exact HB.out.2.1 j h1 (by omega), below_drewN HB.out.2.2 nq⟩
              case measure => simp [intOf]; omega
        · obtain rfl : k = 64 * l.length := by omega
          have hnk : n ≤ 64 * l.length := hnl
          clear hown hfree hb
          go_wp2_with fail
          go_ret2
          have h9 := HB.out.1
          rw [curB_more l n _ hnl] at h9
          refine .inl ⟨w.heap.size, n, rfl, rfl, h1, h2, ⟨HK.out.symm, fun j hj1 hj2 => HB.out.2.1 j hj1 hj2⟩, ?_, Nat.le_refl _, HB.out.2.2⟩
          refine ⟨by rw [bitsB_len]; exact Nat.le_refl _, h9.max, .inr ⟨w.heap.size, 0, rfl, h9.lt ⟨_, rfl, rfl, by omega⟩, fun i hi => ?_⟩⟩
          rw [bitsB_len] at hi
          have := h9.cellAt i (by omega)
          rw [this]
          simp [bitsB_len, hi]
    · have hl0 : ((l.length : Int) != (k : Int)) = true := by simp; omega
      have HNO : Hid (¬ OfOkB (n : Int) l) := Lib.hid (by
        rintro ⟨n', h1', _, _, h4'⟩
        have : n' = n := by omega
        subst this
        exact hl (h4'.1.trans HK.out))
      clear hl
      go_enter Tryd.func10, Tryd.ntmps10
      go_wp2_with fail
      refine HRT.out.mono ?_
      rintro e w' ⟨rfl, rfl⟩
      go_wp2_with fail
      go_ret2
      exact .inr ⟨rfl, HNO.out, Below.refl _ _⟩
  · have HNO : Hid (¬ OfOkB many l) := Lib.hid (by
      rintro ⟨n', h1', h2', h3', _⟩
      exact hn ⟨by omega, by omega⟩)
    have HRT := Lib.hid (refRight05 many w)
    rw [decide_eq_false hn] at HRT
    clear hn
    go_enter Tryd.func10, Tryd.ntmps10
    go_wp2_with fail
    refine HRT.out.mono ?_
    rintro e w' ⟨rfl, rfl⟩
    go_wp2_with fail
    go_ret2
    exact .inr ⟨rfl, HNO.out, Below.refl _ _⟩
end Go.Proofs.YtljegehfdmgcbaaDoor
