/- The walks of the reference's Left, Words, Runs. -/
import Derived.Test.YtljegehfdmgcbaaDoorBmH
namespace Go.Proofs.YtljegehfdmgcbaaDoor
open Go Go.RowKit

theorem bitsB_get (l : List (BitVec 64)) (n k : Nat) (hk : k < (bitsB l n).length) : (bitsB l n)[k] = bitW l k := by simp [bitsB]
set_option maxRecDepth 100000 in
set_option maxHeartbeats 2000000 in
theorem refLeft05 (p : Option Addr) (cap : Nat) (l : List (BitVec 64)) (n : Nat) (w : World) (hrd : RdL w.heap.size w p cap vbo (bitsB l n)) (hn : n ≤ 65536) :
    Calls Tryd.prog 37 #[.slice p n cap] w fun e w' => e = .returned (.int .i64 ((n : Int) - cntF (bitW l) n)) ∧ w = w' := by
  have HR := Lib.hid hrd
  clear hrd
  go_enter Tryd.func37, Tryd.ntmps37
  go_wp2_with fail
  go_loopw [3, 4] (fun x i wr => ∃ k : Nat, k ≤ n ∧ i = .int .i64 k ∧ x = .int .i64 ((k : Int) - cntF (bitW l) k) ∧ w = wr) (fun _ i _ => n - (intOf i).toNat)
  case atStart => exact ⟨0, Nat.zero_le _, rfl, by simp [cntF], rfl⟩
  case round =>
    obtain ⟨k, hk, rfl, rfl, rfl⟩ := hrel
    by_cases hlt : k < n
    · obtain ⟨b, off, rfl, hbl, hc⟩ := HR.out.at k (by rw [bitsB_len]; exact hlt)
      rw [bitsB_get] at hc
      have hs := cntF_succ (bitW l) k
      have hle := cntF_le (bitW l) k
      have hk2 : (k : Int) < (n : Int) := by omega
      obtain ⟨c, hcc⟩ : ∃ c, cntF (bitW l) k = c := ⟨_, rfl⟩
      rw [hcc] at hs hle ⊢
      unfold vbo at hc
      cases hb : bitW l k with
      | true =>
        rw [hb] at hc hs
        rw [if_pos rfl] at hs
        have HS := Lib.hid hs
        clear hs hb hcc
        go_wp2_with fail
        go_roundw
        case rel => exact ⟨k + 1, by omega, by go_num, by rw [HS.out]; congr 1; push_cast; omega, trivial⟩
        case measure => simp [intOf]; omega
      | false =>
        rw [hb] at hc hs
        rw [if_neg (by simp), Nat.add_zero] at hs
        have HS := Lib.hid hs
        have hw : IntKind.i64.wrap ((k : Int) - c + 1) = (k : Int) - c + 1 := by rw [IntKind.wrap_i64]; omega
        clear hs hb hcc
        go_wp2_with fail
        go_roundw
        case rel => exact ⟨k + 1, by omega, by go_num, by rw [HS.out]; congr 1; push_cast; omega, trivial⟩
        case measure => simp [intOf]; omega
    · obtain rfl : k = n := by omega
      go_wp2_with fail
      go_ret
      exact ⟨rfl, rfl⟩

/-- The words, cut behind so many bits. -/
def cutV (l : List (BitVec 64)) (k q : Nat) : BitVec 64 := BitVec.ofNat 64 ((l.getD q 0#64).toNat % 2 ^ (k - 64 * q))
def cutW (l : List (BitVec 64)) (k : Nat) : List (BitVec 64) := (List.range l.length).map (cutV l k)
theorem cutW_len (l : List (BitVec 64)) (k : Nat) : (cutW l k).length = l.length := by simp [cutW]
theorem cutW_get (l : List (BitVec 64)) (k q : Nat) (hq : q < (cutW l k).length) : (cutW l k)[q] = cutV l k q := by simp [cutW]
theorem cutW_zero (l : List (BitVec 64)) : cutW l 0 = List.replicate l.length 0#64 := by
  apply List.ext_getElem
  · simp [cutW]
  · intro i h1 h2
    simp [cutW, cutV, Nat.mod_one]
theorem cutV_nat (l : List (BitVec 64)) (k q : Nat) : (cutV l k q).toNat = (l.getD q 0#64).toNat % 2 ^ (k - 64 * q) := by
  unfold cutV
  rw [BitVec.toNat_ofNat, Nat.mod_eq_of_lt]
  exact Nat.lt_of_le_of_lt (Nat.mod_le _ _) (l.getD q 0#64).isLt
theorem cutV_far (l : List (BitVec 64)) (k q : Nat) (h : q ≠ k / 64) : cutV l (k + 1) q = cutV l k q := by
  apply BitVec.eq_of_toNat_eq
  rw [cutV_nat, cutV_nat]
  by_cases h2 : k < 64 * q
  · rw [show k + 1 - 64 * q = 0 by omega, show k - 64 * q = 0 by omega]
  · have h3 : 64 ≤ k - 64 * q := by omega
    have hl := (l.getD q 0#64).isLt
    have p1 : (2 : Nat) ^ 64 ≤ 2 ^ (k - 64 * q) := Nat.pow_le_pow_right (by decide) h3
    have p2 : (2 : Nat) ^ 64 ≤ 2 ^ (k + 1 - 64 * q) := Nat.pow_le_pow_right (by decide) (by omega)
    rw [Nat.mod_eq_of_lt (by omega), Nat.mod_eq_of_lt (by omega)]
theorem cutV_at (l : List (BitVec 64)) (k : Nat) : (cutV l (k + 1) (k / 64)).toNat = (cutV l k (k / 64)).toNat + if bitW l k then 2 ^ (k % 64) else 0 := by
  rw [cutV_nat, cutV_nat, show k + 1 - 64 * (k / 64) = k % 64 + 1 by omega, show k - 64 * (k / 64) = k % 64 by omega, bitW_lsb, BitVec.getLsbD]
  generalize (l.getD (k / 64) 0#64).toNat = x
  generalize k % 64 = r
  rw [Nat.pow_succ, Nat.mod_mul, Nat.testBit_eq_decide_div_mod_eq]
  have := Nat.mod_two_eq_zero_or_one (x / 2 ^ r)
  rcases this with h | h <;> simp [h]
theorem cutW_succ_false (l : List (BitVec 64)) (k : Nat) (h : bitW l k = false) : cutW l (k + 1) = cutW l k := by
  unfold cutW
  refine List.map_congr_left fun q _ => ?_
  by_cases hq : q = k / 64
  · subst hq
    apply BitVec.eq_of_toNat_eq
    rw [cutV_at, h]
    simp
  · exact cutV_far l k q hq
theorem cutW_succ_true (l : List (BitVec 64)) (k : Nat) (h : bitW l k = true) : cutW l (k + 1) = (cutW l k).set (k / 64) (addw (cutV l k (k / 64)) (BitVec.ofNat 64 (2 ^ (k % 64)))) := by
  apply List.ext_getElem
  · simp [cutW]
  · intro q h1 h2
    rw [cutW_get, List.getElem_set]
    by_cases hq : k / 64 = q
    · rw [if_pos hq]
      subst hq
      apply BitVec.eq_of_toNat_eq
      have hlt := (cutV l (k + 1) (k / 64)).isLt
      have ha := cutV_at l k
      rw [h, if_pos rfl] at ha
      unfold addw
      have hp : 2 ^ (k % 64) < 2 ^ 64 := Nat.pow_lt_pow_right (by decide) (by omega)
      rw [BitVec.toNat_add, BitVec.toNat_ofNat, Nat.mod_eq_of_lt hp, ← ha, Nat.mod_eq_of_lt hlt]
    · rw [if_neg hq, cutW_get]
      exact cutV_far l k q (Ne.symm hq)
theorem cutW_all {l : List (BitVec 64)} {n : Nat} (h : RightW n l) : cutW l n = l := by
  apply List.ext_getElem
  · simp [cutW]
  · intro q h1 h2
    rw [cutW_get]
    apply BitVec.eq_of_toNat_eq
    rw [cutV_nat, List.getD_eq_getElem?_getD, List.getElem?_eq_getElem h2, Option.getD_some]
    apply Nat.mod_eq_of_lt
    by_cases hq : 64 * q + 64 ≤ n
    · have p1 : (2 : Nat) ^ 64 ≤ 2 ^ (n - 64 * q) := Nat.pow_le_pow_right (by decide) (by omega)
      have := (l[q]).isLt
      omega
    · refine Nat.lt_pow_two_of_testBit _ fun i hi => ?_
      by_cases h64 : i < 64
      · have := h.2 (64 * q + i) (by omega) (by omega)
        rw [bitW_lsb, show (64 * q + i) / 64 = q by omega, show (64 * q + i) % 64 = i by omega, BitVec.getLsbD, List.getD_eq_getElem?_getD, List.getElem?_eq_getElem h2, Option.getD_some] at this
        exact this
      · exact Nat.testBit_lt_two_pow (Nat.lt_of_lt_of_le (l[q]).isLt (Nat.pow_le_pow_right (by decide) (by omega)))

set_option maxRecDepth 100000 in
set_option maxHeartbeats 8000000 in
theorem refWords05 (p : Option Addr) (cap : Nat) (l : List (BitVec 64)) (n : Nat) (w : World) (hrd : RdL w.heap.size w p cap vbo (bitsB l n)) (h1 : 1 ≤ n) (hn : n ≤ 65536) (hright : RightW n l) :
    Calls Tryd.prog 38 #[.slice p n cap] w fun e w' => ∃ g, e = .returned (.slice (some ⟨g, 0, none⟩) l.length l.length) ∧ RdL w'.heap.size w' (some ⟨g, 0, none⟩) l.length vw l ∧ w.heap.size ≤ g ∧ Below w.heap.size w w' := by
  have HR := Lib.hid hrd
  have hll := hright.1
  have hl2 : l.length ≤ 1024 := by omega
  have HRT := Lib.hid hright
  clear hrd hright
  have hq2 : ((n : Int) + 63).tdiv 64 = (l.length : Int) := by rw [Int.tdiv_eq_ediv_of_nonneg (by omega)]; omega
  have hq3 : ((n : Int) + 63) / 64 = (l.length : Int) := by omega
  have hw1 : IntKind.i64.wrap ((n : Int) + 63) = (n : Int) + 63 := by rw [IntKind.wrap_i64]; omega
  have hw3 : IntKind.i64.wrap (l.length : Int) = (l.length : Int) := by rw [IntKind.wrap_i64]; omega
  have hmk := made_w64 l.length (by omega)
  obtain ⟨wa, hwa⟩ : ∃ wa, w.alloc (.cells (Array.replicate l.length (vw 0#64)) 60) = wa := ⟨_, rfl⟩
  have hown : OwnO wa 60 1 (some ⟨w.heap.size, 0, none⟩) l.length l.length ((cutW l 0).map vw) := by
    rw [cutW_zero]
    exact ⟨by simp, Nat.le_refl _, by unfold maxLen; omega, .inr ⟨_, _, _, rfl, by rw [← hwa]; exact World.alloc_heap_new _ _, by simp, by simp⟩⟩
  have hba : Below w.heap.size w wa := by rw [← hwa]; exact (Below.refl _ _).alloc (Nat.le_refl _) _
  have HA := Lib.hid (And.intro hown hba)
  have HLL := Lib.hid hll
  have HWA := Lib.hid hwa
  clear hown hba hll hwa
  go_enter Tryd.func38, Tryd.ntmps38
  go_wp2_with fail
  rw [HWA.out]
  go_loopw [4] (fun i wr => ∃ k : Nat, k ≤ n ∧ i = .int .i64 k ∧ OwnO wr 60 1 (some ⟨w.heap.size, 0, none⟩) l.length l.length ((cutW l k).map vw) ∧ Below w.heap.size w wr) (fun i _ => n - (intOf i).toNat)
  case atStart => exact ⟨0, Nat.zero_le _, rfl, HA.out.1, HA.out.2⟩
  case round =>
    obtain ⟨k, hk, rfl, hown, hb⟩ := hrel
    have HB := Lib.hid (And.intro hown hb)
    by_cases hlt : k < n
    · obtain ⟨b, off, rfl, hbl, hc⟩ := HR.out.at k (by rw [bitsB_len]; exact hlt)
      rw [bitsB_get] at hc
      have hc' : wr.cell? ⟨b, off + k, none⟩ = _ := (hb.cell (p := ⟨b, off + k, none⟩) hbl).trans hc
      unfold vbo at hc'
      have hk2 : (k : Int) < (n : Int) := by omega
      cases hbit : bitW l k with
      | false =>
        rw [hbit] at hc'
        have HC := Lib.hid (cutW_succ_false l k hbit)
        clear hbit hown hb hc hbl
        go_wp2_with fail
        go_roundw
        case rel => exact ⟨k + 1, by omega, by go_num, by rw [HC.out]; exact HB.out.1, HB.out.2⟩
        case measure => simp [intOf]; omega
      | true =>
        rw [hbit] at hc'
        have HC := Lib.hid (cutW_succ_true l k hbit)
        have hkl : k / 64 < l.length := by have := HLL.out; omega
        have hcw := HB.out.1.cellAt (k / 64) (by omega)
        rw [Nat.zero_add, List.getElem?_map, List.getElem?_eq_getElem (by rw [cutW_len]; exact hkl), Option.map_some, cutW_get] at hcw
        have hfz : wr.frozen? ⟨w.heap.size, k / 64, none⟩ = false := HB.out.1.free (by omega) (k / 64)
        have hq : (k : Int).tdiv 64 = ((k / 64 : Nat) : Int) := by rw [Int.tdiv_eq_ediv_of_nonneg (by omega)]; omega
        have hr : (k : Int).tmod 64 = ((k % 64 : Nat) : Int) := by rw [Int.tmod_eq_emod_of_nonneg (by omega)]; omega
        have hqe : (k : Int) / 64 = ((k / 64 : Nat) : Int) := by omega
        have hre : (k : Int) % 64 = ((k % 64 : Nat) : Int) := by omega
        have hq1 : ((k / 64 : Nat) : Int) < ((l.length : Nat) : Int) := by omega
        have hkq : ((k / 64 : Nat) : Int) ≤ 6400000 := by omega
        have hpw : pw (k % 64) = ((BitVec.ofNat 64 (2 ^ (k % 64))).toNat : Int) := by
          unfold pw
          rw [BitVec.toNat_ofNat, Nat.mod_eq_of_lt (Nat.pow_lt_pow_right (by decide) (by omega))]
        obtain ⟨x, hx⟩ : ∃ x, cutV l k (k / 64) = x := ⟨_, rfl⟩
        rw [hx] at hcw HC
        have hr63 : k % 64 ≤ 63 := by omega
        have hset : OwnO (wr.setCell ⟨w.heap.size, k / 64, none⟩ (vw (addw x (BitVec.ofNat 64 (2 ^ (k % 64)))))) 60 1 (some ⟨w.heap.size, 0, none⟩) l.length l.length ((cutW l (k + 1)).map vw) := by
          have := HB.out.1.set (k / 64) (vw (addw x (BitVec.ofNat 64 (2 ^ (k % 64)))))
          rw [Nat.zero_add, ← List.map_set] at this
          rw [HC.out]
          exact this
        have HSET := Lib.hid hset
        clear hbit hown hb hc hbl hx hset
        generalize k / 64 = q at *
        generalize k % 64 = r at *
        generalize BitVec.ofNat 64 (2 ^ r) = y at *
        have hwq : IntKind.i64.wrap (q : Int) = q := by rw [IntKind.wrap_i64]; omega
        have hq0 : (0 : Int) ≤ (q : Int) := by omega
        have hadd := add_w x y
        clear HWA HA
        go_wp2_with fail
        have hcwd : wr.drew.cell? ⟨w.heap.size, q, none⟩ = some (vw x) := hcw
        refine wp_region_noPanic ?_
        refine wp_region_F 13 (fun w' => w'.cell? ⟨w.heap.size, q, none⟩ = some (vw x)) (by kernel_rfl) ?_ (fun hHeld => ?_)
        · exact hcwd
        refine' wpAnyF_takeT (i := 0) (v := _) rfl (by kernel_rfl) (by kernel_rfl) (by kernel_rfl) (by rfl) (fun _ _ _ h => h) (Or.inl ⟨by rfl, ?hy⟩) (fun _ => hHeld) _
        case hy => (intro w0 hSw; (try dsimp only at hSw); simp only [List.getElem_toArray, List.getElem_cons_zero]; go_simp; first | done | with_reducible rfl)
        simp only [Act.put, List.getElem_toArray, List.getElem_cons_zero, List.setIfInBounds_toArray, List.set_cons_zero, List.set_cons_succ]
        refine' wpAnyF_takeT (i := 1) (v := _) rfl (by kernel_rfl) (by kernel_rfl) (by kernel_rfl) (by rfl) (fun _ _ _ h => h) (Or.inl ⟨by rfl, ?hy⟩) (fun _ => hHeld) _
        case hy => (intro w0 hSw; (try dsimp only at hSw); simp only [List.getElem_toArray, List.getElem_cons_zero, List.getElem_cons_succ]; go_simp; first | done | with_reducible rfl)
        simp only [Act.put, List.getElem_toArray, List.getElem_cons_zero, List.getElem_cons_succ, List.setIfInBounds_toArray, List.set_cons_zero, List.set_cons_succ]
        refine' wpAnyF_takeT (i := 2) (v := _) rfl (by kernel_rfl) (by kernel_rfl) (by kernel_rfl) (by rfl) (fun _ _ _ h => h) (Or.inl ⟨by rfl, ?hy⟩) (fun _ => hHeld) _
        case hy => (intro w0 hSw; (try dsimp only at hSw); simp only [List.getElem_toArray, List.getElem_cons_zero, List.getElem_cons_succ]; go_simp; first | done | with_reducible rfl)
        simp only [Act.put, List.getElem_toArray, List.getElem_cons_zero, List.getElem_cons_succ, List.setIfInBounds_toArray, List.set_cons_zero, List.set_cons_succ]
        refine' wpAnyF_takeT (i := 3) (v := _) rfl (by kernel_rfl) (by kernel_rfl) (by kernel_rfl) (by rfl) (fun _ _ _ h => h) (Or.inl ⟨by rfl, ?hy⟩) (fun _ => hHeld) _
        case hy => (intro w0 hSw; (try dsimp only at hSw); simp only [List.getElem_toArray, List.getElem_cons_zero, List.getElem_cons_succ]; go_simp; first | done | with_reducible rfl)
        simp only [Act.put, List.getElem_toArray, List.getElem_cons_zero, List.getElem_cons_succ, List.setIfInBounds_toArray, List.set_cons_zero, List.set_cons_succ]
        refine' wpAnyF_takeT (i := 4) (v := _) rfl (by kernel_rfl) (by kernel_rfl) (by kernel_rfl) (by rfl) (fun _ _ _ h => h) (Or.inl ⟨by rfl, ?hy⟩) (fun _ => hHeld) _
        case hy => (intro w0 hSw; (try dsimp only at hSw); simp only [List.getElem_toArray, List.getElem_cons_zero, List.getElem_cons_succ]; go_simp; first | done | with_reducible rfl)
        simp only [Act.put, List.getElem_toArray, List.getElem_cons_zero, List.getElem_cons_succ, List.setIfInBounds_toArray, List.set_cons_zero, List.set_cons_succ]
        refine' wpAnyF_takeT (i := 5) (v := _) rfl (by kernel_rfl) (by kernel_rfl) (by kernel_rfl) (by rfl) (fun _ _ _ h => h) (Or.inl ⟨by rfl, ?hy⟩) (fun _ => hHeld) _
        case hy => (intro w0 hSw; (try dsimp only at hSw); simp only [List.getElem_toArray, List.getElem_cons_zero, List.getElem_cons_succ]; go_simp; first | done | with_reducible rfl)
        simp only [Act.put, List.getElem_toArray, List.getElem_cons_zero, List.getElem_cons_succ, List.setIfInBounds_toArray, List.set_cons_zero, List.set_cons_succ]
        refine' wpAnyF_takeT (i := 6) (v := _) rfl (by kernel_rfl) (by kernel_rfl) (by kernel_rfl) (by rfl) (fun _ _ _ h => h) (Or.inl ⟨by rfl, ?hy⟩) (fun _ => hHeld) _
        case hy => (intro w0 hSw; (try dsimp only at hSw); simp only [List.getElem_toArray, List.getElem_cons_zero, List.getElem_cons_succ]; go_simp; first | done | with_reducible rfl)
        simp only [Act.put, List.getElem_toArray, List.getElem_cons_zero, List.getElem_cons_succ, List.setIfInBounds_toArray, List.set_cons_zero, List.set_cons_succ]
        refine' wpAnyF_take (i := 7) (v := _) rfl (by kernel_rfl) (by kernel_rfl) (by kernel_rfl) (by kernel_rfl) (by rfl) (by kernel_rfl) (fun _ _ _ h => h) (Or.inl ⟨by rfl, ?hy⟩) hHeld _
        case hy => (intro w0 hSw; (try dsimp only at hSw); simp only [List.getElem_toArray, List.getElem_cons_zero, List.getElem_cons_succ]; go_simp; first | done | with_reducible rfl)
        simp only [Act.put, List.getElem_toArray, List.getElem_cons_zero, List.getElem_cons_succ, List.setIfInBounds_toArray, List.set_cons_zero, List.set_cons_succ]
        refine' wpAnyF_takeT (i := 8) (v := _) rfl (by kernel_rfl) (by kernel_rfl) (by kernel_rfl) (by rfl) (fun _ _ _ h => h) (Or.inl ⟨by rfl, ?hy⟩) (fun _ => hHeld) _
        case hy => (intro w0 hSw; (try dsimp only at hSw); simp only [List.getElem_toArray, List.getElem_cons_zero, List.getElem_cons_succ]; go_simp; first | done | with_reducible rfl)
        simp only [Act.put, List.getElem_toArray, List.getElem_cons_zero, List.getElem_cons_succ, List.setIfInBounds_toArray, List.set_cons_zero, List.set_cons_succ]
        refine' wpAnyF_takeT (i := 9) (v := _) rfl (by kernel_rfl) (by kernel_rfl) (by kernel_rfl) (by rfl) (fun _ _ _ h => h) (Or.inl ⟨by rfl, ?hy⟩) (fun _ => hHeld) _
        case hy => (intro w0 hSw; (try dsimp only at hSw); simp only [List.getElem_toArray, List.getElem_cons_zero, List.getElem_cons_succ]; go_simp; first | done | with_reducible rfl)
        simp only [Act.put, List.getElem_toArray, List.getElem_cons_zero, List.getElem_cons_succ, List.setIfInBounds_toArray, List.set_cons_zero, List.set_cons_succ]
        refine wpAnyF_one (i := 10) (by kernel_rfl) rfl (fun K hK => ?_)
        go_simp
        refine (power_any r hr63 _).mono ?_
        rintro e w' ⟨rfl, rfl⟩
        try rw [hpw]
        refine hK.out _ _ (fun _ => ?_) ?_
        · exact hHeld
        clear hK K
        try simp only [Act.put, List.getElem_toArray, List.getElem_cons_zero, List.getElem_cons_succ, List.setIfInBounds_toArray, List.set_cons_zero, List.set_cons_succ]
        refine' wpAnyF_takeT (i := 11) (v := _) rfl (by kernel_rfl) (by kernel_rfl) (by kernel_rfl) (by rfl) (fun _ _ _ h => h) (Or.inl ⟨by rfl, ?hy⟩) (fun _ => hHeld) _
        case hy => (intro w0 hSw; (try dsimp only at hSw); simp only [List.getElem_toArray, List.getElem_cons_zero, List.getElem_cons_succ]; go_simp; first | done | with_reducible rfl)
        simp only [Act.put, List.getElem_toArray, List.getElem_cons_zero, List.getElem_cons_succ, List.setIfInBounds_toArray, List.set_cons_zero, List.set_cons_succ]
        refine' wpAnyF_takeT (i := 12) (v := _) rfl (by kernel_rfl) (by kernel_rfl) (by kernel_rfl) (by rfl) (fun _ _ _ h => h) (Or.inl ⟨by rfl, ?hy⟩) (fun _ => hHeld) _
        case hy => (intro w0 hSw; (try dsimp only at hSw); simp only [List.getElem_toArray, List.getElem_cons_zero, List.getElem_cons_succ]; go_simp; first | done | with_reducible rfl)
        simp only [Act.put, List.getElem_toArray, List.getElem_cons_zero, List.getElem_cons_succ, List.setIfInBounds_toArray, List.set_cons_zero, List.set_cons_succ]
        refine wpAnyF_one (i := 13) (by kernel_rfl) rfl (fun K hK => ?_)
        go_simp
        refine hK.out _ _ (fun h => Bool.noConfusion (h.symm.trans (by kernel_rfl : _ = true))) ?_
        clear hK K
        try simp only [Act.put, List.getElem_toArray, List.getElem_cons_zero, List.getElem_cons_succ, List.setIfInBounds_toArray, List.set_cons_zero, List.set_cons_succ]
        refine wpAnyF_done (by kernel_rfl) ?_ _
        refine NoPanic.normal ?_
        go_wp2_with fail
        go_roundw
        case rel => exact ⟨k + 1, by omega, by go_num, HSET.out.keep (fun b _ => rfl), by exact (HB.out.2.setCell (p := ⟨w.heap.size, q, none⟩) (Nat.le_refl _) _).drew⟩
        case measure => simp [intOf]; omega
    · obtain rfl : k = n := by omega
      clear hown hb HWA HA
      go_wp2_with fail
      go_ret
      have h9 := HB.out.1
      rw [cutW_all HRT.out] at h9
      refine ⟨w.heap.size, rfl, ⟨Nat.le_refl _, h9.max, .inr ⟨w.heap.size, 0, rfl, h9.lt ⟨_, rfl, rfl, by have := HLL.out; omega⟩, fun i hi => ?_⟩⟩, Nat.le_refl _, HB.out.2⟩
      have := h9.cellAt i (by omega)
      rw [this]
      simp [hi]

def rc2 (r : Run2) : List Value := [.int .i64 r.1, .int .i64 r.2]
theorem rc2_len (r : Run2) : (rc2 r).length = 2 := rfl
theorem rc2_one (r : Run2) : ∀ u ∈ rc2 r, u.oneCell' = true := by intro u hu; simp [rc2] at hu; rcases hu with rfl | rfl <;> rfl
theorem elem_run2 : ElemIs Tryd.prog 33 39 (.agg #[.int .i64 0, .int .i64 0]) 2 16 := ⟨by kernel_rfl, by kernel_rfl, rfl, by decide⟩
theorem runs_step0 (f : Nat → Bool) (k : Nat) (h : f k = false) : runsF f (k + 1) = runsF f k := by
  unfold runsF
  rw [stR_succ, h]
  rcases hs : stR f k with ⟨ds, _ | ⟨a, m⟩⟩ <;> simp
theorem runs_step1 (f : Nat → Bool) (k : Nat) (h : f k = true) (h2 : k = 0 ∨ f (k - 1) = false) : runsF f (k + 1) = runsF f k ++ [(k, 1)] := by
  have hc := (stR_cur f k).1
  unfold runsF
  rw [stR_succ, h]
  rcases hs : stR f k with ⟨ds, _ | ⟨a, m⟩⟩
  · simp
  · rw [hs] at hc
    obtain ⟨g1, g2, g3⟩ := hc a m rfl
    have := g3 (k - 1) (by omega) (by omega)
    rcases h2 with h2 | h2
    · omega
    · rw [h2] at this; cases this
theorem runs_step2 (f : Nat → Bool) (k : Nat) (h : f k = true) (h0 : 0 < k) (h2 : f (k - 1) = true) : ∃ ds a m, runsF f k = ds ++ [(a, m)] ∧ runsF f (k + 1) = ds ++ [(a, m + 1)] ∧ m ≤ k := by
  have hc := stR_cur f k
  unfold runsF
  rw [stR_succ, h]
  rcases hs : stR f k with ⟨ds, _ | ⟨a, m⟩⟩
  · rw [hs] at hc
    rcases hc.2 rfl with h3 | h3
    · omega
    · rw [h2] at h3; cases h3
  · rw [hs] at hc
    obtain ⟨g1, g2, _⟩ := hc.1 a m rfl
    exact ⟨ds, a, m, by simp, by simp, by omega⟩
theorem ownG_last {w : World} {p : Addr} {c : Nat} {ds : List Run2} {a m : Nat} (h : OwnG 39 2 rc2 w (some p) c (ds ++ [(a, m)])) : ∃ g o, p = ⟨g, o, none⟩ ∧ w.cell? ⟨g, o + ds.length * 2 + 1, none⟩ = some (.int .i64 m) ∧ (∀ k, w.frozen? ⟨g, k, none⟩ = false) ∧
    OwnG 39 2 rc2 (w.setCell ⟨g, o + ds.length * 2 + 1, none⟩ (.int .i64 ((m : Int) + 1))) (some p) c (ds ++ [(a, m + 1)]) := by
  have hle := h.le
  rw [List.length_append, List.length_singleton] at hle
  rcases h.row with h0 | ⟨g, o, cur, hp, hg, hs, ht⟩
  · omega
  · cases hp
    refine ⟨g, o, rfl, ?_, OwnO.free h (by omega), ?_⟩
    · show w.cell? ⟨g, o + (ds.length * 2 + 1), none⟩ = _
      have := OwnO.cellAt h (ds.length * 2 + 1) (by simp; omega)
      rw [this, List.flatMap_append, List.getElem?_append_right (by rw [flat_len rc2_len]; omega), flat_len rc2_len]
      simp [rc2]
    · have := OwnO.set h (ds.length * 2 + 1) (.int .i64 ((m : Int) + 1))
      unfold OwnG
      have e : (ds ++ [(a, m + 1)]).flatMap rc2 = ((ds ++ [(a, m)]).flatMap rc2).set (ds.length * 2 + 1) (.int .i64 ((m : Int) + 1)) := by
        rw [List.flatMap_append, List.flatMap_append, List.set_append_right _ _ (by rw [flat_len rc2_len]; omega), flat_len rc2_len]
        congr 1
        simp [rc2]
      rw [e]
      have h3 : (ds ++ [(a, m + 1)]).length = (ds ++ [(a, m)]).length := by simp
      rw [h3]
      exact this
set_option maxRecDepth 100000 in
set_option maxHeartbeats 8000000 in
theorem refRuns05 (p : Option Addr) (cap : Nat) (l : List (BitVec 64)) (n : Nat) (w : World) (hrd : RdL w.heap.size w p cap vbo (bitsB l n)) (hn : n ≤ 65536) :
    Calls Tryd.prog 12 #[.slice p n cap] w fun e w' => ∃ q c, e = .returned (.slice q (runsF (bitW l) n).length c) ∧ OwnG 39 2 rc2 w' q c (runsF (bitW l) n) ∧ (∀ b, inP q c b → w.heap.size ≤ b) ∧ Below w.heap.size w w' := by
  have HR := Lib.hid hrd
  clear hrd
  go_enter Tryd.func12, Tryd.ntmps12
  go_wp2_with fail
  go_loopw [3, 4] (fun x i wr => ∃ (k : Nat) (q : Option Addr) (c : Nat), k ≤ n ∧ i = .int .i64 k ∧ x = .slice q (runsF (bitW l) k).length c ∧ OwnG 39 2 rc2 wr q c (runsF (bitW l) k) ∧ (∀ b, inP q c b → w.heap.size ≤ b) ∧ Below w.heap.size w wr) (fun _ i _ => n - (intOf i).toNat)
  case atStart => exact ⟨0, none, 0, Nat.zero_le _, rfl, rfl, OwnG.nil _ _ _ _ _, (by rintro b ⟨a, ha, _⟩; cases ha), Below.refl _ _⟩
  case round =>
    obtain ⟨k, q, c, hk, rfl, rfl, hown, hq, hb⟩ := hrel
    have HB := Lib.hid (And.intro hown (And.intro hq hb))
    have hlen := stR_len (bitW l) k
    by_cases hlt : k < n
    · obtain ⟨b, off, rfl, hbl, hc⟩ := HR.out.at k (by rw [bitsB_len]; exact hlt)
      rw [bitsB_get] at hc
      have hc' : wr.cell? ⟨b, off + k, none⟩ = _ := (hb.cell (p := ⟨b, off + k, none⟩) hbl).trans hc
      unfold vbo at hc'
      have hk2 : (k : Int) < (n : Int) := by omega
      cases hbit : bitW l k with
      | false =>
        rw [hbit] at hc'
        have HC := Lib.hid (runs_step0 (bitW l) k hbit)
        clear hbit hown hq hb hc hbl
        go_wp2_with fail
        go_roundw
        case rel => exact ⟨k + 1, q, c, by omega, by go_num, by rw [HC.out], by rw [HC.out]; exact HB.out.1, HB.out.2⟩
        case measure => simp [intOf]; omega
      | true =>
        rw [hbit] at hc'
        by_cases h0 : k = 0
        · have HC := Lib.hid (runs_step1 (bitW l) k hbit (.inl h0))
          have hk0 : (k : Int) ≤ 0 := by omega
          obtain ⟨rs, hrs⟩ : ∃ rs, runsF (bitW l) k = rs := ⟨_, rfl⟩
          rw [hrs] at HB HC hlen ⊢
          clear hbit hown hq hb hc hbl hrs h0
          have K := fun (t : TypeId) => World.alloc_heap_new wr (.cells #[.int .i64 (k : Int), .int .i64 1] t)
          go_wp2_with (at_builtin
                       refine wpList_appG rfl (.tmp 40) (.tmp 43) _ rfl elem_run2 (by decide) rc2_len rc2_one q c rs [(k, 1)] rfl (HB.out.1.below ((Below.refl _ _).alloc (Nat.le_refl _) _)) wr.heap.size 1 1 rfl rfl 39 (0, 0) (K _) (by simp) ⟨by omega, by simp⟩ ?_
                       intro p' c' w3 ha
                       have HAP := Lib.hid ha
                       clear ha)
          have HBA : Hid (Below w.heap.size w w3) := Lib.hid (by
            have h1 : Below w.heap.size w (wr.alloc (.cells #[.int .i64 (k : Int), .int .i64 1] 39)) := HB.out.2.2.alloc HB.out.2.2.size _
            exact h1.trans (HAP.out.2.1.below h1.size (fun b hb => HB.out.2.1 b hb)))
          have HQ : Hid (∀ b, inP p' c' b → w.heap.size ≤ b) := Lib.hid (fun b hb => (HAP.out.2.2 b hb).elim (HB.out.2.1 b) (fun h => by have := HB.out.2.2.size; have h9 := h.1; simp at h9; omega))
          clear K
          go_wp2_with fail
          go_roundw
          case rel => exact ⟨k + 1, p', c', by omega, by go_num, by rw [HC.out]; simp, by rw [HC.out]; exact HAP.out.1, HQ.out, HBA.out⟩
          case measure => simp [intOf]; omega
        · obtain ⟨b2, off2, hp2, hbl2, hc2⟩ := HR.out.at (k - 1) (by rw [bitsB_len]; omega)
          cases hp2
          rw [bitsB_get] at hc2
          have hc2' : wr.cell? ⟨b, off + (k - 1), none⟩ = _ := (hb.cell (p := ⟨b, off + (k - 1), none⟩) hbl).trans hc2
          unfold vbo at hc2'
          obtain ⟨k1, hk1⟩ : ∃ k1, k = k1 + 1 := ⟨k - 1, by omega⟩
          cases hbit2 : bitW l (k - 1) with
          | true =>
            rw [hbit2] at hc2'
            obtain ⟨ds, a, m, e1, e2, e3⟩ := runs_step2 (bitW l) k hbit (by omega) hbit2
            subst hk1
            rw [Nat.add_sub_cancel] at hc2'
            rw [e1] at HB ⊢
            have hcpos : 0 < c := by have := HB.out.1.le; rw [List.length_append, List.length_singleton] at this; omega
            obtain ⟨pq, rfl⟩ : ∃ pq, q = some pq := by
              rcases HB.out.1.row with h9 | ⟨g, o, _, h9, _⟩
              · omega
              · exact ⟨_, h9⟩
            obtain ⟨g, o, rfl, hm, hfz, hset⟩ := ownG_last HB.out.1
            have HE2 := Lib.hid e2
            have HSET := Lib.hid hset
            have hle2 : ds.length ≤ 65536 := by rw [e1, List.length_append, List.length_singleton] at hlen; omega
            have hm2 : m ≤ 65536 := by omega
            rw [List.length_append, List.length_singleton]
            have hgw := HB.out.2.1 g ⟨_, rfl, rfl, hcpos⟩
            have HG := Lib.hid hgw
            clear hbit hbit2 hown hq hb hc hbl hc2 hbl2 e1 e2 hset hlen hgw
            have e4 : (k1 : Int) + 1 - 1 = k1 := by omega
            have hw4 : IntKind.i64.wrap ((k1 : Int) + 1 - 1) = k1 := by rw [IntKind.wrap_i64]; omega
            go_wp2_with fail
            go_roundw
            case rel => exact ⟨k1 + 1 + 1, some ⟨g, o, none⟩, c, by omega, by go_num, by rw [HE2.out]; simp, by rw [HE2.out]; exact HSET.out, HB.out.2.1, HB.out.2.2.setCell (p := ⟨g, o + ds.length * 2 + 1, none⟩) HG.out _⟩
            case measure => simp [intOf]; omega
          | false =>
            rw [hbit2] at hc2'
            have HC := Lib.hid (runs_step1 (bitW l) k hbit (.inr hbit2))
            subst hk1
            rw [Nat.add_sub_cancel] at hc2'
            obtain ⟨rs, hrs⟩ : ∃ rs, runsF (bitW l) (k1 + 1) = rs := ⟨_, rfl⟩
            rw [hrs] at HB HC hlen ⊢
            have hw4 : IntKind.i64.wrap ((k1 : Int) + 1 - 1) = k1 := by rw [IntKind.wrap_i64]; omega
            clear hbit hbit2 hown hq hb hc hbl hc2 hbl2 hrs
            have K := fun (t : TypeId) => World.alloc_heap_new wr (.cells #[.int .i64 ((k1 + 1 : Nat) : Int), .int .i64 1] t)
            go_wp2_with (at_builtin
                         refine wpList_appG rfl (.tmp 40) (.tmp 43) _ rfl elem_run2 (by decide) rc2_len rc2_one q c rs [(k1 + 1, 1)] rfl (HB.out.1.below ((Below.refl _ _).alloc (Nat.le_refl _) _)) wr.heap.size 1 1 rfl rfl 39 (0, 0) (K _) (by simp) ⟨by omega, by simp⟩ ?_
                         intro p' c' w3 ha
                         have HAP := Lib.hid ha
                         clear ha)
            have HBA : Hid (Below w.heap.size w w3) := Lib.hid (by
              have h1 : Below w.heap.size w (wr.alloc (.cells #[.int .i64 ((k1 + 1 : Nat) : Int), .int .i64 1] 39)) := HB.out.2.2.alloc HB.out.2.2.size _
              exact h1.trans (HAP.out.2.1.below h1.size (fun b hb => HB.out.2.1 b hb)))
            have HQ : Hid (∀ b, inP p' c' b → w.heap.size ≤ b) := Lib.hid (fun b hb => (HAP.out.2.2 b hb).elim (HB.out.2.1 b) (fun h => by have := HB.out.2.2.size; have h9 := h.1; simp at h9; omega))
            clear K
            go_wp2_with fail
            go_roundw
            case rel => exact ⟨k1 + 1 + 1, p', c', by omega, by go_num, by rw [HC.out]; simp, by rw [HC.out]; exact HAP.out.1, HQ.out, HBA.out⟩
            case measure => simp [intOf]; omega
    · obtain rfl : k = n := by omega
      clear hown hq hb
      go_wp2_with fail
      go_ret
      exact ⟨q, c, rfl, HB.out.1, HB.out.2.1, HB.out.2.2⟩
end Go.Proofs.YtljegehfdmgcbaaDoor
