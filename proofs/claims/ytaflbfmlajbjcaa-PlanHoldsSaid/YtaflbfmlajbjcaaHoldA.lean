/- plan.Apply: words behind so many stores. -/
import Derived.Test.YtaflbfmlajbjcaaHoldP
namespace Go.Proofs.Ytaflbfmlajbjcaa
open Go Go.RowKit

def ew (v : BitVec 64) : List Value := [vw v]
theorem ew_len (v : BitVec 64) : (ew v).length = 1 := rfl
theorem ew_one (v : BitVec 64) : ∀ u ∈ ew v, u.oneCell' = true := by
  intro u hu
  rw [ew, List.mem_singleton] at hu
  subst hu; rfl
theorem elem_words : ElemIs Try.prog 22 36 (.int .u64 0) 1 8 := ⟨by kernel_rfl, by kernel_rfl, rfl, by decide⟩
theorem flat_ew (ys : List (BitVec 64)) : ys.flatMap ew = ys.map vw := by
  induction ys with
  | nil => rfl
  | cons y t ih => rw [List.flatMap_cons, ih]; rfl
theorem rds_of_rdw {B : Nat} {w : World} {p : Option Addr} {cap : Nat} {ys : List (BitVec 64)} (h : RdL B w p cap vw ys) : RdS B w p cap 1 ew ys := by
  obtain ⟨h1, h2, h3⟩ := h
  refine ⟨h1, h2, h3.imp id ?_⟩
  rintro ⟨b, off, hp, hb, hc⟩
  refine ⟨b, off, hp, hb, fun i hi j v hv => ?_⟩
  have hj : j = 0 := by have := (List.getElem?_eq_some_iff.1 hv).1; simp [ew] at this; exact this
  subst hj
  rw [Nat.mul_one, Nat.add_zero, hc i hi]
  exact hv
theorem rdw_of_ew {B : Nat} {w : World} {p : Option Addr} {cap : Nat} {ys : List (BitVec 64)} (h : RdS B w p cap 1 ew ys) : RdL B w p cap vw ys := by
  obtain ⟨h1, h2, h3⟩ := h
  refine ⟨h1, h2, h3.imp id ?_⟩
  rintro ⟨b, off, hp, hb, hc⟩
  refine ⟨b, off, hp, hb, fun i hi => ?_⟩
  have := hc i hi 0 _ rfl
  rwa [Nat.mul_one, Nat.add_zero] at this
abbrev OwnW (w : World) (p : Option Addr) (cap : Nat) (ys : List (BitVec 64)) : Prop := OwnG 36 1 ew w p cap ys
theorem OwnW.cell {w : World} {p : Option Addr} {cap : Nat} {ys : List (BitVec 64)} (h : OwnW w p cap ys) (i : Nat) (hi : i < ys.length) : ∃ g o, p = some ⟨g, o, none⟩ ∧ w.cell? ⟨g, o + i, none⟩ = some (vw ys[i]) ∧ w.frozen? ⟨g, o + i, none⟩ = false ∧ inP p cap g := by
  have hle := h.le
  rcases h.row with h1 | ⟨g, o, cur, hp, hg, hs, ht⟩
  · omega
  · refine ⟨g, o, hp, ?_, ?_, ⟨_, hp, rfl, by omega⟩⟩
    · unfold OwnW OwnG at h
      rw [hp, flat_ew] at h
      have := OwnO.cellAt h i (by omega)
      rw [this, List.getElem?_map, List.getElem?_eq_getElem hi]
      rfl
    · simp [World.frozen?, hg]
theorem OwnW.put {w : World} {g o cap : Nat} {ys : List (BitVec 64)} (h : OwnW w (some ⟨g, o, none⟩) cap ys) (i : Nat) (v : BitVec 64) : OwnW (w.setCell ⟨g, o + i, none⟩ (vw v)) (some ⟨g, o, none⟩) cap (ys.set i v) := by
  unfold OwnW OwnG at h ⊢
  rw [flat_ew] at h ⊢
  rw [List.length_set, List.map_set]
  exact OwnO.set h i (vw v)
set_option maxHeartbeats 1000000 in
theorem cloneW_any (p : Option Addr) (cap : Nat) (xs : List (BitVec 64)) (w : World) (hrd : RdL w.heap.size w p cap vw xs) (h0 : 0 < xs.length) (hx : xs.length ≤ 100000) :
    Calls Try.prog 79 #[.slice p xs.length cap] w fun e w' => ∃ p' c', e = .returned (.slice p' xs.length c') ∧ OwnW w' p' c' xs ∧ (∀ b, inP p' c' b → w.heap.size ≤ b) ∧ Below w.heap.size w w' := by
  have hnil := fun (w : World) (a : Option Addr) (n c : Nat) => Lib.run_eql_slice_nil (P := Try.prog) w 22 36 a n c 0 0 (by kernel_rfl)
  have hrs := rds_of_rdw hrd
  have HRD := Lib.hid (hrs.keep (w' := w.alloc (.cells #[] 36)) (fun b hb => ((Below.refl _ w).alloc (Nat.le_refl _) (.cells #[] 36)).block b (hrs.inlt hb)))
  obtain ⟨x, rfl⟩ : ∃ x, p = some x := by
    rcases hrd.2.2 with h | ⟨b, o, rfl, -⟩
    · have := hrd.1; omega
    · exact ⟨_, rfl⟩
  clear hrd hrs
  go_enter Try.func79, Try.ntmps79
  go_wp2_with (at_builtin; refine wpList_copyG rfl (.tmp 5) (.tmp 6) _ rfl elem_words (by decide) ew_len ew_one w.heap.size _ rfl (own_empty w w.heap.size 36 1 (Nat.le_refl _)) (some x) cap xs w.heap.size rfl HRD.out (by omega) (by simp) ?_
               intro pc cc wc hown hpc hg)
  go_ret
  exact ⟨pc, cc, rfl, hown, hpc, below_grown ((Below.refl _ w).alloc (Nat.le_refl _) _) hg (by simp) (by intro b hb; cases hb; exact Nat.le_refl _)⟩
set_option maxRecDepth 100000 in
set_option maxHeartbeats 8000000 in
theorem apply_any (p0 p2 : Option Addr) (c0 c2 : Nat) (l : List (BitVec 64)) (M : Nat) (ps : List Put2) (W : World) (hr0 : RdL W.heap.size W p0 c0 vw l) (hr2 : RdS W.heap.size W p2 c2 2 pc2 ps) (h0 : 0 < l.length) (hl : l.length ≤ 100000)
    (hm : M ≤ ps.length) (hps : ∀ p ∈ ps, 0 ≤ p.1 ∧ p.1 < (l.length : Int)) :
    Calls Try.prog 42 #[.slice p0 l.length c0, .int .i64 M, .slice p2 ps.length c2] W fun e w' => ∃ q d, e = .returned (.tuple #[.slice q l.length d, .int .i64 0]) ∧ RdL w'.heap.size w' q d vw (applyL l (ps.take M)) ∧ Below W.heap.size W w' := by
  obtain ⟨n, hn⟩ : ∃ n, l.length = n := ⟨_, rfl⟩
  obtain ⟨K, hK⟩ : ∃ K, ps.length = K := ⟨_, rfl⟩
  have hcl := fun U (hU : Below W.heap.size W U) => cloneW_any p0 c0 l U ((hr0.below hU).wide hU.size) h0 hl
  rw [hn] at hcl
  have HCL := Lib.hid hcl
  have HRD := Lib.hid hr2
  have HN := Lib.hid (And.intro hn hK)
  have HPS := Lib.hid hps
  have hkl := hr2.len
  have hcap := hr2.1
  have hmx := hr2.2.1
  rw [hK] at hm hkl hcap
  rw [hn] at hl
  rw [hn, hK]
  have d1 : decide ((M : Int) < 0) = false := decide_eq_false (by omega)
  have d2 : decide ((K : Int) < (M : Int)) = false := decide_eq_false (by omega)
  have hs1 : (M : Int) ≤ (c2 : Int) := by omega
  have hs2 : (0 : Int) ≤ (M : Int) := by omega
  have hs3 : (c2 : Int) ≤ 9223372036854775807 := by unfold maxLen at hmx; omega
  unfold maxLen at hmx
  have HM := Lib.hid hm
  clear hcl hr0 hr2 hn hK hps h0 hcap
  go_enter Try.func42, Try.ntmps42
  go_wp2_with fail
  refine (HCL.out W (Below.refl _ _)).mono ?_
  rintro e w1 ⟨q, d, rfl, hown, hq, hb1⟩
  have H1 := Lib.hid (And.intro hown (And.intro hq hb1))
  clear hown hq hb1
  go_wp2_with fail
  go_loopw [25] (fun i9 wr => ∃ k : Nat, k ≤ M ∧ i9 = .int .i64 k ∧ OwnW wr q d (applyL l (ps.take k)) ∧ Below W.heap.size W wr) (fun i9 _ => M - (intOf i9).toNat)
  case atStart => exact ⟨0, Nat.zero_le _, rfl, by rw [List.take_zero]; exact H1.out.1, H1.out.2.2⟩
  case round =>
    obtain ⟨k, hk, rfl, hown, hb⟩ := hrel
    by_cases hlt : k < M
    · have hlt' : (k : Int) < (M : Int) := by omega
      have hkK : k < ps.length := by rw [HN.out.2]; omega
      obtain ⟨g, o, rfl, hg, a0, a1⟩ := HRD.out.rows2 k hkK
      obtain ⟨x, hx⟩ : ∃ x, ps[k] = x := ⟨_, rfl⟩
      have hxp := HPS.out x (hx ▸ List.getElem_mem hkK)
      have htk := applyL_take l ps k hkK
      rw [hx] at a0 a1 htk
      rw [HN.out.1] at hxp
      obtain ⟨a, V⟩ := x
      simp only at a0 a1 hxp htk
      obtain ⟨i, rfl⟩ : ∃ i : Nat, a = i := ⟨a.toNat, by omega⟩
      obtain ⟨v, hv⟩ : ∃ v : Int, (V.toNat : Int) = v := ⟨_, rfl⟩
      replace a1 : W.cell? ⟨g, o + k * 2 + 1, none⟩ = some (.int .u64 v) := by rw [← hv]; exact a1
      have b0 := (hb.cell (p := ⟨g, o + k * 2, none⟩) hg).trans a0
      have b1 := (hb.cell (p := ⟨g, o + k * 2 + 1, none⟩) hg).trans a1
      have hgw : g < wr.heap.size := Nat.lt_of_lt_of_le hg hb.size
      have hal : (applyL l (ps.take k)).length = n := by rw [applyL_len]; exact HN.out.1
      obtain ⟨gq, oq, rfl, c0q, f0q, hin⟩ := hown.cell i (by rw [hal]; omega)
      have hgl : gq < wr.heap.size := hown.lt hin
      have hWq := H1.out.2.1 gq hin
      have hput := OwnW.put (OwnG.below hown (Below.alloc (Below.refl _ wr) (Nat.le_refl _) (.cells #[.int .i64 i, .int .u64 v] 85))) i V
      rw [Int.toNat_natCast] at htk
      rw [← htk] at hput
      have hbp := (hb.alloc hb.size (.cells #[.int .i64 i, .int .u64 v] 85)).setCell (p := ⟨gq, oq + i, none⟩) hWq (vw V)
      unfold vw at hput hbp
      rw [hv] at hput hbp
      rw [World.setCell_alloc_past _ _ _ _ hgl] at hput hbp
      have HP := Lib.hid (And.intro hput hbp)
      obtain ⟨U, hU⟩ : ∃ U, (applyL l (ps.take k))[i]'(by rw [hal]; omega) = U := ⟨_, rfl⟩
      rw [hU] at c0q
      have hi0 : (0 : Int) ≤ (i : Int) := by omega
      have hi1 : (i : Int) < (n : Int) := by omega
      have hi2 : ¬ (n : Int) ≤ (i : Int) := by omega
      clear a0 a1 hx hv hg hown hb hput hbp htk hal hU hin hWq hxp
      go_wp2_with fail
      go_roundw
      case rel => exact ⟨k + 1, hlt, by go_num, HP.out⟩
      case measure => simp [intOf]; omega
    · obtain rfl : M = k := by omega
      have hnl : ¬ (M : Int) < (M : Int) := by omega
      have HE := Lib.hid (And.intro hown hb)
      clear hown hb hlt
      go_wp2_with fail
      go_ret2
      exact ⟨q, d, rfl, rdw_of_ew (OwnG.rds ew_len HE.out.1), HE.out.2⟩
end Go.Proofs.Ytaflbfmlajbjcaa
