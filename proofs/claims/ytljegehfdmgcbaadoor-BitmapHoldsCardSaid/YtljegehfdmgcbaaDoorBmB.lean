/- The walks of a bitmap's changes: put, Set, Free. -/
import Derived.Test.YtljegehfdmgcbaaDoorBmA
import Derived.Test.YtljegehfdmgcbaaDoorRegF
namespace Go.Proofs.YtljegehfdmgcbaaDoor
open Go Go.RowKit

def clrW (x y : BitVec 64) : BitVec 64 := andw x (notw y)
theorem andNotB_w (x y : BitVec 64) : bits .andNot .u64 (x.toNat : Int) (y.toNat : Int) = ((clrW x y).toNat : Int) := by
  rw [u64_andNot_nat _ _ x.isLt y.isLt, clrW, andw, notw, BitVec.toNat_and, BitVec.toNat_not]
def oneW (r : Nat) : BitVec 64 := shlw 1#64 r
theorem one_w (r : Nat) : IntKind.u64.wrap (2 ^ r) = ((oneW r).toNat : Int) := by
  have := shl_w 1#64 r
  simpa [oneW] using this
def putB (x : BitVec 64) (r : Nat) (s : Bool) : BitVec 64 := if s then orw (clrW x (oneW r)) (oneW r) else clrW x (oneW r)
/-- Words with one bit set, or free. -/
def putW (ws : List (BitVec 64)) (i : Nat) (s : Bool) : List (BitVec 64) := ws.set (i / 64) (putB (ws.getD (i / 64) 0#64) (i % 64) s)
theorem putW_len (ws : List (BitVec 64)) (i : Nat) (s : Bool) : (putW ws i s).length = ws.length := by simp [putW]
theorem oneW_bit (r j : Nat) (hr : r < 64) : (oneW r).getLsbD j = decide (j = r) := by
  unfold oneW shlw
  rw [BitVec.getLsbD_shiftLeft]
  by_cases h : j = r
  · subst h; simp [hr]
  · simp [h]
    intro _ _
    omega
theorem putB_bit (x : BitVec 64) (r j : Nat) (s : Bool) (hr : r < 64) (hj : j < 64) : (putB x r s).getLsbD j = if j = r then s else x.getLsbD j := by
  have h1 := oneW_bit r j hr
  unfold putB clrW andw orw notw
  cases s
  · simp only [Bool.false_eq_true, if_false, BitVec.getLsbD_and, BitVec.getLsbD_not, h1]
    by_cases h : j = r
    · rw [if_pos h, decide_eq_true h]; simp
    · rw [if_neg h, decide_eq_false h]; simp [hj]
  · simp only [if_true, BitVec.getLsbD_or, BitVec.getLsbD_and, BitVec.getLsbD_not, h1]
    by_cases h : j = r
    · rw [if_pos h, decide_eq_true h]; simp
    · rw [if_neg h, decide_eq_false h]; simp [hj]
theorem putW_bit (ws : List (BitVec 64)) (i : Nat) (s : Bool) (hi : i < 64 * ws.length) (j : Nat) : bitW (putW ws i s) j = if j = i then s else bitW ws j := by
  rw [bitW_lsb, bitW_lsb]
  unfold putW
  by_cases h : j / 64 = i / 64
  · rw [h]
    have : (ws.set (i / 64) (putB (ws.getD (i / 64) 0#64) (i % 64) s)).getD (i / 64) 0#64 = putB (ws.getD (i / 64) 0#64) (i % 64) s := by
      simp [show i / 64 < ws.length by omega]
    rw [this, putB_bit _ _ _ _ (by omega) (by omega)]
    by_cases h2 : j = i
    · subst h2; simp
    · rw [if_neg (by omega), if_neg h2]
  · rw [if_neg (by rintro rfl; exact h rfl)]
    have : (ws.set (i / 64) (putB (ws.getD (i / 64) 0#64) (i % 64) s)).getD (j / 64) 0#64 = ws.getD (j / 64) 0#64 := by
      rw [List.getD_eq_getElem?_getD, List.getElem?_set_ne (fun h' => h (Eq.symm h')), List.getD_eq_getElem?_getD]
    rw [this]

set_option maxHeartbeats 1000000 in
theorem put1_any {O g c : Nat} {ws : List (BitVec 64)} {n : Nat} (i : Nat) (s : Bool) (Bm Bs : Nat) (w : World) (h : BmAt w O g c ws n) (hm : Box w Bm 24 (.pointer (some ⟨O, 0, none⟩))) (hs : Box w Bs 4 (.bool s)) (hi : i < n) :
    Calls Tryd.prog 43 #[.int .i64 i, .pointer (some ⟨Bm, 0, none⟩), .pointer (some ⟨Bs, 0, none⟩)] w fun e w' => e = .returned (.tuple #[]) ∧ BmAt w' O g c (putW ws i s) n ∧ Frn (fun b => b = g) w w' := by
  have hl := h.len
  have hlt : i / 64 < ws.length := by omega
  have hn2 := h.n2
  have q0 := h.c0
  have q1 := h.word (i / 64) hlt
  have q2 := hm.cell
  have q3 := hs.cell
  have qf := h.own.free h.cpos (i / 64)
  obtain ⟨x, hx⟩ : ∃ x, ws[i / 64] = x := ⟨_, rfl⟩
  rw [hx] at q1
  have hpw : putW ws i s = ws.set (i / 64) (putB x (i % 64) s) := by
    unfold putW
    rw [← hx]
    simp [hlt]
  rw [hpw]
  have hq : (i : Int).tdiv 64 = ((i / 64 : Nat) : Int) := by rw [Int.tdiv_eq_ediv_of_nonneg (by omega)]; omega
  have hr : (i : Int).tmod 64 = ((i % 64 : Nat) : Int) := by rw [Int.tmod_eq_emod_of_nonneg (by omega)]; omega
  have hq1 : ((i / 64 : Nat) : Int) < ((ws.length : Nat) : Int) := by omega
  have hr1 : ((i % 64 : Nat) : Int) < 64 := by omega
  have hi2 : (i : Int) ≤ 6400000 := by omega
  have hqe : (i : Int) / 64 = ((i / 64 : Nat) : Int) := by omega
  have hre : (i : Int) % 64 = ((i % 64 : Nat) : Int) := by omega
  have hk2 : ((i / 64 : Nat) : Int) ≤ 6400000 := by omega
  have HM := Lib.hid hm
  have HS := Lib.hid hs
  have HB := Lib.hid h
  have hne := h.ne
  clear hm hs h hl hpw hx
  generalize i / 64 = k at *
  generalize i % 64 = r at *
  have hq0 : (0 : Int) ≤ (k : Int) := by omega
  have hr0 : (0 : Int) ≤ (r : Int) := by omega
  have hwk : IntKind.i64.wrap (k : Int) = k := by rw [IntKind.wrap_i64]; omega
  have w1 := one_w r
  have w2 := andNotB_w x (oneW r)
  have w3 := bits_or_w (clrW x (oneW r)) (oneW r)
  go_enter Tryd.func43, Tryd.ntmps43
  go_wp2_with fail
  refine wp_region_noPanic ?_
  refine wp_region_F 13 (fun w' => w'.cell? ⟨Bm, 0, none⟩ = some (.pointer (some ⟨O, 0, none⟩)) ∧ w'.cell? ⟨O, 0, none⟩ = some (.slice (some ⟨g, 0, none⟩) ws.length c) ∧ w'.cell? ⟨g, k, none⟩ = some (vw x)) (by kernel_rfl) ?_ (fun hHeld => ?_)
  · exact ⟨q2, q0, q1⟩
  refine' wpAnyF_take (i := 0) (v := _) rfl (by kernel_rfl) (by kernel_rfl) (by kernel_rfl) (by kernel_rfl) (by rfl) (by kernel_rfl) (fun _ _ _ h => h) (Or.inl ⟨by rfl, ?hy⟩) hHeld _
  case hy => (intro w0 hSw; (try dsimp only at hSw); simp only [List.getElem_toArray, List.getElem_cons_zero]; go_simp; first | done | with_reducible rfl)
  simp only [Act.put, List.getElem_toArray, List.getElem_cons_zero, List.setIfInBounds_toArray, List.set_cons_zero, List.set_cons_succ]
  refine' wpAnyF_takeT (i := 1) (v := _) rfl (by kernel_rfl) (by kernel_rfl) (by kernel_rfl) (by rfl) (fun _ _ _ h => h) (Or.inl ⟨by rfl, ?hy⟩) (fun _ => hHeld) _
  case hy => (intro w0 hSw; (try dsimp only at hSw); simp only [List.getElem_toArray, List.getElem_cons_zero, List.getElem_cons_succ]; go_simp; first | done | with_reducible rfl)
  simp only [Act.put, List.getElem_toArray, List.getElem_cons_zero, List.getElem_cons_succ, List.setIfInBounds_toArray, List.set_cons_zero, List.set_cons_succ]
  refine' wpAnyF_takeT (i := 2) (v := _) rfl (by kernel_rfl) (by kernel_rfl) (by kernel_rfl) (by rfl) (fun _ _ _ h => h) (Or.inl ⟨by rfl, ?hy⟩) (fun _ => hHeld) _
  case hy => (intro w0 hSw; (try dsimp only at hSw); simp only [List.getElem_toArray, List.getElem_cons_zero, List.getElem_cons_succ]; go_simp; first | done | with_reducible rfl)
  simp only [Act.put, List.getElem_toArray, List.getElem_cons_zero, List.getElem_cons_succ, List.setIfInBounds_toArray, List.set_cons_zero, List.set_cons_succ]
  refine' wpAnyF_take (i := 3) (v := _) rfl (by kernel_rfl) (by kernel_rfl) (by kernel_rfl) (by kernel_rfl) (by rfl) (by kernel_rfl) (fun _ _ _ h => h) (Or.inl ⟨by rfl, ?hy⟩) hHeld _
  case hy => (intro w0 hSw; (try dsimp only at hSw); simp only [List.getElem_toArray, List.getElem_cons_zero, List.getElem_cons_succ]; go_simp; first | done | with_reducible rfl)
  simp only [Act.put, List.getElem_toArray, List.getElem_cons_zero, List.getElem_cons_succ, List.setIfInBounds_toArray, List.set_cons_zero, List.set_cons_succ]
  refine' wpAnyF_takeT (i := 4) (v := _) rfl (by kernel_rfl) (by kernel_rfl) (by kernel_rfl) (by rfl) (fun _ _ _ h => h) (Or.inl ⟨by rfl, ?hy⟩) (fun _ => hHeld) _
  case hy => (intro w0 hSw; (try dsimp only at hSw); simp only [List.getElem_toArray, List.getElem_cons_zero, List.getElem_cons_succ]; go_simp; first | done | with_reducible rfl)
  simp only [Act.put, List.getElem_toArray, List.getElem_cons_zero, List.getElem_cons_succ, List.setIfInBounds_toArray, List.set_cons_zero, List.set_cons_succ]
  refine' wpAnyF_takeT (i := 5) (v := _) rfl (by kernel_rfl) (by kernel_rfl) (by kernel_rfl) (by rfl) (fun _ _ _ h => h) (Or.inl ⟨by rfl, ?hy⟩) (fun _ => hHeld) _
  case hy => (intro w0 hSw; (try dsimp only at hSw); simp only [List.getElem_toArray, List.getElem_cons_zero, List.getElem_cons_succ]; go_simp; first | done | with_reducible rfl)
  simp only [Act.put, List.getElem_toArray, List.getElem_cons_zero, List.getElem_cons_succ, List.setIfInBounds_toArray, List.set_cons_zero, List.set_cons_succ]
  refine' wpAnyF_takeT (i := 8) (v := _) rfl (by kernel_rfl) (by kernel_rfl) (by kernel_rfl) (by rfl) (fun _ _ _ h => h) (Or.inl ⟨by rfl, ?hy⟩) (fun _ => hHeld) _
  case hy => (intro w0 hSw; (try dsimp only at hSw); simp only [List.getElem_toArray, List.getElem_cons_zero, List.getElem_cons_succ]; go_simp; first | done | with_reducible rfl)
  simp only [Act.put, List.getElem_toArray, List.getElem_cons_zero, List.getElem_cons_succ, List.setIfInBounds_toArray, List.set_cons_zero, List.set_cons_succ]
  refine' wpAnyF_takeT (i := 9) (v := _) rfl (by kernel_rfl) (by kernel_rfl) (by kernel_rfl) (by rfl) (fun _ _ _ h => h) (Or.inl ⟨by rfl, ?hy⟩) (fun _ => hHeld) _
  case hy => (intro w0 hSw; (try dsimp only at hSw); simp only [List.getElem_toArray, List.getElem_cons_zero, List.getElem_cons_succ]; go_simp; first | done | with_reducible rfl)
  simp only [Act.put, List.getElem_toArray, List.getElem_cons_zero, List.getElem_cons_succ, List.setIfInBounds_toArray, List.set_cons_zero, List.set_cons_succ]
  refine' wpAnyF_takeT (i := 10) (v := _) rfl (by kernel_rfl) (by kernel_rfl) (by kernel_rfl) (by rfl) (fun _ _ _ h => h) (Or.inl ⟨by rfl, ?hy⟩) (fun _ => hHeld) _
  case hy => (intro w0 hSw; (try dsimp only at hSw); simp only [List.getElem_toArray, List.getElem_cons_zero, List.getElem_cons_succ]; go_simp; first | done | with_reducible rfl)
  simp only [Act.put, List.getElem_toArray, List.getElem_cons_zero, List.getElem_cons_succ, List.setIfInBounds_toArray, List.set_cons_zero, List.set_cons_succ]
  refine' wpAnyF_takeT (i := 6) (v := _) rfl (by kernel_rfl) (by kernel_rfl) (by kernel_rfl) (by rfl) (fun _ _ _ h => h) (Or.inl ⟨by rfl, ?hy⟩) (fun _ => hHeld) _
  case hy => (intro w0 hSw; (try dsimp only at hSw); simp only [List.getElem_toArray, List.getElem_cons_zero, List.getElem_cons_succ]; go_simp; first | done | with_reducible rfl)
  simp only [Act.put, List.getElem_toArray, List.getElem_cons_zero, List.getElem_cons_succ, List.setIfInBounds_toArray, List.set_cons_zero, List.set_cons_succ]
  refine' wpAnyF_take (i := 7) (v := _) rfl (by kernel_rfl) (by kernel_rfl) (by kernel_rfl) (by kernel_rfl) (by rfl) (by kernel_rfl) (fun _ _ _ h => h) (Or.inl ⟨by rfl, ?hy⟩) hHeld _
  case hy => (intro w0 hSw; (try dsimp only at hSw); simp only [List.getElem_toArray, List.getElem_cons_zero, List.getElem_cons_succ]; go_simp; first | done | with_reducible rfl)
  simp only [Act.put, List.getElem_toArray, List.getElem_cons_zero, List.getElem_cons_succ, List.setIfInBounds_toArray, List.set_cons_zero, List.set_cons_succ]
  refine' wpAnyF_takeT (i := 11) (v := _) rfl (by kernel_rfl) (by kernel_rfl) (by kernel_rfl) (by rfl) (fun _ _ _ h => h) (Or.inl ⟨by rfl, ?hy⟩) (fun _ => hHeld) _
  case hy => (intro w0 hSw; (try dsimp only at hSw); simp only [List.getElem_toArray, List.getElem_cons_zero, List.getElem_cons_succ]; go_simp; first | done | with_reducible rfl)
  simp only [Act.put, List.getElem_toArray, List.getElem_cons_zero, List.getElem_cons_succ, List.setIfInBounds_toArray, List.set_cons_zero, List.set_cons_succ]
  refine' wpAnyF_takeT (i := 12) (v := _) rfl (by kernel_rfl) (by kernel_rfl) (by kernel_rfl) (by rfl) (fun _ _ _ h => h) (Or.inl ⟨by rfl, ?hy⟩) (fun _ => hHeld) _
  case hy => (intro w0 hSw; (try dsimp only at hSw); simp only [List.getElem_toArray, List.getElem_cons_zero, List.getElem_cons_succ]; go_simp; first | done | with_reducible rfl)
  simp only [Act.put, List.getElem_toArray, List.getElem_cons_zero, List.getElem_cons_succ, List.setIfInBounds_toArray, List.set_cons_zero, List.set_cons_succ]
  refine wpAnyF_one (i := 13) (by kernel_rfl) rfl (fun K hK => ?_)
  go_simp
  refine hK.out _ _ (fun h => Bool.noConfusion (h.symm.trans (by kernel_rfl : _ = true))) ?_
  clear hK K
  try simp only [Act.put, List.getElem_toArray, List.getElem_cons_zero, List.getElem_cons_succ, List.setIfInBounds_toArray, List.set_cons_zero, List.set_cons_succ]
  refine wpAnyF_done (by kernel_rfl) ?_ _
  refine NoPanic.normal ?_
  obtain ⟨V, hV⟩ : ∃ V, w.setCell ⟨g, k, none⟩ (vw (clrW x (oneW r))) = V := ⟨_, rfl⟩
  have hB1 : OwnO V 60 1 (some ⟨g, 0, none⟩) c ws.length ((ws.set k (clrW x (oneW r))).map vw) := by
    have := HB.out.own.set k (vw (clrW x (oneW r)))
    rw [Nat.zero_add, hV] at this
    rwa [List.map_set]
  have hF1 : Frn (fun b => b = g) w V := by rw [← hV]; exact Frn.setCell (T := fun b => b = g) (Frn.refl _ _) ⟨g, k, none⟩ (.inl rfl) _
  have hO1 : V.heap[O]? = w.heap[O]? := by rw [← hV]; exact Below.heap_setCell _ _ _ _ hne
  have hb1 : BmAt V O g c (ws.set k (clrW x (oneW r))) n := ⟨by rw [List.length_set]; exact hO1.trans HB.out.hd, by rw [List.length_set]; exact hB1, hne, by rw [List.length_set]; exact HB.out.len, HB.out.n1, HB.out.n2⟩
  have hgm : g ≠ Bm := by
    rintro rfl
    have h1 := HM.out
    rcases HB.out.own.row with h2 | ⟨g', o', cur, hp, hg, hs', ht⟩
    · have := HB.out.cpos; omega
    · cases hp
      unfold Box at h1
      rw [h1] at hg
      simp at hg
  have hgs : g ≠ Bs := by
    rintro rfl
    have h1 := HS.out
    rcases HB.out.own.row with h2 | ⟨g', o', cur, hp, hg, hs', ht⟩
    · have := HB.out.cpos; omega
    · cases hp
      unfold Box at h1
      rw [h1] at hg
      simp at hg
  have hm1 : Box V Bm 24 (.pointer (some ⟨O, 0, none⟩)) := by rw [← hV]; exact HM.out.other (Ne.symm hgm) _ _
  have hs1 : Box V Bs 4 (.bool s) := by rw [← hV]; exact HS.out.other (Ne.symm hgs) _ _
  have HB1 := Lib.hid hb1
  have HF1 := Lib.hid hF1
  have HMS := Lib.hid (And.intro hm1 hs1)
  rw [hV]
  have d0 : V.drew.cell? ⟨Bm, 0, none⟩ = some (.pointer (some ⟨O, 0, none⟩)) := HMS.out.1.cell
  have d1 : V.drew.cell? ⟨Bs, 0, none⟩ = some (.bool s) := HMS.out.2.cell
  clear hB1 hF1 hO1 hb1 hm1 hs1 q0 q1 q2 q3 qf hV hgm hgs
  cases s with
  | false =>
    go_wp2_with fail
    go_end0
    refine ⟨rfl, ?_, ?_⟩
    · unfold putB
      exact HB1.out.keep rfl rfl
    · exact HF1.out.drew
  | true =>
    have hk3 : k < (ws.set k (clrW x (oneW r))).length := by rw [List.length_set]; exact hlt
    have d2 : V.drew.cell? ⟨O, 0, none⟩ = some (.slice (some ⟨g, 0, none⟩) ws.length c) := by have := HB1.out.c0; rwa [List.length_set] at this
    have d3 : V.drew.cell? ⟨g, k, none⟩ = some (vw (clrW x (oneW r))) := by have := HB1.out.word k hk3; rwa [List.getElem_set_self] at this
    have df : V.drew.frozen? ⟨g, k, none⟩ = false := HB1.out.own.free HB1.out.cpos k
    have d0' : V.drew.drew.cell? ⟨Bm, 0, none⟩ = some (.pointer (some ⟨O, 0, none⟩)) := d0
    have d2' : V.drew.drew.cell? ⟨O, 0, none⟩ = some (.slice (some ⟨g, 0, none⟩) ws.length c) := d2
    have d3' : V.drew.drew.cell? ⟨g, k, none⟩ = some (vw (clrW x (oneW r))) := d3
    clear hk3
    go_wp2_with fail
    refine wp_region_noPanic ?_
    refine wp_region_F 13 (fun w' => w'.cell? ⟨Bm, 0, none⟩ = some (.pointer (some ⟨O, 0, none⟩)) ∧ w'.cell? ⟨O, 0, none⟩ = some (.slice (some ⟨g, 0, none⟩) ws.length c) ∧ w'.cell? ⟨g, k, none⟩ = some (vw (clrW x (oneW r)))) (by kernel_rfl) ?_ (fun hHeld => ?_)
    · exact ⟨d0', d2', d3'⟩
    refine' wpAnyF_take (i := 0) (v := _) rfl (by kernel_rfl) (by kernel_rfl) (by kernel_rfl) (by kernel_rfl) (by rfl) (by kernel_rfl) (fun _ _ _ h => h) (Or.inl ⟨by rfl, ?hy⟩) hHeld _
    case hy => (intro w0 hSw; (try dsimp only at hSw); simp only [List.getElem_toArray, List.getElem_cons_zero]; go_simp; first | done | with_reducible rfl)
    simp only [Act.put, List.getElem_toArray, List.getElem_cons_zero, List.setIfInBounds_toArray, List.set_cons_zero, List.set_cons_succ]
    refine' wpAnyF_takeT (i := 1) (v := _) rfl (by kernel_rfl) (by kernel_rfl) (by kernel_rfl) (by rfl) (fun _ _ _ h => h) (Or.inl ⟨by rfl, ?hy⟩) (fun _ => hHeld) _
    case hy => (intro w0 hSw; (try dsimp only at hSw); simp only [List.getElem_toArray, List.getElem_cons_zero, List.getElem_cons_succ]; go_simp; first | done | with_reducible rfl)
    simp only [Act.put, List.getElem_toArray, List.getElem_cons_zero, List.getElem_cons_succ, List.setIfInBounds_toArray, List.set_cons_zero, List.set_cons_succ]
    refine' wpAnyF_takeT (i := 2) (v := _) rfl (by kernel_rfl) (by kernel_rfl) (by kernel_rfl) (by rfl) (fun _ _ _ h => h) (Or.inl ⟨by rfl, ?hy⟩) (fun _ => hHeld) _
    case hy => (intro w0 hSw; (try dsimp only at hSw); simp only [List.getElem_toArray, List.getElem_cons_zero, List.getElem_cons_succ]; go_simp; first | done | with_reducible rfl)
    simp only [Act.put, List.getElem_toArray, List.getElem_cons_zero, List.getElem_cons_succ, List.setIfInBounds_toArray, List.set_cons_zero, List.set_cons_succ]
    refine' wpAnyF_take (i := 3) (v := _) rfl (by kernel_rfl) (by kernel_rfl) (by kernel_rfl) (by kernel_rfl) (by rfl) (by kernel_rfl) (fun _ _ _ h => h) (Or.inl ⟨by rfl, ?hy⟩) hHeld _
    case hy => (intro w0 hSw; (try dsimp only at hSw); simp only [List.getElem_toArray, List.getElem_cons_zero, List.getElem_cons_succ]; go_simp; first | done | with_reducible rfl)
    simp only [Act.put, List.getElem_toArray, List.getElem_cons_zero, List.getElem_cons_succ, List.setIfInBounds_toArray, List.set_cons_zero, List.set_cons_succ]
    refine' wpAnyF_takeT (i := 4) (v := _) rfl (by kernel_rfl) (by kernel_rfl) (by kernel_rfl) (by rfl) (fun _ _ _ h => h) (Or.inl ⟨by rfl, ?hy⟩) (fun _ => hHeld) _
    case hy => (intro w0 hSw; (try dsimp only at hSw); simp only [List.getElem_toArray, List.getElem_cons_zero, List.getElem_cons_succ]; go_simp; first | done | with_reducible rfl)
    simp only [Act.put, List.getElem_toArray, List.getElem_cons_zero, List.getElem_cons_succ, List.setIfInBounds_toArray, List.set_cons_zero, List.set_cons_succ]
    refine' wpAnyF_takeT (i := 5) (v := _) rfl (by kernel_rfl) (by kernel_rfl) (by kernel_rfl) (by rfl) (fun _ _ _ h => h) (Or.inl ⟨by rfl, ?hy⟩) (fun _ => hHeld) _
    case hy => (intro w0 hSw; (try dsimp only at hSw); simp only [List.getElem_toArray, List.getElem_cons_zero, List.getElem_cons_succ]; go_simp; first | done | with_reducible rfl)
    simp only [Act.put, List.getElem_toArray, List.getElem_cons_zero, List.getElem_cons_succ, List.setIfInBounds_toArray, List.set_cons_zero, List.set_cons_succ]
    refine' wpAnyF_takeT (i := 8) (v := _) rfl (by kernel_rfl) (by kernel_rfl) (by kernel_rfl) (by rfl) (fun _ _ _ h => h) (Or.inl ⟨by rfl, ?hy⟩) (fun _ => hHeld) _
    case hy => (intro w0 hSw; (try dsimp only at hSw); simp only [List.getElem_toArray, List.getElem_cons_zero, List.getElem_cons_succ]; go_simp; first | done | with_reducible rfl)
    simp only [Act.put, List.getElem_toArray, List.getElem_cons_zero, List.getElem_cons_succ, List.setIfInBounds_toArray, List.set_cons_zero, List.set_cons_succ]
    refine' wpAnyF_takeT (i := 9) (v := _) rfl (by kernel_rfl) (by kernel_rfl) (by kernel_rfl) (by rfl) (fun _ _ _ h => h) (Or.inl ⟨by rfl, ?hy⟩) (fun _ => hHeld) _
    case hy => (intro w0 hSw; (try dsimp only at hSw); simp only [List.getElem_toArray, List.getElem_cons_zero, List.getElem_cons_succ]; go_simp; first | done | with_reducible rfl)
    simp only [Act.put, List.getElem_toArray, List.getElem_cons_zero, List.getElem_cons_succ, List.setIfInBounds_toArray, List.set_cons_zero, List.set_cons_succ]
    refine' wpAnyF_takeT (i := 10) (v := _) rfl (by kernel_rfl) (by kernel_rfl) (by kernel_rfl) (by rfl) (fun _ _ _ h => h) (Or.inl ⟨by rfl, ?hy⟩) (fun _ => hHeld) _
    case hy => (intro w0 hSw; (try dsimp only at hSw); simp only [List.getElem_toArray, List.getElem_cons_zero, List.getElem_cons_succ]; go_simp; first | done | with_reducible rfl)
    simp only [Act.put, List.getElem_toArray, List.getElem_cons_zero, List.getElem_cons_succ, List.setIfInBounds_toArray, List.set_cons_zero, List.set_cons_succ]
    refine' wpAnyF_takeT (i := 6) (v := _) rfl (by kernel_rfl) (by kernel_rfl) (by kernel_rfl) (by rfl) (fun _ _ _ h => h) (Or.inl ⟨by rfl, ?hy⟩) (fun _ => hHeld) _
    case hy => (intro w0 hSw; (try dsimp only at hSw); simp only [List.getElem_toArray, List.getElem_cons_zero, List.getElem_cons_succ]; go_simp; first | done | with_reducible rfl)
    simp only [Act.put, List.getElem_toArray, List.getElem_cons_zero, List.getElem_cons_succ, List.setIfInBounds_toArray, List.set_cons_zero, List.set_cons_succ]
    refine' wpAnyF_take (i := 7) (v := _) rfl (by kernel_rfl) (by kernel_rfl) (by kernel_rfl) (by kernel_rfl) (by rfl) (by kernel_rfl) (fun _ _ _ h => h) (Or.inl ⟨by rfl, ?hy⟩) hHeld _
    case hy => (intro w0 hSw; (try dsimp only at hSw); simp only [List.getElem_toArray, List.getElem_cons_zero, List.getElem_cons_succ]; go_simp; first | done | with_reducible rfl)
    simp only [Act.put, List.getElem_toArray, List.getElem_cons_zero, List.getElem_cons_succ, List.setIfInBounds_toArray, List.set_cons_zero, List.set_cons_succ]
    refine' wpAnyF_takeT (i := 11) (v := _) rfl (by kernel_rfl) (by kernel_rfl) (by kernel_rfl) (by rfl) (fun _ _ _ h => h) (Or.inl ⟨by rfl, ?hy⟩) (fun _ => hHeld) _
    case hy => (intro w0 hSw; (try dsimp only at hSw); simp only [List.getElem_toArray, List.getElem_cons_zero, List.getElem_cons_succ]; go_simp; first | done | with_reducible rfl)
    simp only [Act.put, List.getElem_toArray, List.getElem_cons_zero, List.getElem_cons_succ, List.setIfInBounds_toArray, List.set_cons_zero, List.set_cons_succ]
    refine' wpAnyF_takeT (i := 12) (v := _) rfl (by kernel_rfl) (by kernel_rfl) (by kernel_rfl) (by rfl) (fun _ _ _ h => h) (Or.inl ⟨by rfl, ?hy⟩) (fun _ => hHeld) _
    case hy => (intro w0 hSw; (try dsimp only at hSw); simp only [List.getElem_toArray, List.getElem_cons_zero, List.getElem_cons_succ]; go_simp; first | done | with_reducible rfl)
    simp only [Act.put, List.getElem_toArray, List.getElem_cons_zero, List.getElem_cons_succ, List.setIfInBounds_toArray, List.set_cons_zero, List.set_cons_succ]
    refine wpAnyF_one (i := 13) (by kernel_rfl) rfl (fun K hK => ?_)
    go_simp
    refine hK.out _ _ (fun h => Bool.noConfusion (h.symm.trans (by kernel_rfl : _ = true))) ?_
    clear hK K
    try simp only [Act.put, List.getElem_toArray, List.getElem_cons_zero, List.getElem_cons_succ, List.setIfInBounds_toArray, List.set_cons_zero, List.set_cons_succ]
    refine wpAnyF_done (by kernel_rfl) ?_ _
    refine NoPanic.normal ?_
    go_end0
    obtain ⟨V2, hV2⟩ : ∃ V2, V.setCell ⟨g, k, none⟩ (vw (orw (clrW x (oneW r)) (oneW r))) = V2 := ⟨_, rfl⟩
    have hB2 : OwnO V2 60 1 (some ⟨g, 0, none⟩) c ws.length ((ws.set k (orw (clrW x (oneW r)) (oneW r))).map vw) := by
      have := HB1.out.own.set k (vw (orw (clrW x (oneW r)) (oneW r)))
      rw [Nat.zero_add, hV2, List.length_set, ← List.map_set, List.set_set] at this
      exact this
    have hO2 : V2.heap[O]? = V.heap[O]? := by rw [← hV2]; exact Below.heap_setCell _ _ _ _ hne
    have hd := HB1.out.hd
    rw [List.length_set] at hd
    refine ⟨rfl, ?_, ?_⟩
    · unfold putB
      rw [if_pos rfl]
      rw [hV2]
      have : BmAt V2 O g c (ws.set k (orw (clrW x (oneW r)) (oneW r))) n := ⟨by rw [List.length_set]; exact hO2.trans hd, by rw [List.length_set]; exact hB2, hne, by rw [List.length_set]; exact HB.out.len, HB.out.n1, HB.out.n2⟩
      exact this.keep rfl rfl
    · rw [hV2]
      have : Frn (fun b => b = g) V V2 := by rw [← hV2]; exact Frn.setCell (T := fun b => b = g) (Frn.refl _ _) ⟨g, k, none⟩ (.inl rfl) _
      exact (HF1.out.trans this).drew.drew

/-- So many bits set, or free. -/
def putN (ws : List (BitVec 64)) (a : Nat) (s : Bool) : Nat → List (BitVec 64)
  | 0 => ws
  | m + 1 => putW (putN ws a s m) (a + m) s
theorem putN_len (ws : List (BitVec 64)) (a : Nat) (s : Bool) : ∀ m, (putN ws a s m).length = ws.length
  | 0 => rfl
  | m + 1 => by unfold putN; rw [putW_len, putN_len ws a s m]
theorem BmAt.frn {W W' : World} {O g c : Nat} {ws : List (BitVec 64)} {n : Nat} {X : Nat → Prop} (h : BmAt W O g c ws n) (hf : Frn X W W') (h1 : ¬ X O) (h2 : ¬ X g) : BmAt W' O g c ws n := h.keep (hf.block _ h.ltO h1) (hf.block _ h.ltg h2)

set_option maxRecDepth 100000 in
set_option maxHeartbeats 2000000 in
theorem eachPut_any {O g c : Nat} {ws : List (BitVec 64)} {n : Nat} (a m : Nat) (s : Bool) (Bm Bs : Nat) (w : World) (h : BmAt w O g c ws n) (hm : Box w Bm 24 (.pointer (some ⟨O, 0, none⟩))) (hs : Box w Bs 4 (.bool s)) (hgm : Bm ≠ g) (hgs : Bs ≠ g) (hi : a + m ≤ n) :
    Calls Tryd.prog 42 #[.int .i64 a, .int .i64 m, .func (.func 43) #[] #[.pointer (some ⟨Bm, 0, none⟩), .pointer (some ⟨Bs, 0, none⟩)]] w fun e w' => e = .returned (.tuple #[]) ∧ BmAt w' O g c (putN ws a s m) n ∧ Frn (fun b => b = g) w w' := by
  have hn2 := h.n2
  have H0 := Lib.hid h
  have HMS := Lib.hid (And.intro hm hs)
  clear h hm hs
  go_enter Tryd.func42, Tryd.ntmps42
  go_wp2_with fail
  go_loopw [8] (fun i wr => ∃ k : Nat, k ≤ m ∧ i = .int .i64 k ∧ BmAt wr O g c (putN ws a s k) n ∧ Frn (fun b => b = g) w wr) (fun i _ => m - (intOf i).toNat)
  case atStart => exact ⟨0, by omega, rfl, H0.out, Frn.refl _ _⟩
  case round =>
    obtain ⟨k, hk, rfl, hb, hf⟩ := hrel
    have HF := Lib.hid hf
    have HB := Lib.hid hb
    by_cases hlt : k < m
    · have hm1 : Box wr Bm 24 (.pointer (some ⟨O, 0, none⟩)) := HMS.out.1.kept (hf.block _ HMS.out.1.lt hgm)
      have hs1 : Box wr Bs 4 (.bool s) := HMS.out.2.kept (hf.block _ HMS.out.2.lt hgs)
      have HC := Lib.hid (put1_any (a + k) s Bm Bs wr hb hm1 hs1 (by omega))
      have e : IntKind.i64.wrap ((a : Int) + k) = ((a + k : Nat) : Int) := by rw [IntKind.wrap_i64]; omega
      clear hb hf hm1 hs1
      go_wp2_with fail
      refine HC.out.mono ?_
      rintro e w1 ⟨rfl, hb1, hf1⟩
      have HB1 := Lib.hid hb1
      have HF1 := Lib.hid (HF.out.trans hf1)
      clear hb1 hf1 HC
      go_wp2_with fail
      go_roundw
      case rel => exact ⟨k + 1, by omega, by go_num, HB1.out, HF1.out⟩
      case measure => simp [intOf]; omega
    · obtain rfl : k = m := by omega
      clear hb hf
      go_wp2_with fail
      go_end0
      exact ⟨rfl, HB.out, HF.out⟩

/-- What put leaves, and tells. -/
def putL (ws : List (BitVec 64)) (n : Nat) (at_ many : Int) (s : Bool) : List (BitVec 64) × Int := if thereB n at_ many = true then (putN ws at_.toNat s many.toNat, 0) else (ws, 4)
theorem box2 (w : World) (t u : TypeId) (x y : Value) : ∃ wa, (w.alloc (.cells #[x] t)).alloc (.cells #[y] u) = wa ∧ Box wa w.heap.size t x ∧ Box wa (w.heap.size + 1) u y ∧ Below w.heap.size w wa ∧ wa.heap.size = w.heap.size + 2 := by
  refine ⟨_, rfl, (Box.new _ _ _).alloc _, ?_, ((Below.refl _ _).alloc (Nat.le_refl _) _).alloc (by simp) _, by simp⟩
  have := Box.new (w.alloc (.cells #[x] t)) u y
  rwa [World.size_alloc] at this
theorem Frn.ofBelow {w w' w'' : World} {g : Nat} (hb : Below w.heap.size w w') (hf : Frn (fun b => b = g) w' w'') : Frn (fun b => b = g) w w'' := (Frn.of_below hb).trans hf
set_option maxHeartbeats 2000000 in
theorem put_no (v : Value) (at_ many : Int) (s : Bool) (w : World) (h : NoBm w v) :
    Calls Tryd.prog 34 #[v, .int .i64 at_, .int .i64 many, .bool s] w fun e w' => e = .returned (.int .i64 1) ∧ Below w.heap.size w w' := by
  obtain ⟨p, rfl⟩ : ∃ p, v = .pointer p := by
    rcases h with rfl | ⟨O, rfl, _⟩
    · exact ⟨_, rfl⟩
    · exact ⟨_, rfl⟩
  obtain ⟨wa, hwa, hA, hB, hbel, hz⟩ := box2 w 24 4 (.pointer p) (.bool s)
  have q0 := hA.cell
  have HN := Lib.hid (none_no (.pointer p) wa (h.below hbel))
  have HB := Lib.hid hbel
  clear hA hB hbel hz h
  go_enter Tryd.func34, Tryd.ntmps34
  go_wp2_with fail
  refine HN.out.mono ?_
  rintro e w' ⟨rfl, rfl⟩
  go_wp2_with fail
  go_ret
  exact ⟨rfl, HB.out⟩
set_option maxRecDepth 100000 in
set_option maxHeartbeats 2000000 in
theorem put_bm {O g c : Nat} {ws : List (BitVec 64)} {n : Nat} (at_ many : Int) (s : Bool) (w : World) (h : BmAt w O g c ws n) :
    Calls Tryd.prog 34 #[.pointer (some ⟨O, 0, none⟩), .int .i64 at_, .int .i64 many, .bool s] w fun e w' => e = .returned (.int .i64 (putL ws n at_ many s).2) ∧ BmAt w' O g c (putL ws n at_ many s).1 n ∧ Frn (fun b => b = g) w w' := by
  obtain ⟨wa, hwa, hA, hB, hbel, hz⟩ := box2 w 24 4 (.pointer (some ⟨O, 0, none⟩)) (.bool s)
  have q0 := hA.cell
  have hb1 := h.below hbel
  have hlg := h.ltg
  have HN := Lib.hid (none_bm wa hb1)
  have HT := Lib.hid (there_bm at_ many wa hb1)
  have HB := Lib.hid hbel
  have H1 := Lib.hid hb1
  have HAB := Lib.hid (And.intro hA hB)
  clear hA hB hbel hb1 hz h
  unfold putL
  cases ht : thereB n at_ many with
  | false =>
    rw [ht] at HT
    rw [if_neg (by simp)]
    clear ht
    go_enter Tryd.func34, Tryd.ntmps34
    go_wp2_with fail
    refine HN.out.mono ?_
    rintro e w' ⟨rfl, rfl⟩
    go_wp2_with fail
    refine HT.out.mono ?_
    rintro e w' ⟨rfl, rfl⟩
    go_wp2_with fail
    go_ret
    exact ⟨rfl, H1.out, Frn.of_below HB.out⟩
  | true =>
    have ht2 := ht
    unfold thereB at ht2
    simp only [decide_eq_true_eq] at ht2
    obtain ⟨t1, t2, t3, t4⟩ := ht2
    obtain ⟨a, rfl⟩ : ∃ a : Nat, at_ = a := ⟨at_.toNat, by omega⟩
    obtain ⟨m, rfl⟩ : ∃ m : Nat, many = m := ⟨many.toNat, by omega⟩
    rw [ht] at HT
    rw [if_pos rfl, Int.toNat_natCast, Int.toNat_natCast]
    have HE := Lib.hid (eachPut_any a m s w.heap.size (w.heap.size + 1) wa H1.out HAB.out.1 HAB.out.2 (by omega) (by omega) (by omega))
    clear ht t1 t2 t3 t4
    go_enter Tryd.func34, Tryd.ntmps34
    go_wp2_with fail
    refine HN.out.mono ?_
    rintro e w' ⟨rfl, rfl⟩
    go_wp2_with fail
    refine HT.out.mono ?_
    rintro e w' ⟨rfl, rfl⟩
    go_wp2_with fail
    refine HE.out.mono ?_
    rintro e w2 ⟨rfl, hb2, hf2⟩
    have H2 := Lib.hid (And.intro hb2 hf2)
    clear hb2 hf2
    go_wp2_with fail
    go_ret
    exact ⟨rfl, H2.out.1, Frn.ofBelow HB.out H2.out.2⟩
set_option maxHeartbeats 1000000 in
theorem set_bm {O g c : Nat} {ws : List (BitVec 64)} {n : Nat} (at_ many : Int) (w : World) (h : BmAt w O g c ws n) :
    Calls Tryd.prog 19 #[.pointer (some ⟨O, 0, none⟩), .int .i64 at_, .int .i64 many] w fun e w' => e = .returned (.int .i64 (putL ws n at_ many true).2) ∧ BmAt w' O g c (putL ws n at_ many true).1 n ∧ Frn (fun b => b = g) w w' := by
  have HP := Lib.hid (put_bm at_ many true w h)
  clear h
  go_enter Tryd.func19, Tryd.ntmps19
  go_wp2_with fail
  refine HP.out.mono ?_
  rintro e w' ⟨rfl, h1, h2⟩
  have H := Lib.hid (And.intro h1 h2)
  clear h1 h2
  go_wp2_with fail
  go_ret
  exact ⟨rfl, H.out⟩
set_option maxHeartbeats 1000000 in
theorem free_bm {O g c : Nat} {ws : List (BitVec 64)} {n : Nat} (at_ many : Int) (w : World) (h : BmAt w O g c ws n) :
    Calls Tryd.prog 20 #[.pointer (some ⟨O, 0, none⟩), .int .i64 at_, .int .i64 many] w fun e w' => e = .returned (.int .i64 (putL ws n at_ many false).2) ∧ BmAt w' O g c (putL ws n at_ many false).1 n ∧ Frn (fun b => b = g) w w' := by
  have HP := Lib.hid (put_bm at_ many false w h)
  clear h
  go_enter Tryd.func20, Tryd.ntmps20
  go_wp2_with fail
  refine HP.out.mono ?_
  rintro e w' ⟨rfl, h1, h2⟩
  have H := Lib.hid (And.intro h1 h2)
  clear h1 h2
  go_wp2_with fail
  go_ret
  exact ⟨rfl, H.out⟩
set_option maxHeartbeats 1000000 in
theorem set_no (v : Value) (at_ many : Int) (w : World) (h : NoBm w v) :
    Calls Tryd.prog 19 #[v, .int .i64 at_, .int .i64 many] w fun e w' => e = .returned (.int .i64 1) ∧ Below w.heap.size w w' := by
  have HP := Lib.hid (put_no v at_ many true w h)
  clear h
  go_enter Tryd.func19, Tryd.ntmps19
  go_wp2_with fail
  refine HP.out.mono ?_
  rintro e w' ⟨rfl, h1⟩
  have H := Lib.hid h1
  clear h1
  go_wp2_with fail
  go_ret
  exact ⟨rfl, H.out⟩
set_option maxHeartbeats 1000000 in
theorem free_no (v : Value) (at_ many : Int) (w : World) (h : NoBm w v) :
    Calls Tryd.prog 20 #[v, .int .i64 at_, .int .i64 many] w fun e w' => e = .returned (.int .i64 1) ∧ Below w.heap.size w w' := by
  have HP := Lib.hid (put_no v at_ many false w h)
  clear h
  go_enter Tryd.func20, Tryd.ntmps20
  go_wp2_with fail
  refine HP.out.mono ?_
  rintro e w' ⟨rfl, h1⟩
  have H := Lib.hid h1
  clear h1
  go_wp2_with fail
  go_ret
  exact ⟨rfl, H.out⟩
end Go.Proofs.YtljegehfdmgcbaaDoor
