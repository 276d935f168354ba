/- The walk of the reference's Order. -/
import Derived.Test.YthhdipfadnihjaaPlanA
import Derived.Test.YthhdipfadnihjaaRegF
namespace Go.Proofs.Ythhdipfadnihjaa
open Go Go.RowKit

theorem goA_first {xs : List Put2} (h : 0 < xs.length) : goA (xs.take 1) = ([((1 : Int), xs[0].1, xs[0].2)], lnP xs[0].1) := by
  have h1 : xs.take 1 = xs.take 0 ++ [xs[0]] := List.take_succ_eq_append_getElem h
  rw [h1, goA_snoc]
  simp [goA, stepA]
theorem goA_next {xs : List Put2} {k : Nat} (hk : k + 1 < xs.length) (hb : badP (xs.take (k + 1)) = false) : goA (xs.take (k + 1 + 1)) = ((if lnP xs[k + 1].1 ≠ lnP xs[k].1 then (goA (xs.take (k + 1))).1 ++ shutA (lnP xs[k].1) else (goA (xs.take (k + 1))).1) ++ [((1 : Int), xs[k + 1].1, xs[k + 1].2)], lnP xs[k + 1].1) := by
  have h1 : xs.take (k + 1 + 1) = xs.take (k + 1) ++ [xs[k + 1]] := List.take_succ_eq_append_getElem hk
  have h2 : (goA (xs.take (k + 1))).2 = lnP xs[k].1 := by
    rw [show xs.take (k + 1) = xs.take k ++ [xs[k]] from List.take_succ_eq_append_getElem (by omega), goA_last]
  have h3 : 0 ≤ lnP xs[k].1 := by
    rcases goA_line hb with ⟨h, _⟩ | ⟨_, h⟩
    · have := congrArg List.length h; rw [List.length_take, List.length_nil] at this; omega
    · rwa [h2] at h
  rw [h1, goA_snoc]
  unfold stepA
  rw [h2]
  simp only [h3, and_true]
theorem goA_line1 {xs : List Put2} {k : Nat} (hk : k < xs.length) : (goA (xs.take (k + 1))).2 = lnP xs[k].1 := by
  rw [show xs.take (k + 1) = xs.take k ++ [xs[k]] from List.take_succ_eq_append_getElem hk, goA_last]
theorem badP_step {xs : List Put2} {k : Nat} (hk : k < xs.length) (h : badP (xs.take k) = false) (h0 : 0 ≤ xs[k].1) : badP (xs.take (k + 1)) = false := by
  rw [show xs.take (k + 1) = xs.take k ++ [xs[k]] from List.take_succ_eq_append_getElem hk, badP_snoc, h]
  simp; omega
theorem badP_at {xs : List Put2} {k : Nat} (hk : k < xs.length) (h : xs[k].1 < 0) : badP xs = true := by
  unfold badP
  rw [List.any_eq_true]
  exact ⟨xs[k], List.getElem_mem hk, decide_eq_true h⟩
theorem badP_not {xs : List Put2} {k : Nat} (hk : k < xs.length) (h : badP xs = false) : 0 ≤ xs[k].1 := by
  by_cases h1 : xs[k].1 < 0
  · rw [badP_at hk h1] at h; cases h
  · omega
/-- What Order hands back. -/
def RetO (ps : List Put2) (w : World) (e : Ending) (w' : World) : Prop :=
  ∃ q d, e = .returned (.tuple #[.slice q (ordA ps).length d, .int .i64 (noA ps)]) ∧ OwnA w' q d (ordA ps) ∧ (∀ b, inP q d b → w.heap.size ≤ b) ∧ Below w.heap.size w w'

set_option maxRecDepth 100000 in
set_option maxHeartbeats 8000000 in
theorem refOrder_any (p : Option Addr) (cap : Nat) (xs : List Put2) (w : World) (hrd : RdS w.heap.size w p cap 2 pc2 xs) (hn : xs.length ≤ 100000) (hx : ∀ x ∈ xs, x.1 ≤ 9223372036854775807) :
    Calls Try.prog 12 #[.slice p xs.length cap] w (RetO xs w) := by
  have hlen := hrd.len
  have HR := Lib.hid hrd
  have HX := Lib.hid hx
  clear hrd hx
  go_enter Try.func12, Try.ntmps12
  go_wp2_with fail
  go_loopw [4, 5] (fun v i wr => ∃ (k : Nat), k ≤ xs.length ∧ i = .int .i64 k ∧ (∃ q d, v = .slice q (goA (xs.take k)).1.length d ∧ OwnA wr q d (goA (xs.take k)).1 ∧ (∀ b, inP q d b → w.heap.size ≤ b)) ∧ Below w.heap.size w wr ∧ badP (xs.take k) = false) (fun _ i _ => xs.length - (intOf i).toNat)
  case atStart => exact ⟨0, Nat.zero_le _, rfl, ⟨none, 0, rfl, OwnG.nil _ _ _ _ _, by rintro b ⟨a, ha, _⟩; cases ha⟩, Below.refl _ _, rfl⟩
  case round =>
    obtain ⟨k, hk, rfl, ⟨q, d, rfl, hown, hqd⟩, hb, hbad⟩ := hrel
    by_cases hlt : k < xs.length
    · obtain ⟨b, off, rfl, hbl, h0, h1⟩ := HR.out.rows2 k hlt
      have h0' := (hb.cell (p := ⟨b, off + k * 2, none⟩) hbl).trans h0
      have h1' := (hb.cell (p := ⟨b, off + k * 2 + 1, none⟩) hbl).trans h1
      have hlt' : (k : Int) < (xs.length : Int) := by omega
      have hmax := HX.out xs[k] (List.getElem_mem hlt)
      have hln : (goA (xs.take k)).1.length < 900000 := by
        have := goA_len (xs.take k)
        rw [List.length_take] at this; omega
      have HLN := Lib.hid hln
      have HB := Lib.hid hb
      have HO := Lib.hid hown
      have HQ := Lib.hid hqd
      by_cases hneg : xs[k].1 < 0
      · have HBD := Lib.hid (badP_at hlt hneg)
        obtain ⟨x, hx⟩ : ∃ x, xs[k] = x := ⟨_, rfl⟩
        rw [hx] at h0' h1' hneg hmax
        obtain ⟨x1, x2⟩ := x
        simp only at h0' h1' hneg hmax
        clear h0 h1 hx hbad hb hown hqd hln
        go_wp2_with fail
        go_ret2
        refine ⟨none, 0, ?_, ?_, (by rintro b ⟨a, ha, _⟩; cases ha), HB.out⟩
        · unfold ordA noA; rw [HBD.out]; rfl
        · unfold ordA; rw [HBD.out]; exact OwnG.nil _ _ _ _ _
      · have hnn : 0 ≤ xs[k].1 := by omega
        have HBS := Lib.hid (badP_step hlt hbad hnn)
        rcases Nat.eq_zero_or_pos k with hk0 | hk0
        · have HF := Lib.hid (show (goA (xs.take (k + 1))).1 = (goA (xs.take k)).1 ++ [((1 : Int), xs[k].1, xs[k].2)] from by subst hk0; rw [goA_first hlt]; rfl)
          obtain ⟨x, hx⟩ : ∃ x, xs[k] = x := ⟨_, rfl⟩
          rw [hx] at h0' h1' hnn hmax HF
          obtain ⟨x1, x2⟩ := x
          simp only at h0' h1' hnn hmax HF
          have hpos : decide (0 < k) = false := decide_eq_false (by omega)
          clear hk0
          have H0 := Lib.hid h0'
          have H1 := Lib.hid h1'
          clear h0 h1 hx hbad hb hown hqd hln hneg
          go_wp2_with fail
          go_quiet (fail)
          clear h0' h1'
          have hBX : Below w.heap.size w (wr.drewN nq) := below_drewN HB.out nq
          have hOX : OwnA (wr.drewN nq) q d (goA (xs.take k)).1 := HO.out.keep (fun _ _ => rfl)
          have k0 : (wr.drewN nq).drew.cell? ⟨b, off + k * 2, none⟩ = some (.int .i64 x1) := H0.out
          have k1 : (wr.drewN nq).drew.cell? ⟨b, off + k * 2 + 1, none⟩ = some (vw x2) := H1.out
          clear HB HO H0 H1
          try clear g0'
          generalize wr.drewN nq = w1 at *
          have HBY := Lib.hid hBX
          have HOY := Lib.hid hOX
          have HQY := HQ
          have HLY := Lib.hid (show (goA (xs.take k)).1.length < 1000000 by have := HLN.out; omega)
          clear hBX hOX
          go_wp2_with fail
          refine wp_region_noPanic ?_
          refine wp_region_F 11 (fun w' => w'.cell? ⟨b, off + k * 2, none⟩ = some (.int .i64 x1) ∧ w'.cell? ⟨b, off + k * 2 + 1, none⟩ = some (vw x2)) (by kernel_rfl) ?_ (fun hHeld => ?_)
          · exact ⟨k0, k1⟩
          refine' wpAnyF_takeT (i := 0) (v := _) rfl (by kernel_rfl) (by kernel_rfl) (by kernel_rfl) (by rfl) (fun _ _ _ h => h) (Or.inl ⟨by rfl, ?hy⟩) (fun _ => hHeld) _
          case hy => (intro w0 hSw; (try dsimp only at hSw); simp only [List.getElem_toArray, List.getElem_cons_zero]; go_simp; first | done | with_reducible rfl)
          simp only [Act.put, List.getElem_toArray, List.getElem_cons_zero, List.setIfInBounds_toArray, List.set_cons_zero, List.set_cons_succ]
          refine' wpAnyF_takeT (i := 1) (v := _) rfl (by kernel_rfl) (by kernel_rfl) (by kernel_rfl) (by rfl) (fun _ _ _ h => h) (Or.inl ⟨by rfl, ?hy⟩) (fun _ => hHeld) _
          case hy => (intro w0 hSw; (try dsimp only at hSw); simp only [List.getElem_toArray, List.getElem_cons_zero, List.getElem_cons_succ]; go_simp; first | done | with_reducible rfl)
          simp only [Act.put, List.getElem_toArray, List.getElem_cons_zero, List.getElem_cons_succ, List.setIfInBounds_toArray, List.set_cons_zero, List.set_cons_succ]
          refine' wpAnyF_takeT (i := 2) (v := _) rfl (by kernel_rfl) (by kernel_rfl) (by kernel_rfl) (by rfl) (fun _ _ _ h => h) (Or.inl ⟨by rfl, ?hy⟩) (fun _ => hHeld) _
          case hy => (intro w0 hSw; (try dsimp only at hSw); simp only [List.getElem_toArray, List.getElem_cons_zero, List.getElem_cons_succ]; go_simp; first | done | with_reducible rfl)
          simp only [Act.put, List.getElem_toArray, List.getElem_cons_zero, List.getElem_cons_succ, List.setIfInBounds_toArray, List.set_cons_zero, List.set_cons_succ]
          refine' wpAnyF_takeT (i := 3) (v := _) rfl (by kernel_rfl) (by kernel_rfl) (by kernel_rfl) (by rfl) (fun _ _ _ h => h) (Or.inl ⟨by rfl, ?hy⟩) (fun _ => hHeld) _
          case hy => (intro w0 hSw; (try dsimp only at hSw); simp only [List.getElem_toArray, List.getElem_cons_zero, List.getElem_cons_succ]; go_simp; first | done | with_reducible rfl)
          simp only [Act.put, List.getElem_toArray, List.getElem_cons_zero, List.getElem_cons_succ, List.setIfInBounds_toArray, List.set_cons_zero, List.set_cons_succ]
          refine' wpAnyF_takeT (i := 4) (v := _) rfl (by kernel_rfl) (by kernel_rfl) (by kernel_rfl) (by rfl) (fun _ _ _ h => h) (Or.inl ⟨by rfl, ?hy⟩) (fun _ => hHeld) _
          case hy => (intro w0 hSw; (try dsimp only at hSw); simp only [List.getElem_toArray, List.getElem_cons_zero, List.getElem_cons_succ]; go_simp; first | done | with_reducible rfl)
          simp only [Act.put, List.getElem_toArray, List.getElem_cons_zero, List.getElem_cons_succ, List.setIfInBounds_toArray, List.set_cons_zero, List.set_cons_succ]
          refine' wpAnyF_take (i := 5) (v := _) rfl (by kernel_rfl) (by kernel_rfl) (by kernel_rfl) (by kernel_rfl) (by rfl) (by kernel_rfl) (fun _ _ _ h => h) (Or.inl ⟨by rfl, ?hy⟩) hHeld _
          case hy => (intro w0 hSw; (try dsimp only at hSw); simp only [List.getElem_toArray, List.getElem_cons_zero, List.getElem_cons_succ]; go_simp; first | done | with_reducible rfl)
          simp only [Act.put, List.getElem_toArray, List.getElem_cons_zero, List.getElem_cons_succ, List.setIfInBounds_toArray, List.set_cons_zero, List.set_cons_succ]
          refine' wpAnyF_takeT (i := 6) (v := _) rfl (by kernel_rfl) (by kernel_rfl) (by kernel_rfl) (by rfl) (fun _ _ _ h => h) (Or.inl ⟨by rfl, ?hy⟩) (fun _ => hHeld) _
          case hy => (intro w0 hSw; (try dsimp only at hSw); simp only [List.getElem_toArray, List.getElem_cons_zero, List.getElem_cons_succ]; go_simp; first | done | with_reducible rfl)
          simp only [Act.put, List.getElem_toArray, List.getElem_cons_zero, List.getElem_cons_succ, List.setIfInBounds_toArray, List.set_cons_zero, List.set_cons_succ]
          refine' wpAnyF_takeT (i := 7) (v := _) rfl (by kernel_rfl) (by kernel_rfl) (by kernel_rfl) (by rfl) (fun _ _ _ h => h) (Or.inl ⟨by rfl, ?hy⟩) (fun _ => hHeld) _
          case hy => (intro w0 hSw; (try dsimp only at hSw); simp only [List.getElem_toArray, List.getElem_cons_zero, List.getElem_cons_succ]; go_simp; first | done | with_reducible rfl)
          simp only [Act.put, List.getElem_toArray, List.getElem_cons_zero, List.getElem_cons_succ, List.setIfInBounds_toArray, List.set_cons_zero, List.set_cons_succ]
          refine' wpAnyF_takeT (i := 8) (v := _) rfl (by kernel_rfl) (by kernel_rfl) (by kernel_rfl) (by rfl) (fun _ _ _ h => h) (Or.inl ⟨by rfl, ?hy⟩) (fun _ => hHeld) _
          case hy => (intro w0 hSw; (try dsimp only at hSw); simp only [List.getElem_toArray, List.getElem_cons_zero, List.getElem_cons_succ]; go_simp; first | done | with_reducible rfl)
          simp only [Act.put, List.getElem_toArray, List.getElem_cons_zero, List.getElem_cons_succ, List.setIfInBounds_toArray, List.set_cons_zero, List.set_cons_succ]
          refine' wpAnyF_takeT (i := 9) (v := _) rfl (by kernel_rfl) (by kernel_rfl) (by kernel_rfl) (by rfl) (fun _ _ _ h => h) (Or.inl ⟨by rfl, ?hy⟩) (fun _ => hHeld) _
          case hy => (intro w0 hSw; (try dsimp only at hSw); simp only [List.getElem_toArray, List.getElem_cons_zero, List.getElem_cons_succ]; go_simp; first | done | with_reducible rfl)
          simp only [Act.put, List.getElem_toArray, List.getElem_cons_zero, List.getElem_cons_succ, List.setIfInBounds_toArray, List.set_cons_zero, List.set_cons_succ]
          refine' wpAnyF_take (i := 10) (v := _) rfl (by kernel_rfl) (by kernel_rfl) (by kernel_rfl) (by kernel_rfl) (by rfl) (by kernel_rfl) (fun _ _ _ h => h) (Or.inl ⟨by rfl, ?hy⟩) hHeld _
          case hy => (intro w0 hSw; (try dsimp only at hSw); simp only [List.getElem_toArray, List.getElem_cons_zero, List.getElem_cons_succ]; go_simp; first | done | with_reducible rfl)
          simp only [Act.put, List.getElem_toArray, List.getElem_cons_zero, List.getElem_cons_succ, List.setIfInBounds_toArray, List.set_cons_zero, List.set_cons_succ]
          refine wpAnyF_one (i := 11) (by kernel_rfl) rfl (fun K hK => ?_)
          go_simp
          refine hK.out _ _ (fun h => Bool.noConfusion (h.symm.trans (by kernel_rfl : _ = true))) ?_
          clear hK K
          try simp only [Act.put, List.getElem_toArray, List.getElem_cons_zero, List.getElem_cons_succ, List.setIfInBounds_toArray, List.set_cons_zero, List.set_cons_succ]
          refine wpAnyF_one (i := 12) (by kernel_rfl) rfl (fun K hK => ?_)
          go_simp
          refine hK.out _ _ (fun h => Bool.noConfusion (h.symm.trans (by kernel_rfl : _ = true))) ?_
          clear hK K
          try simp only [Act.put, List.getElem_toArray, List.getElem_cons_zero, List.getElem_cons_succ, List.setIfInBounds_toArray, List.set_cons_zero, List.set_cons_succ]
          refine wpAnyF_one (i := 13) (by kernel_rfl) rfl (fun K hK => ?_)
          refine step_appG (by rfl) (.tmp 49) (.tmp 61) _ rfl elem_act (by decide) ac3_len ac3_one q d (goA (xs.take k)).1 [(1, x1, x2)] rfl (HOY.out.below (((Below.refl _ w1).alloc (Nat.le_refl _) (.cells #[.int .i64 1, .int .i64 x1, vw x2] 38)).drew)) w1.heap.size 1 1 rfl rfl 38 (0, 0) (World.alloc_heap_new w1.drew _) (by simp) ⟨(by have := HLY.out; simpa [shutA] using this), by simp⟩ ?_
          intro p9 c9 w9 happ
          have HAPP := Lib.hid happ
          clear happ
          refine hK.out _ _ (fun h => Bool.noConfusion (h.symm.trans (by kernel_rfl : _ = true))) ?_
          clear hK K
          try simp only [Act.put, List.getElem_toArray, List.getElem_cons_zero, List.getElem_cons_succ, List.setIfInBounds_toArray, List.set_cons_zero, List.set_cons_succ]
          refine wpAnyF_one (i := 14) (by kernel_rfl) rfl (fun K hK => ?_)
          go_simp
          refine hK.out _ _ (fun h => Bool.noConfusion (h.symm.trans (by kernel_rfl : _ = true))) ?_
          clear hK K
          try simp only [Act.put, List.getElem_toArray, List.getElem_cons_zero, List.getElem_cons_succ, List.setIfInBounds_toArray, List.set_cons_zero, List.set_cons_succ]
          refine wpAnyF_done (by kernel_rfl) ?_ _
          refine NoPanic.normal ?_
          clear k0 k1
          go_wp2_with fail
          refine ⟨⟨k + 1, by omega, by go_num, ⟨p9, c9, ?_, ?_, ?_⟩, ?_, HBS.out⟩, by simp [intOf]; omega⟩
          · rw [HF.out]; simp [shutA]
          · rw [HF.out]; exact HAPP.out.1
          · intro b hb
            exact (HAPP.out.2.2 b hb).elim (HQY.out b) (fun h => by have := HBY.out.size; have := h.1; simp at this; omega)
          · exact ((HBY.out.alloc HBY.out.size _).drew).trans (HAPP.out.2.1.below (by have := HBY.out.size; simp; omega) HQY.out)
        · obtain ⟨j, hj⟩ : ∃ j : Nat, k = j + 1 := ⟨k - 1, by omega⟩
          obtain ⟨b', off', hpe, hbl', g0, g1⟩ := HR.out.rows2 j (by omega)
          cases hpe
          have g0' := (hb.cell (p := ⟨b, off + j * 2, none⟩) hbl).trans g0
          have hymax := HX.out (xs[j]'(by omega)) (List.getElem_mem _)
          have hbj : badP (xs.take (j + 1)) = false := by rw [← hj]; exact hbad
          have hynn : 0 ≤ (xs[j]'(by omega)).1 := by
            have := badP_not (xs := xs.take (j + 1)) (k := j) (by rw [List.length_take]; omega) hbj
            rwa [List.getElem_take] at this
          have HF := Lib.hid (show (goA (xs.take (k + 1))).1 = (if lnP xs[k].1 ≠ lnP (xs[j]'(by omega)).1 then (goA (xs.take k)).1 ++ shutA (lnP (xs[j]'(by omega)).1) else (goA (xs.take k)).1) ++ [((1 : Int), xs[k].1, xs[k].2)] from by subst hj; rw [goA_next hlt hbj])
          obtain ⟨x, hx⟩ : ∃ x, xs[k] = x := ⟨_, rfl⟩
          obtain ⟨y, hy⟩ : ∃ y, xs[j]'(by omega) = y := ⟨_, rfl⟩
          rw [hy] at g0' hymax hynn HF
          rw [hx] at h0' h1' hnn hmax HF
          obtain ⟨x1, x2⟩ := x
          obtain ⟨y1, y2⟩ := y
          unfold lnP at HF
          simp only at h0' h1' hnn hmax HF g0' hymax hynn
          have hpos : (0 : Int) < (k : Int) := by omega
          have hkj : (k : Int) - 1 = (j : Int) := by omega
          have hjlt : (j : Int) < (xs.length : Int) := by omega
          have hjb : (j : Int) ≤ 100000 := by omega
          clear h0 h1 g0 g1 hx hy hbad hbj hb hown hqd hln hneg hj
          by_cases hne : x1 / 8 = y1 / 8
          · rw [if_neg (fun h => h hne)] at HF
            have hne' : (x1 / 8 != y1 / 8) = false := by simp [hne]
            have H0 := Lib.hid h0'
            have H1 := Lib.hid h1'
            go_wp2_with fail
            go_quiet (fail)
            clear h0' h1'
            have hBX : Below w.heap.size w (wr.drewN nq) := below_drewN HB.out nq
            have hOX : OwnA (wr.drewN nq) q d (goA (xs.take k)).1 := HO.out.keep (fun _ _ => rfl)
            have k0 : (wr.drewN nq).drew.cell? ⟨b, off + k * 2, none⟩ = some (.int .i64 x1) := H0.out
            have k1 : (wr.drewN nq).drew.cell? ⟨b, off + k * 2 + 1, none⟩ = some (vw x2) := H1.out
            clear HB HO H0 H1
            try clear g0'
            generalize wr.drewN nq = w1 at *
            have HBY := Lib.hid hBX
            have HOY := Lib.hid hOX
            have HQY := HQ
            have HLY := Lib.hid (show (goA (xs.take k)).1.length < 1000000 by have := HLN.out; omega)
            clear hBX hOX
            go_wp2_with fail
            refine wp_region_noPanic ?_
            refine wp_region_F 11 (fun w' => w'.cell? ⟨b, off + k * 2, none⟩ = some (.int .i64 x1) ∧ w'.cell? ⟨b, off + k * 2 + 1, none⟩ = some (vw x2)) (by kernel_rfl) ?_ (fun hHeld => ?_)
            · exact ⟨k0, k1⟩
            refine' wpAnyF_takeT (i := 0) (v := _) rfl (by kernel_rfl) (by kernel_rfl) (by kernel_rfl) (by rfl) (fun _ _ _ h => h) (Or.inl ⟨by rfl, ?hy⟩) (fun _ => hHeld) _
            case hy => (intro w0 hSw; (try dsimp only at hSw); simp only [List.getElem_toArray, List.getElem_cons_zero]; go_simp; first | done | with_reducible rfl)
            simp only [Act.put, List.getElem_toArray, List.getElem_cons_zero, List.setIfInBounds_toArray, List.set_cons_zero, List.set_cons_succ]
            refine' wpAnyF_takeT (i := 1) (v := _) rfl (by kernel_rfl) (by kernel_rfl) (by kernel_rfl) (by rfl) (fun _ _ _ h => h) (Or.inl ⟨by rfl, ?hy⟩) (fun _ => hHeld) _
            case hy => (intro w0 hSw; (try dsimp only at hSw); simp only [List.getElem_toArray, List.getElem_cons_zero, List.getElem_cons_succ]; go_simp; first | done | with_reducible rfl)
            simp only [Act.put, List.getElem_toArray, List.getElem_cons_zero, List.getElem_cons_succ, List.setIfInBounds_toArray, List.set_cons_zero, List.set_cons_succ]
            refine' wpAnyF_takeT (i := 2) (v := _) rfl (by kernel_rfl) (by kernel_rfl) (by kernel_rfl) (by rfl) (fun _ _ _ h => h) (Or.inl ⟨by rfl, ?hy⟩) (fun _ => hHeld) _
            case hy => (intro w0 hSw; (try dsimp only at hSw); simp only [List.getElem_toArray, List.getElem_cons_zero, List.getElem_cons_succ]; go_simp; first | done | with_reducible rfl)
            simp only [Act.put, List.getElem_toArray, List.getElem_cons_zero, List.getElem_cons_succ, List.setIfInBounds_toArray, List.set_cons_zero, List.set_cons_succ]
            refine' wpAnyF_takeT (i := 3) (v := _) rfl (by kernel_rfl) (by kernel_rfl) (by kernel_rfl) (by rfl) (fun _ _ _ h => h) (Or.inl ⟨by rfl, ?hy⟩) (fun _ => hHeld) _
            case hy => (intro w0 hSw; (try dsimp only at hSw); simp only [List.getElem_toArray, List.getElem_cons_zero, List.getElem_cons_succ]; go_simp; first | done | with_reducible rfl)
            simp only [Act.put, List.getElem_toArray, List.getElem_cons_zero, List.getElem_cons_succ, List.setIfInBounds_toArray, List.set_cons_zero, List.set_cons_succ]
            refine' wpAnyF_takeT (i := 4) (v := _) rfl (by kernel_rfl) (by kernel_rfl) (by kernel_rfl) (by rfl) (fun _ _ _ h => h) (Or.inl ⟨by rfl, ?hy⟩) (fun _ => hHeld) _
            case hy => (intro w0 hSw; (try dsimp only at hSw); simp only [List.getElem_toArray, List.getElem_cons_zero, List.getElem_cons_succ]; go_simp; first | done | with_reducible rfl)
            simp only [Act.put, List.getElem_toArray, List.getElem_cons_zero, List.getElem_cons_succ, List.setIfInBounds_toArray, List.set_cons_zero, List.set_cons_succ]
            refine' wpAnyF_take (i := 5) (v := _) rfl (by kernel_rfl) (by kernel_rfl) (by kernel_rfl) (by kernel_rfl) (by rfl) (by kernel_rfl) (fun _ _ _ h => h) (Or.inl ⟨by rfl, ?hy⟩) hHeld _
            case hy => (intro w0 hSw; (try dsimp only at hSw); simp only [List.getElem_toArray, List.getElem_cons_zero, List.getElem_cons_succ]; go_simp; first | done | with_reducible rfl)
            simp only [Act.put, List.getElem_toArray, List.getElem_cons_zero, List.getElem_cons_succ, List.setIfInBounds_toArray, List.set_cons_zero, List.set_cons_succ]
            refine' wpAnyF_takeT (i := 6) (v := _) rfl (by kernel_rfl) (by kernel_rfl) (by kernel_rfl) (by rfl) (fun _ _ _ h => h) (Or.inl ⟨by rfl, ?hy⟩) (fun _ => hHeld) _
            case hy => (intro w0 hSw; (try dsimp only at hSw); simp only [List.getElem_toArray, List.getElem_cons_zero, List.getElem_cons_succ]; go_simp; first | done | with_reducible rfl)
            simp only [Act.put, List.getElem_toArray, List.getElem_cons_zero, List.getElem_cons_succ, List.setIfInBounds_toArray, List.set_cons_zero, List.set_cons_succ]
            refine' wpAnyF_takeT (i := 7) (v := _) rfl (by kernel_rfl) (by kernel_rfl) (by kernel_rfl) (by rfl) (fun _ _ _ h => h) (Or.inl ⟨by rfl, ?hy⟩) (fun _ => hHeld) _
            case hy => (intro w0 hSw; (try dsimp only at hSw); simp only [List.getElem_toArray, List.getElem_cons_zero, List.getElem_cons_succ]; go_simp; first | done | with_reducible rfl)
            simp only [Act.put, List.getElem_toArray, List.getElem_cons_zero, List.getElem_cons_succ, List.setIfInBounds_toArray, List.set_cons_zero, List.set_cons_succ]
            refine' wpAnyF_takeT (i := 8) (v := _) rfl (by kernel_rfl) (by kernel_rfl) (by kernel_rfl) (by rfl) (fun _ _ _ h => h) (Or.inl ⟨by rfl, ?hy⟩) (fun _ => hHeld) _
            case hy => (intro w0 hSw; (try dsimp only at hSw); simp only [List.getElem_toArray, List.getElem_cons_zero, List.getElem_cons_succ]; go_simp; first | done | with_reducible rfl)
            simp only [Act.put, List.getElem_toArray, List.getElem_cons_zero, List.getElem_cons_succ, List.setIfInBounds_toArray, List.set_cons_zero, List.set_cons_succ]
            refine' wpAnyF_takeT (i := 9) (v := _) rfl (by kernel_rfl) (by kernel_rfl) (by kernel_rfl) (by rfl) (fun _ _ _ h => h) (Or.inl ⟨by rfl, ?hy⟩) (fun _ => hHeld) _
            case hy => (intro w0 hSw; (try dsimp only at hSw); simp only [List.getElem_toArray, List.getElem_cons_zero, List.getElem_cons_succ]; go_simp; first | done | with_reducible rfl)
            simp only [Act.put, List.getElem_toArray, List.getElem_cons_zero, List.getElem_cons_succ, List.setIfInBounds_toArray, List.set_cons_zero, List.set_cons_succ]
            refine' wpAnyF_take (i := 10) (v := _) rfl (by kernel_rfl) (by kernel_rfl) (by kernel_rfl) (by kernel_rfl) (by rfl) (by kernel_rfl) (fun _ _ _ h => h) (Or.inl ⟨by rfl, ?hy⟩) hHeld _
            case hy => (intro w0 hSw; (try dsimp only at hSw); simp only [List.getElem_toArray, List.getElem_cons_zero, List.getElem_cons_succ]; go_simp; first | done | with_reducible rfl)
            simp only [Act.put, List.getElem_toArray, List.getElem_cons_zero, List.getElem_cons_succ, List.setIfInBounds_toArray, List.set_cons_zero, List.set_cons_succ]
            refine wpAnyF_one (i := 11) (by kernel_rfl) rfl (fun K hK => ?_)
            go_simp
            refine hK.out _ _ (fun h => Bool.noConfusion (h.symm.trans (by kernel_rfl : _ = true))) ?_
            clear hK K
            try simp only [Act.put, List.getElem_toArray, List.getElem_cons_zero, List.getElem_cons_succ, List.setIfInBounds_toArray, List.set_cons_zero, List.set_cons_succ]
            refine wpAnyF_one (i := 12) (by kernel_rfl) rfl (fun K hK => ?_)
            go_simp
            refine hK.out _ _ (fun h => Bool.noConfusion (h.symm.trans (by kernel_rfl : _ = true))) ?_
            clear hK K
            try simp only [Act.put, List.getElem_toArray, List.getElem_cons_zero, List.getElem_cons_succ, List.setIfInBounds_toArray, List.set_cons_zero, List.set_cons_succ]
            refine wpAnyF_one (i := 13) (by kernel_rfl) rfl (fun K hK => ?_)
            refine step_appG (by rfl) (.tmp 49) (.tmp 61) _ rfl elem_act (by decide) ac3_len ac3_one q d (goA (xs.take k)).1 [(1, x1, x2)] rfl (HOY.out.below (((Below.refl _ w1).alloc (Nat.le_refl _) (.cells #[.int .i64 1, .int .i64 x1, vw x2] 38)).drew)) w1.heap.size 1 1 rfl rfl 38 (0, 0) (World.alloc_heap_new w1.drew _) (by simp) ⟨(by have := HLY.out; simpa [shutA] using this), by simp⟩ ?_
            intro p9 c9 w9 happ
            have HAPP := Lib.hid happ
            clear happ
            refine hK.out _ _ (fun h => Bool.noConfusion (h.symm.trans (by kernel_rfl : _ = true))) ?_
            clear hK K
            try simp only [Act.put, List.getElem_toArray, List.getElem_cons_zero, List.getElem_cons_succ, List.setIfInBounds_toArray, List.set_cons_zero, List.set_cons_succ]
            refine wpAnyF_one (i := 14) (by kernel_rfl) rfl (fun K hK => ?_)
            go_simp
            refine hK.out _ _ (fun h => Bool.noConfusion (h.symm.trans (by kernel_rfl : _ = true))) ?_
            clear hK K
            try simp only [Act.put, List.getElem_toArray, List.getElem_cons_zero, List.getElem_cons_succ, List.setIfInBounds_toArray, List.set_cons_zero, List.set_cons_succ]
            refine wpAnyF_done (by kernel_rfl) ?_ _
            refine NoPanic.normal ?_
            clear k0 k1
            go_wp2_with fail
            refine ⟨⟨k + 1, by omega, by go_num, ⟨p9, c9, ?_, ?_, ?_⟩, ?_, HBS.out⟩, by simp [intOf]; omega⟩
            · rw [HF.out]; simp [shutA]
            · rw [HF.out]; exact HAPP.out.1
            · intro b hb
              exact (HAPP.out.2.2 b hb).elim (HQY.out b) (fun h => by have := HBY.out.size; have := h.1; simp at this; omega)
            · exact ((HBY.out.alloc HBY.out.size _).drew).trans (HAPP.out.2.1.below (by have := HBY.out.size; simp; omega) HQY.out)
          · rw [if_pos hne] at HF
            have hne' : (x1 / 8 != y1 / 8) = true := by simp [hne]
            have H0 := Lib.hid h0'
            have H1 := Lib.hid h1'
            go_wp2_with fail
            go_quiet (fail)
            clear h0' h1'
            have hBX : Below w.heap.size w (wr.drewN nq) := below_drewN HB.out nq
            have hOX : OwnA (wr.drewN nq) q d (goA (xs.take k)).1 := HO.out.keep (fun _ _ => rfl)
            have G0 := Lib.hid (show (wr.drewN nq).cell? ⟨b, off + k * 2, none⟩ = some (.int .i64 x1) from H0.out)
            have G1 := Lib.hid (show (wr.drewN nq).cell? ⟨b, off + k * 2 + 1, none⟩ = some (vw x2) from H1.out)
            have g0d : (wr.drewN nq).cell? ⟨b, off + j * 2, none⟩ = some (.int .i64 y1) := g0'
            clear g0' HB HO H0 H1
            generalize wr.drewN nq = X at *
            have HBX := Lib.hid hBX
            have HOX := Lib.hid (hOX.below ((Below.refl _ X).alloc (Nat.le_refl _) (.cells #[.int .i64 2, .int .i64 (y1 / 8), .int .u64 0, .int .i64 3, .int .i64 0, .int .u64 0] 38)))
            have HLX := Lib.hid (Nat.lt_of_lt_of_le hbl HBX.out.size)
            clear hBX hOX
            go_wp2_with (at_builtin; refine wpList_appG rfl (.tmp 37) (.tmp 47) _ rfl elem_act (by decide) ac3_len ac3_one q d (goA (xs.take k)).1 (shutA (y1 / 8)) rfl HOX.out X.heap.size 2 2 rfl rfl 38 (0, 0) ?_ ?_ ?_ ?_
                         · exact World.alloc_heap_new X _
                         · simp [shutA]
                         · exact ⟨by have := HLN.out; omega, by simp [shutA]⟩
                         intro p' cap' w1 happ1
                         have HAPP1 := Lib.hid happ1
                         clear happ1)
            have HBY := Lib.hid (show Below w.heap.size w w1 from (HBX.out.alloc HBX.out.size _).trans (HAPP1.out.2.1.below (by have := HBX.out.size; simp; omega) HQ.out))
            have HQY := Lib.hid (show ∀ b, inP p' cap' b → w.heap.size ≤ b from fun b hb => (HAPP1.out.2.2 b hb).elim (HQ.out b) (fun h => by have := HBX.out.size; have := h.1; simp at this; omega))
            have HOY := Lib.hid HAPP1.out.1
            have k0 : w1.drew.cell? ⟨b, off + k * 2, none⟩ = some (.int .i64 x1) := (HAPP1.out.2.1.below (n := w.heap.size) (by have := HBX.out.size; simp; omega) HQ.out).cell (p := ⟨b, off + k * 2, none⟩) hbl |>.trans ((Below.cell ((Below.refl X.heap.size X).alloc (Nat.le_refl _) _) (p := ⟨b, off + k * 2, none⟩) HLX.out).trans G0.out)
            have k1 : w1.drew.cell? ⟨b, off + k * 2 + 1, none⟩ = some (vw x2) := (HAPP1.out.2.1.below (n := w.heap.size) (by have := HBX.out.size; simp; omega) HQ.out).cell (p := ⟨b, off + k * 2 + 1, none⟩) hbl |>.trans ((Below.cell ((Below.refl X.heap.size X).alloc (Nat.le_refl _) _) (p := ⟨b, off + k * 2 + 1, none⟩) HLX.out).trans G1.out)
            have HLY := Lib.hid (show (goA (xs.take k)).1.length + 2 < 1000000 by have := HLN.out; omega)
            go_wp2_with fail
            refine wp_region_noPanic ?_
            refine wp_region_F 11 (fun w' => w'.cell? ⟨b, off + k * 2, none⟩ = some (.int .i64 x1) ∧ w'.cell? ⟨b, off + k * 2 + 1, none⟩ = some (vw x2)) (by kernel_rfl) ?_ (fun hHeld => ?_)
            · exact ⟨k0, k1⟩
            refine' wpAnyF_takeT (i := 0) (v := _) rfl (by kernel_rfl) (by kernel_rfl) (by kernel_rfl) (by rfl) (fun _ _ _ h => h) (Or.inl ⟨by rfl, ?hy⟩) (fun _ => hHeld) _
            case hy => (intro w0 hSw; (try dsimp only at hSw); simp only [List.getElem_toArray, List.getElem_cons_zero]; go_simp; first | done | with_reducible rfl)
            simp only [Act.put, List.getElem_toArray, List.getElem_cons_zero, List.setIfInBounds_toArray, List.set_cons_zero, List.set_cons_succ]
            refine' wpAnyF_takeT (i := 1) (v := _) rfl (by kernel_rfl) (by kernel_rfl) (by kernel_rfl) (by rfl) (fun _ _ _ h => h) (Or.inl ⟨by rfl, ?hy⟩) (fun _ => hHeld) _
            case hy => (intro w0 hSw; (try dsimp only at hSw); simp only [List.getElem_toArray, List.getElem_cons_zero, List.getElem_cons_succ]; go_simp; first | done | with_reducible rfl)
            simp only [Act.put, List.getElem_toArray, List.getElem_cons_zero, List.getElem_cons_succ, List.setIfInBounds_toArray, List.set_cons_zero, List.set_cons_succ]
            refine' wpAnyF_takeT (i := 2) (v := _) rfl (by kernel_rfl) (by kernel_rfl) (by kernel_rfl) (by rfl) (fun _ _ _ h => h) (Or.inl ⟨by rfl, ?hy⟩) (fun _ => hHeld) _
            case hy => (intro w0 hSw; (try dsimp only at hSw); simp only [List.getElem_toArray, List.getElem_cons_zero, List.getElem_cons_succ]; go_simp; first | done | with_reducible rfl)
            simp only [Act.put, List.getElem_toArray, List.getElem_cons_zero, List.getElem_cons_succ, List.setIfInBounds_toArray, List.set_cons_zero, List.set_cons_succ]
            refine' wpAnyF_takeT (i := 3) (v := _) rfl (by kernel_rfl) (by kernel_rfl) (by kernel_rfl) (by rfl) (fun _ _ _ h => h) (Or.inl ⟨by rfl, ?hy⟩) (fun _ => hHeld) _
            case hy => (intro w0 hSw; (try dsimp only at hSw); simp only [List.getElem_toArray, List.getElem_cons_zero, List.getElem_cons_succ]; go_simp; first | done | with_reducible rfl)
            simp only [Act.put, List.getElem_toArray, List.getElem_cons_zero, List.getElem_cons_succ, List.setIfInBounds_toArray, List.set_cons_zero, List.set_cons_succ]
            refine' wpAnyF_takeT (i := 4) (v := _) rfl (by kernel_rfl) (by kernel_rfl) (by kernel_rfl) (by rfl) (fun _ _ _ h => h) (Or.inl ⟨by rfl, ?hy⟩) (fun _ => hHeld) _
            case hy => (intro w0 hSw; (try dsimp only at hSw); simp only [List.getElem_toArray, List.getElem_cons_zero, List.getElem_cons_succ]; go_simp; first | done | with_reducible rfl)
            simp only [Act.put, List.getElem_toArray, List.getElem_cons_zero, List.getElem_cons_succ, List.setIfInBounds_toArray, List.set_cons_zero, List.set_cons_succ]
            refine' wpAnyF_take (i := 5) (v := _) rfl (by kernel_rfl) (by kernel_rfl) (by kernel_rfl) (by kernel_rfl) (by rfl) (by kernel_rfl) (fun _ _ _ h => h) (Or.inl ⟨by rfl, ?hy⟩) hHeld _
            case hy => (intro w0 hSw; (try dsimp only at hSw); simp only [List.getElem_toArray, List.getElem_cons_zero, List.getElem_cons_succ]; go_simp; first | done | with_reducible rfl)
            simp only [Act.put, List.getElem_toArray, List.getElem_cons_zero, List.getElem_cons_succ, List.setIfInBounds_toArray, List.set_cons_zero, List.set_cons_succ]
            refine' wpAnyF_takeT (i := 6) (v := _) rfl (by kernel_rfl) (by kernel_rfl) (by kernel_rfl) (by rfl) (fun _ _ _ h => h) (Or.inl ⟨by rfl, ?hy⟩) (fun _ => hHeld) _
            case hy => (intro w0 hSw; (try dsimp only at hSw); simp only [List.getElem_toArray, List.getElem_cons_zero, List.getElem_cons_succ]; go_simp; first | done | with_reducible rfl)
            simp only [Act.put, List.getElem_toArray, List.getElem_cons_zero, List.getElem_cons_succ, List.setIfInBounds_toArray, List.set_cons_zero, List.set_cons_succ]
            refine' wpAnyF_takeT (i := 7) (v := _) rfl (by kernel_rfl) (by kernel_rfl) (by kernel_rfl) (by rfl) (fun _ _ _ h => h) (Or.inl ⟨by rfl, ?hy⟩) (fun _ => hHeld) _
            case hy => (intro w0 hSw; (try dsimp only at hSw); simp only [List.getElem_toArray, List.getElem_cons_zero, List.getElem_cons_succ]; go_simp; first | done | with_reducible rfl)
            simp only [Act.put, List.getElem_toArray, List.getElem_cons_zero, List.getElem_cons_succ, List.setIfInBounds_toArray, List.set_cons_zero, List.set_cons_succ]
            refine' wpAnyF_takeT (i := 8) (v := _) rfl (by kernel_rfl) (by kernel_rfl) (by kernel_rfl) (by rfl) (fun _ _ _ h => h) (Or.inl ⟨by rfl, ?hy⟩) (fun _ => hHeld) _
            case hy => (intro w0 hSw; (try dsimp only at hSw); simp only [List.getElem_toArray, List.getElem_cons_zero, List.getElem_cons_succ]; go_simp; first | done | with_reducible rfl)
            simp only [Act.put, List.getElem_toArray, List.getElem_cons_zero, List.getElem_cons_succ, List.setIfInBounds_toArray, List.set_cons_zero, List.set_cons_succ]
            refine' wpAnyF_takeT (i := 9) (v := _) rfl (by kernel_rfl) (by kernel_rfl) (by kernel_rfl) (by rfl) (fun _ _ _ h => h) (Or.inl ⟨by rfl, ?hy⟩) (fun _ => hHeld) _
            case hy => (intro w0 hSw; (try dsimp only at hSw); simp only [List.getElem_toArray, List.getElem_cons_zero, List.getElem_cons_succ]; go_simp; first | done | with_reducible rfl)
            simp only [Act.put, List.getElem_toArray, List.getElem_cons_zero, List.getElem_cons_succ, List.setIfInBounds_toArray, List.set_cons_zero, List.set_cons_succ]
            refine' wpAnyF_take (i := 10) (v := _) rfl (by kernel_rfl) (by kernel_rfl) (by kernel_rfl) (by kernel_rfl) (by rfl) (by kernel_rfl) (fun _ _ _ h => h) (Or.inl ⟨by rfl, ?hy⟩) hHeld _
            case hy => (intro w0 hSw; (try dsimp only at hSw); simp only [List.getElem_toArray, List.getElem_cons_zero, List.getElem_cons_succ]; go_simp; first | done | with_reducible rfl)
            simp only [Act.put, List.getElem_toArray, List.getElem_cons_zero, List.getElem_cons_succ, List.setIfInBounds_toArray, List.set_cons_zero, List.set_cons_succ]
            refine wpAnyF_one (i := 11) (by kernel_rfl) rfl (fun K hK => ?_)
            go_simp
            refine hK.out _ _ (fun h => Bool.noConfusion (h.symm.trans (by kernel_rfl : _ = true))) ?_
            clear hK K
            try simp only [Act.put, List.getElem_toArray, List.getElem_cons_zero, List.getElem_cons_succ, List.setIfInBounds_toArray, List.set_cons_zero, List.set_cons_succ]
            refine wpAnyF_one (i := 12) (by kernel_rfl) rfl (fun K hK => ?_)
            go_simp
            refine hK.out _ _ (fun h => Bool.noConfusion (h.symm.trans (by kernel_rfl : _ = true))) ?_
            clear hK K
            try simp only [Act.put, List.getElem_toArray, List.getElem_cons_zero, List.getElem_cons_succ, List.setIfInBounds_toArray, List.set_cons_zero, List.set_cons_succ]
            refine wpAnyF_one (i := 13) (by kernel_rfl) rfl (fun K hK => ?_)
            refine step_appG (by rfl) (.tmp 49) (.tmp 61) _ rfl elem_act (by decide) ac3_len ac3_one p' cap' ((goA (xs.take k)).1 ++ shutA (y1 / 8)) [(1, x1, x2)] (by rw [show ((goA (xs.take k)).1 ++ shutA (y1 / 8)).length = (goA (xs.take k)).1.length + 2 from by simp [shutA]]; rfl) (HOY.out.below (((Below.refl _ w1).alloc (Nat.le_refl _) (.cells #[.int .i64 1, .int .i64 x1, vw x2] 38)).drew)) w1.heap.size 1 1 rfl rfl 38 (0, 0) (World.alloc_heap_new w1.drew _) (by simp) ⟨(by have := HLY.out; simpa [shutA] using this), by simp⟩ ?_
            intro p9 c9 w9 happ
            have HAPP := Lib.hid happ
            clear happ
            refine hK.out _ _ (fun h => Bool.noConfusion (h.symm.trans (by kernel_rfl : _ = true))) ?_
            clear hK K
            try simp only [Act.put, List.getElem_toArray, List.getElem_cons_zero, List.getElem_cons_succ, List.setIfInBounds_toArray, List.set_cons_zero, List.set_cons_succ]
            refine wpAnyF_one (i := 14) (by kernel_rfl) rfl (fun K hK => ?_)
            go_simp
            refine hK.out _ _ (fun h => Bool.noConfusion (h.symm.trans (by kernel_rfl : _ = true))) ?_
            clear hK K
            try simp only [Act.put, List.getElem_toArray, List.getElem_cons_zero, List.getElem_cons_succ, List.setIfInBounds_toArray, List.set_cons_zero, List.set_cons_succ]
            refine wpAnyF_done (by kernel_rfl) ?_ _
            refine NoPanic.normal ?_
            clear k0 k1
            go_wp2_with fail
            refine ⟨⟨k + 1, by omega, by go_num, ⟨p9, c9, ?_, ?_, ?_⟩, ?_, HBS.out⟩, by simp [intOf]; omega⟩
            · rw [HF.out]; simp [shutA]
            · rw [HF.out]; exact HAPP.out.1
            · intro b hb
              exact (HAPP.out.2.2 b hb).elim (HQY.out b) (fun h => by have := HBY.out.size; have := h.1; simp at this; omega)
            · exact ((HBY.out.alloc HBY.out.size _).drew).trans (HAPP.out.2.1.below (by have := HBY.out.size; simp; omega) HQY.out)
    · obtain rfl : k = xs.length := by omega
      rw [List.take_length] at hown hbad ⊢
      have HB := Lib.hid hb
      have HQ := Lib.hid hqd
      have hgl := goA_len xs
      rcases goA_line hbad with ⟨rfl, hl⟩ | ⟨hne, hl⟩
      · have HO := Lib.hid hown
        clear hown hb hqd hbad
        go_wp2_with fail
        go_ret2
        exact ⟨q, d, rfl, HO.out, HQ.out, HB.out⟩
      · obtain ⟨j, hj⟩ : ∃ j : Nat, xs.length = j + 1 := ⟨xs.length - 1, by have := List.length_pos_iff.2 hne; omega⟩
        obtain ⟨b', off', rfl, hbl', g0, g1⟩ := HR.out.rows2 j (by omega)
        have g0' := (hb.cell (p := ⟨b', off' + j * 2, none⟩) hbl').trans g0
        have hymax := HX.out (xs[j]'(by omega)) (List.getElem_mem _)
        have hynn := badP_not (xs := xs) (k := j) (by omega) hbad
        have hlast : (goA xs).2 = lnP (xs[j]'(by omega)).1 := by
          have := goA_line1 (xs := xs) (k := j) (by omega)
          rwa [← hj, List.take_length] at this
        have hO : ordA xs = (goA xs).1 ++ shutA (lnP (xs[j]'(by omega)).1) := by
          unfold ordA endA; rw [hbad, if_pos hl, hlast]; rfl
        have hN : noA xs = 0 := by unfold noA; rw [hbad]; rfl
        have HO := Lib.hid hown
        have HORD := Lib.hid hO
        have HNO := Lib.hid hN
        have hlj : (xs.length : Int) = (j : Int) + 1 := by omega
        obtain ⟨y, hy⟩ : ∃ y, xs[j]'(by omega) = y := ⟨_, rfl⟩
        rw [hy] at g0' hymax hynn HORD
        obtain ⟨y1, y2⟩ := y
        unfold lnP at HORD
        simp only at g0' hymax hynn HORD
        have hjlt : (j : Int) < (xs.length : Int) := by omega
        have hjb : (j : Int) ≤ 100000 := by omega
        have HOX := Lib.hid (hown.below ((Below.refl _ wr).alloc (Nat.le_refl _) (.cells #[.int .i64 2, .int .i64 (y1 / 8), .int .u64 0, .int .i64 3, .int .i64 0, .int .u64 0] 38)))
        clear hown hb hqd hbad hl hne hlast hO hN hy g0 g1 hj
        have hj1 : (xs.length : Int) - 1 = (j : Int) := by omega
        clear hlj
        go_wp2_with (at_builtin; refine wpList_appG rfl (.tmp 68) (.tmp 77) _ rfl elem_act (by decide) ac3_len ac3_one q d (goA xs).1 (shutA (y1 / 8)) rfl ?_ wr.heap.size 2 2 rfl rfl 38 (0, 0) ?_ ?_ ?_ ?_
                     · exact HOX.out
                     · exact World.alloc_heap_new wr _
                     · simp [shutA]
                     · exact ⟨by omega, by simp [shutA]⟩
                     intro p' cap' w1 happ1
                     have HAPP1 := Lib.hid happ1
                     clear happ1)
        go_ret2
        refine ⟨p', cap', ?_, ?_, ?_, ?_⟩
        · rw [HORD.out, HNO.out]; simp [shutA]
        · rw [HORD.out]; exact HAPP1.out.1
        · intro b hb
          exact (HAPP1.out.2.2 b hb).elim (HQ.out b) (fun h => by have := HB.out.size; have := h.1; simp at this; omega)
        · exact (HB.out.alloc HB.out.size _).trans (HAPP1.out.2.1.below (by have := HB.out.size; simp; omega) HQ.out)
end Go.Proofs.Ythhdipfadnihjaa
