/- The walk of the law HashStreams. -/
import Derived.Test.YtandljkppgneoaaStreamLib
import Derived.Test.YtandljkppgneoaaAppW
namespace Go.Proofs.Ytandljkppgneoaa
open Go Go.RowKit

set_option maxRecDepth 100000 in
set_option maxHeartbeats 4000000 in
theorem lawHashStreams (a b : BitVec 64) (p : Option Addr) (cap : Nat) (zs : List Piece) (w : World) (hrd : RdL w.heap.size w p cap encP zs) (hz : ∀ z ∈ zs, RdL w.heap.size w z.1 z.2.1 vb z.2.2) :
    Calls Try.prog 10 #[.agg #[vw a, vw b], .slice p zs.length cap] w fun e w' => e = .returned (.bool true) ∧ Below w.heap.size w w' := by
  have hA0 : At w.heap.size w (w.alloc (.cells #[vw a, vw b] 52)) := (At.start w).alloc _
  have hk0 : Kb w.heap.size a b (w.alloc (.cells #[vw a, vw b] 52)) := kb_new w a b
  have hlen := hrd.len
  have HRD := Lib.hid hrd
  have HZ := Lib.hid hz
  have HA0 := Lib.hid hA0
  have HK0 := Lib.hid hk0
  have HRA := Lib.hid (hA0.rdl hrd)
  clear hrd hz hA0 hk0
  go_enter Try.func10, Try.ntmps10
  go_wp2_with fail
  go_loop [5, 6] (fun n i => ∃ j : Nat, j ≤ zs.length ∧ j ≤ 31 ∧ i = .int .i64 j ∧ n = .int .i64 (sumM (zs.take j) : Nat)) (fun _ i => 32 - (intOf i).toNat)
  case atStart => exact ⟨0, by omega, by omega, rfl, rfl⟩
  case round =>
    obtain ⟨j, hj1, hj2, rfl, rfl⟩ := hrel
    have hsm := sumM_le (zs.take j)
    have htl : (zs.take j).length = j := by simp; omega
    rw [htl] at hsm
    by_cases hj : j < zs.length ∧ j < 31
    · obtain ⟨hja, hjb⟩ := hj
      obtain ⟨g, off, rfl, hgb, hcx⟩ := HRA.out.at j hja
      have hsn := sumM_snoc zs j hja
      obtain ⟨z, hzz⟩ : ∃ z, zs[j] = z := ⟨_, rfl⟩
      rw [hzz] at hcx hsn
      unfold encP at hcx
      have hzl : z.2.2.length ≤ 9223372036854775807 := (HZ.out z (by rw [← hzz]; exact List.getElem_mem hja)).len
      obtain ⟨m, hm⟩ : ∃ m, min z.2.2.length 3000 = m := ⟨_, rfl⟩
      have hm2 : min (z.2.2.length : Int) 3000 = (m : Int) := by omega
      have hm3 : m ≤ 3000 := by omega
      rw [hm] at hsn
      have HSN := Lib.hid hsn
      have HM := Lib.hid hm
      clear hsn hm hzz htl
      go_wp2_with fail
      refine ⟨⟨j + 1, by omega, by omega, rfl, ?_⟩, by simp [intOf]; omega⟩
      have h1 := HSN.out
      have h2 := HM.out
      congr 1
      split <;> omega
    · have hjn : ¬ ((j : Int) < (zs.length : Int)) ∨ ((j : Int) < (zs.length : Int)) ∧ ¬ ((j : Int) < 31) := by omega
      by_cases hbig : 30 < zs.length
      · have hbig' : (30 : Int) < (zs.length : Int) := by omega
        rcases hjn with h1 | ⟨h1, h2⟩
        all_goals
          go_wp2_with fail
          refine (works2_any _).mono ?_
          rintro e w1 ⟨rfl, b1⟩
          have HA1 := Lib.hid (HA0.out.below b1)
          clear b1
          go_wp2_with fail
          go_ret
          exact ⟨rfl, HA1.out.1⟩
      · obtain rfl : j = zs.length := by omega
        rw [List.take_length] at *
        have hsmall : ¬ (30 : Int) < (zs.length : Int) := by omega
        by_cases hn : 2000 < sumM zs
        · have hn' : (2000 : Int) < ((sumM zs : Nat) : Int) := by omega
          go_wp2_with fail
          refine (works2_any _).mono ?_
          rintro e w1 ⟨rfl, b1⟩
          have HA1 := Lib.hid (HA0.out.below b1)
          clear b1
          go_wp2_with fail
          go_ret
          exact ⟨rfl, HA1.out.1⟩
        · have hn' : ¬ (2000 : Int) < ((sumM zs : Nat) : Int) := by omega
          have HN := Lib.hid (show sumM zs ≤ 2000 by omega)
          clear hsm hj htl hjn hj1 hj2 hbig
          obtain ⟨wa, hwa⟩ : ∃ wa, w.alloc (.cells #[vw a, vw b] 52) = wa := ⟨_, rfl⟩
          have HZ0 := Lib.hid (show wa.heap.size = w.heap.size + 1 by rw [← hwa]; simp)
          rw [hwa] at HA0 HK0 HRA ⊢
          have k0 := HK0.out.c0
          have k1 := HK0.out.c1
          go_wp2_with fail
          refine (hnew_any a b wa).mono ?_
          rintro e w1 ⟨rfl, h1, b1, z1⟩
          obtain ⟨S, hS⟩ : ∃ S, wa.heap.size + 1 = S := ⟨_, rfl⟩
          rw [hS] at h1 ⊢
          have hlS : w.heap.size < S := by have := HZ0.out; omega
          have H1 := Lib.hid h1
          have HA1 := Lib.hid (HA0.out.below b1)
          have HK1 := Lib.hid (HK0.out.below b1)
          clear b1 h1 z1 k0 k1 hwa
          go_wp2_with fail
          refine (hcopy_any S a b [] none 0 w1 H1.out).mono ?_
          rintro e w2 ⟨rfl, ⟨p2, c2, h2, i2⟩, b2⟩
          obtain ⟨O, hO⟩ : ∃ O, w1.heap.size = O := ⟨_, rfl⟩
          have hSO : S < O := by rw [← hO]; exact H1.out.lt
          have hstm : Stm w w2 a b S O [] [] (.slice none 0 0) := by
            rw [hO] at h2 i2
            exact ⟨HA1.out.below b2, HK1.out.below b2, ⟨none, 0, H1.out.below b2, (fun k hk => by obtain ⟨_, h, _⟩ := hk; cases h)⟩,
              ⟨p2, c2, h2, (fun k hk => ⟨by have := i2 k hk; omega, by have := i2 k hk; omega, (fun h => by cases h)⟩)⟩, World.ownsRow_nil _ _ _ _, (fun h => by cases h), (fun h => by cases h), hlS, by omega, by omega⟩
          rw [hO]
          have HSTM := Lib.hid hstm
          clear h2 i2 b2 hstm hS hO H1 HA1 HK1 HZ0 HA0 HK0 HRA
          go_wp2_with fail
          go_loopw [9, 10] (fun v i wr => ∃ j : Nat, j ≤ zs.length ∧ i = .int .i64 j ∧ Stm w wr a b S O (cat (zs.take j)) (cat (zs.take j)) v) (fun _ i _ => zs.length - (intOf i).toNat)
          case atStart => exact ⟨0, by omega, rfl, HSTM.out⟩
          case round =>
            obtain ⟨j, hj, rfl, hs⟩ := hrel
            have HS := Lib.hid hs
            clear hs HSTM
            by_cases hlt : j < zs.length
            · obtain ⟨g, off, rfl, hgb, hcx⟩ := HRD.out.at j hlt
              have hlt' : (j : Int) < (zs.length : Int) := by omega
              have hcs := cat_snoc zs j hlt
              have hcl := cat_take_len zs (j + 1) HN.out
              rw [hcs, List.length_append] at hcl
              obtain ⟨z, hzz⟩ : ∃ z, zs[j] = z := ⟨_, rfl⟩
              rw [hzz] at hcx hcs hcl
              unfold encP at hcx
              have hzr := HZ.out z (by rw [← hzz]; exact List.getElem_mem hlt)
              obtain ⟨us, hus⟩ : ∃ us, cat (zs.take j) = us := ⟨_, rfl⟩
              rw [hus] at HS hcs hcl
              obtain ⟨q, cq, xs⟩ := z
              have HC := Lib.hid (show ∀ W, At w.heap.size w W → W.cell? ⟨g, off + j, none⟩ = some (Value.slice q xs.length cq) from fun W hW => (hW.1.cell (p := ⟨g, off + j, none⟩) hgb).trans hcx)
              have HCS := Lib.hid (show cat (zs.take (j + 1)) = us ++ xs from hcs)
              have HZR := Lib.hid (show RdL w.heap.size w q cq vb xs from hzr)
              have hx1 : us.length + xs.length ≤ 2000 := hcl
              have hca : (wr.alloc (.cells #[] 5)).cell? ⟨g, off + j, none⟩ = some (Value.slice q xs.length cq) := HC.out _ (HS.out.at'.alloc _)
              clear hcs hzz hus hcx hcl hzr
              go_wp2_with (
                at_builtin
                refine wpList_append0 rfl (.tmp 49) (.tmp 53) _ rfl elem_u8 vb wr.heap.size xs _ rfl _ _ _ rfl (own_empty wr _ _ _ (Nat.le_refl _)) ((HS.out.at'.alloc _).rdl HZR.out) (fun _ => rfl) ?_ ?_ ?_ ?_
                · omega
                · omega
                · simp
                intro v2 w3 hown hg _
                have A3 := Lib.hid (((At.start wr).alloc (.cells #[] 5)).grown hg (by intro b hb; cases hb; exact Nat.le_refl _))
                have S3 := Lib.hid (HS.out.below A3.out.1)
                obtain ⟨p3, c3, rfl, hr3, hb3⟩ := rdl_of_owns hown
                have HR3 := Lib.hid hr3
                have HB3 := Lib.hid hb3
                clear hown hg hr3 hb3)
              obtain ⟨pS, cS, hS3, iS3⟩ := S3.out.st
              refine (hwrite_any S a b us pS cS p3 c3 xs w3 hS3 HR3.out (by rintro k ⟨x, hx, rfl, _⟩; have := HB3.out x hx; obtain ⟨_, _, h0, _⟩ := HS.out.st; have := h0.lt; omega) (by omega) (by omega)).mono ?_
              rintro e w4 ⟨rfl, h4, f4⟩
              have S4 := Lib.hid (S3.out.wrote f4 h4)
              have hc4 := HC.out _ S4.out.at'
              clear h4 f4 hS3 iS3 hca
              go_wp2_with fail
              refine (num2_any _ _).mono ?_
              rintro e wn ⟨rfl, rfl⟩
              go_wp2_with (
                at_builtin
                refine wpList_appendR rfl (.tmp 58) (.tmp 62) _ rfl elem_u8 vb (w.heap.size + 1) us xs _ rfl _ _ _ rfl S4.out.own (S4.out.at'.rdl HZR.out) (fun _ => rfl) ?_ ?_ ?_ ?_
                · omega
                · omega
                · exact S4.out.kb.lt
                intro v5 w5 hown hg hblk
                have S5 := Lib.hid (S4.out.grew hg hblk hown)
                obtain ⟨p5, c5, rfl, hr5, _⟩ := rdl_of_owns hown
                have HR5 := Lib.hid hr5
                clear hown hg hblk hr5)
              have S5d := Lib.hid (S5.out.below (Below.refl _ _).drew)
              have k05 := S5d.out.kb.c0
              have k15 := S5d.out.kb.c1
              obtain ⟨pT, cT, hT, iT⟩ := S5d.out.st
              have HT5 := Lib.hid hT
              have HR6 : ∀ W : World, W.ownsRow (w.heap.size + 1) 5 1 (.slice p5 (us ++ xs).length c5) (us ++ xs).length ((us ++ xs).map vb) → RdL W.heap.size W p5 c5 vb (us ++ xs) := by
                intro W h
                obtain ⟨p', c', e, h', _⟩ := rdl_of_owns h
                cases e
                exact h'
              clear hT iT HR5 hc4 A3 S3 HR3 HB3 S4
              obtain ⟨r, hrm⟩ : ∃ r : Int, (j : Int).tmod 3 = r := ⟨_, rfl⟩
              have hrm2 : (j : Int) % 3 = r := by rw [← hrm]; exact (Int.tmod_eq_emod_of_nonneg (by omega)).symm
              have h3 : r = 1 ∨ r = 0 ∨ r = 2 := by omega
              clear hrm2
              rcases h3 with rfl | h3
              · skip
                go_region_held3 (fun w' => w'.cell? ⟨w.heap.size, 0, none⟩ = some (vw a) ∧ w'.cell? ⟨w.heap.size, 1, none⟩ = some (vw b))
                  (first | exact ⟨k05, k15⟩ | exact ⟨k06, k16⟩ | exact ⟨k07, k17⟩ | exact ⟨k08, k18⟩ | exact ⟨k09, k19⟩ | exact ⟨k010, k110⟩)
                  (first
                    | (go_at_call_of 32 (Value.pointer (some ⟨S, 0, none⟩))
                       refine (hsumAt_any S a b (us ++ xs) pT cT _ (by first | exact HT9.out | exact HT5.out) (by simp; omega)).mono ?_
                       first
                         | (have S9' := S9
                            rintro e w10 ⟨rfl, b10⟩
                            have S10 := Lib.hid (S9.out.below b10)
                            have k010 := S10.out.kb.c0
                            have k110 := S10.out.kb.c1
                            clear b10 S9')
                         | (rintro e w6 ⟨rfl, b6⟩
                            have S6 := Lib.hid (S5d.out.below b6)
                            have HT6 := Lib.hid (HT5.out.below b6)
                            have k06 := S6.out.kb.c0
                            have k16 := S6.out.kb.c1
                            clear b6))
                    | (go_at_call 26
                       have hrf := refSum_any a b p5 c5 (us ++ xs) w6 (HR6 w6 S6.out.own) (by simp; omega)
                       rw [List.length_append] at hrf
                       refine hrf.mono ?_
                       clear hrf
                       rintro e w7 ⟨rfl, b7⟩
                       have S7 := Lib.hid (S6.out.below b7)
                       have HT7 := Lib.hid (HT6.out.below b7)
                       have k07 := S7.out.kb.c0
                       have k17 := S7.out.kb.c1
                       clear b7)
                    | (go_at_call 34
                       refine (hlen_any S a b (us ++ xs) pT cT w7 HT7.out).mono ?_
                       rintro e wl ⟨rfl, rfl⟩)
                    | (go_at_call 33
                       refine (hcopy_any S a b (us ++ xs) pT cT w7 HT7.out).mono ?_
                       rintro e w8 ⟨rfl, ⟨pC, cC, hC8, iC8⟩, b8⟩
                       have S8 := Lib.hid (S7.out.below b8)
                       have HT8 := Lib.hid (HT7.out.below b8)
                       have HC8 := Lib.hid hC8
                       have k08 := S8.out.kb.c0
                       have k18 := S8.out.kb.c1
                       clear b8 hC8 iC8)
                    | (go_at_call_of 32 (Value.pointer (some ⟨w7.heap.size, 0, none⟩))
                       refine (hsumAt_any w7.heap.size a b (us ++ xs) pC cC w8 HC8.out (by simp; omega)).mono ?_
                       rintro e w9 ⟨rfl, b9⟩
                       have S9 := Lib.hid (S8.out.below b9)
                       have HT9 := Lib.hid (HT8.out.below b9)
                       have k09 := S9.out.kb.c0
                       have k19 := S9.out.kb.c1
                       clear b9))
                all_goals
                  go_wp2_with fail
                  refine ⟨⟨j + 1, by omega, rfl, ?_⟩, by simp [intOf]; omega⟩
                  rw [HCS.out]
                  have hfin := S10.out
                  rw [List.length_append] at hfin
                  exact hfin
              · rcases h3 with rfl | rfl
                all_goals
                  refine wp_region_noPanic ?_
                  refine wp_region_held_drew (S := (fun w' => w'.cell? ⟨w.heap.size, 0, none⟩ = some (vw a) ∧ w'.cell? ⟨w.heap.size, 1, none⟩ = some (vw b))) (by kernel_rfl) ?_ (fun hHeld => ?_)
                  · exact ⟨k05, k15⟩
                  refine' wpAnyH_take (i := 0) (v := _) rfl (by kernel_rfl) (by kernel_rfl) (by kernel_rfl) (fun _ _ _ h => h) (Or.inl ⟨by rfl, ?hy⟩) (by assumption) _
                  case hy => (intro w0 hSw; (try dsimp only at hSw); simp only [List.getElem_toArray, List.getElem_cons_zero]; go_simp; first | done | with_reducible rfl)
                  simp only [Act.put, List.getElem_toArray, List.getElem_cons_zero, List.setIfInBounds_toArray, List.set_cons_zero, List.set_cons_succ]
                  refine' wpAnyH_take (i := 2) (v := _) rfl (by kernel_rfl) (by kernel_rfl) (by kernel_rfl) (fun _ _ _ h => h) (Or.inl ⟨by rfl, ?hy⟩) (by assumption) _
                  case hy => (intro w0 hSw; (try dsimp only at hSw); simp only [List.getElem_toArray, List.getElem_cons_zero, List.getElem_cons_succ]; go_simp; first | done | with_reducible rfl)
                  simp only [Act.put, List.getElem_toArray, List.getElem_cons_zero, List.getElem_cons_succ, List.setIfInBounds_toArray, List.set_cons_zero, List.set_cons_succ]
                  refine' wpAnyH_take (i := 3) (v := _) rfl (by kernel_rfl) (by kernel_rfl) (by kernel_rfl) (fun _ _ _ h => h) (Or.inl ⟨by rfl, ?hy⟩) (by assumption) _
                  case hy => (intro w0 hSw; (try dsimp only at hSw); simp only [List.getElem_toArray, List.getElem_cons_zero, List.getElem_cons_succ]; go_simp; first | done | with_reducible rfl)
                  simp only [Act.put, List.getElem_toArray, List.getElem_cons_zero, List.getElem_cons_succ, List.setIfInBounds_toArray, List.set_cons_zero, List.set_cons_succ]
                  refine wpAnyH_ready (rs := [1]) (by kernel_rfl) (by simp) ?_
                  refine AllReadyH.cons rfl (fun K hK => ?_) AllReadyH.nil
                  go_simp
                  refine (hsumAt_any S a b (us ++ xs) pT cT _ HT5.out (by simp; omega)).mono ?_
                  rintro e w6 ⟨rfl, b6⟩
                  have S6 := Lib.hid (S5d.out.below b6)
                  have HT6 := Lib.hid (HT5.out.below b6)
                  have k06 := S6.out.kb.c0
                  have k16 := S6.out.kb.c1
                  clear b6
                  go_wp2_with fail
                  refine hK.out _ _ ?_ (fun hHeld => ?_)
                  · exact ⟨k06, k16⟩
                  clear hK K
                  try simp only [Act.put, List.getElem_toArray, List.getElem_cons_zero, List.getElem_cons_succ, List.setIfInBounds_toArray, List.set_cons_zero, List.set_cons_succ]
                  refine wpAnyH_ready (rs := [4]) (by kernel_rfl) (by simp) ?_
                  refine AllReadyH.cons rfl (fun K hK => ?_) AllReadyH.nil
                  go_simp
                  have hrf := refSum_any a b p5 c5 (us ++ xs) w6 (HR6 w6 S6.out.own) (by simp; omega)
                  rw [List.length_append] at hrf
                  refine hrf.mono ?_
                  clear hrf
                  rintro e w7 ⟨rfl, b7⟩
                  have S7 := Lib.hid (S6.out.below b7)
                  have HT7 := Lib.hid (HT6.out.below b7)
                  have k07 := S7.out.kb.c0
                  have k17 := S7.out.kb.c1
                  clear b7
                  go_wp2_with fail
                  refine hK.out _ _ ?_ (fun hHeld => ?_)
                  · exact ⟨k07, k17⟩
                  clear hK K
                  try simp only [Act.put, List.getElem_toArray, List.getElem_cons_zero, List.getElem_cons_succ, List.setIfInBounds_toArray, List.set_cons_zero, List.set_cons_succ]
                  refine' wpAnyH_take (i := 5) (v := _) rfl (by kernel_rfl) (by kernel_rfl) (by kernel_rfl) (fun _ _ _ h => h) (Or.inl ⟨by rfl, ?hy⟩) (by assumption) _
                  case hy => (intro w0 hSw; (try dsimp only at hSw); simp only [List.getElem_toArray, List.getElem_cons_zero, List.getElem_cons_succ]; go_simp; first | done | with_reducible rfl)
                  simp only [Act.put, List.getElem_toArray, List.getElem_cons_zero, List.getElem_cons_succ, List.setIfInBounds_toArray, List.set_cons_zero, List.set_cons_succ]
                  refine' wpAnyH_take (i := 6) (v := _) rfl (by kernel_rfl) (by kernel_rfl) (by kernel_rfl) (fun _ _ _ h => h) (Or.inl ⟨by rfl, ?hy⟩) (by assumption) _
                  case hy => (intro w0 hSw; (try dsimp only at hSw); simp only [List.getElem_toArray, List.getElem_cons_zero, List.getElem_cons_succ]; go_simp; first | done | with_reducible rfl)
                  simp only [Act.put, List.getElem_toArray, List.getElem_cons_zero, List.getElem_cons_succ, List.setIfInBounds_toArray, List.set_cons_zero, List.set_cons_succ]
                  refine' wpAnyH_take (i := 7) (v := _) rfl (by kernel_rfl) (by kernel_rfl) (by kernel_rfl) (fun _ _ _ h => h) (Or.inl ⟨by rfl, ?hy⟩) (by assumption) _
                  case hy => (intro w0 hSw; (try dsimp only at hSw); simp only [List.getElem_toArray, List.getElem_cons_zero, List.getElem_cons_succ]; go_simp; first | done | with_reducible rfl)
                  simp only [Act.put, List.getElem_toArray, List.getElem_cons_zero, List.getElem_cons_succ, List.setIfInBounds_toArray, List.set_cons_zero, List.set_cons_succ]
                  refine' wpAnyH_take (i := 9) (v := _) rfl (by kernel_rfl) (by kernel_rfl) (by kernel_rfl) (fun _ _ _ h => h) (Or.inl ⟨by rfl, ?hy⟩) (by assumption) _
                  case hy => (intro w0 hSw; (try dsimp only at hSw); simp only [List.getElem_toArray, List.getElem_cons_zero, List.getElem_cons_succ]; go_simp; first | done | with_reducible rfl)
                  simp only [Act.put, List.getElem_toArray, List.getElem_cons_zero, List.getElem_cons_succ, List.setIfInBounds_toArray, List.set_cons_zero, List.set_cons_succ]
                  refine' wpAnyH_take (i := 10) (v := _) rfl (by kernel_rfl) (by kernel_rfl) (by kernel_rfl) (fun _ _ _ h => h) (Or.inl ⟨by rfl, ?hy⟩) (by assumption) _
                  case hy => (intro w0 hSw; (try dsimp only at hSw); simp only [List.getElem_toArray, List.getElem_cons_zero, List.getElem_cons_succ]; go_simp; first | done | with_reducible rfl)
                  simp only [Act.put, List.getElem_toArray, List.getElem_cons_zero, List.getElem_cons_succ, List.setIfInBounds_toArray, List.set_cons_zero, List.set_cons_succ]
                  refine wpAnyH_ready (rs := [8]) (by kernel_rfl) (by simp) ?_
                  refine AllReadyH.cons rfl (fun K hK => ?_) AllReadyH.nil
                  go_simp
                  refine (hlen_any S a b (us ++ xs) pT cT w7 HT7.out).mono ?_
                  rintro e wl ⟨rfl, rfl⟩
                  go_wp2_with fail
                  refine hK.out _ _ ?_ (fun hHeld => ?_)
                  · exact ⟨k07, k17⟩
                  clear hK K
                  try simp only [Act.put, List.getElem_toArray, List.getElem_cons_zero, List.getElem_cons_succ, List.setIfInBounds_toArray, List.set_cons_zero, List.set_cons_succ]
                  refine' wpAnyH_take (i := 11) (v := _) rfl (by kernel_rfl) (by kernel_rfl) (by kernel_rfl) (fun _ _ _ h => h) (Or.inl ⟨by rfl, ?hy⟩) (by assumption) _
                  case hy => (intro w0 hSw; (try dsimp only at hSw); simp only [List.getElem_toArray, List.getElem_cons_zero, List.getElem_cons_succ]; go_simp; first | done | with_reducible rfl)
                  simp only [Act.put, List.getElem_toArray, List.getElem_cons_zero, List.getElem_cons_succ, List.setIfInBounds_toArray, List.set_cons_zero, List.set_cons_succ]
                  refine' wpAnyH_take (i := 12) (v := _) rfl (by kernel_rfl) (by kernel_rfl) (by kernel_rfl) (fun _ _ _ h => h) (Or.inl ⟨by rfl, ?hy⟩) (by assumption) _
                  case hy => (intro w0 hSw; (try dsimp only at hSw); simp only [List.getElem_toArray, List.getElem_cons_zero, List.getElem_cons_succ]; go_simp; first | done | with_reducible rfl)
                  simp only [Act.put, List.getElem_toArray, List.getElem_cons_zero, List.getElem_cons_succ, List.setIfInBounds_toArray, List.set_cons_zero, List.set_cons_succ]
                  refine' wpAnyH_take (i := 13) (v := _) rfl (by kernel_rfl) (by kernel_rfl) (by kernel_rfl) (fun _ _ _ h => h) (Or.inl ⟨by rfl, ?hy⟩) (by assumption) _
                  case hy => (intro w0 hSw; (try dsimp only at hSw); simp only [List.getElem_toArray, List.getElem_cons_zero, List.getElem_cons_succ]; go_simp; first | done | with_reducible rfl)
                  simp only [Act.put, List.getElem_toArray, List.getElem_cons_zero, List.getElem_cons_succ, List.setIfInBounds_toArray, List.set_cons_zero, List.set_cons_succ]
                  refine' wpAnyH_take (i := 14) (v := _) rfl (by kernel_rfl) (by kernel_rfl) (by kernel_rfl) (fun _ _ _ h => h) (Or.inl ⟨by rfl, ?hy⟩) (by assumption) _
                  case hy => (intro w0 hSw; (try dsimp only at hSw); simp only [List.getElem_toArray, List.getElem_cons_zero, List.getElem_cons_succ]; go_simp; first | done | with_reducible rfl)
                  simp only [Act.put, List.getElem_toArray, List.getElem_cons_zero, List.getElem_cons_succ, List.setIfInBounds_toArray, List.set_cons_zero, List.set_cons_succ]
                  refine' wpAnyH_take (i := 15) (v := _) rfl (by kernel_rfl) (by kernel_rfl) (by kernel_rfl) (fun _ _ _ h => h) (Or.inl ⟨by rfl, ?hy⟩) (by assumption) _
                  case hy => (intro w0 hSw; (try dsimp only at hSw); simp only [List.getElem_toArray, List.getElem_cons_zero, List.getElem_cons_succ]; go_simp; first | done | with_reducible rfl)
                  simp only [Act.put, List.getElem_toArray, List.getElem_cons_zero, List.getElem_cons_succ, List.setIfInBounds_toArray, List.set_cons_zero, List.set_cons_succ]
                  refine' wpAnyH_take (i := 16) (v := _) rfl (by kernel_rfl) (by kernel_rfl) (by kernel_rfl) (fun _ _ _ h => h) (Or.inl ⟨by rfl, ?hy⟩) (by assumption) _
                  case hy => (intro w0 hSw; (try dsimp only at hSw); simp only [List.getElem_toArray, List.getElem_cons_zero, List.getElem_cons_succ]; go_simp; first | done | with_reducible rfl)
                  simp only [Act.put, List.getElem_toArray, List.getElem_cons_zero, List.getElem_cons_succ, List.setIfInBounds_toArray, List.set_cons_zero, List.set_cons_succ]
                  refine' wpAnyH_take (i := 17) (v := _) rfl (by kernel_rfl) (by kernel_rfl) (by kernel_rfl) (fun _ _ _ h => h) (Or.inl ⟨by rfl, ?hy⟩) (by assumption) _
                  case hy => (intro w0 hSw; (try dsimp only at hSw); simp only [List.getElem_toArray, List.getElem_cons_zero, List.getElem_cons_succ]; go_simp; first | done | with_reducible rfl)
                  simp only [Act.put, List.getElem_toArray, List.getElem_cons_zero, List.getElem_cons_succ, List.setIfInBounds_toArray, List.set_cons_zero, List.set_cons_succ]
                  refine wpAnyH_take (i := 18) (v := undef) rfl (by kernel_rfl) (by kernel_rfl) (by kernel_rfl) (fun _ _ _ h => h) (Or.inr ⟨by rfl, rfl⟩) (by assumption) ?_
                  simp only [Act.put, List.getElem_toArray, List.getElem_cons_zero, List.getElem_cons_succ, List.setIfInBounds_toArray, List.set_cons_zero, List.set_cons_succ]
                  refine wpAnyH_take (i := 21) (v := undef) rfl (by kernel_rfl) (by kernel_rfl) (by kernel_rfl) (fun _ _ _ h => h) (Or.inr ⟨by rfl, rfl⟩) (by assumption) ?_
                  simp only [Act.put, List.getElem_toArray, List.getElem_cons_zero, List.getElem_cons_succ, List.setIfInBounds_toArray, List.set_cons_zero, List.set_cons_succ]
                  refine wpAnyH_ready (rs := [19]) (by kernel_rfl) (by simp) ?_
                  refine AllReadyH.cons rfl (fun K hK => ?_) AllReadyH.nil
                  go_simp
                  refine hK.out _ _ ?_ (fun hHeld => ?_)
                  · exact ⟨k07, k17⟩
                  clear hK K
                  try simp only [Act.put, List.getElem_toArray, List.getElem_cons_zero, List.getElem_cons_succ, List.setIfInBounds_toArray, List.set_cons_zero, List.set_cons_succ]
                  refine wpAnyH_ready (rs := [20]) (by kernel_rfl) (by simp) ?_
                  refine AllReadyH.cons rfl (fun K hK => ?_) AllReadyH.nil
                  go_simp
                  refine hK.out _ _ ?_ (fun hHeld => ?_)
                  · exact ⟨k07, k17⟩
                  clear hK K
                  try simp only [Act.put, List.getElem_toArray, List.getElem_cons_zero, List.getElem_cons_succ, List.setIfInBounds_toArray, List.set_cons_zero, List.set_cons_succ]
                  refine wpAnyH_ready (rs := [22]) (by kernel_rfl) (by simp) ?_
                  refine AllReadyH.cons rfl (fun K hK => ?_) AllReadyH.nil
                  go_simp
                  refine hK.out _ _ ?_ (fun hHeld => ?_)
                  · exact ⟨k07, k17⟩
                  clear hK K
                  try simp only [Act.put, List.getElem_toArray, List.getElem_cons_zero, List.getElem_cons_succ, List.setIfInBounds_toArray, List.set_cons_zero, List.set_cons_succ]
                  refine wpAnyH_take (i := 23) (v := undef) rfl (by kernel_rfl) (by kernel_rfl) (by kernel_rfl) (fun _ _ _ h => h) (Or.inr ⟨by rfl, rfl⟩) (by assumption) ?_
                  simp only [Act.put, List.getElem_toArray, List.getElem_cons_zero, List.getElem_cons_succ, List.setIfInBounds_toArray, List.set_cons_zero, List.set_cons_succ]
                  refine' wpAnyH_take (i := 24) (v := _) rfl (by kernel_rfl) (by kernel_rfl) (by kernel_rfl) (fun _ _ _ h => h) (Or.inl ⟨by rfl, ?hy⟩) (by assumption) _
                  case hy => (intro w0 hSw; (try dsimp only at hSw); simp only [List.getElem_toArray, List.getElem_cons_zero, List.getElem_cons_succ]; go_simp; first | done | with_reducible rfl)
                  simp only [Act.put, List.getElem_toArray, List.getElem_cons_zero, List.getElem_cons_succ, List.setIfInBounds_toArray, List.set_cons_zero, List.set_cons_succ]
                  refine' wpAnyH_take (i := 25) (v := _) rfl (by kernel_rfl) (by kernel_rfl) (by kernel_rfl) (fun _ _ _ h => h) (Or.inl ⟨by rfl, ?hy⟩) (by assumption) _
                  case hy => (intro w0 hSw; (try dsimp only at hSw); simp only [List.getElem_toArray, List.getElem_cons_zero, List.getElem_cons_succ]; go_simp; first | done | with_reducible rfl)
                  simp only [Act.put, List.getElem_toArray, List.getElem_cons_zero, List.getElem_cons_succ, List.setIfInBounds_toArray, List.set_cons_zero, List.set_cons_succ]
                  refine wpAnyH_done (by kernel_rfl) ?_ _
                  refine NoPanic.normal ?_
                  all_goals
                    go_wp2_with fail
                    refine ⟨⟨j + 1, by omega, rfl, ?_⟩, by simp [intOf]; omega⟩
                    rw [HCS.out]
                    have hfin := S7.out
                    rw [List.length_append] at hfin
                    exact hfin
            · obtain rfl : j = zs.length := by omega
              rw [List.take_length] at HS
              have hcl := (cat_len zs HN.out).1
              obtain ⟨bs, hbs⟩ : ∃ bs, cat zs = bs := ⟨_, rfl⟩
              rw [hbs] at HS hcl
              clear hlt hj hbs
              go_wp2_with fail
              have S0 := Lib.hid (HS.out.below (Below.refl _ _).drew)
              have k00 := S0.out.kb.c0
              have k10 := S0.out.kb.c1
              obtain ⟨pO, cO, hO, _⟩ := S0.out.old
              have HO := Lib.hid hO
              clear hO
              go_region_held3 (fun w' => w'.cell? ⟨w.heap.size, 0, none⟩ = some (vw a) ∧ w'.cell? ⟨w.heap.size, 1, none⟩ = some (vw b))
                (first | exact ⟨k00, k10⟩ | exact ⟨k01, k11⟩ | exact ⟨k02, k12⟩ | exact ⟨k03, k13⟩ | exact ⟨k04, k14⟩)
                (first
                | (go_at_call_of 32 (Value.pointer (some ⟨O, 0, none⟩))
                   refine (hsumAt_any O a b [] pO cO wr.drew HO.out (by simp)).mono ?_
                   rintro e v1 ⟨rfl, b1⟩
                   have S1 := Lib.hid (S0.out.below b1)
                   have HO1 := Lib.hid (HO.out.below b1)
                   have k01 := S1.out.kb.c0
                   have k11 := S1.out.kb.c1
                   clear b1)
                | (go_at_call 26
                   refine (refSum_any a b none 0 [] v1 (RdL.nil _ _ _) (by simp)).mono ?_
                   rintro e v2 ⟨rfl, b2⟩
                   have S2 := Lib.hid (S1.out.below b2)
                   have HO2 := Lib.hid (HO1.out.below b2)
                   have k02 := S2.out.kb.c0
                   have k12 := S2.out.kb.c1
                   clear b2)
                | (go_at_call_of 34 (Value.pointer (some ⟨O, 0, none⟩))
                   refine (hlen_any O a b [] pO cO v2 HO2.out).mono ?_
                   rintro e wl ⟨rfl, rfl⟩)
                | (go_at_call 31
                   refine (hwriteNil_any _ v2).mono ?_
                   rintro e v3 ⟨rfl, b3⟩
                   have S3 := Lib.hid (S2.out.below b3)
                   have k03 := S3.out.kb.c0
                   have k13 := S3.out.kb.c1
                   clear b3)
                | (go_at_call 28; refine (num2_any _ _).mono ?_; rintro e wn ⟨rfl, rfl⟩)
                | (go_at_call 32; refine (hsumNil_any v3).mono ?_; rintro e wn ⟨rfl, rfl⟩)
                | (go_at_call 34; refine (hlenNil_any v3).mono ?_; rintro e wn ⟨rfl, rfl⟩)
                | (go_at_call 33; refine (hcopyNil_any v3).mono ?_; rintro e wn ⟨rfl, rfl⟩)
                | (go_at_call 24
                   refine (works2_any _).mono ?_
                   rintro e v4 ⟨rfl, b4⟩
                   have S4 := Lib.hid (S3.out.below b4)
                   have k04 := S4.out.kb.c0
                   have k14 := S4.out.kb.c1
                   clear b4))
              all_goals
                go_wp2_with fail
                go_ret
                exact ⟨rfl, S4.out.at'.1⟩
end Go.Proofs.Ytandljkppgneoaa
