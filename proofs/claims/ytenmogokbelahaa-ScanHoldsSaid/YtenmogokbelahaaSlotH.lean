/- The walks of the reference's slots: Apply. -/
import Derived.Test.YtenmogokbelahaaSlotG
namespace Go.Proofs.Ytenmogokbelahaa
open Go Go.RowKit

theorem elem_s64 : ElemIs Try.prog 24 23 (.int .u64 0) 1 8 := ⟨by kernel_rfl, by kernel_rfl, rfl, by decide⟩
theorem rdl_own {α : Type} {w : World} {base g cap : Nat} {e : TypeId} {enc : α → Value} {ys : List α} (h : w.ownsRow base e 1 (.slice (some ⟨g, 0, none⟩) ys.length cap) ys.length (ys.map enc)) (hc : ys.length ≤ cap) (hm : cap ≤ 9223372036854775807) (hg : g < w.heap.size) : RdL w.heap.size w (some ⟨g, 0, none⟩) cap enc ys :=
  ⟨hc, hm, .inr ⟨g, 0, rfl, hg, fun i hi => by rw [Nat.zero_add]; exact own_at h i hi⟩⟩
theorem own_lt {w : World} {base g n cap : Nat} {e : TypeId} {size : Nat} {xs : List Value} (h : w.ownsRow base e size (.slice (some ⟨g, 0, none⟩) n cap) n xs) : g < w.heap.size := by
  rcases h.2 with ⟨hv, _⟩ | ⟨g', c, cur, hv, _, hg, _⟩
  · cases hv
  · cases hv
    exact (Array.getElem?_eq_some_iff.1 hg).1
theorem RdS.sts {B : Nat} {w : World} {p : Option Addr} {cap : Nat} {ys : List St} (h : RdS B w p cap 2 sc ys) (i : Nat) (hi : i < ys.length) :
    ∃ b off, p = some ⟨b, off, none⟩ ∧ b < B ∧ w.cell? ⟨b, off + i * 2, none⟩ = some (.int .i64 (ys[i].1 : Int)) ∧ w.cell? ⟨b, off + i * 2 + 1, none⟩ = some (vw ys[i].2) := by
  obtain ⟨h1, h2, h3⟩ := h
  rcases h3 with rfl | ⟨b, off, hp, hb, hc⟩
  · omega
  · exact ⟨b, off, hp, hb, by simpa using hc i hi 0 _ rfl, by rw [Nat.add_assoc]; exact hc i hi 1 _ rfl⟩
set_option maxRecDepth 100000 in
set_option maxHeartbeats 8000000 in
theorem apply_any (p : Option Addr) (cap : Nat) (s : List (BitVec 64)) (q : Option Addr) (d : Nat) (l : List St) (w : World) (hrd : RdL w.heap.size w p cap vw s) (hrs : RdS w.heap.size w q d 2 sc l) (hl : s.length ≤ 1000) (hs0 : 0 < s.length) (hl2 : l.length ≤ 1000) (hin : ∀ x ∈ l, x.1 < s.length) :
    Calls Try.prog 27 #[.slice p s.length cap, .slice q l.length d] w fun e w' => ∃ q' d', e = .returned (.slice q' s.length d') ∧ RdL w'.heap.size w' q' d' vw (rowT s l l.length) ∧ (∀ b, inP q' d' b → w.heap.size ≤ b) ∧ Below w.heap.size w w' := by
  have hA := At.start w
  have HS := Lib.hid ((hA.alloc (.cells #[] 23)).rdl hrd)
  have HAt := Lib.hid (hA.alloc (.cells #[] 23))
  have HRS := Lib.hid hrs
  have HL := Lib.hid hl
  clear hrd hA hrs
  go_enter Try.func27, Try.ntmps27
  go_wp2_with (at_builtin
               refine wpList_append0 rfl (.tmp 7) (.tmp 8) _ rfl elem_s64 vw w.heap.size s _ rfl _ _ _ rfl (own_empty w _ _ _ (Nat.le_refl _)) HS.out (fun _ => rfl) ?_ ?_ ?_ ?_
               · omega
               · omega
               · simp
               intro v w1 hown hg _
               have HA1 := Lib.hid (HAt.out.grown hg (by intro b hb; cases hb; exact Nat.le_refl _))
               have HO1 := Lib.hid hown
               clear hg hown)
  obtain ⟨g, c, rfl, hg0, hc, hcm⟩ := own_pos HO1.out hs0
  have HG := Lib.hid (And.intro hg0 (And.intro hc hcm))
  clear hg0 hc hcm HS HAt
  go_loopw [6] (fun i wr => ∃ t : Nat, t ≤ l.length ∧ i = .int .i64 t ∧ wr.ownsRow w.heap.size 23 1 (.slice (some ⟨g, 0, none⟩) s.length c) s.length ((rowT s l t).map vw) ∧ At w.heap.size w wr) (fun i _ => l.length - (intOf i).toNat)
  case atStart => exact ⟨0, Nat.zero_le _, rfl, HO1.out, HA1.out⟩
  case round =>
    obtain ⟨t, ht, rfl, hown, hat⟩ := hrel
    have HO := Lib.hid hown
    have HB := Lib.hid hat
    clear hown hat
    by_cases hlt : t < l.length
    · have hlt' : (t : Int) < (l.length : Int) := by omega
      have hsucc := rowT_succ s l t hlt
      obtain ⟨b, off, hpo, hbl, h0, h1⟩ := HRS.out.sts t hlt
      have hina := hin l[t] (List.getElem_mem hlt)
      obtain ⟨A, hA⟩ : ∃ A, l[t].1 = A := ⟨_, rfl⟩
      obtain ⟨v, hv⟩ : ∃ A, l[t].2 = A := ⟨_, rfl⟩
      rw [hA] at hina h0 hsucc
      rw [hv] at h1 hsucc
      have hAl : (A : Int) < (s.length : Int) := by omega
      have hge : (0 : Int) ≤ (A : Int) := by omega
      have hwt : IntKind.i64.wrap ((t : Int) + 1) = (t : Int) + 1 := by rw [IntKind.wrap_i64]; omega
      have hbr := HB.out.1
      have h0' := (hbr.cell (p := ⟨b, off + t * 2, none⟩) hbl).trans h0
      have h1' := (hbr.cell (p := ⟨b, off + t * 2 + 1, none⟩) hbl).trans h1
      have x0 : wr.drew.cell? ⟨b, off + t * 2, none⟩ = some (.int .i64 (A : Int)) := h0'
      have x1 : wr.drew.cell? ⟨b, off + t * 2 + 1, none⟩ = some (vw v) := h1'
      have hcell := own_at HO.out A (by rw [rowT_len]; omega)
      have hset := own_set HO.out A v
      have HSET := Lib.hid hset
      have HST := Lib.hid hsucc
      have hfz : wr.frozen? ⟨g, A, none⟩ = false := by
        have h := OwnO.free (OwnO.of_owns HO.out) (by have := HG.out.2.1; omega) A
        exact h
      subst hpo
      clear hset hsucc h0 h1 hA hv hbr h1'
      go_wp2_with fail
      refine wp_region_noPanic ?_
      refine wp_region_F 12 (fun w' => w'.cell? ⟨b, off + t * 2, none⟩ = some (.int .i64 (A : Int)) ∧ w'.cell? ⟨b, off + t * 2 + 1, none⟩ = some (vw v)) (by kernel_rfl) ?_ (fun hHeld => ?_)
      · exact ⟨x0, x1⟩
      refine' wpAnyF_takeT (i := 0) (v := _) rfl (by kernel_rfl) (by kernel_rfl) (by kernel_rfl) (by rfl) (fun _ _ _ h => h) (Or.inl ⟨by rfl, ?hy⟩) (fun _ => hHeld) _
      case hy => (intro w0 hSw; (try dsimp only at hSw); simp only [List.getElem_toArray, List.getElem_cons_zero]; go_simp; first | done | with_reducible rfl)
      simp only [Act.put, List.getElem_toArray, List.getElem_cons_zero, List.setIfInBounds_toArray, List.set_cons_zero, List.set_cons_succ]
      refine' wpAnyF_takeT (i := 1) (v := _) rfl (by kernel_rfl) (by kernel_rfl) (by kernel_rfl) (by rfl) (fun _ _ _ h => h) (Or.inl ⟨by rfl, ?hy⟩) (fun _ => hHeld) _
      case hy => (intro w0 hSw; (try dsimp only at hSw); simp only [List.getElem_toArray, List.getElem_cons_zero, List.getElem_cons_succ]; go_simp; first | done | with_reducible rfl)
      simp only [Act.put, List.getElem_toArray, List.getElem_cons_zero, List.getElem_cons_succ, List.setIfInBounds_toArray, List.set_cons_zero, List.set_cons_succ]
      refine' wpAnyF_takeT (i := 2) (v := _) rfl (by kernel_rfl) (by kernel_rfl) (by kernel_rfl) (by rfl) (fun _ _ _ h => h) (Or.inl ⟨by rfl, ?hy⟩) (fun _ => hHeld) _
      case hy => (intro w0 hSw; (try dsimp only at hSw); simp only [List.getElem_toArray, List.getElem_cons_zero, List.getElem_cons_succ]; go_simp; first | done | with_reducible rfl)
      simp only [Act.put, List.getElem_toArray, List.getElem_cons_zero, List.getElem_cons_succ, List.setIfInBounds_toArray, List.set_cons_zero, List.set_cons_succ]
      refine' wpAnyF_takeT (i := 3) (v := _) rfl (by kernel_rfl) (by kernel_rfl) (by kernel_rfl) (by rfl) (fun _ _ _ h => h) (Or.inl ⟨by rfl, ?hy⟩) (fun _ => hHeld) _
      case hy => (intro w0 hSw; (try dsimp only at hSw); simp only [List.getElem_toArray, List.getElem_cons_zero, List.getElem_cons_succ]; go_simp; first | done | with_reducible rfl)
      simp only [Act.put, List.getElem_toArray, List.getElem_cons_zero, List.getElem_cons_succ, List.setIfInBounds_toArray, List.set_cons_zero, List.set_cons_succ]
      refine' wpAnyF_takeT (i := 4) (v := _) rfl (by kernel_rfl) (by kernel_rfl) (by kernel_rfl) (by rfl) (fun _ _ _ h => h) (Or.inl ⟨by rfl, ?hy⟩) (fun _ => hHeld) _
      case hy => (intro w0 hSw; (try dsimp only at hSw); simp only [List.getElem_toArray, List.getElem_cons_zero, List.getElem_cons_succ]; go_simp; first | done | with_reducible rfl)
      simp only [Act.put, List.getElem_toArray, List.getElem_cons_zero, List.getElem_cons_succ, List.setIfInBounds_toArray, List.set_cons_zero, List.set_cons_succ]
      refine' wpAnyF_take (i := 5) (v := _) rfl (by kernel_rfl) (by kernel_rfl) (by kernel_rfl) (by kernel_rfl) (by rfl) (by kernel_rfl) (fun _ _ _ h => h) (Or.inl ⟨by rfl, ?hy⟩) hHeld _
      case hy => (intro w0 hSw; (try dsimp only at hSw); simp only [List.getElem_toArray, List.getElem_cons_zero, List.getElem_cons_succ]; go_simp; first | done | with_reducible rfl)
      simp only [Act.put, List.getElem_toArray, List.getElem_cons_zero, List.getElem_cons_succ, List.setIfInBounds_toArray, List.set_cons_zero, List.set_cons_succ]
      refine' wpAnyF_takeT (i := 6) (v := _) rfl (by kernel_rfl) (by kernel_rfl) (by kernel_rfl) (by rfl) (fun _ _ _ h => h) (Or.inl ⟨by rfl, ?hy⟩) (fun _ => hHeld) _
      case hy => (intro w0 hSw; (try dsimp only at hSw); simp only [List.getElem_toArray, List.getElem_cons_zero, List.getElem_cons_succ]; go_simp; first | done | with_reducible rfl)
      simp only [Act.put, List.getElem_toArray, List.getElem_cons_zero, List.getElem_cons_succ, List.setIfInBounds_toArray, List.set_cons_zero, List.set_cons_succ]
      refine' wpAnyF_takeT (i := 7) (v := _) rfl (by kernel_rfl) (by kernel_rfl) (by kernel_rfl) (by rfl) (fun _ _ _ h => h) (Or.inl ⟨by rfl, ?hy⟩) (fun _ => hHeld) _
      case hy => (intro w0 hSw; (try dsimp only at hSw); simp only [List.getElem_toArray, List.getElem_cons_zero, List.getElem_cons_succ]; go_simp; first | done | with_reducible rfl)
      simp only [Act.put, List.getElem_toArray, List.getElem_cons_zero, List.getElem_cons_succ, List.setIfInBounds_toArray, List.set_cons_zero, List.set_cons_succ]
      refine' wpAnyF_takeT (i := 8) (v := _) rfl (by kernel_rfl) (by kernel_rfl) (by kernel_rfl) (by rfl) (fun _ _ _ h => h) (Or.inl ⟨by rfl, ?hy⟩) (fun _ => hHeld) _
      case hy => (intro w0 hSw; (try dsimp only at hSw); simp only [List.getElem_toArray, List.getElem_cons_zero, List.getElem_cons_succ]; go_simp; first | done | with_reducible rfl)
      simp only [Act.put, List.getElem_toArray, List.getElem_cons_zero, List.getElem_cons_succ, List.setIfInBounds_toArray, List.set_cons_zero, List.set_cons_succ]
      refine' wpAnyF_takeT (i := 9) (v := _) rfl (by kernel_rfl) (by kernel_rfl) (by kernel_rfl) (by rfl) (fun _ _ _ h => h) (Or.inl ⟨by rfl, ?hy⟩) (fun _ => hHeld) _
      case hy => (intro w0 hSw; (try dsimp only at hSw); simp only [List.getElem_toArray, List.getElem_cons_zero, List.getElem_cons_succ]; go_simp; first | done | with_reducible rfl)
      simp only [Act.put, List.getElem_toArray, List.getElem_cons_zero, List.getElem_cons_succ, List.setIfInBounds_toArray, List.set_cons_zero, List.set_cons_succ]
      refine' wpAnyF_take (i := 10) (v := _) rfl (by kernel_rfl) (by kernel_rfl) (by kernel_rfl) (by kernel_rfl) (by rfl) (by kernel_rfl) (fun _ _ _ h => h) (Or.inl ⟨by rfl, ?hy⟩) hHeld _
      case hy => (intro w0 hSw; (try dsimp only at hSw); simp only [List.getElem_toArray, List.getElem_cons_zero, List.getElem_cons_succ]; go_simp; first | done | with_reducible rfl)
      simp only [Act.put, List.getElem_toArray, List.getElem_cons_zero, List.getElem_cons_succ, List.setIfInBounds_toArray, List.set_cons_zero, List.set_cons_succ]
      refine' wpAnyF_takeT (i := 11) (v := _) rfl (by kernel_rfl) (by kernel_rfl) (by kernel_rfl) (by rfl) (fun _ _ _ h => h) (Or.inl ⟨by rfl, ?hy⟩) (fun _ => hHeld) _
      case hy => (intro w0 hSw; (try dsimp only at hSw); simp only [List.getElem_toArray, List.getElem_cons_zero, List.getElem_cons_succ]; go_simp; first | done | with_reducible rfl)
      simp only [Act.put, List.getElem_toArray, List.getElem_cons_zero, List.getElem_cons_succ, List.setIfInBounds_toArray, List.set_cons_zero, List.set_cons_succ]
      refine wpAnyF_one (i := 12) (by kernel_rfl) rfl (fun K hK => ?_)
      go_simp
      refine hK.out _ _ (fun h => Bool.noConfusion (h.symm.trans (by kernel_rfl : _ = true))) ?_
      clear hK K
      try simp only [Act.put, List.getElem_toArray, List.getElem_cons_zero, List.getElem_cons_succ, List.setIfInBounds_toArray, List.set_cons_zero, List.set_cons_succ]
      refine wpAnyF_done (by kernel_rfl) ?_ _
      refine NoPanic.normal ?_
      clear hHeld x0 x1 h0' hcell hfz
      go_wp2_with fail
      go_roundw
      case rel => exact ⟨t + 1, hlt, by go_num, by rw [HST.out]; exact HSET.out, (HB.out.setCell (p := ⟨g, A, none⟩) HG.out.1 (vw v)).drew⟩
      case measure => simp [intOf]; omega
    · obtain rfl : t = l.length := by omega
      have hnl : ¬ (l.length : Int) < (l.length : Int) := by omega
      go_wp2_with fail
      go_ret
      refine ⟨some ⟨g, 0, none⟩, c, rfl, ?_, (fun b hb => by obtain ⟨a, ha, hab, -⟩ := hb; cases ha; rw [← hab]; exact HG.out.1), HB.out.1⟩
      have h := HO.out
      rw [← rowT_len s l l.length] at h
      exact rdl_own h (by rw [rowT_len]; exact HG.out.2.1) HG.out.2.2 (own_lt h)
end Go.Proofs.Ytenmogokbelahaa
