/- The walks of the statements' own functions: same. -/
import Derived.Test.YtenmogokbelahaaScanK
namespace Go.Proofs.Ytenmogokbelahaa
open Go Go.RowKit

set_option maxRecDepth 100000 in
set_option maxHeartbeats 4000000 in
theorem same10_any {O : Nat} {r : Rd} {N : Nat → Prop} (w : World) (h : RAt w O r N) (hok : OkR r) :
    Calls Try.prog 33 #[.pointer (some ⟨O, 0, none⟩), rdV r] w fun e w' => e = .returned (.bool true) ∧ Below w.heap.size w w' := by
  obtain ⟨W1, hW1⟩ : ∃ W1, w.alloc (.cells (rdC r) 29) = W1 := ⟨_, rfl⟩
  have hb1 : Below w.heap.size w W1 := by rw [← hW1]; exact (Below.refl _ _).alloc (Nat.le_refl _) _
  have hz1 : W1.heap.size = w.heap.size + 1 := by rw [← hW1]; simp
  have hr1 : W1.heap[w.heap.size]? = some (.cells (rdC r) 29 (0, 0)) := by rw [← hW1]; exact World.alloc_heap_new _ _
  have hR1 : RAt W1 O r N := h.keep hb1.size (fun b _ hl => hb1.block b hl)
  have HWA := Lib.hid (wantsR_any W1 hR1)
  have HFO := Lib.hid (foundR_any W1 hR1)
  have HLO := Lib.hid (fun W (hb : Below W1.heap.size W1 W) => loadsR_any W (hR1.keep hb.size (fun b _ hl => hb.block b hl)))
  have HRF := Lib.hid (refFound_any r W1)
  have HRW := Lib.hid (fun (hd : r.done = false) W => refWants_any r W hok hd)
  unfold rdC at hr1 hW1
  have HS := Lib.hid (And.intro hW1 (And.intro hb1 (And.intro hr1 hz1)))
  unfold foundV at HFO
  unfold rdV rdC at HRF HRW ⊢
  have hv : ∀ x : BitVec 64, vw x = .int .u64 x.toNat := fun _ => rfl
  obtain ⟨P, hP⟩ : ∃ V : Int, (r.found.1.toNat : Int) = V := ⟨_, rfl⟩
  rw [hv r.found.1, hP] at HFO HRF
  obtain ⟨F, hF⟩ : ∃ F, r.found.2 = F := ⟨_, rfl⟩
  rw [hF] at HFO HRF
  obtain ⟨L, hL⟩ : ∃ L : Int, (r.loads : Int) = L := ⟨_, rfl⟩
  rw [hL] at HLO HRF HRW HS ⊢
  clear h hb1 hr1 hR1 hok hv hP hF hW1 hL hz1
  unfold wantV at HWA
  cases hd : r.done with
  | true =>
    rw [hd] at HFO HWA HRF HS
    simp only [if_pos, Bool.not_true] at HWA
    clear HRW hd
    go_enter Try.func33, Try.ntmps33
    go_wp2_with fail
    rw [HS.out.1]
    refine HWA.out.mono ?_
    rintro e w' ⟨rfl, rfl⟩
    go_wp2_with fail
    refine HFO.out.mono ?_
    rintro e w' ⟨rfl, rfl⟩
    obtain ⟨c0, c1, c2, c3, c4, c5, c6, c7, c8, c9, -⟩ := cells10 HS.out.2.2.1
    go_wp2_with fail
    refine HRF.out.mono ?_
    rintro e w3 ⟨rfl, hb3⟩
    obtain ⟨d0, d1, d2, d3, d4, d5, d6, d7, d8, d9, -⟩ := cells10 ((hb3.block w.heap.size (by have := HS.out.2.2.2; omega)).trans HS.out.2.2.1)
    have HB3 := Lib.hid hb3
    clear c0 c1 c2 c3 c4 c5 c6 c7 c8 c9 hb3
    go_wp2_with fail
    go_region_held3 (fun w' => w'.cell? ⟨w.heap.size, 7, none⟩ = some (.bool true) ∧ w'.cell? ⟨w.heap.size, 9, none⟩ = some (.int .i64 L))
      (first | exact ⟨d7, d9⟩)
      (first
       | (go_at_call 38
          refine (HLO.out _ (below_drewN HB3.out _)).mono ?_
          rintro e w4 ⟨rfl, rfl⟩))
    go_wp2_with fail
    go_ret
    exact ⟨rfl, HS.out.2.1.trans ((below_drewN HB3.out _).mono HS.out.2.1.size)⟩
  | false =>
    have HRX := Lib.hid (HRW.out hd)
    rw [hd] at HFO HWA HRF HS HRX
    simp only [Bool.false_eq_true, if_false, Bool.not_false] at HWA
    obtain ⟨x, hx⟩ : ∃ x, r.wants = x := ⟨_, rfl⟩
    rw [hx] at HWA HRX
    clear HRW hd hx
    go_enter Try.func33, Try.ntmps33
    go_wp2_with fail
    rw [HS.out.1]
    refine HWA.out.mono ?_
    rintro e w' ⟨rfl, rfl⟩
    go_wp2_with fail
    refine HFO.out.mono ?_
    rintro e w' ⟨rfl, rfl⟩
    obtain ⟨c0, c1, c2, c3, c4, c5, c6, c7, c8, c9, -⟩ := cells10 HS.out.2.2.1
    go_wp2_with fail
    refine HRF.out.mono ?_
    rintro e w3 ⟨rfl, hb3⟩
    obtain ⟨d0, d1, d2, d3, d4, d5, d6, d7, d8, d9, -⟩ := cells10 ((hb3.block w.heap.size (by have := HS.out.2.2.2; omega)).trans HS.out.2.2.1)
    have HB3 := Lib.hid hb3
    clear c0 c1 c2 c3 c4 c5 c6 c7 c8 c9 hb3
    go_wp2_with fail
    go_region_held3 (fun w' => w'.cell? ⟨w.heap.size, 7, none⟩ = some (.bool false) ∧ w'.cell? ⟨w.heap.size, 9, none⟩ = some (.int .i64 L))
      (first | exact ⟨d7, d9⟩)
      (first
       | (go_at_call 38
          refine (HLO.out _ (below_drewN HB3.out _)).mono ?_
          rintro e w4 ⟨rfl, rfl⟩))
    go_wp2_with fail
    refine (HRX.out _).mono ?_
    rintro e w5 ⟨rfl, hb5⟩
    go_wp2_with fail
    go_ret
    exact ⟨rfl, HS.out.2.1.trans (((below_drewN HB3.out _).trans (hb5.mono (below_drewN HB3.out _).size)).mono HS.out.2.1.size)⟩
end Go.Proofs.Ytenmogokbelahaa
