/- The walks of the reference's run, Put, Cut. -/
import Derived.Test.YtenmogokbelahaaExtJ
import Derived.Test.YtenmogokbelahaaExtH
namespace Go.Proofs.Ytenmogokbelahaa
open Go Go.RowKit

theorem hit_iff {t : List Int} {F D M : Nat} : hitX t ((F : Int), (D : Int), (M : Int)) = true ↔ ∃ j, j < M ∧ ((D + j : Nat) : Int) ∈ t := by
  unfold hitX
  rw [List.any_eq_true]
  constructor
  · rintro ⟨a, ha, h⟩
    rw [decide_eq_true_eq] at h
    simp only at h
    exact ⟨(a - D).toNat, by omega, by have e : ((D + (a - D).toNat : Nat) : Int) = a := by omega
                                       rw [e]; exact ha⟩
  · rintro ⟨j, hj, h⟩
    exact ⟨_, h, by rw [decide_eq_true_eq]; simp only; omega⟩
set_option maxRecDepth 100000 in
set_option maxHeartbeats 8000000 in
theorem refRun_any (p : Option Addr) (cap : Nat) (rs : List RunE) (a : Int) (w : World) (hrd : RdS w.heap.size w p cap 2 rc rs) (hl : rs.length ≤ 100000) (sm : ∀ x ∈ rs, 0 ≤ x.1 ∧ x.1 + x.2 ≤ 10000 ∧ 0 ≤ x.2) :
    Calls Try.prog 82 #[.slice p rs.length cap, .int .i64 a] w fun e w' => ∃ p' cap', e = .returned (.slice p' (joinR rs a).length cap') ∧ OwnRn w' p' cap' (joinR rs a) ∧ (∀ b, inP p' cap' b → w.heap.size ≤ b) ∧ Below w.heap.size w w' := by
  obtain ⟨n, hn⟩ : ∃ n, rs.length = n := ⟨_, rfl⟩
  have HL := Lib.hid hn
  have HLM := Lib.hid hl
  rw [hn] at hl HLM
  have HRD := Lib.hid (hrd.keep (w' := w.alloc (.cells #[] 131)) (fun b hb => ((Below.refl _ w).alloc (Nat.le_refl _) (.cells #[] 131)).block b (hrd.inlt hb)))
  rw [hn]
  clear hrd
  by_cases hn0 : n = 0
  · subst hn0
    have HR : Hid (joinR rs a = rs ++ [(a, (1 : Int))]) := Lib.hid (by rw [List.length_eq_zero_iff.1 hn]; exact joinR_nil _)
    clear hn hl
    go_enter Try.func82, Try.ntmps82
    go_wp2_with (at_builtin; refine wpList_copyG rfl (.tmp 7) (.tmp 8) _ rfl elem_runs (by decide) rc_len rc_one w.heap.size _ rfl (own_empty w w.heap.size 131 2 (Nat.le_refl _)) p cap rs w.heap.size (by rw [HL.out]; rfl) HRD.out (by rw [HL.out]; have := HLM.out; omega) (by simp) ?_
                 rw [HL.out]
                 intro pc cc wc hown hpc hg)
    have hbc : Below w.heap.size w wc := below_grown ((Below.refl _ w).alloc (Nat.le_refl _) _) hg (by simp) (by intro b hb; cases hb; exact Nat.le_refl _)
    have HC := Lib.hid (And.intro hown (And.intro hpc hbc))
    clear hown hpc hg hbc
    go_quiet (fail)
    have HOW : Hid (OwnRn ((wc.drewN nq).alloc (.cells #[.int .i64 a, .int .i64 1] 131)) pc cc rs) := Lib.hid (OwnG.below HC.out.1 ((below_drewN (Below.refl _ wc) nq).trans ((below_allocX (wc.drewN nq) _).mono (below_drewN (Below.refl wc.heap.size wc) nq).size)))
    go_wp2_with (at_builtin; refine wpList_appG rfl (.tmp 39) (.tmp 42) _ rfl elem_runs (by decide) rc_len rc_one pc cc rs [(a, (1 : Int))] (by rw [HL.out]; rfl) HOW.out _ 1 1 rfl rfl 131 (0, 0) (World.alloc_heap_new _ _) (Nat.succ_pos _) ⟨by rw [HL.out]; have := HLM.out; omega, by simp⟩ ?_
                 rw [HL.out]
                 intro p' cap' w' happ)
    go_ret
    have hfr := AppG.of ((Frn.of_below (below_drewN (Below.refl _ wc) nq)).trans (Frn.alloc _ _ _)) happ
    exact ⟨p', cap', by rw [HR.out, List.length_append, HL.out]; rfl, by rw [HR.out]; exact hfr.1, fun b hb => (hfr.2.2 b hb).elim (HC.out.2.1 b) (fun h => Nat.le_trans HC.out.2.2.size h.1), HC.out.2.2.trans (hfr.2.1.below HC.out.2.2.size HC.out.2.1)⟩
  · obtain ⟨n', hn'⟩ : ∃ n', n' + 1 = n := ⟨n - 1, by omega⟩
    have hlen : n' + 1 = rs.length := by rw [hn]; exact hn'
    obtain ⟨x, hxe⟩ : ∃ x, rs[n']'(by omega) = x := ⟨_, rfl⟩
    have hsx := sm x (hxe ▸ List.getElem_mem _)
    obtain ⟨d, m⟩ := x
    simp only at hsx
    have hw0 : IntKind.i64.wrap ((n : Int) - 1) = (n' : Int) := by rw [IntKind.wrap_i64]; omega
    have hw2 : IntKind.i64.wrap (d + m) = d + m := by rw [IntKind.wrap_i64]; omega
    have hw3 : IntKind.i64.wrap (m + 1) = m + 1 := by rw [IntKind.wrap_i64]; omega
    have hnn : (n' : Int) < (n : Int) := by omega
    have hn9 : (0 : Int) ≤ (n' : Int) := by omega
    have HX := Lib.hid (And.intro (show ∀ h : n' < rs.length, rs[n'] = (d, m) from fun _ => hxe) hlen)
    have hlt9 : n' < rs.length := by omega
    have HLT := Lib.hid hlt9
    clear hn hxe hlen hsx hn0 hn' hl hlt9
    by_cases e2 : d + m = a
    · have b2 : (d + m == a) = true := beq_iff_eq.2 e2
      have HR : Hid (joinR rs a = rs.set n' (d, m + 1)) := Lib.hid (joinR_go HX.out.2 (HX.out.1 _) e2)
      clear e2
      go_enter Try.func82, Try.ntmps82
      go_wp2_with (at_builtin; refine wpList_copyG rfl (.tmp 7) (.tmp 8) _ rfl elem_runs (by decide) rc_len rc_one w.heap.size _ rfl (own_empty w w.heap.size 131 2 (Nat.le_refl _)) p cap rs w.heap.size (by rw [HL.out]; rfl) HRD.out (by rw [HL.out]; have := HLM.out; omega) (by simp) ?_
                   rw [HL.out]
                   intro pc cc wc hown hpc hg
                   have hrow := OwnRn.row hown n' HLT.out
                   rw [HX.out.1 HLT.out] at hrow
                   obtain ⟨g, o, rfl, hin, hgl, c0, c1, hfz⟩ := hrow
                   simp only at c0 c1
                   have hbc : Below w.heap.size w wc := below_grown ((Below.refl _ w).alloc (Nat.le_refl _) _) hg (by simp) (by intro b hb; cases hb; exact Nat.le_refl _)
                   have HC := Lib.hid (And.intro hown (And.intro hpc (And.intro hbc hin)))
                   clear hown hpc hg hbc hin)
      go_quiet (fail)
      go_wp2_with fail
      go_ret
      have h9 := OwnRn.many (OwnG.below HC.out.1 (below_drewN (Below.refl _ wc) nq)) n' HLT.out (m + 1)
      rw [HX.out.1 HLT.out] at h9
      exact ⟨some ⟨g, o, none⟩, cc, by rw [HR.out, List.length_set, HL.out]; rfl, by rw [HR.out]; exact h9, HC.out.2.1, (below_drewN HC.out.2.2.1 nq).setCell (HC.out.2.1 g HC.out.2.2.2) _⟩
    · have b2 : (d + m == a) = false := beq_eq_false_iff_ne.2 e2
      have HR : Hid (joinR rs a = rs ++ [(a, (1 : Int))]) := Lib.hid (joinR_new HX.out.2 (HX.out.1 _) e2)
      clear e2
      go_enter Try.func82, Try.ntmps82
      go_wp2_with (at_builtin; refine wpList_copyG rfl (.tmp 7) (.tmp 8) _ rfl elem_runs (by decide) rc_len rc_one w.heap.size _ rfl (own_empty w w.heap.size 131 2 (Nat.le_refl _)) p cap rs w.heap.size (by rw [HL.out]; rfl) HRD.out (by rw [HL.out]; have := HLM.out; omega) (by simp) ?_
                   rw [HL.out]
                   intro pc cc wc hown hpc hg
                   have hrow := OwnRn.row hown n' HLT.out
                   rw [HX.out.1 HLT.out] at hrow
                   obtain ⟨g, o, rfl, hin, hgl, c0, c1, hfz⟩ := hrow
                   simp only at c0 c1
                   have hbc : Below w.heap.size w wc := below_grown ((Below.refl _ w).alloc (Nat.le_refl _) _) hg (by simp) (by intro b hb; cases hb; exact Nat.le_refl _)
                   have HC := Lib.hid (And.intro hown (And.intro hpc hbc))
                   clear hown hpc hg hbc hin)
      go_quiet (fail)
      have HOW : Hid (OwnRn ((wc.drewN nq).alloc (.cells #[.int .i64 a, .int .i64 1] 131)) (some ⟨g, o, none⟩) cc rs) := Lib.hid (OwnG.below HC.out.1 ((below_drewN (Below.refl _ wc) nq).trans ((below_allocX (wc.drewN nq) _).mono (below_drewN (Below.refl wc.heap.size wc) nq).size)))
      go_wp2_with (at_builtin; refine wpList_appG rfl (.tmp 39) (.tmp 42) _ rfl elem_runs (by decide) rc_len rc_one (some ⟨g, o, none⟩) cc rs [(a, (1 : Int))] (by rw [HL.out]; rfl) HOW.out _ 1 1 rfl rfl 131 (0, 0) (World.alloc_heap_new _ _) (Nat.succ_pos _) ⟨by rw [HL.out]; have := HLM.out; omega, by simp⟩ ?_
                   rw [HL.out]
                   intro p' cap' w' happ)
      go_ret
      have hfr := AppG.of ((Frn.of_below (below_drewN (Below.refl _ wc) nq)).trans (Frn.alloc _ _ _)) happ
      exact ⟨p', cap', by rw [HR.out, List.length_append, HL.out]; rfl, by rw [HR.out]; exact hfr.1, fun b hb => (hfr.2.2 b hb).elim (HC.out.2.1 b) (fun h => Nat.le_trans HC.out.2.2.size h.1), HC.out.2.2.trans (hfr.2.1.below HC.out.2.2.size HC.out.2.1)⟩
end Go.Proofs.Ytenmogokbelahaa
