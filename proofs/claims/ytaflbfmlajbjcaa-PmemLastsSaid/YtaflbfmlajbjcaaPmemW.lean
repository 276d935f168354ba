/- The walks of the reference's memory: Fence, Open. -/
import Derived.Test.YtaflbfmlajbjcaaPmemV
namespace Go.Proofs.Ytaflbfmlajbjcaa
open Go Go.RowKit Go.BigFrame

theorem part_there {W : World} {g o cap : Nat} {l : Mem} (h : OwnR W (some ⟨g, o, none⟩) cap l) (hc : 0 < cap) (i : Nat) (hi : i < l.length) (d n : Nat) (hd : d + n ≤ 25) : W.there g (o + i * 25 + d) n := fun j hj => by
  have := (own_ln h hc i hi).2 (d + j) (by omega)
  rwa [← Nat.add_assoc] at this
set_option maxRecDepth 100000 in
set_option maxHeartbeats 8000000 in
theorem fence7_any (p : Option Addr) (cap : Nat) (m : Mem) (w : World) (hrd : RdS w.heap.size w p cap 25 lc m) (h0 : 0 < m.length) (hn : m.length ≤ 100000) :
    Calls Try.prog 50 #[.slice p m.length cap] w fun e w' => ∃ p' c', e = .returned (.slice p' m.length c') ∧ OwnR w' p' c' m.fence ∧ (∀ b, inP p' c' b → w.heap.size ≤ b) ∧ Below w.heap.size w w' := by
  have HRD := Lib.hid (hrd.keep (w' := w.alloc (.cells #[] 72)) (fun b hb => ((Below.refl w.heap.size w).alloc (Nat.le_refl _) (.cells #[] 72)).block b (hrd.inlt hb)))
  clear hrd
  go_enter Try.func50, Try.ntmps50
  go_wp2_with (
    at_builtin; refine wpList_copyG rfl (.tmp 5) (.tmp 6) _ rfl elem_ln (by decide) lc_len lc_one w.heap.size _ rfl (own_empty w w.heap.size 72 25 (Nat.le_refl _)) p cap m w.heap.size rfl HRD.out (by omega) (by simp) ?_
    intro pc cc wc hown hpc hg
    have hbc : Below w.heap.size w wc := below_grown ((Below.refl _ w).alloc (Nat.le_refl _) _) hg (by simp) (by intro b hb; cases hb; exact Nat.le_refl _)
    obtain ⟨gc, oc, rfl⟩ := own_ptr (OwnG.rds lc_len hown) h0
    have hcc : 0 < cc := by have := (OwnG.rds lc_len hown).1; omega
    have hgc : w.heap.size ≤ gc := hpc gc ⟨_, rfl, rfl, hcc⟩
    have HC := Lib.hid (And.intro hown (And.intro hpc (And.intro hbc (And.intro hcc hgc))))
    clear hown hpc hg hbc hcc hgc)
  go_loopw [4] (fun i wr => ∃ k : Nat, k ≤ m.length ∧ i = .int .i64 k ∧ OwnR wr (some ⟨gc, oc, none⟩) cc (fenceP m k) ∧ Below w.heap.size w wr) (fun i _ => m.length - (intOf i).toNat)
  case atStart => exact ⟨0, Nat.zero_le _, rfl, by rw [fenceP_zero]; exact HC.out.1, HC.out.2.2.1⟩
  case round =>
    obtain ⟨k, hk, rfl, ho, hb⟩ := hrel
    by_cases hlt : k < m.length
    · have hlt' : (k : Int) < (m.length : Int) := by omega
      have hk9 : (k : Int) ≤ 100000 := by omega
      have hkl : k < (fenceP m k).length := by rw [fenceP_len]; exact hlt
      have hcc := HC.out.2.2.2.1
      obtain ⟨hr, ht⟩ := own_ln ho hcc k hkl
      have hgk : (fenceP m k)[k] = m[k] := by rw [fenceP_get, if_neg (by omega)]
      rw [hgk] at hr
      have hsucc := fenceP_succ m k hlt
      obtain ⟨x, hx⟩ : ∃ x, m[k] = x := ⟨_, rfl⟩
      rw [hx] at hr hsucc hgk
      obtain ⟨r1, r2, r3, r4⟩ := range_ln.1 hr
      cases hq : x.q with
      | some v =>
        have hq2 : x.q.isSome = true := by rw [hq]; rfl
        rw [hq2] at r4
        rw [hq] at r3 hsucc
        simp only [Option.getD_some] at r3 hsucc
        have hp1 := part_there ho hcc k hkl 8 8 (by decide)
        have ho1 := own_part ho k hkl { x with lasts := v } 8 (ec v) (by rw [ec_len]; decide) (by rw [hgk]; exact lc_setLasts x v)
        obtain ⟨W1, hW1⟩ : ∃ W1, wr.setCells gc (oc + k * 25 + 8) (ec v) = W1 := ⟨_, rfl⟩
        rw [hW1] at ho1
        have hk1 : k < ((fenceP m k).set k { x with lasts := v }).length := by rw [List.length_set]; exact hkl
        have hp2 := part_there ho1 hcc k hk1 16 8 (by decide)
        have ho2 := own_part ho1 k hk1 { x with lasts := v, q := x.q.map (fun _ => zero8) } 16 (ec zero8) (by rw [ec_len]; decide) (by rw [List.getElem_set_self]; exact lc_zeroQ { x with lasts := v })
        obtain ⟨W2, hW2⟩ : ∃ W2, W1.setCells gc (oc + k * 25 + 16) (ec zero8) = W2 := ⟨_, rfl⟩
        rw [hW2] at ho2
        have hk2 : k < (((fenceP m k).set k { x with lasts := v }).set k { x with lasts := v, q := x.q.map (fun _ => zero8) }).length := by rw [List.length_set]; exact hk1
        have hr2 := (own_ln ho2 hcc k hk2).1
        rw [List.getElem_set_self] at hr2
        have c24 := (range_ln.1 hr2).2.2.2
        have hqm : ((x.q.map (fun _ => zero8)).isSome) = true := by rw [hq]; rfl
        rw [hqm] at c24
        have f24 : W2.frozen? ⟨gc, oc + k * 25 + 24, none⟩ = false := (part_there ho2 hcc k hk2 24 1 (by decide) 0 (by decide)).2
        have ho3 := own_one ho2 k hk2 { x with lasts := v, q := none } 24 (by decide) (.bool false) (by rw [List.getElem_set_self]; exact lc_noQ { x with lasts := v })
        have hfin : OwnR (W2.setCell ⟨gc, oc + k * 25 + 24, none⟩ (.bool false)) (some ⟨gc, oc, none⟩) cc (fenceP m (k + 1)) := by
          rw [hsucc]
          simpa using ho3
        have hb3 : Below w.heap.size w (W2.setCell ⟨gc, oc + k * 25 + 24, none⟩ (.bool false)) := by
          rw [← hW2, ← hW1]
          exact (below_setCells (below_setCells hb HC.out.2.2.2.2) HC.out.2.2.2.2).setCell (p := ⟨gc, oc + k * 25 + 24, none⟩) HC.out.2.2.2.2 _
        have HR := Lib.hid (And.intro r3 (And.intro hp1 (And.intro hp2 (And.intro hfin hb3))))
        have HW := Lib.hid (And.intro hW1 hW2)
        clear ho hb hr ht r1 r2 r3 hp1 ho1 hW1 hk1 hp2 ho2 hW2 hk2 hr2 hqm ho3 hfin hb3 hsucc hgk hq hq2 hx
        go_wp2_with (first
          | (refine list_load_row rowV8 rfl (.tmp 24) rfl rfl (ec_len _) HR.out.1 ?_)
          | (refine list_store_row rowV8 rfl (.tmp 27) (.tmp 25) rfl rfl (ec_len _) rfl (ec_one _) HR.out.2.1 ?_; rw [HW.out.1])
          | (refine list_store_row rowV8 rfl (.tmp 34) (.tmp 32) rfl rfl (ec_len zero8) rfl (ec_one zero8) HR.out.2.2.1 ?_; rw [HW.out.2]))
        go_roundw
        case rel => exact ⟨k + 1, hlt, by go_num, HR.out.2.2.2⟩
        case measure => simp [intOf]; omega
      | none =>
        have hq2 : x.q.isSome = false := by rw [hq]; rfl
        rw [hq2] at r4
        rw [hq] at hsucc
        simp only [Option.getD_none] at hsucc
        have hp2 := part_there ho hcc k hkl 16 8 (by decide)
        have ho2 := own_part ho k hkl { x with q := x.q.map (fun _ => zero8) } 16 (ec zero8) (by rw [ec_len]; decide) (by rw [hgk]; exact lc_zeroQ x)
        obtain ⟨W2, hW2⟩ : ∃ W2, wr.setCells gc (oc + k * 25 + 16) (ec zero8) = W2 := ⟨_, rfl⟩
        rw [hW2] at ho2
        have hk2 : k < ((fenceP m k).set k { x with q := x.q.map (fun _ => zero8) }).length := by rw [List.length_set]; exact hkl
        have hr2 := (own_ln ho2 hcc k hk2).1
        rw [List.getElem_set_self] at hr2
        have c24 := (range_ln.1 hr2).2.2.2
        have hqm : ((x.q.map (fun _ => zero8)).isSome) = false := by rw [hq]; rfl
        rw [hqm] at c24
        have f24 : W2.frozen? ⟨gc, oc + k * 25 + 24, none⟩ = false := (part_there ho2 hcc k hk2 24 1 (by decide) 0 (by decide)).2
        have ho3 := own_one ho2 k hk2 { x with q := none } 24 (by decide) (.bool false) (by rw [List.getElem_set_self]; exact lc_noQ x)
        have hfin : OwnR (W2.setCell ⟨gc, oc + k * 25 + 24, none⟩ (.bool false)) (some ⟨gc, oc, none⟩) cc (fenceP m (k + 1)) := by
          rw [hsucc]
          simpa using ho3
        have hb3 : Below w.heap.size w (W2.setCell ⟨gc, oc + k * 25 + 24, none⟩ (.bool false)) := by
          rw [← hW2]
          exact (below_setCells hb HC.out.2.2.2.2).setCell (p := ⟨gc, oc + k * 25 + 24, none⟩) HC.out.2.2.2.2 _
        have HR := Lib.hid (And.intro hp2 (And.intro hfin hb3))
        have HW := Lib.hid hW2
        clear ho hb hr ht r1 r2 r3 hp2 ho2 hW2 hk2 hr2 hqm ho3 hfin hb3 hsucc hgk hq hq2 hx
        go_wp2_with (first
          | (refine list_store_row rowV8 rfl (.tmp 34) (.tmp 32) rfl rfl (ec_len zero8) rfl (ec_one zero8) HR.out.1 ?_; rw [HW.out]))
        go_roundw
        case rel => exact ⟨k + 1, hlt, by go_num, HR.out.2⟩
        case measure => simp [intOf]; omega
    · obtain rfl : k = m.length := by omega
      have hnl : ¬ (m.length : Int) < (m.length : Int) := by omega
      rw [fenceP_all] at ho
      have HO := Lib.hid (And.intro ho hb)
      clear ho hb
      go_wp2_with fail
      go_ret
      exact ⟨_, _, rfl, HO.out.1, HC.out.2.1, HO.out.2⟩
end Go.Proofs.Ytaflbfmlajbjcaa
