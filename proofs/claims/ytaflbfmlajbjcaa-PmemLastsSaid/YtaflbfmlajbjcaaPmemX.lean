/- The walks of the reference's memory: Open. -/
import Derived.Test.YtaflbfmlajbjcaaPmemW
namespace Go.Proofs.Ytaflbfmlajbjcaa
open Go Go.RowKit Go.BigFrame

set_option maxRecDepth 100000 in
set_option maxHeartbeats 8000000 in
theorem open7_any (p : Option Addr) (cap : Nat) (m : Mem) (w : World) (hrd : RdS w.heap.size w p cap 25 lc m) (hn : m.length ≤ 100000) :
    Calls Try.prog 17 #[.slice p m.length cap] w fun e w' => ∃ p' c', e = .returned (.slice p' m.opens.length c') ∧ OwnG 3 1 ei w' p' c' m.opens ∧ (∀ b, inP p' c' b → w.heap.size ≤ b) ∧ Below w.heap.size w w' := by
  have HRD := Lib.hid hrd
  clear hrd
  go_enter Try.func17, Try.ntmps17
  go_wp2_with fail
  go_loopw [3, 4] (fun x3 i wr => ∃ (k : Nat) (p' : Option Addr) (c' : Nat), k ≤ m.length ∧ i = .int .i64 k ∧ x3 = .slice p' (opensT m k).length c' ∧ OwnG 3 1 ei wr p' c' (opensT m k) ∧ (∀ b, inP p' c' b → w.heap.size ≤ b) ∧ Below w.heap.size w wr) (fun _ i _ => m.length - (intOf i).toNat)
  case atStart => exact ⟨0, none, 0, Nat.zero_le _, rfl, rfl, OwnG.nil _ _ _ _ _, (by rintro b ⟨a, ha, _⟩; cases ha), Below.refl _ _⟩
  case round =>
    obtain ⟨k, p', c', hk, rfl, rfl, ho, hpb, hb⟩ := hrel
    by_cases hlt : k < m.length
    · have hlt' : (k : Int) < (m.length : Int) := by omega
      have hk9 : (k : Int) ≤ 100000 := by omega
      obtain ⟨g, o, rfl⟩ := own_ptr HRD.out (by omega)
      obtain ⟨hr0, hg⟩ := rds_ln HRD.out k hlt
      have hr : wr.rangeAt g (o + k * 25) (lc m[k]) := fun j u hu => (hb.cell (p := ⟨g, o + k * 25 + j, none⟩) hg).trans (hr0 j u hu)
      have hop := opensT_succ m k
      rw [isOpen_get m k hlt] at hop
      have hopn : m[k].open = (decide (m[k].now ≠ m[k].lasts) || (match m[k].q with | some v => decide (v ≠ m[k].lasts) | none => false)) := rfl
      rw [hopn] at hop
      have HLT := Lib.hid (show (opensT m k).length < 1000000 by have := opens_lt m k; omega)
      obtain ⟨x, hx⟩ : ∃ x, m[k] = x := ⟨_, rfl⟩
      rw [hx] at hr hop
      obtain ⟨r1, r2, r3, r4⟩ := range_ln.1 hr
      obtain ⟨a, ha⟩ : ∃ a, x.now = a := ⟨_, rfl⟩
      obtain ⟨l, hl⟩ : ∃ a, x.lasts = a := ⟨_, rfl⟩
      obtain ⟨q, hq⟩ : ∃ a, x.q = a := ⟨_, rfl⟩
      rw [ha] at r1 hop
      rw [hl] at r2 hop
      rw [hq] at r3 r4 hop
      have HO := Lib.hid (And.intro ho (And.intro hpb hb))
      clear hr0 hg hr hopn hx ha hl hq ho hpb hb
      by_cases hal : a = l
      · have HNE := Lib.hid (decide_eq_false (fun h : a ≠ l => h hal))
        rw [decide_eq_false (fun h : a ≠ l => h hal), Bool.false_or] at hop
        cases q with
        | none =>
          have HOP := Lib.hid (show opensT m (k + 1) = opensT m k from by rw [hop]; exact if_neg Bool.false_ne_true)
          have HR := Lib.hid (And.intro r1 (And.intro r2 True.intro))
          have r4 : wr.cell? ⟨g, o + k * 25 + 24, none⟩ = some (.bool false) := r4
          clear hop r1 r2 r3
          go_wp2_with fail
          refine wp_region_quiet_lit (by kernel_rfl) (by kernel_rfl) ?_
          iterate 4 (go_big_quiet_step (fail))
          refine wpQuiet_want (by rfl) (fun K hK => ?_)
          refine quiet_load_row rowV8 (.tmp 14) rfl (ec_len _) rfl HR.out.1 ?_
          refine hK _ ?_
          clear hK K
          simp only [Act.put, List.setIfInBounds_toArray, List.set_cons_zero, List.set_cons_succ]
          iterate 4 (go_big_quiet_step (fail))
          refine wpQuiet_want (by rfl) (fun K hK => ?_)
          refine quiet_load_row rowV8 (.tmp 19) rfl (ec_len _) rfl HR.out.2.1 ?_
          refine hK _ ?_
          clear hK K
          simp only [Act.put, List.setIfInBounds_toArray, List.set_cons_zero, List.set_cons_succ]
          refine wpQuiet_want (by rfl) (fun K hK => ?_)
          refine quiet_neq_v8 (.tmp 15) (.tmp 20) rfl rfl rfl HNE.out ?_
          refine hK _ ?_
          clear hK K
          simp only [Act.put, List.setIfInBounds_toArray, List.set_cons_zero, List.set_cons_succ]
          repeat (go_big_quiet_step (fail))
          refine wpQuiet_nil ?_
          rintro _ ⟨nq, rfl⟩
          go_wp2_with fail
          go_roundw
          case rel => exact ⟨k + 1, p', c', hlt, by go_num, by rw [HOP.out], by rw [HOP.out]; exact OwnG.keep HO.out.1 fun _ _ => rfl, HO.out.2.1, below_drewN HO.out.2.2 _⟩
          case measure => simp [intOf]; omega
        | some v =>
          have r4 : wr.cell? ⟨g, o + k * 25 + 24, none⟩ = some (.bool true) := r4
          have HR := Lib.hid (And.intro r1 (And.intro r2 r3))
          by_cases hvl : v = l
          · have HVE := Lib.hid (decide_eq_false (fun h : v ≠ l => h hvl))
            have HOP := Lib.hid (show opensT m (k + 1) = opensT m k from by rw [hop]; exact if_neg (by simp [hvl]))
            clear hop r1 r2 r3
            go_wp2_with fail
            refine wp_region_quiet_lit (by kernel_rfl) (by kernel_rfl) ?_
            iterate 4 (go_big_quiet_step (fail))
            refine wpQuiet_want (by rfl) (fun K hK => ?_)
            refine quiet_load_row rowV8 (.tmp 14) rfl (ec_len _) rfl HR.out.1 ?_
            refine hK _ ?_
            clear hK K
            simp only [Act.put, List.setIfInBounds_toArray, List.set_cons_zero, List.set_cons_succ]
            iterate 4 (go_big_quiet_step (fail))
            refine wpQuiet_want (by rfl) (fun K hK => ?_)
            refine quiet_load_row rowV8 (.tmp 19) rfl (ec_len _) rfl HR.out.2.1 ?_
            refine hK _ ?_
            clear hK K
            simp only [Act.put, List.setIfInBounds_toArray, List.set_cons_zero, List.set_cons_succ]
            refine wpQuiet_want (by rfl) (fun K hK => ?_)
            refine quiet_neq_v8 (.tmp 15) (.tmp 20) rfl rfl rfl HNE.out ?_
            refine hK _ ?_
            clear hK K
            simp only [Act.put, List.setIfInBounds_toArray, List.set_cons_zero, List.set_cons_succ]
            iterate 11 (go_big_quiet_step (fail))
            refine wpQuiet_want (by rfl) (fun K hK => ?_)
            refine quiet_load_row rowV8 (.tmp 32) rfl (ec_len _) rfl HR.out.2.2 ?_
            refine hK _ ?_
            clear hK K
            simp only [Act.put, List.setIfInBounds_toArray, List.set_cons_zero, List.set_cons_succ]
            iterate 4 (go_big_quiet_step (fail))
            refine wpQuiet_want (by rfl) (fun K hK => ?_)
            refine quiet_load_row rowV8 (.tmp 37) rfl (ec_len _) rfl HR.out.2.1 ?_
            refine hK _ ?_
            clear hK K
            simp only [Act.put, List.setIfInBounds_toArray, List.set_cons_zero, List.set_cons_succ]
            refine wpQuiet_want (by rfl) (fun K hK => ?_)
            refine quiet_neq_v8 (.tmp 33) (.tmp 38) rfl rfl rfl HVE.out ?_
            refine hK _ ?_
            clear hK K
            simp only [Act.put, List.setIfInBounds_toArray, List.set_cons_zero, List.set_cons_succ]
            repeat (go_big_quiet_step (fail))
            refine wpQuiet_nil ?_
            rintro _ ⟨nq, rfl⟩
            go_wp2_with fail
            go_roundw
            case rel => exact ⟨k + 1, p', c', hlt, by go_num, by rw [HOP.out], by rw [HOP.out]; exact OwnG.keep HO.out.1 fun _ _ => rfl, HO.out.2.1, below_drewN HO.out.2.2 _⟩
            case measure => simp [intOf]; omega
          · have HVE := Lib.hid (decide_eq_true (show v ≠ l from hvl))
            have HOP := Lib.hid (show opensT m (k + 1) = opensT m k ++ [k] from by rw [hop]; exact if_pos (by simp [hvl]))
            clear hop r1 r2 r3
            go_wp2_with fail
            refine wp_region_quiet_lit (by kernel_rfl) (by kernel_rfl) ?_
            iterate 4 (go_big_quiet_step (fail))
            refine wpQuiet_want (by rfl) (fun K hK => ?_)
            refine quiet_load_row rowV8 (.tmp 14) rfl (ec_len _) rfl HR.out.1 ?_
            refine hK _ ?_
            clear hK K
            simp only [Act.put, List.setIfInBounds_toArray, List.set_cons_zero, List.set_cons_succ]
            iterate 4 (go_big_quiet_step (fail))
            refine wpQuiet_want (by rfl) (fun K hK => ?_)
            refine quiet_load_row rowV8 (.tmp 19) rfl (ec_len _) rfl HR.out.2.1 ?_
            refine hK _ ?_
            clear hK K
            simp only [Act.put, List.setIfInBounds_toArray, List.set_cons_zero, List.set_cons_succ]
            refine wpQuiet_want (by rfl) (fun K hK => ?_)
            refine quiet_neq_v8 (.tmp 15) (.tmp 20) rfl rfl rfl HNE.out ?_
            refine hK _ ?_
            clear hK K
            simp only [Act.put, List.setIfInBounds_toArray, List.set_cons_zero, List.set_cons_succ]
            iterate 11 (go_big_quiet_step (fail))
            refine wpQuiet_want (by rfl) (fun K hK => ?_)
            refine quiet_load_row rowV8 (.tmp 32) rfl (ec_len _) rfl HR.out.2.2 ?_
            refine hK _ ?_
            clear hK K
            simp only [Act.put, List.setIfInBounds_toArray, List.set_cons_zero, List.set_cons_succ]
            iterate 4 (go_big_quiet_step (fail))
            refine wpQuiet_want (by rfl) (fun K hK => ?_)
            refine quiet_load_row rowV8 (.tmp 37) rfl (ec_len _) rfl HR.out.2.1 ?_
            refine hK _ ?_
            clear hK K
            simp only [Act.put, List.setIfInBounds_toArray, List.set_cons_zero, List.set_cons_succ]
            refine wpQuiet_want (by rfl) (fun K hK => ?_)
            refine quiet_neq_v8 (.tmp 33) (.tmp 38) rfl rfl rfl HVE.out ?_
            refine hK _ ?_
            clear hK K
            simp only [Act.put, List.setIfInBounds_toArray, List.set_cons_zero, List.set_cons_succ]
            repeat (go_big_quiet_step (fail))
            refine wpQuiet_nil ?_
            rintro _ ⟨nq, rfl⟩
            have HOA : Hid (OwnG 3 1 ei ((wr.drewN nq).alloc (.cells #[.int .i64 (k : Int)] 3)) p' c' (opensT m k)) := Lib.hid (OwnG.below (w := wr.drewN nq) (OwnG.keep HO.out.1 fun _ _ => rfl) ((Below.refl _ _).alloc (Nat.le_refl _) _))
            go_wp2_with (
              at_builtin
              refine wpList_appG rfl (.tmp 42) (.tmp 44) _ rfl elem_ints (by decide) ei_len ei_one p' c' (opensT m k) [k] rfl HOA.out _ 1 1 rfl rfl 3 (0, 0) (World.alloc_heap_new (wr.drewN nq) _) (Nat.succ_pos _) ⟨by have := HLT.out; omega, by simp⟩ ?_
              intro p2 c2 w3 happ
              have HA := Lib.hid happ
              clear happ)
            go_roundw
            case rel =>
              obtain ⟨a1, a2, a3⟩ := HA.out
              have hf4 : Frn (inP p' c') wr w3 := ((Frn.refl (inP p' c') wr).drewN nq).trans ((Frn.alloc _ (wr.drewN nq) _).trans a2)
              refine ⟨k + 1, p2, c2, hlt, by go_num, by rw [HOP.out, List.length_append, List.length_singleton], by rw [HOP.out]; exact a1, fun b hb => ?_, ?_⟩
              · rcases a3 b hb with h | h
                · exact HO.out.2.1 b h
                · have h1 := h.1; have := HO.out.2.2.size; simp at h1; omega
              · exact HO.out.2.2.trans (hf4.below HO.out.2.2.size HO.out.2.1)
            case measure => simp [intOf]; omega
      · have HNE := Lib.hid (decide_eq_true (show a ≠ l from hal))
        rw [decide_eq_true hal, Bool.true_or] at hop
        have HOP := Lib.hid (show opensT m (k + 1) = opensT m k ++ [k] from by rw [hop]; exact if_pos rfl)
        have HR := Lib.hid (And.intro r1 (And.intro r2 True.intro))
        clear hop r1 r2 r3 r4
        go_wp2_with fail
        refine wp_region_quiet_lit (by kernel_rfl) (by kernel_rfl) ?_
        iterate 4 (go_big_quiet_step (fail))
        refine wpQuiet_want (by rfl) (fun K hK => ?_)
        refine quiet_load_row rowV8 (.tmp 14) rfl (ec_len _) rfl HR.out.1 ?_
        refine hK _ ?_
        clear hK K
        simp only [Act.put, List.setIfInBounds_toArray, List.set_cons_zero, List.set_cons_succ]
        iterate 4 (go_big_quiet_step (fail))
        refine wpQuiet_want (by rfl) (fun K hK => ?_)
        refine quiet_load_row rowV8 (.tmp 19) rfl (ec_len _) rfl HR.out.2.1 ?_
        refine hK _ ?_
        clear hK K
        simp only [Act.put, List.setIfInBounds_toArray, List.set_cons_zero, List.set_cons_succ]
        refine wpQuiet_want (by rfl) (fun K hK => ?_)
        refine quiet_neq_v8 (.tmp 15) (.tmp 20) rfl rfl rfl HNE.out ?_
        refine hK _ ?_
        clear hK K
        simp only [Act.put, List.setIfInBounds_toArray, List.set_cons_zero, List.set_cons_succ]
        repeat (go_big_quiet_step (fail))
        refine wpQuiet_nil ?_
        rintro _ ⟨nq, rfl⟩
        have HOA : Hid (OwnG 3 1 ei ((wr.drewN nq).alloc (.cells #[.int .i64 (k : Int)] 3)) p' c' (opensT m k)) := Lib.hid (OwnG.below (w := wr.drewN nq) (OwnG.keep HO.out.1 fun _ _ => rfl) ((Below.refl _ _).alloc (Nat.le_refl _) _))
        go_wp2_with (
          at_builtin
          refine wpList_appG rfl (.tmp 42) (.tmp 44) _ rfl elem_ints (by decide) ei_len ei_one p' c' (opensT m k) [k] rfl HOA.out _ 1 1 rfl rfl 3 (0, 0) (World.alloc_heap_new (wr.drewN nq) _) (Nat.succ_pos _) ⟨by have := HLT.out; omega, by simp⟩ ?_
          intro p2 c2 w3 happ
          have HA := Lib.hid happ
          clear happ)
        go_roundw
        case rel =>
          obtain ⟨a1, a2, a3⟩ := HA.out
          have hf4 : Frn (inP p' c') wr w3 := ((Frn.refl (inP p' c') wr).drewN nq).trans ((Frn.alloc _ (wr.drewN nq) _).trans a2)
          refine ⟨k + 1, p2, c2, hlt, by go_num, by rw [HOP.out, List.length_append, List.length_singleton], by rw [HOP.out]; exact a1, fun b hb => ?_, ?_⟩
          · rcases a3 b hb with h | h
            · exact HO.out.2.1 b h
            · have h1 := h.1; have := HO.out.2.2.size; simp at h1; omega
          · exact HO.out.2.2.trans (hf4.below HO.out.2.2.size HO.out.2.1)
        case measure => simp [intOf]; omega
    · obtain rfl : k = m.length := by omega
      have hnl : ¬ (m.length : Int) < (m.length : Int) := by omega
      have HO := Lib.hid (And.intro ho (And.intro hpb hb))
      clear ho hpb hb
      go_wp2_with fail
      go_ret
      exact ⟨p', c', rfl, HO.out⟩
end Go.Proofs.Ytaflbfmlajbjcaa
