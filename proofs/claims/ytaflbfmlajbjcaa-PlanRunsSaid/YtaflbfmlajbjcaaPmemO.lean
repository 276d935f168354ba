/- The walks of the memory: slices.Equal, maps.Equal. -/
import Derived.Test.YtaflbfmlajbjcaaPmemN
namespace Go.Proofs.Ytaflbfmlajbjcaa
open Go Go.RowKit Go.BigFrame

set_option maxRecDepth 100000 in
set_option maxHeartbeats 4000000 in
theorem equalL_any (p q : Option Addr) (c d : Nat) (xs ys : List V8) (w : World) (hx : RdS w.heap.size w p c 8 ec xs) (hy : RdS w.heap.size w q d 8 ec ys) (hl : xs.length = ys.length) (hn : xs.length ≤ 100000) :
    Calls Try.prog 66 #[.slice p xs.length c, .slice q ys.length d] w fun e w' => e = .returned (.bool (decide (xs = ys))) ∧ Below w.heap.size w w' := by
  rw [← hl]
  have h0 : ((xs.length : Int) != (xs.length : Int)) = false := bne_self_eq_false ..
  have HX := Lib.hid hx
  have HY := Lib.hid hy
  have HL := Lib.hid hl
  clear hx hy hl
  go_enter Try.func66, Try.ntmps66
  go_wp2_with fail
  go_loopw [13] (fun i wr => ∃ k : Nat, k ≤ xs.length ∧ i = .int .i64 k ∧ xs.take k = ys.take k ∧ Below w.heap.size w wr) (fun i _ => xs.length - (intOf i).toNat)
  case atStart => exact ⟨0, Nat.zero_le _, rfl, rfl, Below.refl _ _⟩
  case round =>
    obtain ⟨k, hk, rfl, hno, hb⟩ := hrel
    by_cases hlt : k < xs.length
    · have hlt' : (k : Int) < (xs.length : Int) := by omega
      have hyl : k < ys.length := by have := HL.out; omega
      obtain ⟨bx, ox, hpx, hbx, hcx⟩ : ∃ b o, p = some ⟨b, o, none⟩ ∧ b < w.heap.size ∧ w.rangeAt b (o + k * 8) (ec xs[k]) := by
        rcases HX.out.2.2 with h | ⟨b, o, h1, h2, h3⟩
        · have := HX.out.1; omega
        · exact ⟨b, o, h1, h2, fun j u hu => by rw [Nat.add_assoc]; exact h3 k hlt j u hu⟩
      obtain ⟨by', oy, hpy, hby, hcy⟩ : ∃ b o, q = some ⟨b, o, none⟩ ∧ b < w.heap.size ∧ w.rangeAt b (o + k * 8) (ec ys[k]) := by
        rcases HY.out.2.2 with h | ⟨b, o, h1, h2, h3⟩
        · have := HY.out.1; omega
        · exact ⟨b, o, h1, h2, fun j u hu => by rw [Nat.add_assoc]; exact h3 k hyl j u hu⟩
      subst hpx
      subst hpy
      have HR := Lib.hid (And.intro (show wr.rangeAt bx (ox + k * 8) (ec xs[k]) from fun j u hu => (hb.cell (p := ⟨bx, ox + k * 8 + j, none⟩) hbx).trans (hcx j u hu)) (show wr.rangeAt by' (oy + k * 8) (ec ys[k]) from fun j u hu => (hb.cell (p := ⟨by', oy + k * 8 + j, none⟩) hby).trans (hcy j u hu)))
      have hTX : xs.take (k + 1) = xs.take k ++ [xs[k]] := List.take_succ_eq_append_getElem hlt
      have hTY : ys.take (k + 1) = ys.take k ++ [ys[k]] := List.take_succ_eq_append_getElem hyl
      have HT := Lib.hid (And.intro hTX (And.intro hTY hno))
      obtain ⟨x, hxk⟩ : ∃ x, xs[k] = x := ⟨_, rfl⟩
      obtain ⟨y, hyk⟩ : ∃ y, ys[k] = y := ⟨_, rfl⟩
      rw [hxk] at HR HT
      rw [hyk] at HR HT
      have HB := Lib.hid hb
      have HXK := Lib.hid (And.intro hxk hyk)
      have hk9 : (k : Int) ≤ 100000 := by omega
      clear hcx hcy hTX hTY hno hb hxk hyk hbx hby
      by_cases hxy : x = y
      · have HNE := Lib.hid (decide_eq_false (fun h : x ≠ y => h hxy))
        go_wp2_with fail
        refine wp_region_quiet_lit (by kernel_rfl) (by kernel_rfl) ?_
        iterate 3 (go_big_quiet_step (fail))
        refine wpQuiet_want (by rfl) (fun K hK => ?_)
        refine quiet_load_line (.tmp 18) rfl rfl HR.out.1 ?_
        refine hK _ ?_
        clear hK K
        simp only [Act.put, List.setIfInBounds_toArray, List.set_cons_zero, List.set_cons_succ]
        iterate 3 (go_big_quiet_step (fail))
        refine wpQuiet_want (by rfl) (fun K hK => ?_)
        refine quiet_load_line (.tmp 22) rfl rfl HR.out.2 ?_
        refine hK _ ?_
        clear hK K
        simp only [Act.put, List.setIfInBounds_toArray, List.set_cons_zero, List.set_cons_succ]
        refine wpQuiet_want (by rfl) (fun K hK => ?_)
        refine quiet_neq_line (.tmp 19) (.tmp 23) rfl rfl rfl HNE.out ?_
        refine hK _ ?_
        clear hK K
        simp only [Act.put, List.setIfInBounds_toArray, List.set_cons_zero, List.set_cons_succ]
        refine wpQuiet_nil ?_
        rintro _ ⟨nq, rfl⟩
        go_wp2_with fail
        go_roundw
        case rel => exact ⟨k + 1, hlt, by go_num, by rw [HT.out.1, HT.out.2.1, HT.out.2.2, hxy], below_drewN HB.out _⟩
        case measure => simp [intOf]; omega
      · have HNE := Lib.hid (decide_eq_true (show x ≠ y from hxy))
        have hne : xs ≠ ys := fun e => hxy (by obtain ⟨a, b⟩ := HXK.out; rw [← a, ← b]; simp only [e])
        have HXY := Lib.hid (decide_eq_false hne)
        clear hne
        go_wp2_with fail
        refine wp_region_quiet_lit (by kernel_rfl) (by kernel_rfl) ?_
        iterate 3 (go_big_quiet_step (fail))
        refine wpQuiet_want (by rfl) (fun K hK => ?_)
        refine quiet_load_line (.tmp 18) rfl rfl HR.out.1 ?_
        refine hK _ ?_
        clear hK K
        simp only [Act.put, List.setIfInBounds_toArray, List.set_cons_zero, List.set_cons_succ]
        iterate 3 (go_big_quiet_step (fail))
        refine wpQuiet_want (by rfl) (fun K hK => ?_)
        refine quiet_load_line (.tmp 22) rfl rfl HR.out.2 ?_
        refine hK _ ?_
        clear hK K
        simp only [Act.put, List.setIfInBounds_toArray, List.set_cons_zero, List.set_cons_succ]
        refine wpQuiet_want (by rfl) (fun K hK => ?_)
        refine quiet_neq_line (.tmp 19) (.tmp 23) rfl rfl rfl HNE.out ?_
        refine hK _ ?_
        clear hK K
        simp only [Act.put, List.setIfInBounds_toArray, List.set_cons_zero, List.set_cons_succ]
        refine wpQuiet_nil ?_
        rintro _ ⟨nq, rfl⟩
        go_wp2_with fail
        go_ret
        rw [HXY.out]
        exact ⟨rfl, below_drewN HB.out _⟩
    · obtain rfl : k = xs.length := by omega
      have hnl : ¬ (xs.length : Int) < (xs.length : Int) := by omega
      have HXY := Lib.hid (decide_eq_true (show xs = ys by rw [List.take_length, List.take_of_length_le (by rw [HL.out]; exact Nat.le_refl _)] at hno; exact hno))
      have HB := Lib.hid hb
      clear hno hb
      go_wp2_with fail
      go_ret
      rw [HXY.out]
      exact ⟨rfl, HB.out⟩
end Go.Proofs.Ytaflbfmlajbjcaa
