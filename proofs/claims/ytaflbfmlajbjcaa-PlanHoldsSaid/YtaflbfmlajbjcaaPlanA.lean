/- The walks of plans: closed, right, Check, the reference's comparisons. -/
import Derived.Test.YtaflbfmlajbjcaaPlanLaw
import Derived.Test.YtaflbfmlajbjcaaLatchA
import Derived.Deep.RegionWith
namespace Go.Proofs.Ytaflbfmlajbjcaa
open Go Go.RowKit

theorem elem_acts : ElemIs Try.prog 122 79 (.agg #[.int .i64 0, .int .i64 0, .int .u64 0]) 3 24 := ⟨by kernel_rfl, by kernel_rfl, rfl, by decide⟩
theorem elem_act : ElemIs Try.prog 75 79 (.agg #[.int .i64 0, .int .i64 0, .int .u64 0]) 3 24 := ⟨by kernel_rfl, by kernel_rfl, rfl, by decide⟩
theorem elem_put : ElemIs Try.prog 83 85 (.agg #[.int .i64 0, .int .u64 0]) 2 16 := ⟨by kernel_rfl, by kernel_rfl, rfl, by decide⟩
abbrev OwnA (w : World) (p : Option Addr) (cap : Nat) (xs : List Act3) : Prop := OwnG 79 3 ac3 w p cap xs
abbrev OwnP (w : World) (p : Option Addr) (cap : Nat) (xs : List Put2) : Prop := OwnG 85 2 pc2 w p cap xs

set_option maxHeartbeats 1000000 in
theorem closed_any (p : Option Addr) (cap : Nat) (xs : List Act3) (line : Int) (w : World) (hown : OwnA w p cap xs) (hn : xs.length < 1000000) :
    Calls Try.prog 78 #[.slice p xs.length cap, .int .i64 line] w fun e w' => ∃ p' cap', e = .returned (.slice p' (xs.length + 2) cap') ∧ AppG 79 3 ac3 p cap w (xs ++ shutA line) p' cap' w' := by
  have HO := Lib.hid hown
  have hni : ¬ inP p cap w.heap.size := fun h => by have := hown.lt h; omega
  have HNI := Lib.hid hni
  clear hown hni
  go_enter Try.func78, Try.ntmps78
  go_wp2_with (at_builtin; refine wpList_appG rfl (.tmp 5) (.tmp 9) _ rfl elem_acts (by decide) ac3_len ac3_one p cap xs (shutA line) rfl (HO.out.below ((Below.refl _ w).alloc (Nat.le_refl _) _)) w.heap.size 2 2 rfl rfl 79 (0, 0) ?_ ?_ ?_ ?_
               · exact World.alloc_heap_new w _
               · simp [shutA]
               · exact ⟨hn, by simp [shutA]⟩
               intro p' cap' w' happ)
  go_ret
  exact ⟨p', cap', rfl, happ.of (Frn.alloc _ _ _)⟩

set_option maxHeartbeats 1000000 in
theorem num08_any (n : Int) (w : World) : Calls Try.prog 38 #[.int .i64 n] w fun e w' => e = .returned (.int .i64 n) ∧ w' = w := by
  go_enter Try.func38, Try.ntmps38
  go_wp2
  go_ret
  exact ⟨rfl, rfl⟩

def av3 (x : Act3) : Value := .agg #[.int .i64 x.1, .int .i64 x.2.1, vw x.2.2]
def pv2 (x : Put2) : Value := .agg #[.int .i64 x.1, vw x.2]

set_option maxRecDepth 100000 in
set_option maxHeartbeats 4000000 in
theorem right_any (x : Act3) (w : World) : Calls Try.prog 74 #[av3 x] w fun e w' => e = .returned (.bool (rightA x)) ∧ Below w.heap.size w w' := by
  obtain ⟨k, a, v⟩ := x
  unfold av3
  have hv : (v = 0#64) ↔ v.toNat = 0 := ⟨fun h => by rw [h]; rfl, fun h => BitVec.eq_of_toNat_eq (by rw [h]; rfl)⟩
  have hb : ∀ o1 o2 : Obj, Below w.heap.size w ((w.alloc o1).alloc o2) := fun o1 o2 => ((Below.refl _ w).alloc (Nat.le_refl _) _).alloc (by simp) _
  by_cases h1 : k = 1
  · subst h1
    go_enter Try.func74, Try.ntmps74
    go_wp2
    go_region_with (fail)
    all_goals go_wp2
    all_goals go_ret
    all_goals refine ⟨?_, (hb _ _).drew⟩
    all_goals simp_all [rightA]
  by_cases h2 : k = 2
  · subst h2
    go_enter Try.func74, Try.ntmps74
    go_wp2
    all_goals go_ret
    all_goals refine ⟨?_, hb _ _⟩
    all_goals simp_all [rightA]
  by_cases h3 : k = 3
  · subst h3
    go_enter Try.func74, Try.ntmps74
    go_wp2
    all_goals go_ret
    all_goals refine ⟨?_, hb _ _⟩
    all_goals simp_all [rightA]
  go_enter Try.func74, Try.ntmps74
  go_wp2
  go_ret
  exact ⟨by simp [rightA, h1, h2, h3], hb _ _⟩

set_option maxRecDepth 100000 in
set_option maxHeartbeats 2000000 in
/-- Check at one act that may not be. -/
theorem check1_any (p : Option Addr) (cap : Nat) (x : Act3) (w : World) (hrd : RdS w.heap.size w p cap 3 ac3 [x]) (hx : rightA x = false) :
    Calls Try.prog 72 #[.slice p 1 cap] w fun e w' => e = .returned (.int .i64 2) ∧ Below w.heap.size w w' := by
  obtain ⟨b, off, rfl, hb, h0, h1, h2⟩ := hrd.rows3 0 (by simp)
  have hr := right_any x
  rw [hx] at hr
  obtain ⟨x1, x2, x3⟩ := x
  simp only [List.getElem_cons_zero, Nat.zero_mul, Nat.add_zero] at h0 h1 h2
  have hr' := hr ((w.alloc (.cells #[.int .i64 x1, .int .i64 x2, vw x3] 79)))
  have HR := Lib.hid hr'
  unfold av3 at HR
  clear hr hr' hrd
  go_enter Try.func72, Try.ntmps72
  go_wp2_with fail
  refine wp_loop_rounds 2 ?_
  rw [rounds_succ]
  go_wp2_with fail
  refine HR.out.mono ?_
  rintro e w1 ⟨rfl, hb1⟩
  have HB := Lib.hid hb1
  clear hb1
  go_wp2
  go_ret
  exact ⟨rfl, ((Below.refl _ w).alloc (Nat.le_refl _) _).trans (HB.out.mono (by simp))⟩

set_option maxRecDepth 100000 in
set_option maxHeartbeats 2000000 in
theorem sameActs_any (p q : Option Addr) (cap capq : Nat) (xs : List Act3) (w : World) (hrx : RdS w.heap.size w p cap 3 ac3 xs) (hry : RdS w.heap.size w q capq 3 ac3 xs) :
    Calls Try.prog 70 #[.slice p xs.length cap, .slice q xs.length capq] w fun e w' => e = .returned (.bool true) ∧ ∃ n, w' = w.drewN n := by
  have hlx := hrx.len
  have HX := Lib.hid hrx
  have HY := Lib.hid hry
  clear hrx hry
  go_enter Try.func70, Try.ntmps70
  go_wp2
  go_loopw [5] (fun i wr => ∃ k : Nat, k ≤ xs.length ∧ i = .int .i64 k ∧ ∃ n, wr = w.drewN n) (fun i _ => xs.length - (intOf i).toNat)
  case atStart => exact ⟨0, Nat.zero_le _, rfl, 0, rfl⟩
  case round =>
    obtain ⟨k, hk, rfl, n, rfl⟩ := hrel
    by_cases hlt : k < xs.length
    · obtain ⟨b, off, rfl, hb, h0, h1, h2⟩ := HX.out.rows3 k hlt
      obtain ⟨c, og, rfl, hc, g0, g1, g2⟩ := HY.out.rows3 k hlt
      have hlt' : (k : Int) < (xs.length : Int) := by omega
      obtain ⟨x, hx⟩ : ∃ x, xs[k] = x := ⟨_, rfl⟩
      rw [hx] at h0 h1 h2 g0 g1 g2
      obtain ⟨x1, x2, x3⟩ := x
      simp only at h0 h1 h2 g0 g1 g2
      have e0 : (w.drewN n).drew.cell? ⟨b, off + k * 3, none⟩ = some (.int .i64 x1) := h0
      have e1 : (w.drewN n).drew.cell? ⟨b, off + k * 3 + 1, none⟩ = some (.int .i64 x2) := h1
      have e2 : (w.drewN n).drew.cell? ⟨b, off + k * 3 + 2, none⟩ = some (vw x3) := h2
      have e3 : (w.drewN n).drew.cell? ⟨c, og + k * 3, none⟩ = some (.int .i64 x1) := g0
      have e4 : (w.drewN n).drew.cell? ⟨c, og + k * 3 + 1, none⟩ = some (.int .i64 x2) := g1
      have e5 : (w.drewN n).drew.cell? ⟨c, og + k * 3 + 2, none⟩ = some (vw x3) := g2
      clear h0 h1 h2 g0 g1 g2
      go_wp2
      go_region_held3 (fun w' => (w'.cell? ⟨b, off + k * 3, none⟩ = some (.int .i64 x1) ∧ w'.cell? ⟨b, off + k * 3 + 1, none⟩ = some (.int .i64 x2) ∧ w'.cell? ⟨b, off + k * 3 + 2, none⟩ = some (vw x3)) ∧ w'.cell? ⟨c, og + k * 3, none⟩ = some (.int .i64 x1) ∧ w'.cell? ⟨c, og + k * 3 + 1, none⟩ = some (.int .i64 x2) ∧ w'.cell? ⟨c, og + k * 3 + 2, none⟩ = some (vw x3))
        (first | exact ⟨⟨e0, e1, e2⟩, e3, e4, e5⟩) (fail)
      go_wp2
      exact ⟨⟨k + 1, by omega, by go_num, n + 1, by first | rfl | rw [World.drewN_drewN]⟩, by simp [intOf]; omega⟩
    · go_wp2
      go_ret
      exact ⟨rfl, n, rfl⟩

end Go.Proofs.Ytaflbfmlajbjcaa
