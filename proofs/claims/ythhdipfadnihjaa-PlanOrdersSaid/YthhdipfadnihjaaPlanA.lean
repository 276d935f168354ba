/- The walks of plans: closed, right, Check, the reference's comparisons. -/
import Derived.Test.YthhdipfadnihjaaPlanLaw
import Derived.Test.YthhdipfadnihjaaLatchA
import Derived.Deep.RegionWith
namespace Go.Proofs.Ythhdipfadnihjaa
open Go Go.RowKit

theorem elem_acts : ElemIs Try.prog 98 38 (.agg #[.int .i64 0, .int .i64 0, .int .u64 0]) 3 24 := ⟨by kernel_rfl, by kernel_rfl, rfl, by decide⟩
theorem elem_act : ElemIs Try.prog 24 38 (.agg #[.int .i64 0, .int .i64 0, .int .u64 0]) 3 24 := ⟨by kernel_rfl, by kernel_rfl, rfl, by decide⟩
theorem elem_put : ElemIs Try.prog 22 89 (.agg #[.int .i64 0, .int .u64 0]) 2 16 := ⟨by kernel_rfl, by kernel_rfl, rfl, by decide⟩
abbrev OwnA (w : World) (p : Option Addr) (cap : Nat) (xs : List Act3) : Prop := OwnG 38 3 ac3 w p cap xs
abbrev OwnP (w : World) (p : Option Addr) (cap : Nat) (xs : List Put2) : Prop := OwnG 89 2 pc2 w p cap xs

set_option maxHeartbeats 1000000 in
theorem closed_any (p : Option Addr) (cap : Nat) (xs : List Act3) (line : Int) (w : World) (hown : OwnA w p cap xs) (hn : xs.length < 1000000) :
    Calls Try.prog 51 #[.slice p xs.length cap, .int .i64 line] w fun e w' => ∃ p' cap', e = .returned (.slice p' (xs.length + 2) cap') ∧ AppG 38 3 ac3 p cap w (xs ++ shutA line) p' cap' w' := by
  have HO := Lib.hid hown
  have hni : ¬ inP p cap w.heap.size := fun h => by have := hown.lt h; omega
  have HNI := Lib.hid hni
  clear hown hni
  go_enter Try.func51, Try.ntmps51
  go_wp2_with (at_builtin; refine wpList_appG rfl (.tmp 5) (.tmp 9) _ rfl elem_acts (by decide) ac3_len ac3_one p cap xs (shutA line) rfl (HO.out.below ((Below.refl _ w).alloc (Nat.le_refl _) _)) w.heap.size 2 2 rfl rfl 38 (0, 0) ?_ ?_ ?_ ?_
               · exact World.alloc_heap_new w _
               · simp [shutA]
               · exact ⟨hn, by simp [shutA]⟩
               intro p' cap' w' happ)
  go_ret
  exact ⟨p', cap', rfl, happ.of (Frn.alloc _ _ _)⟩

set_option maxHeartbeats 1000000 in
theorem num08_any (n : Int) (w : World) : Calls Try.prog 15 #[.int .i64 n] w fun e w' => e = .returned (.int .i64 n) ∧ w' = w := by
  go_enter Try.func15, Try.ntmps15
  go_wp2
  go_ret
  exact ⟨rfl, rfl⟩

def av3 (x : Act3) : Value := .agg #[.int .i64 x.1, .int .i64 x.2.1, vw x.2.2]
def pv2 (x : Put2) : Value := .agg #[.int .i64 x.1, vw x.2]

set_option maxRecDepth 100000 in
set_option maxHeartbeats 4000000 in
theorem right_any (x : Act3) (w : World) : Calls Try.prog 53 #[av3 x] w fun e w' => e = .returned (.bool (rightA x)) ∧ Below w.heap.size w w' := by
  obtain ⟨k, a, v⟩ := x
  unfold av3
  have hv : (v = 0#64) ↔ v.toNat = 0 := ⟨fun h => by rw [h]; rfl, fun h => BitVec.eq_of_toNat_eq (by rw [h]; rfl)⟩
  have hb : ∀ o1 o2 : Obj, Below w.heap.size w ((w.alloc o1).alloc o2) := fun o1 o2 => ((Below.refl _ w).alloc (Nat.le_refl _) _).alloc (by simp) _
  by_cases h1 : k = 1
  · subst h1
    go_enter Try.func53, Try.ntmps53
    go_wp2
    go_region_with (fail)
    all_goals go_wp2
    all_goals go_ret
    all_goals refine ⟨?_, (hb _ _).drew⟩
    all_goals simp_all [rightA]
  by_cases h2 : k = 2
  · subst h2
    go_enter Try.func53, Try.ntmps53
    go_wp2
    all_goals go_ret
    all_goals refine ⟨?_, hb _ _⟩
    all_goals simp_all [rightA]
  by_cases h3 : k = 3
  · subst h3
    go_enter Try.func53, Try.ntmps53
    go_wp2
    all_goals go_ret
    all_goals refine ⟨?_, hb _ _⟩
    all_goals simp_all [rightA]
  go_enter Try.func53, Try.ntmps53
  go_wp2
  go_ret
  exact ⟨by simp [rightA, h1, h2, h3], hb _ _⟩

set_option maxRecDepth 100000 in
set_option maxHeartbeats 2000000 in
/-- Check at one act that may not be. -/
theorem check1_any (p : Option Addr) (cap : Nat) (x : Act3) (w : World) (hrd : RdS w.heap.size w p cap 3 ac3 [x]) (hx : rightA x = false) :
    Calls Try.prog 49 #[.slice p 1 cap] w fun e w' => e = .returned (.int .i64 2) ∧ Below w.heap.size w w' := by
  obtain ⟨b, off, rfl, hb, h0, h1, h2⟩ := hrd.rows3 0 (by simp)
  have hr := right_any x
  rw [hx] at hr
  obtain ⟨x1, x2, x3⟩ := x
  simp only [List.getElem_cons_zero, Nat.zero_mul, Nat.add_zero] at h0 h1 h2
  have hr' := hr ((w.alloc (.cells #[.int .i64 x1, .int .i64 x2, vw x3] 38)))
  have HR := Lib.hid hr'
  unfold av3 at HR
  clear hr hr' hrd
  go_enter Try.func49, Try.ntmps49
  go_wp2_with fail
  refine wp_loop_rounds 2 ?_
  rw [rounds_succ]
  go_wp2_with fail
  refine HR.out.mono ?_
  rintro e w1 ⟨rfl, hb1⟩
  have HB := Lib.hid hb1
  clear hb1
  go_wp2
  go_ret
  exact ⟨rfl, ((Below.refl _ w).alloc (Nat.le_refl _) _).trans (HB.out.mono (by simp))⟩

set_option maxRecDepth 100000 in
set_option maxHeartbeats 2000000 in
theorem sameActs_any (p q : Option Addr) (cap capq : Nat) (xs : List Act3) (w : World) (hrx : RdS w.heap.size w p cap 3 ac3 xs) (hry : RdS w.heap.size w q capq 3 ac3 xs) :
    Calls Try.prog 14 #[.slice p xs.length cap, .slice q xs.length capq] w fun e w' => e = .returned (.bool true) ∧ ∃ n, w' = w.drewN n := by
  have hlx := hrx.len
  have HX := Lib.hid hrx
  have HY := Lib.hid hry
  clear hrx hry
  go_enter Try.func14, Try.ntmps14
  go_wp2
  go_loopw [5] (fun i wr => ∃ k : Nat, k ≤ xs.length ∧ i = .int .i64 k ∧ ∃ n, wr = w.drewN n) (fun i _ => xs.length - (intOf i).toNat)
  case atStart => exact ⟨0, Nat.zero_le _, rfl, 0, rfl⟩
  case round =>
    obtain ⟨k, hk, rfl, n, rfl⟩ := hrel
    by_cases hlt : k < xs.length
    · obtain ⟨b, off, rfl, hb, h0, h1, h2⟩ := HX.out.rows3 k hlt
      obtain ⟨c, og, rfl, hc, g0, g1, g2⟩ := HY.out.rows3 k hlt
      have hlt' : (k : Int) < (xs.length : Int) := by omega
      obtain ⟨x, hx⟩ : ∃ x, xs[k] = x := ⟨_, rfl⟩
      rw [hx] at h0 h1 h2 g0 g1 g2
      obtain ⟨x1, x2, x3⟩ := x
      simp only at h0 h1 h2 g0 g1 g2
      have e0 : (w.drewN n).drew.cell? ⟨b, off + k * 3, none⟩ = some (.int .i64 x1) := h0
      have e1 : (w.drewN n).drew.cell? ⟨b, off + k * 3 + 1, none⟩ = some (.int .i64 x2) := h1
      have e2 : (w.drewN n).drew.cell? ⟨b, off + k * 3 + 2, none⟩ = some (vw x3) := h2
      have e3 : (w.drewN n).drew.cell? ⟨c, og + k * 3, none⟩ = some (.int .i64 x1) := g0
      have e4 : (w.drewN n).drew.cell? ⟨c, og + k * 3 + 1, none⟩ = some (.int .i64 x2) := g1
      have e5 : (w.drewN n).drew.cell? ⟨c, og + k * 3 + 2, none⟩ = some (vw x3) := g2
      clear h0 h1 h2 g0 g1 g2
      go_wp2
      go_region_held3 (fun w' => (w'.cell? ⟨b, off + k * 3, none⟩ = some (.int .i64 x1) ∧ w'.cell? ⟨b, off + k * 3 + 1, none⟩ = some (.int .i64 x2) ∧ w'.cell? ⟨b, off + k * 3 + 2, none⟩ = some (vw x3)) ∧ w'.cell? ⟨c, og + k * 3, none⟩ = some (.int .i64 x1) ∧ w'.cell? ⟨c, og + k * 3 + 1, none⟩ = some (.int .i64 x2) ∧ w'.cell? ⟨c, og + k * 3 + 2, none⟩ = some (vw x3))
        (first | exact ⟨⟨e0, e1, e2⟩, e3, e4, e5⟩) (fail)
      go_wp2
      exact ⟨⟨k + 1, by omega, by go_num, n + 1, by first | rfl | rw [World.drewN_drewN]⟩, by simp [intOf]; omega⟩
    · go_wp2
      go_ret
      exact ⟨rfl, n, rfl⟩

set_option maxRecDepth 100000 in
set_option maxHeartbeats 2000000 in
theorem samePuts_any (p q : Option Addr) (cap capq : Nat) (xs : List Put2) (w : World) (hrx : RdS w.heap.size w p cap 2 pc2 xs) (hry : RdS w.heap.size w q capq 2 pc2 xs) :
    Calls Try.prog 17 #[.slice p xs.length cap, .slice q xs.length capq] w fun e w' => e = .returned (.bool true) ∧ ∃ n, w' = w.drewN n := by
  have hlx := hrx.len
  have HX := Lib.hid hrx
  have HY := Lib.hid hry
  clear hrx hry
  go_enter Try.func17, Try.ntmps17
  go_wp2
  go_loopw [5] (fun i wr => ∃ k : Nat, k ≤ xs.length ∧ i = .int .i64 k ∧ ∃ n, wr = w.drewN n) (fun i _ => xs.length - (intOf i).toNat)
  case atStart => exact ⟨0, Nat.zero_le _, rfl, 0, rfl⟩
  case round =>
    obtain ⟨k, hk, rfl, n, rfl⟩ := hrel
    by_cases hlt : k < xs.length
    · obtain ⟨b, off, rfl, hb, h0, h1⟩ := HX.out.rows2 k hlt
      obtain ⟨c, og, rfl, hc, g0, g1⟩ := HY.out.rows2 k hlt
      have hlt' : (k : Int) < (xs.length : Int) := by omega
      obtain ⟨x, hx⟩ : ∃ x, xs[k] = x := ⟨_, rfl⟩
      rw [hx] at h0 h1 g0 g1
      obtain ⟨x1, x2⟩ := x
      simp only at h0 h1 g0 g1
      have e0 : (w.drewN n).drew.cell? ⟨b, off + k * 2, none⟩ = some (.int .i64 x1) := h0
      have e1 : (w.drewN n).drew.cell? ⟨b, off + k * 2 + 1, none⟩ = some (vw x2) := h1
      have e3 : (w.drewN n).drew.cell? ⟨c, og + k * 2, none⟩ = some (.int .i64 x1) := g0
      have e4 : (w.drewN n).drew.cell? ⟨c, og + k * 2 + 1, none⟩ = some (vw x2) := g1
      clear h0 h1 g0 g1
      go_wp2
      go_region_held3 (fun w' => w'.cell? ⟨b, off + k * 2, none⟩ = some (.int .i64 x1) ∧ w'.cell? ⟨b, off + k * 2 + 1, none⟩ = some (vw x2) ∧ w'.cell? ⟨c, og + k * 2, none⟩ = some (.int .i64 x1) ∧ w'.cell? ⟨c, og + k * 2 + 1, none⟩ = some (vw x2))
        (first | exact ⟨e0, e1, e3, e4⟩) (fail)
      go_wp2
      exact ⟨⟨k + 1, by omega, by go_num, n + 1, by first | rfl | rw [World.drewN_drewN]⟩, by simp [intOf]; omega⟩
    · go_wp2
      go_ret
      exact ⟨rfl, n, rfl⟩

set_option maxRecDepth 100000 in
set_option maxHeartbeats 2000000 in
theorem stores1_any (x : Act3) (w : World) :
    Calls Try.prog 55 #[av3 x] w fun e w' => e = .returned (.tuple #[pv2 (x.2.1, x.2.2), .bool (decide (x.1 = 1))]) ∧ Below w.heap.size w w' := by
  obtain ⟨k, a, v⟩ := x
  unfold av3 pv2
  go_enter Try.func55, Try.ntmps55
  go_wp2
  go_region_with (fail)
  all_goals go_wp2
  all_goals refine bodyPost_ret (v := .tuple #[.agg #[.int .i64 a, vw v], .bool (k == 1)]) (by simp [results, Try.results55, go_sem, Act.put]) rfl ?_
  all_goals exact ⟨rfl, (((Below.refl _ w).alloc (Nat.le_refl _) _).alloc (by simp) _).drew⟩

set_option maxRecDepth 100000 in
set_option maxHeartbeats 2000000 in
theorem stores_any (p : Option Addr) (cap : Nat) (xs : List Act3) (w : World) (hrd : RdS w.heap.size w p cap 3 ac3 xs) (hn : xs.length ≤ 100000) :
    Calls Try.prog 18 #[.slice p xs.length cap] w fun e w' => ∃ q d, e = .returned (.slice q (storesA xs).length d) ∧ OwnP w' q d (storesA xs) ∧ (∀ b, inP q d b → w.heap.size ≤ b) ∧ Below w.heap.size w w' := by
  have hlen := hrd.len
  have HK : Hid (Calls Try.prog 54 #[.slice p xs.length cap, .func (.func 55) #[] #[]] w fun e w' => ∃ q d, e = .returned (.slice q (storesA xs).length d) ∧ OwnP w' q d (storesA xs) ∧ (∀ b, inP q d b → w.heap.size ≤ b) ∧ Below w.heap.size w w') := by
    refine Lib.hid ?_
    have HR := Lib.hid hrd
    clear hrd
    go_enter Try.func54, Try.ntmps54
    go_wp2_with fail
    go_loopw [4, 11] (fun v i wr => ∃ (k : Nat), k ≤ xs.length ∧ i = .int .i64 k ∧ (∃ q d, v = .slice q (storesA (xs.take k)).length d ∧ OwnP wr q d (storesA (xs.take k)) ∧ (∀ b, inP q d b → w.heap.size ≤ b)) ∧ Below w.heap.size w wr) (fun _ i _ => xs.length - (intOf i).toNat)
    case atStart => exact ⟨0, Nat.zero_le _, rfl, ⟨none, 0, rfl, OwnG.nil _ _ _ _ _, by rintro b ⟨a, ha, _⟩; cases ha⟩, Below.refl _ _⟩
    case round =>
      obtain ⟨k, hk, rfl, ⟨q, d, rfl, hown, hqd⟩, hb⟩ := hrel
      by_cases hlt : k < xs.length
      · obtain ⟨b, off, rfl, hbl, h0, h1, h2⟩ := HR.out.rows3 k hlt
        have h0' := (hb.cell (p := ⟨b, off + k * 3, none⟩) hbl).trans h0
        have h1' := (hb.cell (p := ⟨b, off + k * 3 + 1, none⟩) hbl).trans h1
        have h2' := (hb.cell (p := ⟨b, off + k * 3 + 2, none⟩) hbl).trans h2
        have hlt' : (k : Int) < (xs.length : Int) := by omega
        have hts : storesA (xs.take (k + 1)) = storesA (xs.take k) ++ (if xs[k].1 = 1 then [(xs[k].2.1, xs[k].2.2)] else []) := by
          rw [List.take_succ_eq_append_getElem hlt, storesA_snoc]
        obtain ⟨x, hx⟩ : ∃ x, xs[k] = x := ⟨_, rfl⟩
        rw [hx] at h0' h1' h2' hts
        have hs1 := stores1_any x (wr.alloc (.cells (ac3 x).toArray 38))
        obtain ⟨x1, x2, x3⟩ := x
        simp only at h0' h1' h2' hts
        have hln : (storesA (xs.take k)).length < 1000000 := by
          have := cntA_le xs k
          unfold cntA at this; omega
        have HTS := Lib.hid hts
        have HO := Lib.hid hown
        have HQ := Lib.hid hqd
        have HB := Lib.hid hb
        have HS1 := Lib.hid hs1
        unfold av3 pv2 at HS1
        simp only [ac3] at HS1
        clear h0 h1 h2 hts hown hqd hb hs1 hx
        go_wp2_with fail
        refine HS1.out.mono ?_
        rintro e w1 ⟨rfl, hb1⟩
        have HB1 := Lib.hid hb1
        have HN : Hid (¬ inP q d w1.heap.size) := Lib.hid (fun hi => by have := HO.out.lt hi; have := hb1.size; simp at this; omega)
        clear hb1
        by_cases h1 : x1 = 1
        · subst h1
          simp only [if_true] at HTS
          have hbA : Below w.heap.size w w1 := (HB.out.alloc HB.out.size _).trans (HB1.out.mono (by have := HB.out.size; simp; omega))
          have HBA := Lib.hid hbA
          have hoX : ∀ o1 o2 : Obj, OwnP ((w1.alloc o1).alloc o2) q d (storesA (xs.take k)) := fun o1 o2 =>
            (HO.out.below ((((Below.refl _ wr).alloc (Nat.le_refl _) (.cells #[.int .i64 1, .int .i64 x2, vw x3] 38)).trans (HB1.out.mono (by simp))))).below (((Below.refl _ w1).alloc (Nat.le_refl _) _).alloc (by simp) _)
          have HOX := Lib.hid hoX
          have hg : ((w1.alloc (.cells #[.int .i64 x2, vw x3] 89)).alloc (.cells #[.int .i64 x2, vw x3] 89)).heap[w1.heap.size + 1]? = some (.cells #[.int .i64 x2, vw x3] 89 (0, 0)) := by
            have := World.alloc_heap_new (w1.alloc (.cells #[.int .i64 x2, vw x3] 89)) (.cells #[.int .i64 x2, vw x3] 89)
            rwa [World.size_alloc] at this
          have HG := Lib.hid hg
          clear hbA hoX hg
          go_wp2_with (at_builtin; refine wpList_appG rfl (.tmp 22) (.tmp 24) _ rfl elem_put (by decide) pc2_len pc2_one q d (storesA (xs.take k)) [(x2, x3)] rfl (HOX.out _ _) (w1.heap.size + 1) 1 1 rfl rfl 89 (0, 0) HG.out (by simp) ⟨hln, by simp⟩ ?_
                       intro p' cap' w' happ
                       have HAPP := Lib.hid happ
                       clear happ)
          refine ⟨⟨k + 1, by omega, by go_num, ⟨p', cap', ?_, ?_, ?_⟩, ?_⟩, by simp [intOf]; omega⟩
          · rw [HTS.out]; simp
          · rw [HTS.out]; exact HAPP.out.1
          · intro b hb
            rcases HAPP.out.2.2 b hb with h | h
            · exact HQ.out b h
            · have := HBA.out.size; have := h.1; simp at this; omega
          · exact ((HBA.out.alloc HBA.out.size _).alloc (by have := HBA.out.size; simp; omega) _).trans (HAPP.out.2.1.below (by have := HBA.out.size; simp; omega) HQ.out)
        · simp only [if_neg h1, List.append_nil] at HTS
          go_wp2
          have hbA : Below w.heap.size w w1 := (HB.out.alloc HB.out.size _).trans (HB1.out.mono (by have := HB.out.size; simp; omega))
          refine ⟨⟨k + 1, by omega, by go_num, ⟨q, d, by rw [HTS.out], ?_, HQ.out⟩, hbA.alloc hbA.size _⟩, by simp [intOf]; omega⟩
          rw [HTS.out]
          exact ((HO.out.below (((Below.refl _ wr).alloc (Nat.le_refl _) (.cells #[.int .i64 x1, .int .i64 x2, vw x3] 38)).trans (HB1.out.mono (by simp))))).below ((Below.refl _ w1).alloc (Nat.le_refl _) _)
      · obtain rfl : k = xs.length := by omega
        go_wp2_with fail
        go_ret
        rw [List.take_length] at hown
        exact ⟨q, d, by simp, hown, hqd, hb⟩
  clear hrd
  go_enter Try.func18, Try.ntmps18
  go_wp2_with fail
  refine HK.out.mono ?_
  rintro e w1 ⟨q, d, rfl, h1, h2, h3⟩
  go_wp2
  go_ret
  exact ⟨q, d, rfl, h1, h2, h3⟩
end Go.Proofs.Ythhdipfadnihjaa
