/- The walks of extents: lists compared, ContainsFunc. -/
import Derived.Test.YtenmogokbelahaaExtD
import Derived.Deep.RegionWith
namespace Go.Proofs.Ytenmogokbelahaa
open Go Go.RowKit

theorem RdS.rows3e {B : Nat} {w : World} {p : Option Addr} {cap : Nat} {ys : List Ext3} (h : RdS B w p cap 3 xc ys) (i : Nat) (hi : i < ys.length) :
    ∃ b off, p = some ⟨b, off, none⟩ ∧ b < B ∧ w.cell? ⟨b, off + i * 3, none⟩ = some (.int .i64 ys[i].1) ∧ w.cell? ⟨b, off + i * 3 + 1, none⟩ = some (.int .i64 ys[i].2.1) ∧ w.cell? ⟨b, off + i * 3 + 2, none⟩ = some (.int .i64 ys[i].2.2) := by
  obtain ⟨h1, h2, h3⟩ := h
  rcases h3 with h3 | ⟨b, off, rfl, hb, hc⟩
  · omega
  · exact ⟨b, off, rfl, hb, hc i hi 0 _ rfl, hc i hi 1 _ rfl, hc i hi 2 _ rfl⟩
theorem RdS.rows2e {B : Nat} {w : World} {p : Option Addr} {cap : Nat} {ys : List RunE} (h : RdS B w p cap 2 rc ys) (i : Nat) (hi : i < ys.length) :
    ∃ b off, p = some ⟨b, off, none⟩ ∧ b < B ∧ w.cell? ⟨b, off + i * 2, none⟩ = some (.int .i64 ys[i].1) ∧ w.cell? ⟨b, off + i * 2 + 1, none⟩ = some (.int .i64 ys[i].2) := by
  obtain ⟨h1, h2, h3⟩ := h
  rcases h3 with h3 | ⟨b, off, rfl, hb, hc⟩
  · omega
  · exact ⟨b, off, rfl, hb, hc i hi 0 _ rfl, hc i hi 1 _ rfl⟩
set_option maxRecDepth 100000 in
set_option maxHeartbeats 8000000 in
theorem equalX_any (p q : Option Addr) (cap capq : Nat) (xs ys : List Ext3) (w : World) (hrx : RdS w.heap.size w p cap 3 xc xs) (hry : RdS w.heap.size w q capq 3 xc ys) :
    Calls Try.prog 95 #[.slice p xs.length cap, .slice q ys.length capq] w fun e w' => e = .returned (.bool (decide (xs = ys))) ∧ ∃ n, w' = w.drewN n := by
  have hlx := hrx.len
  have hly := hry.len
  have HX := Lib.hid hrx
  have HY := Lib.hid hry
  clear hrx hry
  obtain ⟨N, hN⟩ : ∃ N, xs.length = N := ⟨_, rfl⟩
  obtain ⟨M, hM⟩ : ∃ M, ys.length = M := ⟨_, rfl⟩
  have HL := Lib.hid (And.intro hN hM)
  rw [hN] at hlx
  rw [hM] at hly
  by_cases hl : N = M
  · subst hl
    have HLX := Lib.hid (show xs.length = ys.length by rw [hN, hM])
    rw [hN, hM]
    clear hN hM
    go_enter Try.func95, Try.ntmps95
    go_wp2_with fail
    go_loopw [13] (fun i wr => ∃ k : Nat, k ≤ N ∧ i = .int .i64 k ∧ xs.take k = ys.take k ∧ ∃ n, wr = w.drewN n) (fun i _ => N - (intOf i).toNat)
    case atStart => exact ⟨0, Nat.zero_le _, rfl, rfl, 0, rfl⟩
    case round =>
      obtain ⟨k, hk, rfl, hs, n, rfl⟩ := hrel
      have HSM := Lib.hid hs
      clear hs
      by_cases hlt : k < N
      · have hlt' : (k : Int) < (N : Int) := by omega
        have hkx : k < xs.length := by rw [HL.out.1]; exact hlt
        have hky : k < ys.length := by rw [← HLX.out]; exact hkx
        obtain ⟨b, off, rfl, hb, hcx⟩ := HX.out.rows3e k hkx
        obtain ⟨c, og, rfl, hc, hcy⟩ := HY.out.rows3e k hky
        obtain ⟨x, hx⟩ : ∃ x, xs[k] = x := ⟨_, rfl⟩
        obtain ⟨y, hy⟩ : ∃ y, ys[k] = y := ⟨_, rfl⟩
        rw [hx] at hcx
        rw [hy] at hcy
        have hsn : xs.take (k + 1) = xs.take k ++ [x] := by rw [List.take_succ_eq_append_getElem hkx, hx]
        have hyn : ys.take (k + 1) = ys.take k ++ [y] := by rw [List.take_succ_eq_append_getElem hky, hy]
        have HSN := Lib.hid (And.intro hsn hyn)
        have HD : Hid (x ≠ y → xs ≠ ys) := Lib.hid (fun hd e => hd (by rw [← hx, ← hy]; simp only [e]))
        clear hsn hyn hx hy hb hc hkx hky
        obtain ⟨x0, x1, x2⟩ := x
        obtain ⟨y0, y1, y2⟩ := y
        simp only at hcx hcy
        by_cases hne0 : x0 = y0
        · subst hne0
          by_cases hne1 : x1 = y1
          · subst hne1
            by_cases hne2 : x2 = y2
            · subst hne2
              have e0 : (w.drewN n).drew.cell? ⟨b, off + k * 3, none⟩ = some (.int .i64 x0) := hcx.1
              have e1 : (w.drewN n).drew.cell? ⟨b, off + k * 3 + 1, none⟩ = some (.int .i64 x1) := hcx.2.1
              have e2 : (w.drewN n).drew.cell? ⟨b, off + k * 3 + 2, none⟩ = some (.int .i64 x2) := hcx.2.2
              have g0 : (w.drewN n).drew.cell? ⟨c, og + k * 3, none⟩ = some (.int .i64 x0) := hcy.1
              have g1 : (w.drewN n).drew.cell? ⟨c, og + k * 3 + 1, none⟩ = some (.int .i64 x1) := hcy.2.1
              have g2 : (w.drewN n).drew.cell? ⟨c, og + k * 3 + 2, none⟩ = some (.int .i64 x2) := hcy.2.2
              clear hcx hcy
              go_wp2_with fail
              go_region_held3 (fun w' => (w'.cell? ⟨b, off + k * 3, none⟩ = some (.int .i64 x0) ∧ w'.cell? ⟨b, off + k * 3 + 1, none⟩ = some (.int .i64 x1) ∧ w'.cell? ⟨b, off + k * 3 + 2, none⟩ = some (.int .i64 x2)) ∧ w'.cell? ⟨c, og + k * 3, none⟩ = some (.int .i64 x0) ∧ w'.cell? ⟨c, og + k * 3 + 1, none⟩ = some (.int .i64 x1) ∧ w'.cell? ⟨c, og + k * 3 + 2, none⟩ = some (.int .i64 x2)) (first | exact ⟨⟨e0, e1, e2⟩, g0, g1, g2⟩) (fail)
              go_wp2_with fail
              exact ⟨⟨k + 1, hlt, by go_num, by rw [HSN.out.1, HSN.out.2, HSM.out], n + 1, by first | rfl | rw [World.drewN_drewN]⟩, by simp [intOf]; omega⟩
            · have HF := Lib.hid (HD.out (fun e => hne2 (by simp only [Prod.mk.injEq] at e; omega)))
              have hb2 : (x2 == y2) = false := beq_eq_false_iff_ne.2 hne2
              have e0 : (w.drewN n).drew.cell? ⟨b, off + k * 3, none⟩ = some (.int .i64 x0) := hcx.1
              have e1 : (w.drewN n).drew.cell? ⟨b, off + k * 3 + 1, none⟩ = some (.int .i64 x1) := hcx.2.1
              have e2 : (w.drewN n).drew.cell? ⟨b, off + k * 3 + 2, none⟩ = some (.int .i64 x2) := hcx.2.2
              have g0 : (w.drewN n).drew.cell? ⟨c, og + k * 3, none⟩ = some (.int .i64 x0) := hcy.1
              have g1 : (w.drewN n).drew.cell? ⟨c, og + k * 3 + 1, none⟩ = some (.int .i64 x1) := hcy.2.1
              have g2 : (w.drewN n).drew.cell? ⟨c, og + k * 3 + 2, none⟩ = some (.int .i64 y2) := hcy.2.2
              clear hcx hcy
              go_wp2_with fail
              go_region_held3 (fun w' => (w'.cell? ⟨b, off + k * 3, none⟩ = some (.int .i64 x0) ∧ w'.cell? ⟨b, off + k * 3 + 1, none⟩ = some (.int .i64 x1) ∧ w'.cell? ⟨b, off + k * 3 + 2, none⟩ = some (.int .i64 x2)) ∧ w'.cell? ⟨c, og + k * 3, none⟩ = some (.int .i64 x0) ∧ w'.cell? ⟨c, og + k * 3 + 1, none⟩ = some (.int .i64 x1) ∧ w'.cell? ⟨c, og + k * 3 + 2, none⟩ = some (.int .i64 y2)) (first | exact ⟨⟨e0, e1, e2⟩, g0, g1, g2⟩) (fail)
              go_wp2_with fail
              go_ret
              exact ⟨by rw [decide_eq_false HF.out]; rfl, n + 1, by first | rfl | rw [World.drewN_drewN]⟩
          · have HF := Lib.hid (HD.out (fun e => hne1 (by simp only [Prod.mk.injEq] at e; omega)))
            have hb1 : (x1 == y1) = false := beq_eq_false_iff_ne.2 hne1
            have e0 : (w.drewN n).drew.cell? ⟨b, off + k * 3, none⟩ = some (.int .i64 x0) := hcx.1
            have e1 : (w.drewN n).drew.cell? ⟨b, off + k * 3 + 1, none⟩ = some (.int .i64 x1) := hcx.2.1
            have e2 : (w.drewN n).drew.cell? ⟨b, off + k * 3 + 2, none⟩ = some (.int .i64 x2) := hcx.2.2
            have g0 : (w.drewN n).drew.cell? ⟨c, og + k * 3, none⟩ = some (.int .i64 x0) := hcy.1
            have g1 : (w.drewN n).drew.cell? ⟨c, og + k * 3 + 1, none⟩ = some (.int .i64 y1) := hcy.2.1
            have g2 : (w.drewN n).drew.cell? ⟨c, og + k * 3 + 2, none⟩ = some (.int .i64 y2) := hcy.2.2
            clear hcx hcy
            go_wp2_with fail
            go_region_held3 (fun w' => (w'.cell? ⟨b, off + k * 3, none⟩ = some (.int .i64 x0) ∧ w'.cell? ⟨b, off + k * 3 + 1, none⟩ = some (.int .i64 x1) ∧ w'.cell? ⟨b, off + k * 3 + 2, none⟩ = some (.int .i64 x2)) ∧ w'.cell? ⟨c, og + k * 3, none⟩ = some (.int .i64 x0) ∧ w'.cell? ⟨c, og + k * 3 + 1, none⟩ = some (.int .i64 y1) ∧ w'.cell? ⟨c, og + k * 3 + 2, none⟩ = some (.int .i64 y2)) (first | exact ⟨⟨e0, e1, e2⟩, g0, g1, g2⟩) (fail)
            go_wp2_with fail
            go_ret
            exact ⟨by rw [decide_eq_false HF.out]; rfl, n + 1, by first | rfl | rw [World.drewN_drewN]⟩
        · have HF := Lib.hid (HD.out (fun e => hne0 (by simp only [Prod.mk.injEq] at e; omega)))
          have hb0 : (x0 == y0) = false := beq_eq_false_iff_ne.2 hne0
          have e0 : (w.drewN n).drew.cell? ⟨b, off + k * 3, none⟩ = some (.int .i64 x0) := hcx.1
          have e1 : (w.drewN n).drew.cell? ⟨b, off + k * 3 + 1, none⟩ = some (.int .i64 x1) := hcx.2.1
          have e2 : (w.drewN n).drew.cell? ⟨b, off + k * 3 + 2, none⟩ = some (.int .i64 x2) := hcx.2.2
          have g0 : (w.drewN n).drew.cell? ⟨c, og + k * 3, none⟩ = some (.int .i64 y0) := hcy.1
          have g1 : (w.drewN n).drew.cell? ⟨c, og + k * 3 + 1, none⟩ = some (.int .i64 y1) := hcy.2.1
          have g2 : (w.drewN n).drew.cell? ⟨c, og + k * 3 + 2, none⟩ = some (.int .i64 y2) := hcy.2.2
          clear hcx hcy
          go_wp2_with fail
          go_region_held3 (fun w' => (w'.cell? ⟨b, off + k * 3, none⟩ = some (.int .i64 x0) ∧ w'.cell? ⟨b, off + k * 3 + 1, none⟩ = some (.int .i64 x1) ∧ w'.cell? ⟨b, off + k * 3 + 2, none⟩ = some (.int .i64 x2)) ∧ w'.cell? ⟨c, og + k * 3, none⟩ = some (.int .i64 y0) ∧ w'.cell? ⟨c, og + k * 3 + 1, none⟩ = some (.int .i64 y1) ∧ w'.cell? ⟨c, og + k * 3 + 2, none⟩ = some (.int .i64 y2)) (first | exact ⟨⟨e0, e1, e2⟩, g0, g1, g2⟩) (fail)
          go_wp2_with fail
          go_ret
          exact ⟨by rw [decide_eq_false HF.out]; rfl, n + 1, by first | rfl | rw [World.drewN_drewN]⟩
      · obtain rfl : N = k := by omega
        have hnl : ¬ (N : Int) < (N : Int) := by omega
        have HF : Hid (xs = ys) := Lib.hid (by have h := HSM.out; rw [← HL.out.1, List.take_length, HLX.out, List.take_length] at h; exact h)
        go_wp2_with fail
        go_ret
        exact ⟨by rw [decide_eq_true HF.out]; rfl, n, rfl⟩
  · have hne : (xs : List _) ≠ ys := fun e => hl (by rw [← hN, ← hM, e])
    have hb : ((N : Int) == (M : Int)) = false := beq_eq_false_iff_ne.2 (by omega)
    have HF := Lib.hid hne
    rw [hN, hM]
    clear hN hM hne hl
    go_enter Try.func95, Try.ntmps95
    go_wp2_with fail
    go_ret
    exact ⟨by rw [decide_eq_false HF.out]; rfl, 0, rfl⟩
set_option maxRecDepth 100000 in
set_option maxHeartbeats 8000000 in
theorem sameList_any (p q : Option Addr) (cap capq : Nat) (xs ys : List Ext3) (w : World) (hrx : RdS w.heap.size w p cap 3 xc xs) (hry : RdS w.heap.size w q capq 3 xc ys) :
    Calls Try.prog 43 #[.slice p xs.length cap, .slice q ys.length capq] w fun e w' => e = .returned (.bool (decide (xs = ys))) ∧ ∃ n, w' = w.drewN n := by
  have hlx := hrx.len
  have hly := hry.len
  have HX := Lib.hid hrx
  have HY := Lib.hid hry
  clear hrx hry
  obtain ⟨N, hN⟩ : ∃ N, xs.length = N := ⟨_, rfl⟩
  obtain ⟨M, hM⟩ : ∃ M, ys.length = M := ⟨_, rfl⟩
  have HL := Lib.hid (And.intro hN hM)
  rw [hN] at hlx
  rw [hM] at hly
  by_cases hl : N = M
  · subst hl
    have HLX := Lib.hid (show xs.length = ys.length by rw [hN, hM])
    rw [hN, hM]
    clear hN hM
    go_enter Try.func43, Try.ntmps43
    go_wp2_with fail
    go_loopw [5] (fun i wr => ∃ k : Nat, k ≤ N ∧ i = .int .i64 k ∧ xs.take k = ys.take k ∧ ∃ n, wr = w.drewN n) (fun i _ => N - (intOf i).toNat)
    case atStart => exact ⟨0, Nat.zero_le _, rfl, rfl, 0, rfl⟩
    case round =>
      obtain ⟨k, hk, rfl, hs, n, rfl⟩ := hrel
      have HSM := Lib.hid hs
      clear hs
      by_cases hlt : k < N
      · have hlt' : (k : Int) < (N : Int) := by omega
        have hkx : k < xs.length := by rw [HL.out.1]; exact hlt
        have hky : k < ys.length := by rw [← HLX.out]; exact hkx
        obtain ⟨b, off, rfl, hb, hcx⟩ := HX.out.rows3e k hkx
        obtain ⟨c, og, rfl, hc, hcy⟩ := HY.out.rows3e k hky
        obtain ⟨x, hx⟩ : ∃ x, xs[k] = x := ⟨_, rfl⟩
        obtain ⟨y, hy⟩ : ∃ y, ys[k] = y := ⟨_, rfl⟩
        rw [hx] at hcx
        rw [hy] at hcy
        have hsn : xs.take (k + 1) = xs.take k ++ [x] := by rw [List.take_succ_eq_append_getElem hkx, hx]
        have hyn : ys.take (k + 1) = ys.take k ++ [y] := by rw [List.take_succ_eq_append_getElem hky, hy]
        have HSN := Lib.hid (And.intro hsn hyn)
        have HD : Hid (x ≠ y → xs ≠ ys) := Lib.hid (fun hd e => hd (by rw [← hx, ← hy]; simp only [e]))
        clear hsn hyn hx hy hb hc hkx hky
        obtain ⟨x0, x1, x2⟩ := x
        obtain ⟨y0, y1, y2⟩ := y
        simp only at hcx hcy
        by_cases hne0 : x0 = y0
        · subst hne0
          by_cases hne1 : x1 = y1
          · subst hne1
            by_cases hne2 : x2 = y2
            · subst hne2
              have e0 : (w.drewN n).drew.cell? ⟨b, off + k * 3, none⟩ = some (.int .i64 x0) := hcx.1
              have e1 : (w.drewN n).drew.cell? ⟨b, off + k * 3 + 1, none⟩ = some (.int .i64 x1) := hcx.2.1
              have e2 : (w.drewN n).drew.cell? ⟨b, off + k * 3 + 2, none⟩ = some (.int .i64 x2) := hcx.2.2
              have g0 : (w.drewN n).drew.cell? ⟨c, og + k * 3, none⟩ = some (.int .i64 x0) := hcy.1
              have g1 : (w.drewN n).drew.cell? ⟨c, og + k * 3 + 1, none⟩ = some (.int .i64 x1) := hcy.2.1
              have g2 : (w.drewN n).drew.cell? ⟨c, og + k * 3 + 2, none⟩ = some (.int .i64 x2) := hcy.2.2
              clear hcx hcy
              go_wp2_with fail
              go_region_held3 (fun w' => (w'.cell? ⟨b, off + k * 3, none⟩ = some (.int .i64 x0) ∧ w'.cell? ⟨b, off + k * 3 + 1, none⟩ = some (.int .i64 x1) ∧ w'.cell? ⟨b, off + k * 3 + 2, none⟩ = some (.int .i64 x2)) ∧ w'.cell? ⟨c, og + k * 3, none⟩ = some (.int .i64 x0) ∧ w'.cell? ⟨c, og + k * 3 + 1, none⟩ = some (.int .i64 x1) ∧ w'.cell? ⟨c, og + k * 3 + 2, none⟩ = some (.int .i64 x2)) (first | exact ⟨⟨e0, e1, e2⟩, g0, g1, g2⟩) (fail)
              go_wp2_with fail
              exact ⟨⟨k + 1, hlt, by go_num, by rw [HSN.out.1, HSN.out.2, HSM.out], n + 1, by first | rfl | rw [World.drewN_drewN]⟩, by simp [intOf]; omega⟩
            · have HF := Lib.hid (HD.out (fun e => hne2 (by simp only [Prod.mk.injEq] at e; omega)))
              have hb2 : (x2 == y2) = false := beq_eq_false_iff_ne.2 hne2
              have e0 : (w.drewN n).drew.cell? ⟨b, off + k * 3, none⟩ = some (.int .i64 x0) := hcx.1
              have e1 : (w.drewN n).drew.cell? ⟨b, off + k * 3 + 1, none⟩ = some (.int .i64 x1) := hcx.2.1
              have e2 : (w.drewN n).drew.cell? ⟨b, off + k * 3 + 2, none⟩ = some (.int .i64 x2) := hcx.2.2
              have g0 : (w.drewN n).drew.cell? ⟨c, og + k * 3, none⟩ = some (.int .i64 x0) := hcy.1
              have g1 : (w.drewN n).drew.cell? ⟨c, og + k * 3 + 1, none⟩ = some (.int .i64 x1) := hcy.2.1
              have g2 : (w.drewN n).drew.cell? ⟨c, og + k * 3 + 2, none⟩ = some (.int .i64 y2) := hcy.2.2
              clear hcx hcy
              go_wp2_with fail
              go_region_held3 (fun w' => (w'.cell? ⟨b, off + k * 3, none⟩ = some (.int .i64 x0) ∧ w'.cell? ⟨b, off + k * 3 + 1, none⟩ = some (.int .i64 x1) ∧ w'.cell? ⟨b, off + k * 3 + 2, none⟩ = some (.int .i64 x2)) ∧ w'.cell? ⟨c, og + k * 3, none⟩ = some (.int .i64 x0) ∧ w'.cell? ⟨c, og + k * 3 + 1, none⟩ = some (.int .i64 x1) ∧ w'.cell? ⟨c, og + k * 3 + 2, none⟩ = some (.int .i64 y2)) (first | exact ⟨⟨e0, e1, e2⟩, g0, g1, g2⟩) (fail)
              go_wp2_with fail
              go_ret
              exact ⟨by rw [decide_eq_false HF.out]; rfl, n + 1, by first | rfl | rw [World.drewN_drewN]⟩
          · have HF := Lib.hid (HD.out (fun e => hne1 (by simp only [Prod.mk.injEq] at e; omega)))
            have hb1 : (x1 == y1) = false := beq_eq_false_iff_ne.2 hne1
            have e0 : (w.drewN n).drew.cell? ⟨b, off + k * 3, none⟩ = some (.int .i64 x0) := hcx.1
            have e1 : (w.drewN n).drew.cell? ⟨b, off + k * 3 + 1, none⟩ = some (.int .i64 x1) := hcx.2.1
            have e2 : (w.drewN n).drew.cell? ⟨b, off + k * 3 + 2, none⟩ = some (.int .i64 x2) := hcx.2.2
            have g0 : (w.drewN n).drew.cell? ⟨c, og + k * 3, none⟩ = some (.int .i64 x0) := hcy.1
            have g1 : (w.drewN n).drew.cell? ⟨c, og + k * 3 + 1, none⟩ = some (.int .i64 y1) := hcy.2.1
            have g2 : (w.drewN n).drew.cell? ⟨c, og + k * 3 + 2, none⟩ = some (.int .i64 y2) := hcy.2.2
            clear hcx hcy
            go_wp2_with fail
            go_region_held3 (fun w' => (w'.cell? ⟨b, off + k * 3, none⟩ = some (.int .i64 x0) ∧ w'.cell? ⟨b, off + k * 3 + 1, none⟩ = some (.int .i64 x1) ∧ w'.cell? ⟨b, off + k * 3 + 2, none⟩ = some (.int .i64 x2)) ∧ w'.cell? ⟨c, og + k * 3, none⟩ = some (.int .i64 x0) ∧ w'.cell? ⟨c, og + k * 3 + 1, none⟩ = some (.int .i64 y1) ∧ w'.cell? ⟨c, og + k * 3 + 2, none⟩ = some (.int .i64 y2)) (first | exact ⟨⟨e0, e1, e2⟩, g0, g1, g2⟩) (fail)
            go_wp2_with fail
            go_ret
            exact ⟨by rw [decide_eq_false HF.out]; rfl, n + 1, by first | rfl | rw [World.drewN_drewN]⟩
        · have HF := Lib.hid (HD.out (fun e => hne0 (by simp only [Prod.mk.injEq] at e; omega)))
          have hb0 : (x0 == y0) = false := beq_eq_false_iff_ne.2 hne0
          have e0 : (w.drewN n).drew.cell? ⟨b, off + k * 3, none⟩ = some (.int .i64 x0) := hcx.1
          have e1 : (w.drewN n).drew.cell? ⟨b, off + k * 3 + 1, none⟩ = some (.int .i64 x1) := hcx.2.1
          have e2 : (w.drewN n).drew.cell? ⟨b, off + k * 3 + 2, none⟩ = some (.int .i64 x2) := hcx.2.2
          have g0 : (w.drewN n).drew.cell? ⟨c, og + k * 3, none⟩ = some (.int .i64 y0) := hcy.1
          have g1 : (w.drewN n).drew.cell? ⟨c, og + k * 3 + 1, none⟩ = some (.int .i64 y1) := hcy.2.1
          have g2 : (w.drewN n).drew.cell? ⟨c, og + k * 3 + 2, none⟩ = some (.int .i64 y2) := hcy.2.2
          clear hcx hcy
          go_wp2_with fail
          go_region_held3 (fun w' => (w'.cell? ⟨b, off + k * 3, none⟩ = some (.int .i64 x0) ∧ w'.cell? ⟨b, off + k * 3 + 1, none⟩ = some (.int .i64 x1) ∧ w'.cell? ⟨b, off + k * 3 + 2, none⟩ = some (.int .i64 x2)) ∧ w'.cell? ⟨c, og + k * 3, none⟩ = some (.int .i64 y0) ∧ w'.cell? ⟨c, og + k * 3 + 1, none⟩ = some (.int .i64 y1) ∧ w'.cell? ⟨c, og + k * 3 + 2, none⟩ = some (.int .i64 y2)) (first | exact ⟨⟨e0, e1, e2⟩, g0, g1, g2⟩) (fail)
          go_wp2_with fail
          go_ret
          exact ⟨by rw [decide_eq_false HF.out]; rfl, n + 1, by first | rfl | rw [World.drewN_drewN]⟩
      · obtain rfl : N = k := by omega
        have hnl : ¬ (N : Int) < (N : Int) := by omega
        have HF : Hid (xs = ys) := Lib.hid (by have h := HSM.out; rw [← HL.out.1, List.take_length, HLX.out, List.take_length] at h; exact h)
        go_wp2_with fail
        go_ret
        exact ⟨by rw [decide_eq_true HF.out]; rfl, n, rfl⟩
  · have hne : (xs : List _) ≠ ys := fun e => hl (by rw [← hN, ← hM, e])
    have hb : ((N : Int) == (M : Int)) = false := beq_eq_false_iff_ne.2 (by omega)
    have HF := Lib.hid hne
    rw [hN, hM]
    clear hN hM hne hl
    go_enter Try.func43, Try.ntmps43
    go_wp2_with fail
    go_ret
    exact ⟨by rw [decide_eq_false HF.out]; rfl, 0, rfl⟩
set_option maxRecDepth 100000 in
set_option maxHeartbeats 8000000 in
theorem sameRuns_any (p q : Option Addr) (cap capq : Nat) (xs ys : List RunE) (w : World) (hrx : RdS w.heap.size w p cap 2 rc xs) (hry : RdS w.heap.size w q capq 2 rc ys) :
    Calls Try.prog 44 #[.slice p xs.length cap, .slice q ys.length capq] w fun e w' => e = .returned (.bool (decide (xs = ys))) ∧ ∃ n, w' = w.drewN n := by
  have hlx := hrx.len
  have hly := hry.len
  have HX := Lib.hid hrx
  have HY := Lib.hid hry
  clear hrx hry
  obtain ⟨N, hN⟩ : ∃ N, xs.length = N := ⟨_, rfl⟩
  obtain ⟨M, hM⟩ : ∃ M, ys.length = M := ⟨_, rfl⟩
  have HL := Lib.hid (And.intro hN hM)
  rw [hN] at hlx
  rw [hM] at hly
  by_cases hl : N = M
  · subst hl
    have HLX := Lib.hid (show xs.length = ys.length by rw [hN, hM])
    rw [hN, hM]
    clear hN hM
    go_enter Try.func44, Try.ntmps44
    go_wp2_with fail
    go_loopw [5] (fun i wr => ∃ k : Nat, k ≤ N ∧ i = .int .i64 k ∧ xs.take k = ys.take k ∧ ∃ n, wr = w.drewN n) (fun i _ => N - (intOf i).toNat)
    case atStart => exact ⟨0, Nat.zero_le _, rfl, rfl, 0, rfl⟩
    case round =>
      obtain ⟨k, hk, rfl, hs, n, rfl⟩ := hrel
      have HSM := Lib.hid hs
      clear hs
      by_cases hlt : k < N
      · have hlt' : (k : Int) < (N : Int) := by omega
        have hkx : k < xs.length := by rw [HL.out.1]; exact hlt
        have hky : k < ys.length := by rw [← HLX.out]; exact hkx
        obtain ⟨b, off, rfl, hb, hcx⟩ := HX.out.rows2e k hkx
        obtain ⟨c, og, rfl, hc, hcy⟩ := HY.out.rows2e k hky
        obtain ⟨x, hx⟩ : ∃ x, xs[k] = x := ⟨_, rfl⟩
        obtain ⟨y, hy⟩ : ∃ y, ys[k] = y := ⟨_, rfl⟩
        rw [hx] at hcx
        rw [hy] at hcy
        have hsn : xs.take (k + 1) = xs.take k ++ [x] := by rw [List.take_succ_eq_append_getElem hkx, hx]
        have hyn : ys.take (k + 1) = ys.take k ++ [y] := by rw [List.take_succ_eq_append_getElem hky, hy]
        have HSN := Lib.hid (And.intro hsn hyn)
        have HD : Hid (x ≠ y → xs ≠ ys) := Lib.hid (fun hd e => hd (by rw [← hx, ← hy]; simp only [e]))
        clear hsn hyn hx hy hb hc hkx hky
        obtain ⟨x0, x1⟩ := x
        obtain ⟨y0, y1⟩ := y
        simp only at hcx hcy
        by_cases hne0 : x0 = y0
        · subst hne0
          by_cases hne1 : x1 = y1
          · subst hne1
            have e0 : (w.drewN n).drew.cell? ⟨b, off + k * 2, none⟩ = some (.int .i64 x0) := hcx.1
            have e1 : (w.drewN n).drew.cell? ⟨b, off + k * 2 + 1, none⟩ = some (.int .i64 x1) := hcx.2
            have g0 : (w.drewN n).drew.cell? ⟨c, og + k * 2, none⟩ = some (.int .i64 x0) := hcy.1
            have g1 : (w.drewN n).drew.cell? ⟨c, og + k * 2 + 1, none⟩ = some (.int .i64 x1) := hcy.2
            clear hcx hcy
            go_wp2_with fail
            go_region_held3 (fun w' => (w'.cell? ⟨b, off + k * 2, none⟩ = some (.int .i64 x0) ∧ w'.cell? ⟨b, off + k * 2 + 1, none⟩ = some (.int .i64 x1)) ∧ w'.cell? ⟨c, og + k * 2, none⟩ = some (.int .i64 x0) ∧ w'.cell? ⟨c, og + k * 2 + 1, none⟩ = some (.int .i64 x1)) (first | exact ⟨⟨e0, e1⟩, g0, g1⟩) (fail)
            go_wp2_with fail
            exact ⟨⟨k + 1, hlt, by go_num, by rw [HSN.out.1, HSN.out.2, HSM.out], n + 1, by first | rfl | rw [World.drewN_drewN]⟩, by simp [intOf]; omega⟩
          · have HF := Lib.hid (HD.out (fun e => hne1 (by simp only [Prod.mk.injEq] at e; omega)))
            have hb1 : (x1 == y1) = false := beq_eq_false_iff_ne.2 hne1
            have e0 : (w.drewN n).drew.cell? ⟨b, off + k * 2, none⟩ = some (.int .i64 x0) := hcx.1
            have e1 : (w.drewN n).drew.cell? ⟨b, off + k * 2 + 1, none⟩ = some (.int .i64 x1) := hcx.2
            have g0 : (w.drewN n).drew.cell? ⟨c, og + k * 2, none⟩ = some (.int .i64 x0) := hcy.1
            have g1 : (w.drewN n).drew.cell? ⟨c, og + k * 2 + 1, none⟩ = some (.int .i64 y1) := hcy.2
            clear hcx hcy
            go_wp2_with fail
            go_region_held3 (fun w' => (w'.cell? ⟨b, off + k * 2, none⟩ = some (.int .i64 x0) ∧ w'.cell? ⟨b, off + k * 2 + 1, none⟩ = some (.int .i64 x1)) ∧ w'.cell? ⟨c, og + k * 2, none⟩ = some (.int .i64 x0) ∧ w'.cell? ⟨c, og + k * 2 + 1, none⟩ = some (.int .i64 y1)) (first | exact ⟨⟨e0, e1⟩, g0, g1⟩) (fail)
            go_wp2_with fail
            go_ret
            exact ⟨by rw [decide_eq_false HF.out]; rfl, n + 1, by first | rfl | rw [World.drewN_drewN]⟩
        · have HF := Lib.hid (HD.out (fun e => hne0 (by simp only [Prod.mk.injEq] at e; omega)))
          have hb0 : (x0 == y0) = false := beq_eq_false_iff_ne.2 hne0
          have e0 : (w.drewN n).drew.cell? ⟨b, off + k * 2, none⟩ = some (.int .i64 x0) := hcx.1
          have e1 : (w.drewN n).drew.cell? ⟨b, off + k * 2 + 1, none⟩ = some (.int .i64 x1) := hcx.2
          have g0 : (w.drewN n).drew.cell? ⟨c, og + k * 2, none⟩ = some (.int .i64 y0) := hcy.1
          have g1 : (w.drewN n).drew.cell? ⟨c, og + k * 2 + 1, none⟩ = some (.int .i64 y1) := hcy.2
          clear hcx hcy
          go_wp2_with fail
          go_region_held3 (fun w' => (w'.cell? ⟨b, off + k * 2, none⟩ = some (.int .i64 x0) ∧ w'.cell? ⟨b, off + k * 2 + 1, none⟩ = some (.int .i64 x1)) ∧ w'.cell? ⟨c, og + k * 2, none⟩ = some (.int .i64 y0) ∧ w'.cell? ⟨c, og + k * 2 + 1, none⟩ = some (.int .i64 y1)) (first | exact ⟨⟨e0, e1⟩, g0, g1⟩) (fail)
          go_wp2_with fail
          go_ret
          exact ⟨by rw [decide_eq_false HF.out]; rfl, n + 1, by first | rfl | rw [World.drewN_drewN]⟩
      · obtain rfl : N = k := by omega
        have hnl : ¬ (N : Int) < (N : Int) := by omega
        have HF : Hid (xs = ys) := Lib.hid (by have h := HSM.out; rw [← HL.out.1, List.take_length, HLX.out, List.take_length] at h; exact h)
        go_wp2_with fail
        go_ret
        exact ⟨by rw [decide_eq_true HF.out]; rfl, n, rfl⟩
  · have hne : (xs : List _) ≠ ys := fun e => hl (by rw [← hN, ← hM, e])
    have hb : ((N : Int) == (M : Int)) = false := beq_eq_false_iff_ne.2 (by omega)
    have HF := Lib.hid hne
    rw [hN, hM]
    clear hN hM hne hl
    go_enter Try.func44, Try.ntmps44
    go_wp2_with fail
    go_ret
    exact ⟨by rw [decide_eq_false HF.out]; rfl, 0, rfl⟩
set_option maxRecDepth 100000 in
set_option maxHeartbeats 4000000 in
theorem xo1_any (f d m : Int) (W : World) : Calls Try.prog 94 #[.agg #[.int .i64 f, .int .i64 d, .int .i64 m]] W fun e w' => e = .returned (.bool (!rightX (f, d, m))) ∧ Below W.heap.size W w' := by
  have HR := Lib.hid (fun V => rightX_any f d m V)
  have HB := Lib.hid (below_allocX W (.cells #[.int .i64 f, .int .i64 d, .int .i64 m] 81))
  obtain ⟨b, hb⟩ : ∃ b, rightX (f, d, m) = b := ⟨_, rfl⟩
  rw [hb] at HR ⊢
  go_enter Try.func94, Try.ntmps94
  go_wp2_with fail
  refine (HR.out _).mono ?_
  rintro e w1 ⟨rfl, hb1⟩
  have HB1 := Lib.hid (HB.out.trans (hb1.mono HB.out.size))
  clear hb1
  go_wp2_with fail
  go_ret
  exact ⟨rfl, HB1.out⟩
set_option maxRecDepth 100000 in
set_option maxHeartbeats 8000000 in
theorem indexX_any (p : Option Addr) (cap : Nat) (xs : List Ext3) (w : World) (hrd : RdS w.heap.size w p cap 3 xc xs) :
    Calls Try.prog 115 #[.slice p xs.length cap, .func (.func 94) #[] #[]] w fun e w' => ∃ r : Int, decide (0 ≤ r) = (!xs.all rightX) ∧ e = .returned (.int .i64 r) ∧ Below w.heap.size w w' := by
  have hl := hrd.len
  obtain ⟨N, hN⟩ : ∃ N, xs.length = N := ⟨_, rfl⟩
  rw [hN] at hl
  have HRD := Lib.hid hrd
  have HN := Lib.hid hN
  rw [hN]
  clear hrd hN
  have HEN := enters_of (P := Try.prog) Try.func94 (by kernel_rfl) rfl
  go_enter Try.func115, Try.ntmps115
  go_wp2_with fail
  go_loopw [8] (fun i wr => ∃ k : Nat, k ≤ N ∧ i = .int .i64 k ∧ (xs.take k).all rightX = true ∧ Below w.heap.size w wr) (fun i _ => N - (intOf i).toNat)
  case atStart => exact ⟨0, Nat.zero_le _, rfl, by simp, Below.refl _ _⟩
  case round =>
    obtain ⟨k, hk, rfl, hall, hb⟩ := hrel
    by_cases hlt : k < N
    · have hlt' : (k : Int) < (N : Int) := by omega
      have hkx : k < xs.length := by rw [HN.out]; exact hlt
      obtain ⟨g, o, rfl, hg, a0, a1, a2⟩ := HRD.out.rows3e k hkx
      obtain ⟨x, hx⟩ : ∃ x, xs[k] = x := ⟨_, rfl⟩
      have hsn : xs.take (k + 1) = xs.take k ++ [x] := by rw [List.take_succ_eq_append_getElem hkx, hx]
      have hmem : x ∈ xs := hx ▸ List.getElem_mem hkx
      rw [hx] at a0 a1 a2
      obtain ⟨f, d, m⟩ := x
      simp only at a0 a1 a2
      have b0 := (hb.cell (p := ⟨g, o + k * 3, none⟩) hg).trans a0
      have b1 := (hb.cell (p := ⟨g, o + k * 3 + 1, none⟩) hg).trans a1
      have b2 := (hb.cell (p := ⟨g, o + k * 3 + 2, none⟩) hg).trans a2
      have HC := Lib.hid (xo1_any f d m wr)
      have HB := Lib.hid (And.intro hall (And.intro hsn (And.intro hmem hb)))
      have hk0 : (0 : Int) ≤ (k : Int) := by omega
      clear a0 a1 a2 hx hg hall hsn hmem hb hkx
      by_cases hr : rightX (f, d, m) = true
      · rw [hr] at HC
        have HR := Lib.hid hr
        clear hr
        go_wp2_with fail
        refine HC.out.mono ?_
        rintro e w1 ⟨rfl, hb1⟩
        have HB1 := Lib.hid (HB.out.2.2.2.trans (hb1.mono HB.out.2.2.2.size))
        clear hb1
        go_wp2_with fail
        go_roundw
        case rel => exact ⟨k + 1, hlt, by go_num, by rw [HB.out.2.1, List.all_append, HB.out.1]; simp [HR.out], HB1.out⟩
        case measure => simp [intOf]; omega
      · rw [Bool.not_eq_true] at hr
        rw [hr] at HC
        have HR := Lib.hid hr
        clear hr
        go_wp2_with fail
        refine HC.out.mono ?_
        rintro e w1 ⟨rfl, hb1⟩
        have HB1 := Lib.hid (HB.out.2.2.2.trans (hb1.mono HB.out.2.2.2.size))
        clear hb1
        go_wp2_with fail
        go_ret
        exact ⟨k, by rw [decide_eq_true hk0, show xs.all rightX = false from Bool.eq_false_iff.2 (fun h => by rw [List.all_eq_true] at h; have h9 := h _ HB.out.2.2.1; rw [HR.out] at h9; cases h9)]; rfl, rfl, HB1.out⟩
    · obtain rfl : N = k := by omega
      have hnl : ¬ (N : Int) < (N : Int) := by omega
      have HB := Lib.hid (And.intro (show xs.all rightX = true by rw [← HN.out, List.take_length] at hall; exact hall) hb)
      clear hall hb
      go_wp2_with fail
      go_ret
      exact ⟨-1, by rw [HB.out.1]; rfl, rfl, HB.out.2⟩
set_option maxRecDepth 100000 in
set_option maxHeartbeats 4000000 in
theorem containsX_any (p : Option Addr) (cap : Nat) (xs : List Ext3) (w : World) (hrd : RdS w.heap.size w p cap 3 xc xs) :
    Calls Try.prog 93 #[.slice p xs.length cap, .func (.func 94) #[] #[]] w fun e w' => e = .returned (.bool (!xs.all rightX)) ∧ Below w.heap.size w w' := by
  have HI := Lib.hid (indexX_any p cap xs w hrd)
  obtain ⟨b, hb⟩ : ∃ b, (!xs.all rightX) = b := ⟨_, rfl⟩
  rw [hb] at HI ⊢
  obtain ⟨n, hn⟩ : ∃ n, xs.length = n := ⟨_, rfl⟩
  rw [hn] at HI ⊢
  clear hrd hb hn
  go_enter Try.func93, Try.ntmps93
  go_wp2_with fail
  refine HI.out.mono ?_
  rintro e w1 ⟨r, hr, rfl, hb1⟩
  have HB := Lib.hid hb1
  clear hb1
  go_wp2_with fail
  go_ret
  exact ⟨rfl, HB.out⟩
end Go.Proofs.Ytenmogokbelahaa
