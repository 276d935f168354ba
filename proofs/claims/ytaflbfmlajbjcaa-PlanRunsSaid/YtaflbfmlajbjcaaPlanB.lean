/- The walk of plan.Ordered. -/
import Derived.Test.YtaflbfmlajbjcaaPlanA
import Derived.ScopeJumps
namespace Go.Proofs.Ytaflbfmlajbjcaa
open Go Go.RowKit

theorem ordered_none {xs : List Act3} {k : Nat} {l : Int} {f : Bool} (hk : k < xs.length) (h : runA (some (-1, false)) (xs.take k) = some (l, f)) (hn : nextA l f xs[k] = none) : orderedA xs = false := by
  have h1 : runA (some (-1, false)) xs = none := by
    have h2 : xs = xs.take k ++ (xs[k] :: xs.drop (k + 1)) := by simp
    rw [h2, runA_append, h]
    simp only [runA, hn]
    exact runA_none _
  unfold orderedA
  rw [h1]
theorem run_step {xs : List Act3} {k : Nat} {l : Int} {f : Bool} (hk : k < xs.length) (h : runA (some (-1, false)) (xs.take k) = some (l, f)) : runA (some (-1, false)) (xs.take (k + 1)) = nextA l f xs[k] := by
  rw [List.take_succ_eq_append_getElem hk, runA_append, h]
  simp only [runA]

set_option maxRecDepth 100000 in
set_option maxHeartbeats 8000000 in
theorem ordered_any (p : Option Addr) (cap : Nat) (xs : List Act3) (w : World) (hrd : RdS w.heap.size w p cap 3 ac3 xs) (hx : ∀ x ∈ xs, x.2.1 ≤ 9223372036854775807) :
    Calls Try.prog 71 #[.slice p xs.length cap] w fun e w' => e = .returned (.bool (orderedA xs)) ∧ Below w.heap.size w w' := by
  have hlen := hrd.len
  have HR := Lib.hid hrd
  have HX := Lib.hid hx
  clear hrd hx
  go_enter Try.func71, Try.ntmps71
  go_wp2
  refine wp_scope_jumps 0 (fun a' w' => (∃ u0 u1 u2 u3 u4 u5 u6 u7 u8 u9 u10 u11 u12 u13 u14 u15 u16 u17 u18 u19 u20 u21 u22 u23 u24 u25 u26 u27 u28 u29 u30 u31 u32 u33 u34 u35 u36 u37 u38 u39 u40 u41 u42 u43 u44 u45 u46 u47 u48 u49 u50 u51 u52 u53 : Value, a' = { tmps := #[u0, u1, u2, u3, u4, u5, u6, u7, u8, u9, u10, u11, u12, u13, u14, u15, u16, u17, u18, u19, u20, u21, u22, u23, u24, u25, u26, u27, u28, u29, u30, u31, u32, u33, u34, u35, u36, u37, u38, u39, u40, u41, u42, u43, u44, u45, u46, u47, u48, u49, u50, u51, u52, u53], defers := [] }) ∧ orderedA xs = false ∧ Below w.heap.size w w') (fun _ _ => 0) rfl ?first ?pass
  case pass =>
    rintro a' w' ⟨⟨u0, u1, u2, u3, u4, u5, u6, u7, u8, u9, u10, u11, u12, u13, u14, u15, u16, u17, u18, u19, u20, u21, u22, u23, u24, u25, u26, u27, u28, u29, u30, u31, u32, u33, u34, u35, u36, u37, u38, u39, u40, u41, u42, u43, u44, u45, u46, u47, u48, u49, u50, u51, u52, u53, rfl⟩, ho, hb⟩
    go_wp2
    simp only [Exit.jump]
    go_ret
    rw [ho]
    exact ⟨rfl, hb⟩
  case first =>
    go_wp2_with fail
    go_loopw [3, 4, 10] (fun l f i wr => ∃ (k : Nat) (ln : Int) (fl : Bool), k ≤ xs.length ∧ l = .int .i64 ln ∧ f = .bool fl ∧ i = .int .i64 k ∧ runA (some (-1, false)) (xs.take k) = some (ln, fl) ∧ Below w.heap.size w wr) (fun _ _ i _ => xs.length - (intOf i).toNat)
    case atStart => exact ⟨0, -1, false, Nat.zero_le _, rfl, rfl, rfl, rfl, Below.refl _ _⟩
    case round =>
      obtain ⟨k, ln, fl, hk, rfl, rfl, rfl, hrun, hb⟩ := hrel
      by_cases hlt : k < xs.length
      · obtain ⟨b, off, rfl, hbl, h0, h1, h2⟩ := HR.out.rows3 k hlt
        have h0' := (hb.cell (p := ⟨b, off + k * 3, none⟩) hbl).trans h0
        have h1' := (hb.cell (p := ⟨b, off + k * 3 + 1, none⟩) hbl).trans h1
        have h2' := (hb.cell (p := ⟨b, off + k * 3 + 2, none⟩) hbl).trans h2
        have hlt' : (k : Int) < (xs.length : Int) := by omega
        have hmax := HX.out xs[k] (List.getElem_mem hlt)
        have HN := Lib.hid (ordered_none hlt hrun)
        have HS := Lib.hid (run_step hlt hrun)
        obtain ⟨x, hx⟩ : ∃ x, xs[k] = x := ⟨_, rfl⟩
        rw [hx] at h0' h1' h2' HN HS hmax
        have HR1 := Lib.hid (right_any x (wr.alloc (.cells (ac3 x).toArray 79)))
        have HB := Lib.hid hb
        obtain ⟨x1, x2, x3⟩ := x
        simp only at h0' h1' h2' hmax
        unfold av3 at HR1
        simp only [ac3] at HR1
        obtain ⟨rt, hrt⟩ : ∃ rt, rightA (x1, x2, x3) = rt := ⟨_, rfl⟩
        rw [hrt] at HR1
        have HRT := Lib.hid hrt
        clear h0 h1 h2 hb hx hrun hrt
        have key : ∀ w1, Below (wr.alloc (.cells #[.int .i64 x1, .int .i64 x2, vw x3] 79)).heap.size (wr.alloc (.cells #[.int .i64 x1, .int .i64 x2, vw x3] 79)) w1 →
            Below w.heap.size w w1 ∧ w1.heap[wr.heap.size]? = some (.cells #[.int .i64 x1, .int .i64 x2, vw x3] 79 (0, 0)) := fun w1 h1 =>
          ⟨(HB.out.alloc HB.out.size _).trans (h1.mono (by have := HB.out.size; simp; omega)), (h1.block _ (by simp)).trans (World.alloc_heap_new wr _)⟩
        have KEY := Lib.hid key
        clear key
        cases rt with
        | false =>
          have HF := Lib.hid (HN.out (by unfold nextA; rw [if_pos HRT.out]))
          go_wp2_with fail
          refine HR1.out.mono ?_
          rintro e w1 ⟨rfl, hb1⟩
          have HB1 := Lib.hid (KEY.out w1 hb1)
          clear hb1
          go_wp2
          apply wp_goto
          go_wp2
          simp only [Exit.jump]
          exact ⟨trivial, ⟨_, _, _, _, _, _, _, _, _, _, _, _, _, _, _, _, _, _, _, _, _, _, _, _, _, _, _, _, _, _, _, _, _, _, _, _, _, _, _, _, _, _, _, _, _, _, _, _, _, _, _, _, _, _, rfl⟩, HF.out, HB1.out.1⟩
        | true =>
          have hnx : nextA ln fl (x1, x2, x3) = if x1 = 1 then (if 0 ≤ ln ∧ ln ≠ lnP x2 then none else some (lnP x2, false)) else if x1 = 2 then some (ln, fl || decide (ln = x2)) else if 0 ≤ ln ∧ fl = false then none else some (-1, false) := by
            unfold nextA; rw [if_neg (by rw [HRT.out]; simp)]
          rw [hnx] at HN HS
          have hx12 : x1 = 1 ∨ x1 = 2 ∨ x1 = 3 := by
            have h := HRT.out
            unfold rightA at h
            simp only [Bool.or_eq_true, Bool.and_eq_true, decide_eq_true_eq] at h
            omega
          have hx2 : 0 ≤ x2 := by
            have h := HRT.out
            unfold rightA at h
            simp only [Bool.or_eq_true, Bool.and_eq_true, decide_eq_true_eq] at h
            omega
          clear hnx HRT
          have fin : ∀ (l' : Int) (f' : Bool) (w1 : World), runA (some (-1, false)) (xs.take (k + 1)) = some (l', f') → Below w.heap.size w w1 → ∃ (k' : Nat) (ln' : Int) (fl' : Bool), k' ≤ xs.length ∧ Value.int .i64 l' = .int .i64 ln' ∧ Value.bool f' = .bool fl' ∧ Value.int .i64 ((k : Int) + 1) = .int .i64 k' ∧ runA (some (-1, false)) (xs.take k') = some (ln', fl') ∧ Below w.heap.size w w1 :=
            fun l' f' w1 h1 h2 => ⟨k + 1, l', f', by omega, rfl, rfl, by go_num, h1, h2⟩
          have FIN := Lib.hid fin
          clear fin
          rcases hx12 with rfl | rfl | rfl
          · simp only [if_true] at HN HS
            by_cases hg : 0 ≤ ln ∧ ln ≠ lnP x2
            · rw [if_pos hg] at HN HS
              obtain ⟨hg0, hg1⟩ := hg
              unfold lnP at hg1
              have HF := Lib.hid (HN.out rfl)
              clear HN HS
              go_wp2_with fail
              refine HR1.out.mono ?_
              rintro e w1 ⟨rfl, hb1⟩
              have HB1 := Lib.hid (KEY.out w1 hb1)
              have c0 : w1.cell? ⟨wr.heap.size, 0, none⟩ = some (.int .i64 1) := by simp [World.cell?, HB1.out.2]
              have c1 : w1.cell? ⟨wr.heap.size, 1, none⟩ = some (.int .i64 x2) := by simp [World.cell?, HB1.out.2]
              clear hb1
              go_wp2
              apply wp_goto
              go_wp2
              simp only [Exit.jump]
              exact ⟨trivial, ⟨_, _, _, _, _, _, _, _, _, _, _, _, _, _, _, _, _, _, _, _, _, _, _, _, _, _, _, _, _, _, _, _, _, _, _, _, _, _, _, _, _, _, _, _, _, _, _, _, _, _, _, _, _, _, rfl⟩, HF.out, HB1.out.1⟩
            · rw [if_neg hg] at HN HS
              clear HN
              by_cases hg0 : 0 ≤ ln
              · have hg1 : ln = x2 / 8 := by
                  by_cases h : ln = lnP x2
                  · exact h
                  · exact absurd ⟨hg0, h⟩ hg
                subst hg1
                clear hg
                go_wp2_with fail
                refine HR1.out.mono ?_
                rintro e w1 ⟨rfl, hb1⟩
                have HB1 := Lib.hid (KEY.out w1 hb1)
                have c0 : w1.cell? ⟨wr.heap.size, 0, none⟩ = some (.int .i64 1) := by simp [World.cell?, HB1.out.2]
                have c1 : w1.cell? ⟨wr.heap.size, 1, none⟩ = some (.int .i64 x2) := by simp [World.cell?, HB1.out.2]
                clear hb1
                go_wp2
                exact ⟨FIN.out (x2 / 8) false _ HS.out HB1.out.1, by simp [intOf]; omega⟩
              · clear hg
                go_wp2_with fail
                refine HR1.out.mono ?_
                rintro e w1 ⟨rfl, hb1⟩
                have HB1 := Lib.hid (KEY.out w1 hb1)
                have c0 : w1.cell? ⟨wr.heap.size, 0, none⟩ = some (.int .i64 1) := by simp [World.cell?, HB1.out.2]
                have c1 : w1.cell? ⟨wr.heap.size, 1, none⟩ = some (.int .i64 x2) := by simp [World.cell?, HB1.out.2]
                clear hb1
                go_wp2
                exact ⟨FIN.out (x2 / 8) false _ HS.out HB1.out.1, by simp [intOf]; omega⟩
          · simp only [if_true, show (2 : Int) = 1 ↔ False by decide, if_false] at HN HS
            clear HN
            cases fl with
            | true =>
              simp only [Bool.true_or] at HS
              go_wp2_with fail
              refine HR1.out.mono ?_
              rintro e w1 ⟨rfl, hb1⟩
              have HB1 := Lib.hid (KEY.out w1 hb1)
              have c0 : w1.cell? ⟨wr.heap.size, 0, none⟩ = some (.int .i64 2) := by simp [World.cell?, HB1.out.2]
              have c1 : w1.cell? ⟨wr.heap.size, 1, none⟩ = some (.int .i64 x2) := by simp [World.cell?, HB1.out.2]
              clear hb1
              go_wp2
              exact ⟨FIN.out ln true _ HS.out HB1.out.1, by simp [intOf]; omega⟩
            | false =>
              simp only [Bool.false_or] at HS
              go_wp2_with fail
              refine HR1.out.mono ?_
              rintro e w1 ⟨rfl, hb1⟩
              have HB1 := Lib.hid (KEY.out w1 hb1)
              have c0 : w1.cell? ⟨wr.heap.size, 0, none⟩ = some (.int .i64 2) := by simp [World.cell?, HB1.out.2]
              have c1 : w1.cell? ⟨wr.heap.size, 1, none⟩ = some (.int .i64 x2) := by simp [World.cell?, HB1.out.2]
              clear hb1
              go_wp2
              exact ⟨FIN.out ln (decide (ln = x2)) _ HS.out HB1.out.1, by simp [intOf]; omega⟩
          · simp only [if_true, show (3 : Int) = 1 ↔ False by decide, show (3 : Int) = 2 ↔ False by decide, if_false] at HN HS
            by_cases hg0 : 0 ≤ ln
            · cases fl with
              | true =>
                rw [if_neg (by simp)] at HN HS
                clear HN
                go_wp2_with fail
                refine HR1.out.mono ?_
                rintro e w1 ⟨rfl, hb1⟩
                have HB1 := Lib.hid (KEY.out w1 hb1)
                have c0 : w1.cell? ⟨wr.heap.size, 0, none⟩ = some (.int .i64 3) := by simp [World.cell?, HB1.out.2]
                clear hb1
                go_wp2
                exact ⟨FIN.out (-1) false _ HS.out HB1.out.1, by simp [intOf]; omega⟩
              | false =>
                rw [if_pos ⟨hg0, rfl⟩] at HN HS
                have HF := Lib.hid (HN.out rfl)
                clear HN HS
                go_wp2_with fail
                refine HR1.out.mono ?_
                rintro e w1 ⟨rfl, hb1⟩
                have HB1 := Lib.hid (KEY.out w1 hb1)
                have c0 : w1.cell? ⟨wr.heap.size, 0, none⟩ = some (.int .i64 3) := by simp [World.cell?, HB1.out.2]
                clear hb1
                go_wp2
                apply wp_goto
                go_wp2
                simp only [Exit.jump]
                exact ⟨trivial, ⟨_, _, _, _, _, _, _, _, _, _, _, _, _, _, _, _, _, _, _, _, _, _, _, _, _, _, _, _, _, _, _, _, _, _, _, _, _, _, _, _, _, _, _, _, _, _, _, _, _, _, _, _, _, _, rfl⟩, HF.out, HB1.out.1⟩
            · rw [if_neg (fun h => hg0 h.1)] at HN HS
              clear HN
              go_wp2_with fail
              refine HR1.out.mono ?_
              rintro e w1 ⟨rfl, hb1⟩
              have HB1 := Lib.hid (KEY.out w1 hb1)
              have c0 : w1.cell? ⟨wr.heap.size, 0, none⟩ = some (.int .i64 3) := by simp [World.cell?, HB1.out.2]
              clear hb1
              go_wp2
              exact ⟨FIN.out (-1) false _ HS.out HB1.out.1, by simp [intOf]; omega⟩
      · obtain rfl : k = xs.length := by omega
        rw [List.take_length] at hrun
        have ho : orderedA xs = decide (ln < 0) := by unfold orderedA; rw [hrun]
        have HO := Lib.hid ho
        have HB := Lib.hid hb
        clear hrun ho hb
        go_wp2
        simp only [Exit.jump]
        go_ret
        rw [HO.out]
        exact ⟨rfl, HB.out⟩
end Go.Proofs.Ytaflbfmlajbjcaa
