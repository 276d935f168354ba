/- The walk of the reference's Of. -/
import Derived.Test.YtenmogokbelahaaExtG
namespace Go.Proofs.Ytenmogokbelahaa
open Go Go.RowKit

theorem placeL_okj {l : List Ext3} : ∀ j, j ≤ l.length → (∀ i (h : i < l.length), i < j → rightX l[i] = true) → ∀ t, placeL l j = some t → TabOk t
  | 0, _, _, t, h => by cases h; exact zeroT_ok
  | j + 1, hj, hr, t, h => by
    cases hp : placeL l j with
    | none => rw [placeL_none hp (Nat.le_succ j)] at h; cases h
    | some u =>
      rw [placeL_step (by omega) hp] at h
      have hx := (right_iff _).1 (hr j (by omega) (Nat.lt_succ_self j))
      exact placeK_ok (placeL_okj j (by omega) (fun i hi hij => hr i hi (by omega)) u hp) (by omega) (by omega) _ (Nat.le_refl _) t h
theorem zero_cellsM : Try.zeroCells95 = (tb zeroT).toArray := by kernel_rfl
theorem of_tail {l : List Ext3} {t : List Int} (h : ofX l = if listX t 128 = l then some t else none) : ∀ t', ofX l = some t' → t = t' := fun t' h' => by
  rw [h] at h'
  split at h'
  · cases h'; rfl
  · cases h'
theorem of_isSome {l : List Ext3} {t : List Int} {v : Value} (h : ofX l = if listX t 128 = l then some t else none) : Ending.returned (.tuple #[v, .bool (decide (listX t 128 = l))]) = Ending.returned (.tuple #[v, .bool (ofX l).isSome]) := by
  rw [h]
  by_cases e : listX t 128 = l
  · rw [if_pos e, decide_eq_true e]; rfl
  · rw [if_neg e, decide_eq_false e]; rfl
set_option maxRecDepth 100000 in
set_option maxHeartbeats 16000000 in
theorem refOfT_any (p : Option Addr) (cap : Nat) (l : List Ext3) (w : World) (hrd : RdS w.heap.size w p cap 3 xc l) :
    Calls Try.prog 48 #[.slice p l.length cap] w fun e w' => ∃ t' : List Int, t'.length = 128 ∧ (∀ t, ofX l = some t → t' = t) ∧ e = .returned (.tuple #[.agg (tb t').toArray, .bool (ofX l).isSome]) ∧ Below w.heap.size w w' := by
  have hlen := hrd.len
  obtain ⟨n, hn⟩ : ∃ n, l.length = n := ⟨_, rfl⟩
  have HR := Lib.hid hrd
  have HN := Lib.hid hn
  rw [hn] at hlen
  rw [hn]
  clear hrd hn
  have hw1 := TabAt.new w 95 zeroT
  rw [← zero_cellsM] at hw1
  have hb1 := below_allocX w (.cells Try.zeroCells95 95)
  obtain ⟨w1, hW1⟩ : ∃ w1, w.alloc (.cells Try.zeroCells95 95) = w1 := ⟨_, rfl⟩
  obtain ⟨T, hT⟩ : ∃ T, w.heap.size = T := ⟨_, rfl⟩
  rw [hW1, hT] at hw1
  rw [hW1] at hb1
  have hs1 : w1.heap.size = T + 1 := by rw [← hW1, ← hT]; simp
  have hw2 := TabAt.new w1 95 zeroT
  rw [← zero_cellsM, hs1] at hw2
  have hb2 := below_allocX w1 (.cells Try.zeroCells95 95)
  obtain ⟨w2, hW2⟩ : ∃ w2, w1.alloc (.cells Try.zeroCells95 95) = w2 := ⟨_, rfl⟩
  rw [hW2] at hw2 hb2
  have HW := Lib.hid (And.intro hW1 (And.intro hT (And.intro hW2 hs1)))
  have H2 : Hid (TabAt w2 T 95 zeroT ∧ TabAt w2 (T + 1) 95 zeroT ∧ Below w.heap.size w w2) := Lib.hid ⟨hw1.below hb2, hw2, hb1.trans (hb2.mono hb1.size)⟩
  clear hw1 hb1 hW1 hT hw2 hb2 hW2 hs1
  go_enter Try.func48, Try.ntmps48
  go_upto_region 1 with fail
  rw [HW.out.1, HW.out.2.1]
  go_upto_region 2 with fail
  rw [HW.out.2.2.1, HW.out.2.2.2]
  by_cases h10 : 10 < n
  · have d1 : decide (10 < (n : Int)) = true := decide_eq_true (by omega)
    have HNO := Lib.hid (of_long (l := l) (by rw [HN.out]; exact h10))
    clear h10
    go_wp2_with (first | (refine wpList_load_mid rfl 95 (.tmp 4) rfl (T + 1) 0 rfl (tb zeroT) (.array 128 3) H2.out.2.1.range (by kernel_rfl) rfl (by rw [tb_len, zeroT_ok.len]; kernel_rfl) ?_) | (refine wpList_store_mid rfl 95 (.tmp 2) (.tmp 10) rfl T 0 (tb zeroT).toArray rfl rfl (by simpa [tb_len, zeroT, zeroT_ok.len] using H2.out.1.there) (by simp only [List.size_toArray, tb_len, zeroT_ok.len]; kernel_rfl) (all_oneCell_toArray (tb_one _)) ?_))
    have htz := H2.out.1.sets zeroT (zeroT_ok.len.trans zeroT_ok.len.symm)
    have hbz : Below w.heap.size w (w2.setCells T 0 (tb zeroT)) := H2.out.2.2.trans ((setCellsX_frn _ _ _).below H2.out.2.2.size (fun b e => by have := HW.out.2.1; omega))
    refine bodyPost_ret (results_ct rfl _ _ rfl (run_loadVar_mid _ T 0 95 (tb zeroT) (.array 128 3) htz.range (by kernel_rfl) rfl (by rw [tb_len, zeroT_ok.len]; kernel_rfl)) rfl) rfl ?_
    exact ⟨zeroT, zeroT_ok.len, fun t h => (by rw [HNO.out] at h; cases h), by rw [HNO.out]; rfl, hbz⟩
  · have d1 : decide (10 < (n : Int)) = false := decide_eq_false (by omega)
    have H10 := Lib.hid h10
    clear h10
    go_wp2_with fail
    go_loopw [5] (fun i wr => ∃ (j : Nat) (t : List Int), j ≤ n ∧ i = .int .i64 j ∧ placeL l j = some t ∧ (∀ i (h : i < l.length), i < j → rightX l[i] = true) ∧ TabAt wr T 95 zeroT ∧ TabAt wr (T + 1) 95 t ∧ Below w.heap.size w wr) (fun i _ => n - (intOf i).toNat)
    case atStart => exact ⟨0, zeroT, Nat.zero_le _, rfl, rfl, fun i h h0 => absurd h0 (Nat.not_lt_zero i), H2.out⟩
    case round =>
      clear H2
      obtain ⟨j, t, hj, rfl, hpl, hrt, h0, hta, hb⟩ := hrel
      have hok := placeL_okj j (by rw [HN.out]; exact hj) hrt t hpl
      by_cases hlt : j < n
      · have hlt' : (j : Int) < (n : Int) := by omega
        have hjl : j < l.length := by rw [HN.out]; exact hlt
        obtain ⟨g, o, rfl, hg, hxw⟩ := HR.out.rowsX (Nat.le_refl _) j hjl
        obtain ⟨x, hx⟩ : ∃ x, l[j] = x := ⟨_, rfl⟩
        rw [hx] at hxw
        obtain ⟨f, d, m⟩ := x
        simp only at hxw
        have HXW := Lib.hid hxw
        have hxr := hxw.below hb
        obtain ⟨a0, a1, a2, hgw⟩ := hxr
        have HRR := Lib.hid (refRightX_any f d m wr)
        have HJL := Lib.hid hjl
        have HS := Lib.hid (And.intro h0 (And.intro hta (And.intro hb (And.intro hok.len hok))))
        have HPL := Lib.hid (And.intro hpl hrt)
        by_cases hr : rightX (f, d, m) = true
        · have hxr := (right_iff _).1 hr
          simp only at hxr
          obtain ⟨F, rfl⟩ : ∃ F : Nat, f = F := ⟨f.toNat, by omega⟩
          obtain ⟨D, rfl⟩ : ∃ D : Nat, d = D := ⟨d.toNat, by omega⟩
          obtain ⟨Mm, rfl⟩ : ∃ Mm : Nat, m = Mm := ⟨m.toNat, by omega⟩
          have hx0 : F + Mm ≤ 128 ∧ 1 ≤ D ∧ D + Mm ≤ 2048 := by omega
          have hM8 : (Mm : Int) ≤ 128 := by omega
          have HJ := Lib.hid (And.intro (show ∀ h : j < l.length, l[j]'h = ((F : Int), (D : Int), (Mm : Int)) from fun _ => hx) (And.intro hr hx0))
          rw [hr] at HRR
          clear hxr hx hpl hrt hok h0 hta hb hxw hjl hr hx0
          go_wp2_with fail
          refine HRR.out.mono ?_
          rintro e w3 ⟨rfl, hb3⟩
          have H3 : Hid (TabAt w3 T 95 zeroT ∧ TabAt w3 (T + 1) 95 t ∧ Below w.heap.size w w3) := Lib.hid ⟨HS.out.1.below hb3, HS.out.2.1.below hb3, HS.out.2.2.1.trans (hb3.mono HS.out.2.2.1.size)⟩
          clear a0 a1 a2 hgw hb3 HRR
          go_wp2_with fail
          go_loopw [6] (fun i wr => ∃ (k : Nat) (u : List Int), k ≤ Mm ∧ i = .int .i64 k ∧ placeK t F D k = some u ∧ TabAt wr T 95 zeroT ∧ TabAt wr (T + 1) 95 u ∧ Below w.heap.size w wr) (fun i _ => Mm - (intOf i).toNat)
          case atStart => exact ⟨0, t, Nat.zero_le _, rfl, rfl, H3.out⟩
          case round =>
            clear H3
            obtain ⟨k, u, hk, rfl, hpk, h0, hta, hb⟩ := hrel
            obtain ⟨a0, a1, a2, hgw⟩ := HXW.out.below hb
            have hou := placeK_ok HS.out.2.2.2.2 (f := F) (d := D) (m := Mm) HJ.out.2.2.1 HJ.out.2.2.2.2 k (by omega) u hpk
            by_cases hltk : k < Mm
            · have hltk' : (k : Int) < (Mm : Int) := by omega
              have hx0 := HJ.out.2.2
              have hFk : F + k < u.length := by rw [hou.len]; omega
              obtain ⟨A, hA⟩ : ∃ A, F + k = A := ⟨_, rfl⟩
              obtain ⟨E, hE⟩ : ∃ E, D + k = E := ⟨_, rfl⟩
              have hw1 : IntKind.i64.wrap ((F : Int) + (k : Int)) = (A : Int) := by rw [IntKind.wrap_i64]; omega
              have hw2 : IntKind.i64.wrap ((D : Int) + (k : Int)) = (E : Int) := by rw [IntKind.wrap_i64]; omega
              rw [hA] at hFk
              obtain ⟨a, ha⟩ : ∃ a, u[A] = a := ⟨_, rfl⟩
              have hgd : u.getD A 0 = a := by rw [List.getD_eq_getElem?_getD, List.getElem?_eq_getElem hFk]; exact ha
              obtain ⟨tc, tf⟩ := hta.cell A hFk
              rw [ha] at tc
              have hA1 : (A : Int) < 128 := by omega
              have hA0 : (0 : Int) ≤ (A : Int) := by omega
              have HK := Lib.hid (And.intro hpk (And.intro hou (And.intro hA (And.intro hE hgd))))
              have HU := Lib.hid (And.intro h0 (And.intro hta hb))
              have HFK := Lib.hid hFk
              have hul := hou.len
              have HUL := Lib.hid hul
              have hrg := hta.range
              have hgT : g ≠ T + 1 := by have := HW.out.2.1; omega
              have HSB : Hid (∀ V, Below wr.heap.size wr V → V.cell? ⟨g, o + j * 3, none⟩ = some (.int .i64 F) ∧ V.cell? ⟨g, o + j * 3 + 1, none⟩ = some (.int .i64 D) ∧ V.cell? ⟨T + 1, A, none⟩ = some (.int .i64 a) ∧ V.rangeAt (T + 1) 0 (tb u)) := Lib.hid (fun V hV => ⟨(hV.cell (p := ⟨g, o + j * 3, none⟩) hgw).trans a0, (hV.cell (p := ⟨g, o + j * 3 + 1, none⟩) hgw).trans a1, (hV.cell (p := ⟨T + 1, A, none⟩) hta.lt).trans tc, (hta.below hV).range⟩)
              clear hpk hou hA hE hgd h0 hta hb ha hFk hx0 hul
              by_cases ha0 : a = 0
              · by_cases hd : (E : Int) ∈ u
                · have ba : (a != 0) = false := by rw [ha0]; rfl
                  have ba2 : (a == 0) = true := by rw [ha0]; rfl
                  have HHA : Hid (Calls Try.prog 81 #[.agg (tb u).toArray, .int .i64 (E : Int)] wr.drew fun e w' => e = .returned (.bool true) ∧ Below wr.heap.size wr w') := Lib.hid ((hasT_any u (E : Int) wr.drew HK.out.2.1).mono (fun e w' h => ⟨by rw [h.1, decide_eq_true hd], (Below.refl _ wr).drew.trans h.2⟩))
                  have HNO : Hid (ofX l = none) := Lib.hid (of_none (place_bad HJL.out (HJ.out.1 HJL.out) HPL.out.1 (k := k) (u := u) (by simpa using hltk) (by simpa using HK.out.1) (.inr (by simp only [Int.toNat_natCast]; rw [HK.out.2.2.2.1]; exact hd))))
                  clear ha0 hd
                  go_upto_region 12 with fail
                  refine wp_region_noPanic ?_
                  refine wp_region_held_drew (S := (fun w' => w'.cell? ⟨g, o + j * 3, none⟩ = some (.int .i64 F) ∧ w'.cell? ⟨g, o + j * 3 + 1, none⟩ = some (.int .i64 D) ∧ w'.cell? ⟨T + 1, A, none⟩ = some (.int .i64 a) ∧ w'.rangeAt (T + 1) 0 (tb u))) (by kernel_rfl) ?_ (fun hHeld => ?_)
                  · exact ⟨a0, a1, tc, hrg⟩
                  refine' wpAnyH_take (i := 0) (v := _) rfl (by kernel_rfl) (by kernel_rfl) (by kernel_rfl) (fun _ _ _ h => h) (Or.inl ⟨by rfl, ?hy⟩) hHeld _
                  case hy => (intro w0 hSw; (try dsimp only at hSw); (try simp only [List.getElem_toArray, List.getElem_cons_zero, List.getElem_cons_succ]); go_simp; first | done | with_reducible rfl)
                  try simp only [Act.put, List.getElem_toArray, List.getElem_cons_zero, List.getElem_cons_succ, List.setIfInBounds_toArray, List.set_cons_zero, List.set_cons_succ]
                  refine' wpAnyH_take (i := 1) (v := _) rfl (by kernel_rfl) (by kernel_rfl) (by kernel_rfl) (fun _ _ _ h => h) (Or.inl ⟨by rfl, ?hy⟩) hHeld _
                  case hy => (intro w0 hSw; (try dsimp only at hSw); (try simp only [List.getElem_toArray, List.getElem_cons_zero, List.getElem_cons_succ]); go_simp; first | done | with_reducible rfl)
                  try simp only [Act.put, List.getElem_toArray, List.getElem_cons_zero, List.getElem_cons_succ, List.setIfInBounds_toArray, List.set_cons_zero, List.set_cons_succ]
                  refine' wpAnyH_take (i := 2) (v := _) rfl (by kernel_rfl) (by kernel_rfl) (by kernel_rfl) (fun _ _ _ h => h) (Or.inl ⟨by rfl, ?hy⟩) hHeld _
                  case hy => (intro w0 hSw; (try dsimp only at hSw); (try simp only [List.getElem_toArray, List.getElem_cons_zero, List.getElem_cons_succ]); go_simp; first | done | with_reducible rfl)
                  try simp only [Act.put, List.getElem_toArray, List.getElem_cons_zero, List.getElem_cons_succ, List.setIfInBounds_toArray, List.set_cons_zero, List.set_cons_succ]
                  refine' wpAnyH_take (i := 3) (v := _) rfl (by kernel_rfl) (by kernel_rfl) (by kernel_rfl) (fun _ _ _ h => h) (Or.inl ⟨by rfl, ?hy⟩) hHeld _
                  case hy => (intro w0 hSw; (try dsimp only at hSw); (try simp only [List.getElem_toArray, List.getElem_cons_zero, List.getElem_cons_succ]); go_simp; first | done | with_reducible rfl)
                  try simp only [Act.put, List.getElem_toArray, List.getElem_cons_zero, List.getElem_cons_succ, List.setIfInBounds_toArray, List.set_cons_zero, List.set_cons_succ]
                  refine' wpAnyH_take (i := 4) (v := _) rfl (by kernel_rfl) (by kernel_rfl) (by kernel_rfl) (fun _ _ _ h => h) (Or.inl ⟨by rfl, ?hy⟩) hHeld _
                  case hy => (intro w0 hSw; (try dsimp only at hSw); (try simp only [List.getElem_toArray, List.getElem_cons_zero, List.getElem_cons_succ]); go_simp; first | done | with_reducible rfl)
                  try simp only [Act.put, List.getElem_toArray, List.getElem_cons_zero, List.getElem_cons_succ, List.setIfInBounds_toArray, List.set_cons_zero, List.set_cons_succ]
                  refine' wpAnyH_take (i := 5) (v := _) rfl (by kernel_rfl) (by kernel_rfl) (by kernel_rfl) (fun _ _ _ h => h) (Or.inl ⟨by rfl, ?hy⟩) hHeld _
                  case hy => (intro w0 hSw; (try dsimp only at hSw); (try simp only [List.getElem_toArray, List.getElem_cons_zero, List.getElem_cons_succ]); go_simp; first | done | with_reducible rfl)
                  try simp only [Act.put, List.getElem_toArray, List.getElem_cons_zero, List.getElem_cons_succ, List.setIfInBounds_toArray, List.set_cons_zero, List.set_cons_succ]
                  refine' wpAnyH_take (i := 6) (v := _) rfl (by kernel_rfl) (by kernel_rfl) (by kernel_rfl) (fun _ _ _ h => h) (Or.inl ⟨by rfl, ?hy⟩) hHeld _
                  case hy => (intro w0 hSw; (try dsimp only at hSw); (try simp only [List.getElem_toArray, List.getElem_cons_zero, List.getElem_cons_succ]); go_simp; first | done | with_reducible rfl)
                  try simp only [Act.put, List.getElem_toArray, List.getElem_cons_zero, List.getElem_cons_succ, List.setIfInBounds_toArray, List.set_cons_zero, List.set_cons_succ]
                  refine' wpAnyH_take (i := 7) (v := _) rfl (by kernel_rfl) (by kernel_rfl) (by kernel_rfl) (fun _ _ _ h => h) (Or.inl ⟨by rfl, ?hy⟩) hHeld _
                  case hy => (intro w0 hSw; (try dsimp only at hSw); (try simp only [List.getElem_toArray, List.getElem_cons_zero, List.getElem_cons_succ]); go_simp; first | done | with_reducible rfl)
                  try simp only [Act.put, List.getElem_toArray, List.getElem_cons_zero, List.getElem_cons_succ, List.setIfInBounds_toArray, List.set_cons_zero, List.set_cons_succ]
                  refine' wpAnyH_take (i := 8) (v := _) rfl (by kernel_rfl) (by kernel_rfl) (by kernel_rfl) (fun _ _ _ h => h) (Or.inl ⟨by rfl, ?hy⟩) hHeld _
                  case hy => (intro w0 hSw; (try dsimp only at hSw); (try simp only [List.getElem_toArray, List.getElem_cons_zero, List.getElem_cons_succ]); go_simp; first | done | with_reducible rfl)
                  try simp only [Act.put, List.getElem_toArray, List.getElem_cons_zero, List.getElem_cons_succ, List.setIfInBounds_toArray, List.set_cons_zero, List.set_cons_succ]
                  refine' wpAnyH_take (i := 9) (v := _) rfl (by kernel_rfl) (by kernel_rfl) (by kernel_rfl) (fun _ _ _ h => h) (Or.inl ⟨by rfl, ?hy⟩) hHeld _
                  case hy => (intro w0 hSw; (try dsimp only at hSw); (try simp only [List.getElem_toArray, List.getElem_cons_zero, List.getElem_cons_succ]); go_simp; first | done | with_reducible rfl)
                  try simp only [Act.put, List.getElem_toArray, List.getElem_cons_zero, List.getElem_cons_succ, List.setIfInBounds_toArray, List.set_cons_zero, List.set_cons_succ]
                  refine' wpAnyH_take (i := 10) (v := _) rfl (by kernel_rfl) (by kernel_rfl) (by kernel_rfl) (fun _ _ _ h => h) (Or.inl ⟨by rfl, ?hy⟩) hHeld _
                  case hy => (intro w0 hSw; (try dsimp only at hSw); (try simp only [List.getElem_toArray, List.getElem_cons_zero, List.getElem_cons_succ]); go_simp; first | done | with_reducible rfl)
                  try simp only [Act.put, List.getElem_toArray, List.getElem_cons_zero, List.getElem_cons_succ, List.setIfInBounds_toArray, List.set_cons_zero, List.set_cons_succ]
                  refine' wpAnyH_take (i := 11) (v := (.agg (tb u).toArray)) rfl (by kernel_rfl) (by kernel_rfl) (by kernel_rfl) (fun _ _ _ h => h) (yieldsIf_load_mid (by rfl) 95 (.tmp 4) rfl (T + 1) 0 rfl (tb u) (.array 128 3) (fun _ h => h.2.2.2) (by kernel_rfl) rfl (by rw [tb_len, HUL.out]; kernel_rfl)) hHeld _
                  try simp only [Act.put, List.getElem_toArray, List.getElem_cons_zero, List.getElem_cons_succ, List.setIfInBounds_toArray, List.set_cons_zero, List.set_cons_succ]
                  refine' wpAnyH_take (i := 12) (v := _) rfl (by kernel_rfl) (by kernel_rfl) (by kernel_rfl) (fun _ _ _ h => h) (Or.inl ⟨by rfl, ?hy⟩) hHeld _
                  case hy => (intro w0 hSw; (try dsimp only at hSw); (try simp only [List.getElem_toArray, List.getElem_cons_zero, List.getElem_cons_succ]); go_simp; first | done | with_reducible rfl)
                  try simp only [Act.put, List.getElem_toArray, List.getElem_cons_zero, List.getElem_cons_succ, List.setIfInBounds_toArray, List.set_cons_zero, List.set_cons_succ]
                  refine' wpAnyH_take (i := 13) (v := _) rfl (by kernel_rfl) (by kernel_rfl) (by kernel_rfl) (fun _ _ _ h => h) (Or.inl ⟨by rfl, ?hy⟩) hHeld _
                  case hy => (intro w0 hSw; (try dsimp only at hSw); (try simp only [List.getElem_toArray, List.getElem_cons_zero, List.getElem_cons_succ]); go_simp; first | done | with_reducible rfl)
                  try simp only [Act.put, List.getElem_toArray, List.getElem_cons_zero, List.getElem_cons_succ, List.setIfInBounds_toArray, List.set_cons_zero, List.set_cons_succ]
                  refine' wpAnyH_take (i := 14) (v := _) rfl (by kernel_rfl) (by kernel_rfl) (by kernel_rfl) (fun _ _ _ h => h) (Or.inl ⟨by rfl, ?hy⟩) hHeld _
                  case hy => (intro w0 hSw; (try dsimp only at hSw); (try simp only [List.getElem_toArray, List.getElem_cons_zero, List.getElem_cons_succ]); go_simp; first | done | with_reducible rfl)
                  try simp only [Act.put, List.getElem_toArray, List.getElem_cons_zero, List.getElem_cons_succ, List.setIfInBounds_toArray, List.set_cons_zero, List.set_cons_succ]
                  refine' wpAnyH_take (i := 15) (v := _) rfl (by kernel_rfl) (by kernel_rfl) (by kernel_rfl) (fun _ _ _ h => h) (Or.inl ⟨by rfl, ?hy⟩) hHeld _
                  case hy => (intro w0 hSw; (try dsimp only at hSw); (try simp only [List.getElem_toArray, List.getElem_cons_zero, List.getElem_cons_succ]); go_simp; first | done | with_reducible rfl)
                  try simp only [Act.put, List.getElem_toArray, List.getElem_cons_zero, List.getElem_cons_succ, List.setIfInBounds_toArray, List.set_cons_zero, List.set_cons_succ]
                  refine' wpAnyH_take (i := 16) (v := _) rfl (by kernel_rfl) (by kernel_rfl) (by kernel_rfl) (fun _ _ _ h => h) (Or.inl ⟨by rfl, ?hy⟩) hHeld _
                  case hy => (intro w0 hSw; (try dsimp only at hSw); (try simp only [List.getElem_toArray, List.getElem_cons_zero, List.getElem_cons_succ]); go_simp; first | done | with_reducible rfl)
                  try simp only [Act.put, List.getElem_toArray, List.getElem_cons_zero, List.getElem_cons_succ, List.setIfInBounds_toArray, List.set_cons_zero, List.set_cons_succ]
                  refine' wpAnyH_take (i := 17) (v := _) rfl (by kernel_rfl) (by kernel_rfl) (by kernel_rfl) (fun _ _ _ h => h) (Or.inl ⟨by rfl, ?hy⟩) hHeld _
                  case hy => (intro w0 hSw; (try dsimp only at hSw); (try simp only [List.getElem_toArray, List.getElem_cons_zero, List.getElem_cons_succ]); go_simp; first | done | with_reducible rfl)
                  try simp only [Act.put, List.getElem_toArray, List.getElem_cons_zero, List.getElem_cons_succ, List.setIfInBounds_toArray, List.set_cons_zero, List.set_cons_succ]
                  refine' wpAnyH_take (i := 18) (v := _) rfl (by kernel_rfl) (by kernel_rfl) (by kernel_rfl) (fun _ _ _ h => h) (Or.inl ⟨by rfl, ?hy⟩) hHeld _
                  case hy => (intro w0 hSw; (try dsimp only at hSw); (try simp only [List.getElem_toArray, List.getElem_cons_zero, List.getElem_cons_succ]); go_simp; first | done | with_reducible rfl)
                  try simp only [Act.put, List.getElem_toArray, List.getElem_cons_zero, List.getElem_cons_succ, List.setIfInBounds_toArray, List.set_cons_zero, List.set_cons_succ]
                  refine wpAnyH_ready (rs := [19]) (by kernel_rfl) (by simp) ?_
                  refine AllReadyH.cons rfl (fun K hK => ?_) AllReadyH.nil
                  go_simp
                  refine HHA.out.mono ?_
                  rintro e w8 ⟨rfl, hb8⟩
                  have HB8 := Lib.hid hb8
                  clear hb8
                  clear hHeld
                  refine hK.out _ _ ?_ (fun hHeld => ?_)
                  · exact HSB.out _ HB8.out
                  clear hK K
                  try simp only [Act.put, List.getElem_toArray, List.getElem_cons_zero, List.getElem_cons_succ, List.setIfInBounds_toArray, List.set_cons_zero, List.set_cons_succ]
                  refine' wpAnyH_take (i := 20) (v := _) rfl (by kernel_rfl) (by kernel_rfl) (by kernel_rfl) (fun _ _ _ h => h) (Or.inl ⟨by rfl, ?hy⟩) hHeld _
                  case hy => (intro w0 hSw; (try dsimp only at hSw); (try simp only [List.getElem_toArray, List.getElem_cons_zero, List.getElem_cons_succ]); go_simp; first | done | with_reducible rfl)
                  try simp only [Act.put, List.getElem_toArray, List.getElem_cons_zero, List.getElem_cons_succ, List.setIfInBounds_toArray, List.set_cons_zero, List.set_cons_succ]
                  refine wpAnyH_done (by kernel_rfl) ?_ _
                  refine NoPanic.normal ?_
                  have HD : Hid (TabAt w8 T 95 zeroT ∧ TabAt w8 (T + 1) 95 u ∧ Below w.heap.size w w8) := Lib.hid ⟨HU.out.1.below HB8.out, HU.out.2.1.below HB8.out, HU.out.2.2.trans (HB8.out.mono HU.out.2.2.size)⟩
                  have h8 := HSB.out w8 HB8.out
                  clear hHeld HHA a0 a1 a2 tc tf hrg
                  go_wp2_with (first | (refine wpList_load_mid rfl 95 (.tmp 4) rfl (T + 1) 0 rfl (tb u) (.array 128 3) HD.out.2.1.range (by kernel_rfl) rfl (by rw [tb_len, HUL.out]; kernel_rfl) ?_) | (refine wpList_store_mid rfl 95 (.tmp 2) (.tmp 54) rfl T 0 (tb u).toArray rfl rfl (by simpa [tb_len, zeroT, HUL.out] using HD.out.1.there) (by simp only [List.size_toArray, tb_len, HUL.out]; kernel_rfl) (all_oneCell_toArray (tb_one _)) ?_))
                  have htz := HD.out.1.sets u (zeroT_ok.len.trans HUL.out.symm)
                  have hbz : Below w.heap.size w (w8.setCells T 0 (tb u)) := HD.out.2.2.trans ((setCellsX_frn _ _ _).below HD.out.2.2.size (fun b e => by have := HW.out.2.1; omega))
                  refine bodyPost_ret (results_ct rfl _ _ rfl (run_loadVar_mid _ T 0 95 (tb u) (.array 128 3) htz.range (by kernel_rfl) rfl (by rw [tb_len, HUL.out]; kernel_rfl)) rfl) rfl ?_
                  exact ⟨u, HUL.out, fun t h => (by rw [HNO.out] at h; cases h), by rw [HNO.out]; rfl, hbz⟩
                · have ba : (a != 0) = false := by rw [ha0]; rfl
                  have ba2 : (a == 0) = true := by rw [ha0]; rfl
                  have HHA : Hid (Calls Try.prog 81 #[.agg (tb u).toArray, .int .i64 (E : Int)] wr.drew fun e w' => e = .returned (.bool false) ∧ Below wr.heap.size wr w') := Lib.hid ((hasT_any u (E : Int) wr.drew HK.out.2.1).mono (fun e w' h => ⟨by rw [h.1, decide_eq_false hd], (Below.refl _ wr).drew.trans h.2⟩))
                  have HG : Hid (placeK t F D (k + 1) = some (u.set A (E : Int))) := Lib.hid (by have h9 := place_good HK.out.1 (by rw [HK.out.2.2.1, HK.out.2.2.2.2]; exact ha0) (by rw [HK.out.2.2.2.1]; exact hd); rwa [HK.out.2.2.1, HK.out.2.2.2.1] at h9)
                  clear ha0 hd
                  go_upto_region 12 with fail
                  refine wp_region_noPanic ?_
                  refine wp_region_held_drew (S := (fun w' => w'.cell? ⟨g, o + j * 3, none⟩ = some (.int .i64 F) ∧ w'.cell? ⟨g, o + j * 3 + 1, none⟩ = some (.int .i64 D) ∧ w'.cell? ⟨T + 1, A, none⟩ = some (.int .i64 a) ∧ w'.rangeAt (T + 1) 0 (tb u))) (by kernel_rfl) ?_ (fun hHeld => ?_)
                  · exact ⟨a0, a1, tc, hrg⟩
                  refine' wpAnyH_take (i := 0) (v := _) rfl (by kernel_rfl) (by kernel_rfl) (by kernel_rfl) (fun _ _ _ h => h) (Or.inl ⟨by rfl, ?hy⟩) hHeld _
                  case hy => (intro w0 hSw; (try dsimp only at hSw); (try simp only [List.getElem_toArray, List.getElem_cons_zero, List.getElem_cons_succ]); go_simp; first | done | with_reducible rfl)
                  try simp only [Act.put, List.getElem_toArray, List.getElem_cons_zero, List.getElem_cons_succ, List.setIfInBounds_toArray, List.set_cons_zero, List.set_cons_succ]
                  refine' wpAnyH_take (i := 1) (v := _) rfl (by kernel_rfl) (by kernel_rfl) (by kernel_rfl) (fun _ _ _ h => h) (Or.inl ⟨by rfl, ?hy⟩) hHeld _
                  case hy => (intro w0 hSw; (try dsimp only at hSw); (try simp only [List.getElem_toArray, List.getElem_cons_zero, List.getElem_cons_succ]); go_simp; first | done | with_reducible rfl)
                  try simp only [Act.put, List.getElem_toArray, List.getElem_cons_zero, List.getElem_cons_succ, List.setIfInBounds_toArray, List.set_cons_zero, List.set_cons_succ]
                  refine' wpAnyH_take (i := 2) (v := _) rfl (by kernel_rfl) (by kernel_rfl) (by kernel_rfl) (fun _ _ _ h => h) (Or.inl ⟨by rfl, ?hy⟩) hHeld _
                  case hy => (intro w0 hSw; (try dsimp only at hSw); (try simp only [List.getElem_toArray, List.getElem_cons_zero, List.getElem_cons_succ]); go_simp; first | done | with_reducible rfl)
                  try simp only [Act.put, List.getElem_toArray, List.getElem_cons_zero, List.getElem_cons_succ, List.setIfInBounds_toArray, List.set_cons_zero, List.set_cons_succ]
                  refine' wpAnyH_take (i := 3) (v := _) rfl (by kernel_rfl) (by kernel_rfl) (by kernel_rfl) (fun _ _ _ h => h) (Or.inl ⟨by rfl, ?hy⟩) hHeld _
                  case hy => (intro w0 hSw; (try dsimp only at hSw); (try simp only [List.getElem_toArray, List.getElem_cons_zero, List.getElem_cons_succ]); go_simp; first | done | with_reducible rfl)
                  try simp only [Act.put, List.getElem_toArray, List.getElem_cons_zero, List.getElem_cons_succ, List.setIfInBounds_toArray, List.set_cons_zero, List.set_cons_succ]
                  refine' wpAnyH_take (i := 4) (v := _) rfl (by kernel_rfl) (by kernel_rfl) (by kernel_rfl) (fun _ _ _ h => h) (Or.inl ⟨by rfl, ?hy⟩) hHeld _
                  case hy => (intro w0 hSw; (try dsimp only at hSw); (try simp only [List.getElem_toArray, List.getElem_cons_zero, List.getElem_cons_succ]); go_simp; first | done | with_reducible rfl)
                  try simp only [Act.put, List.getElem_toArray, List.getElem_cons_zero, List.getElem_cons_succ, List.setIfInBounds_toArray, List.set_cons_zero, List.set_cons_succ]
                  refine' wpAnyH_take (i := 5) (v := _) rfl (by kernel_rfl) (by kernel_rfl) (by kernel_rfl) (fun _ _ _ h => h) (Or.inl ⟨by rfl, ?hy⟩) hHeld _
                  case hy => (intro w0 hSw; (try dsimp only at hSw); (try simp only [List.getElem_toArray, List.getElem_cons_zero, List.getElem_cons_succ]); go_simp; first | done | with_reducible rfl)
                  try simp only [Act.put, List.getElem_toArray, List.getElem_cons_zero, List.getElem_cons_succ, List.setIfInBounds_toArray, List.set_cons_zero, List.set_cons_succ]
                  refine' wpAnyH_take (i := 6) (v := _) rfl (by kernel_rfl) (by kernel_rfl) (by kernel_rfl) (fun _ _ _ h => h) (Or.inl ⟨by rfl, ?hy⟩) hHeld _
                  case hy => (intro w0 hSw; (try dsimp only at hSw); (try simp only [List.getElem_toArray, List.getElem_cons_zero, List.getElem_cons_succ]); go_simp; first | done | with_reducible rfl)
                  try simp only [Act.put, List.getElem_toArray, List.getElem_cons_zero, List.getElem_cons_succ, List.setIfInBounds_toArray, List.set_cons_zero, List.set_cons_succ]
                  refine' wpAnyH_take (i := 7) (v := _) rfl (by kernel_rfl) (by kernel_rfl) (by kernel_rfl) (fun _ _ _ h => h) (Or.inl ⟨by rfl, ?hy⟩) hHeld _
                  case hy => (intro w0 hSw; (try dsimp only at hSw); (try simp only [List.getElem_toArray, List.getElem_cons_zero, List.getElem_cons_succ]); go_simp; first | done | with_reducible rfl)
                  try simp only [Act.put, List.getElem_toArray, List.getElem_cons_zero, List.getElem_cons_succ, List.setIfInBounds_toArray, List.set_cons_zero, List.set_cons_succ]
                  refine' wpAnyH_take (i := 8) (v := _) rfl (by kernel_rfl) (by kernel_rfl) (by kernel_rfl) (fun _ _ _ h => h) (Or.inl ⟨by rfl, ?hy⟩) hHeld _
                  case hy => (intro w0 hSw; (try dsimp only at hSw); (try simp only [List.getElem_toArray, List.getElem_cons_zero, List.getElem_cons_succ]); go_simp; first | done | with_reducible rfl)
                  try simp only [Act.put, List.getElem_toArray, List.getElem_cons_zero, List.getElem_cons_succ, List.setIfInBounds_toArray, List.set_cons_zero, List.set_cons_succ]
                  refine' wpAnyH_take (i := 9) (v := _) rfl (by kernel_rfl) (by kernel_rfl) (by kernel_rfl) (fun _ _ _ h => h) (Or.inl ⟨by rfl, ?hy⟩) hHeld _
                  case hy => (intro w0 hSw; (try dsimp only at hSw); (try simp only [List.getElem_toArray, List.getElem_cons_zero, List.getElem_cons_succ]); go_simp; first | done | with_reducible rfl)
                  try simp only [Act.put, List.getElem_toArray, List.getElem_cons_zero, List.getElem_cons_succ, List.setIfInBounds_toArray, List.set_cons_zero, List.set_cons_succ]
                  refine' wpAnyH_take (i := 10) (v := _) rfl (by kernel_rfl) (by kernel_rfl) (by kernel_rfl) (fun _ _ _ h => h) (Or.inl ⟨by rfl, ?hy⟩) hHeld _
                  case hy => (intro w0 hSw; (try dsimp only at hSw); (try simp only [List.getElem_toArray, List.getElem_cons_zero, List.getElem_cons_succ]); go_simp; first | done | with_reducible rfl)
                  try simp only [Act.put, List.getElem_toArray, List.getElem_cons_zero, List.getElem_cons_succ, List.setIfInBounds_toArray, List.set_cons_zero, List.set_cons_succ]
                  refine' wpAnyH_take (i := 11) (v := (.agg (tb u).toArray)) rfl (by kernel_rfl) (by kernel_rfl) (by kernel_rfl) (fun _ _ _ h => h) (yieldsIf_load_mid (by rfl) 95 (.tmp 4) rfl (T + 1) 0 rfl (tb u) (.array 128 3) (fun _ h => h.2.2.2) (by kernel_rfl) rfl (by rw [tb_len, HUL.out]; kernel_rfl)) hHeld _
                  try simp only [Act.put, List.getElem_toArray, List.getElem_cons_zero, List.getElem_cons_succ, List.setIfInBounds_toArray, List.set_cons_zero, List.set_cons_succ]
                  refine' wpAnyH_take (i := 12) (v := _) rfl (by kernel_rfl) (by kernel_rfl) (by kernel_rfl) (fun _ _ _ h => h) (Or.inl ⟨by rfl, ?hy⟩) hHeld _
                  case hy => (intro w0 hSw; (try dsimp only at hSw); (try simp only [List.getElem_toArray, List.getElem_cons_zero, List.getElem_cons_succ]); go_simp; first | done | with_reducible rfl)
                  try simp only [Act.put, List.getElem_toArray, List.getElem_cons_zero, List.getElem_cons_succ, List.setIfInBounds_toArray, List.set_cons_zero, List.set_cons_succ]
                  refine' wpAnyH_take (i := 13) (v := _) rfl (by kernel_rfl) (by kernel_rfl) (by kernel_rfl) (fun _ _ _ h => h) (Or.inl ⟨by rfl, ?hy⟩) hHeld _
                  case hy => (intro w0 hSw; (try dsimp only at hSw); (try simp only [List.getElem_toArray, List.getElem_cons_zero, List.getElem_cons_succ]); go_simp; first | done | with_reducible rfl)
                  try simp only [Act.put, List.getElem_toArray, List.getElem_cons_zero, List.getElem_cons_succ, List.setIfInBounds_toArray, List.set_cons_zero, List.set_cons_succ]
                  refine' wpAnyH_take (i := 14) (v := _) rfl (by kernel_rfl) (by kernel_rfl) (by kernel_rfl) (fun _ _ _ h => h) (Or.inl ⟨by rfl, ?hy⟩) hHeld _
                  case hy => (intro w0 hSw; (try dsimp only at hSw); (try simp only [List.getElem_toArray, List.getElem_cons_zero, List.getElem_cons_succ]); go_simp; first | done | with_reducible rfl)
                  try simp only [Act.put, List.getElem_toArray, List.getElem_cons_zero, List.getElem_cons_succ, List.setIfInBounds_toArray, List.set_cons_zero, List.set_cons_succ]
                  refine' wpAnyH_take (i := 15) (v := _) rfl (by kernel_rfl) (by kernel_rfl) (by kernel_rfl) (fun _ _ _ h => h) (Or.inl ⟨by rfl, ?hy⟩) hHeld _
                  case hy => (intro w0 hSw; (try dsimp only at hSw); (try simp only [List.getElem_toArray, List.getElem_cons_zero, List.getElem_cons_succ]); go_simp; first | done | with_reducible rfl)
                  try simp only [Act.put, List.getElem_toArray, List.getElem_cons_zero, List.getElem_cons_succ, List.setIfInBounds_toArray, List.set_cons_zero, List.set_cons_succ]
                  refine' wpAnyH_take (i := 16) (v := _) rfl (by kernel_rfl) (by kernel_rfl) (by kernel_rfl) (fun _ _ _ h => h) (Or.inl ⟨by rfl, ?hy⟩) hHeld _
                  case hy => (intro w0 hSw; (try dsimp only at hSw); (try simp only [List.getElem_toArray, List.getElem_cons_zero, List.getElem_cons_succ]); go_simp; first | done | with_reducible rfl)
                  try simp only [Act.put, List.getElem_toArray, List.getElem_cons_zero, List.getElem_cons_succ, List.setIfInBounds_toArray, List.set_cons_zero, List.set_cons_succ]
                  refine' wpAnyH_take (i := 17) (v := _) rfl (by kernel_rfl) (by kernel_rfl) (by kernel_rfl) (fun _ _ _ h => h) (Or.inl ⟨by rfl, ?hy⟩) hHeld _
                  case hy => (intro w0 hSw; (try dsimp only at hSw); (try simp only [List.getElem_toArray, List.getElem_cons_zero, List.getElem_cons_succ]); go_simp; first | done | with_reducible rfl)
                  try simp only [Act.put, List.getElem_toArray, List.getElem_cons_zero, List.getElem_cons_succ, List.setIfInBounds_toArray, List.set_cons_zero, List.set_cons_succ]
                  refine' wpAnyH_take (i := 18) (v := _) rfl (by kernel_rfl) (by kernel_rfl) (by kernel_rfl) (fun _ _ _ h => h) (Or.inl ⟨by rfl, ?hy⟩) hHeld _
                  case hy => (intro w0 hSw; (try dsimp only at hSw); (try simp only [List.getElem_toArray, List.getElem_cons_zero, List.getElem_cons_succ]); go_simp; first | done | with_reducible rfl)
                  try simp only [Act.put, List.getElem_toArray, List.getElem_cons_zero, List.getElem_cons_succ, List.setIfInBounds_toArray, List.set_cons_zero, List.set_cons_succ]
                  refine wpAnyH_ready (rs := [19]) (by kernel_rfl) (by simp) ?_
                  refine AllReadyH.cons rfl (fun K hK => ?_) AllReadyH.nil
                  go_simp
                  refine HHA.out.mono ?_
                  rintro e w8 ⟨rfl, hb8⟩
                  have HB8 := Lib.hid hb8
                  clear hb8
                  clear hHeld
                  refine hK.out _ _ ?_ (fun hHeld => ?_)
                  · exact HSB.out _ HB8.out
                  clear hK K
                  try simp only [Act.put, List.getElem_toArray, List.getElem_cons_zero, List.getElem_cons_succ, List.setIfInBounds_toArray, List.set_cons_zero, List.set_cons_succ]
                  refine' wpAnyH_take (i := 20) (v := _) rfl (by kernel_rfl) (by kernel_rfl) (by kernel_rfl) (fun _ _ _ h => h) (Or.inl ⟨by rfl, ?hy⟩) hHeld _
                  case hy => (intro w0 hSw; (try dsimp only at hSw); (try simp only [List.getElem_toArray, List.getElem_cons_zero, List.getElem_cons_succ]); go_simp; first | done | with_reducible rfl)
                  try simp only [Act.put, List.getElem_toArray, List.getElem_cons_zero, List.getElem_cons_succ, List.setIfInBounds_toArray, List.set_cons_zero, List.set_cons_succ]
                  refine wpAnyH_done (by kernel_rfl) ?_ _
                  refine NoPanic.normal ?_
                  have HD : Hid (TabAt w8 T 95 zeroT ∧ TabAt w8 (T + 1) 95 u ∧ Below w.heap.size w w8) := Lib.hid ⟨HU.out.1.below HB8.out, HU.out.2.1.below HB8.out, HU.out.2.2.trans (HB8.out.mono HU.out.2.2.size)⟩
                  have h8 := HSB.out w8 HB8.out
                  clear hHeld HHA a0 a1 a2 tc tf hrg
                  obtain ⟨q0, q1, q2, -⟩ := h8
                  have qf := (HD.out.2.1.cell A HFK.out).2
                  have ht9 := HD.out.2.1.set A (E : Int)
                  have hf9 : Frn (fun b => b = T + 1) w8 (w8.setCell ⟨T + 1, A, none⟩ (.int .i64 (E : Int))) := Frn.setCell (T := fun b => b = T + 1) (Frn.refl _ w8) ⟨T + 1, A, none⟩ (.inl rfl) _
                  have H9 : Hid (TabAt (w8.setCell ⟨T + 1, A, none⟩ (.int .i64 (E : Int))).drew T 95 zeroT ∧ TabAt (w8.setCell ⟨T + 1, A, none⟩ (.int .i64 (E : Int))).drew (T + 1) 95 (u.set A (E : Int)) ∧ Below w.heap.size w (w8.setCell ⟨T + 1, A, none⟩ (.int .i64 (E : Int))).drew) := Lib.hid ⟨HD.out.1.keep (hf9.block T HD.out.1.lt (by omega)), ht9, (HD.out.2.2.trans (hf9.below HD.out.2.2.size (fun b e => by have := HW.out.2.1; omega))).drew⟩
                  clear ht9 hf9
                  go_upto_region 14 with fail
                  refine wp_region_noPanic ?_
                  refine wp_region_F 15 (fun w' => w'.cell? ⟨g, o + j * 3, none⟩ = some (.int .i64 F) ∧ w'.cell? ⟨g, o + j * 3 + 1, none⟩ = some (.int .i64 D)) (by kernel_rfl) ?_ (fun hHeld => ?_)
                  · exact ⟨q0, q1⟩
                  refine' wpAnyF_takeT (i := 0) (v := _) rfl (by kernel_rfl) (by kernel_rfl) (by kernel_rfl) (by rfl) (fun _ _ _ h => h) (Or.inl ⟨by rfl, ?hy⟩) (fun _ => hHeld) _
                  case hy => (intro w0 hSw; (try dsimp only at hSw); simp only [List.getElem_toArray, List.getElem_cons_zero]; go_simp; first | done | with_reducible rfl)
                  simp only [Act.put, List.getElem_toArray, List.getElem_cons_zero, List.setIfInBounds_toArray, List.set_cons_zero, List.set_cons_succ]
                  refine' wpAnyF_takeT (i := 1) (v := _) rfl (by kernel_rfl) (by kernel_rfl) (by kernel_rfl) (by rfl) (fun _ _ _ h => h) (Or.inl ⟨by rfl, ?hy⟩) (fun _ => hHeld) _
                  case hy => (intro w0 hSw; (try dsimp only at hSw); simp only [List.getElem_toArray, List.getElem_cons_zero, List.getElem_cons_succ]; go_simp; first | done | with_reducible rfl)
                  simp only [Act.put, List.getElem_toArray, List.getElem_cons_zero, List.getElem_cons_succ, List.setIfInBounds_toArray, List.set_cons_zero, List.set_cons_succ]
                  refine' wpAnyF_takeT (i := 2) (v := _) rfl (by kernel_rfl) (by kernel_rfl) (by kernel_rfl) (by rfl) (fun _ _ _ h => h) (Or.inl ⟨by rfl, ?hy⟩) (fun _ => hHeld) _
                  case hy => (intro w0 hSw; (try dsimp only at hSw); simp only [List.getElem_toArray, List.getElem_cons_zero, List.getElem_cons_succ]; go_simp; first | done | with_reducible rfl)
                  simp only [Act.put, List.getElem_toArray, List.getElem_cons_zero, List.getElem_cons_succ, List.setIfInBounds_toArray, List.set_cons_zero, List.set_cons_succ]
                  refine' wpAnyF_takeT (i := 3) (v := _) rfl (by kernel_rfl) (by kernel_rfl) (by kernel_rfl) (by rfl) (fun _ _ _ h => h) (Or.inl ⟨by rfl, ?hy⟩) (fun _ => hHeld) _
                  case hy => (intro w0 hSw; (try dsimp only at hSw); simp only [List.getElem_toArray, List.getElem_cons_zero, List.getElem_cons_succ]; go_simp; first | done | with_reducible rfl)
                  simp only [Act.put, List.getElem_toArray, List.getElem_cons_zero, List.getElem_cons_succ, List.setIfInBounds_toArray, List.set_cons_zero, List.set_cons_succ]
                  refine' wpAnyF_take (i := 4) (v := _) rfl (by kernel_rfl) (by kernel_rfl) (by kernel_rfl) (by kernel_rfl) (by rfl) (by kernel_rfl) (fun _ _ _ h => h) (Or.inl ⟨by rfl, ?hy⟩) hHeld _
                  case hy => (intro w0 hSw; (try dsimp only at hSw); simp only [List.getElem_toArray, List.getElem_cons_zero, List.getElem_cons_succ]; go_simp; first | done | with_reducible rfl)
                  simp only [Act.put, List.getElem_toArray, List.getElem_cons_zero, List.getElem_cons_succ, List.setIfInBounds_toArray, List.set_cons_zero, List.set_cons_succ]
                  refine' wpAnyF_takeT (i := 5) (v := _) rfl (by kernel_rfl) (by kernel_rfl) (by kernel_rfl) (by rfl) (fun _ _ _ h => h) (Or.inl ⟨by rfl, ?hy⟩) (fun _ => hHeld) _
                  case hy => (intro w0 hSw; (try dsimp only at hSw); simp only [List.getElem_toArray, List.getElem_cons_zero, List.getElem_cons_succ]; go_simp; first | done | with_reducible rfl)
                  simp only [Act.put, List.getElem_toArray, List.getElem_cons_zero, List.getElem_cons_succ, List.setIfInBounds_toArray, List.set_cons_zero, List.set_cons_succ]
                  refine' wpAnyF_takeT (i := 6) (v := _) rfl (by kernel_rfl) (by kernel_rfl) (by kernel_rfl) (by rfl) (fun _ _ _ h => h) (Or.inl ⟨by rfl, ?hy⟩) (fun _ => hHeld) _
                  case hy => (intro w0 hSw; (try dsimp only at hSw); simp only [List.getElem_toArray, List.getElem_cons_zero, List.getElem_cons_succ]; go_simp; first | done | with_reducible rfl)
                  simp only [Act.put, List.getElem_toArray, List.getElem_cons_zero, List.getElem_cons_succ, List.setIfInBounds_toArray, List.set_cons_zero, List.set_cons_succ]
                  refine' wpAnyF_takeT (i := 7) (v := _) rfl (by kernel_rfl) (by kernel_rfl) (by kernel_rfl) (by rfl) (fun _ _ _ h => h) (Or.inl ⟨by rfl, ?hy⟩) (fun _ => hHeld) _
                  case hy => (intro w0 hSw; (try dsimp only at hSw); simp only [List.getElem_toArray, List.getElem_cons_zero, List.getElem_cons_succ]; go_simp; first | done | with_reducible rfl)
                  simp only [Act.put, List.getElem_toArray, List.getElem_cons_zero, List.getElem_cons_succ, List.setIfInBounds_toArray, List.set_cons_zero, List.set_cons_succ]
                  refine' wpAnyF_takeT (i := 8) (v := _) rfl (by kernel_rfl) (by kernel_rfl) (by kernel_rfl) (by rfl) (fun _ _ _ h => h) (Or.inl ⟨by rfl, ?hy⟩) (fun _ => hHeld) _
                  case hy => (intro w0 hSw; (try dsimp only at hSw); simp only [List.getElem_toArray, List.getElem_cons_zero, List.getElem_cons_succ]; go_simp; first | done | with_reducible rfl)
                  simp only [Act.put, List.getElem_toArray, List.getElem_cons_zero, List.getElem_cons_succ, List.setIfInBounds_toArray, List.set_cons_zero, List.set_cons_succ]
                  refine' wpAnyF_takeT (i := 9) (v := _) rfl (by kernel_rfl) (by kernel_rfl) (by kernel_rfl) (by rfl) (fun _ _ _ h => h) (Or.inl ⟨by rfl, ?hy⟩) (fun _ => hHeld) _
                  case hy => (intro w0 hSw; (try dsimp only at hSw); simp only [List.getElem_toArray, List.getElem_cons_zero, List.getElem_cons_succ]; go_simp; first | done | with_reducible rfl)
                  simp only [Act.put, List.getElem_toArray, List.getElem_cons_zero, List.getElem_cons_succ, List.setIfInBounds_toArray, List.set_cons_zero, List.set_cons_succ]
                  refine' wpAnyF_takeT (i := 10) (v := _) rfl (by kernel_rfl) (by kernel_rfl) (by kernel_rfl) (by rfl) (fun _ _ _ h => h) (Or.inl ⟨by rfl, ?hy⟩) (fun _ => hHeld) _
                  case hy => (intro w0 hSw; (try dsimp only at hSw); simp only [List.getElem_toArray, List.getElem_cons_zero, List.getElem_cons_succ]; go_simp; first | done | with_reducible rfl)
                  simp only [Act.put, List.getElem_toArray, List.getElem_cons_zero, List.getElem_cons_succ, List.setIfInBounds_toArray, List.set_cons_zero, List.set_cons_succ]
                  refine' wpAnyF_take (i := 11) (v := _) rfl (by kernel_rfl) (by kernel_rfl) (by kernel_rfl) (by kernel_rfl) (by rfl) (by kernel_rfl) (fun _ _ _ h => h) (Or.inl ⟨by rfl, ?hy⟩) hHeld _
                  case hy => (intro w0 hSw; (try dsimp only at hSw); simp only [List.getElem_toArray, List.getElem_cons_zero, List.getElem_cons_succ]; go_simp; first | done | with_reducible rfl)
                  simp only [Act.put, List.getElem_toArray, List.getElem_cons_zero, List.getElem_cons_succ, List.setIfInBounds_toArray, List.set_cons_zero, List.set_cons_succ]
                  refine' wpAnyF_takeT (i := 12) (v := _) rfl (by kernel_rfl) (by kernel_rfl) (by kernel_rfl) (by rfl) (fun _ _ _ h => h) (Or.inl ⟨by rfl, ?hy⟩) (fun _ => hHeld) _
                  case hy => (intro w0 hSw; (try dsimp only at hSw); simp only [List.getElem_toArray, List.getElem_cons_zero, List.getElem_cons_succ]; go_simp; first | done | with_reducible rfl)
                  simp only [Act.put, List.getElem_toArray, List.getElem_cons_zero, List.getElem_cons_succ, List.setIfInBounds_toArray, List.set_cons_zero, List.set_cons_succ]
                  refine' wpAnyF_takeT (i := 13) (v := _) rfl (by kernel_rfl) (by kernel_rfl) (by kernel_rfl) (by rfl) (fun _ _ _ h => h) (Or.inl ⟨by rfl, ?hy⟩) (fun _ => hHeld) _
                  case hy => (intro w0 hSw; (try dsimp only at hSw); simp only [List.getElem_toArray, List.getElem_cons_zero, List.getElem_cons_succ]; go_simp; first | done | with_reducible rfl)
                  simp only [Act.put, List.getElem_toArray, List.getElem_cons_zero, List.getElem_cons_succ, List.setIfInBounds_toArray, List.set_cons_zero, List.set_cons_succ]
                  refine' wpAnyF_takeT (i := 14) (v := _) rfl (by kernel_rfl) (by kernel_rfl) (by kernel_rfl) (by rfl) (fun _ _ _ h => h) (Or.inl ⟨by rfl, ?hy⟩) (fun _ => hHeld) _
                  case hy => (intro w0 hSw; (try dsimp only at hSw); simp only [List.getElem_toArray, List.getElem_cons_zero, List.getElem_cons_succ]; go_simp; first | done | with_reducible rfl)
                  simp only [Act.put, List.getElem_toArray, List.getElem_cons_zero, List.getElem_cons_succ, List.setIfInBounds_toArray, List.set_cons_zero, List.set_cons_succ]
                  refine wpAnyF_one (i := 15) (by kernel_rfl) rfl (fun K hK => ?_)
                  go_simp
                  refine hK.out _ _ (fun h => Bool.noConfusion (h.symm.trans (by kernel_rfl : _ = true))) ?_
                  clear hK K
                  try simp only [Act.put, List.getElem_toArray, List.getElem_cons_zero, List.getElem_cons_succ, List.setIfInBounds_toArray, List.set_cons_zero, List.set_cons_succ]
                  refine wpAnyF_done (by kernel_rfl) ?_ _
                  refine NoPanic.normal ?_
                  clear hHeld q0 q1 q2 qf
                  go_wp2_with fail
                  go_roundw
                  case rel => exact ⟨k + 1, _, hltk, by go_num, HG.out, H9.out⟩
                  case measure => simp [intOf]; omega
              · have ba : (a != 0) = true := by rw [bne_iff_ne]; exact ha0
                have ba2 : (a == 0) = false := beq_eq_false_iff_ne.2 ha0
                have HNO : Hid (ofX l = none) := Lib.hid (of_none (place_bad HJL.out (HJ.out.1 HJL.out) HPL.out.1 (k := k) (u := u) (by simpa using hltk) (by simpa using HK.out.1) (.inl (by simp only [Int.toNat_natCast]; rw [HK.out.2.2.1, HK.out.2.2.2.2]; exact ha0))))
                clear ha0
                go_upto_region 12 with fail
                refine wp_region_noPanic ?_
                refine wp_region_held_drew (S := (fun w' => w'.cell? ⟨g, o + j * 3, none⟩ = some (.int .i64 F) ∧ w'.cell? ⟨g, o + j * 3 + 1, none⟩ = some (.int .i64 D) ∧ w'.cell? ⟨T + 1, A, none⟩ = some (.int .i64 a) ∧ w'.rangeAt (T + 1) 0 (tb u))) (by kernel_rfl) ?_ (fun hHeld => ?_)
                · exact ⟨a0, a1, tc, hrg⟩
                refine' wpAnyH_take (i := 0) (v := _) rfl (by kernel_rfl) (by kernel_rfl) (by kernel_rfl) (fun _ _ _ h => h) (Or.inl ⟨by rfl, ?hy⟩) hHeld _
                case hy => (intro w0 hSw; (try dsimp only at hSw); (try simp only [List.getElem_toArray, List.getElem_cons_zero, List.getElem_cons_succ]); go_simp; first | done | with_reducible rfl)
                try simp only [Act.put, List.getElem_toArray, List.getElem_cons_zero, List.getElem_cons_succ, List.setIfInBounds_toArray, List.set_cons_zero, List.set_cons_succ]
                refine' wpAnyH_take (i := 1) (v := _) rfl (by kernel_rfl) (by kernel_rfl) (by kernel_rfl) (fun _ _ _ h => h) (Or.inl ⟨by rfl, ?hy⟩) hHeld _
                case hy => (intro w0 hSw; (try dsimp only at hSw); (try simp only [List.getElem_toArray, List.getElem_cons_zero, List.getElem_cons_succ]); go_simp; first | done | with_reducible rfl)
                try simp only [Act.put, List.getElem_toArray, List.getElem_cons_zero, List.getElem_cons_succ, List.setIfInBounds_toArray, List.set_cons_zero, List.set_cons_succ]
                refine' wpAnyH_take (i := 2) (v := _) rfl (by kernel_rfl) (by kernel_rfl) (by kernel_rfl) (fun _ _ _ h => h) (Or.inl ⟨by rfl, ?hy⟩) hHeld _
                case hy => (intro w0 hSw; (try dsimp only at hSw); (try simp only [List.getElem_toArray, List.getElem_cons_zero, List.getElem_cons_succ]); go_simp; first | done | with_reducible rfl)
                try simp only [Act.put, List.getElem_toArray, List.getElem_cons_zero, List.getElem_cons_succ, List.setIfInBounds_toArray, List.set_cons_zero, List.set_cons_succ]
                refine' wpAnyH_take (i := 3) (v := _) rfl (by kernel_rfl) (by kernel_rfl) (by kernel_rfl) (fun _ _ _ h => h) (Or.inl ⟨by rfl, ?hy⟩) hHeld _
                case hy => (intro w0 hSw; (try dsimp only at hSw); (try simp only [List.getElem_toArray, List.getElem_cons_zero, List.getElem_cons_succ]); go_simp; first | done | with_reducible rfl)
                try simp only [Act.put, List.getElem_toArray, List.getElem_cons_zero, List.getElem_cons_succ, List.setIfInBounds_toArray, List.set_cons_zero, List.set_cons_succ]
                refine' wpAnyH_take (i := 4) (v := _) rfl (by kernel_rfl) (by kernel_rfl) (by kernel_rfl) (fun _ _ _ h => h) (Or.inl ⟨by rfl, ?hy⟩) hHeld _
                case hy => (intro w0 hSw; (try dsimp only at hSw); (try simp only [List.getElem_toArray, List.getElem_cons_zero, List.getElem_cons_succ]); go_simp; first | done | with_reducible rfl)
                try simp only [Act.put, List.getElem_toArray, List.getElem_cons_zero, List.getElem_cons_succ, List.setIfInBounds_toArray, List.set_cons_zero, List.set_cons_succ]
                refine' wpAnyH_take (i := 5) (v := _) rfl (by kernel_rfl) (by kernel_rfl) (by kernel_rfl) (fun _ _ _ h => h) (Or.inl ⟨by rfl, ?hy⟩) hHeld _
                case hy => (intro w0 hSw; (try dsimp only at hSw); (try simp only [List.getElem_toArray, List.getElem_cons_zero, List.getElem_cons_succ]); go_simp; first | done | with_reducible rfl)
                try simp only [Act.put, List.getElem_toArray, List.getElem_cons_zero, List.getElem_cons_succ, List.setIfInBounds_toArray, List.set_cons_zero, List.set_cons_succ]
                refine' wpAnyH_take (i := 6) (v := _) rfl (by kernel_rfl) (by kernel_rfl) (by kernel_rfl) (fun _ _ _ h => h) (Or.inl ⟨by rfl, ?hy⟩) hHeld _
                case hy => (intro w0 hSw; (try dsimp only at hSw); (try simp only [List.getElem_toArray, List.getElem_cons_zero, List.getElem_cons_succ]); go_simp; first | done | with_reducible rfl)
                try simp only [Act.put, List.getElem_toArray, List.getElem_cons_zero, List.getElem_cons_succ, List.setIfInBounds_toArray, List.set_cons_zero, List.set_cons_succ]
                refine' wpAnyH_take (i := 7) (v := _) rfl (by kernel_rfl) (by kernel_rfl) (by kernel_rfl) (fun _ _ _ h => h) (Or.inl ⟨by rfl, ?hy⟩) hHeld _
                case hy => (intro w0 hSw; (try dsimp only at hSw); (try simp only [List.getElem_toArray, List.getElem_cons_zero, List.getElem_cons_succ]); go_simp; first | done | with_reducible rfl)
                try simp only [Act.put, List.getElem_toArray, List.getElem_cons_zero, List.getElem_cons_succ, List.setIfInBounds_toArray, List.set_cons_zero, List.set_cons_succ]
                refine' wpAnyH_take (i := 8) (v := _) rfl (by kernel_rfl) (by kernel_rfl) (by kernel_rfl) (fun _ _ _ h => h) (Or.inl ⟨by rfl, ?hy⟩) hHeld _
                case hy => (intro w0 hSw; (try dsimp only at hSw); (try simp only [List.getElem_toArray, List.getElem_cons_zero, List.getElem_cons_succ]); go_simp; first | done | with_reducible rfl)
                try simp only [Act.put, List.getElem_toArray, List.getElem_cons_zero, List.getElem_cons_succ, List.setIfInBounds_toArray, List.set_cons_zero, List.set_cons_succ]
                refine' wpAnyH_take (i := 9) (v := _) rfl (by kernel_rfl) (by kernel_rfl) (by kernel_rfl) (fun _ _ _ h => h) (Or.inl ⟨by rfl, ?hy⟩) hHeld _
                case hy => (intro w0 hSw; (try dsimp only at hSw); (try simp only [List.getElem_toArray, List.getElem_cons_zero, List.getElem_cons_succ]); go_simp; first | done | with_reducible rfl)
                try simp only [Act.put, List.getElem_toArray, List.getElem_cons_zero, List.getElem_cons_succ, List.setIfInBounds_toArray, List.set_cons_zero, List.set_cons_succ]
                refine' wpAnyH_take (i := 10) (v := _) rfl (by kernel_rfl) (by kernel_rfl) (by kernel_rfl) (fun _ _ _ h => h) (Or.inl ⟨by rfl, ?hy⟩) hHeld _
                case hy => (intro w0 hSw; (try dsimp only at hSw); (try simp only [List.getElem_toArray, List.getElem_cons_zero, List.getElem_cons_succ]); go_simp; first | done | with_reducible rfl)
                try simp only [Act.put, List.getElem_toArray, List.getElem_cons_zero, List.getElem_cons_succ, List.setIfInBounds_toArray, List.set_cons_zero, List.set_cons_succ]
                refine wpAnyH_take (i := 11) (v := undef) rfl (by kernel_rfl) (by kernel_rfl) (by kernel_rfl) (fun _ _ _ h => h) (Or.inr ⟨by rfl, rfl⟩) hHeld ?_
                try simp only [Act.put, List.getElem_toArray, List.getElem_cons_zero, List.getElem_cons_succ, List.setIfInBounds_toArray, List.set_cons_zero, List.set_cons_succ]
                refine wpAnyH_take (i := 12) (v := undef) rfl (by kernel_rfl) (by kernel_rfl) (by kernel_rfl) (fun _ _ _ h => h) (Or.inr ⟨by rfl, rfl⟩) hHeld ?_
                try simp only [Act.put, List.getElem_toArray, List.getElem_cons_zero, List.getElem_cons_succ, List.setIfInBounds_toArray, List.set_cons_zero, List.set_cons_succ]
                refine wpAnyH_take (i := 13) (v := undef) rfl (by kernel_rfl) (by kernel_rfl) (by kernel_rfl) (fun _ _ _ h => h) (Or.inr ⟨by rfl, rfl⟩) hHeld ?_
                try simp only [Act.put, List.getElem_toArray, List.getElem_cons_zero, List.getElem_cons_succ, List.setIfInBounds_toArray, List.set_cons_zero, List.set_cons_succ]
                refine wpAnyH_take (i := 14) (v := undef) rfl (by kernel_rfl) (by kernel_rfl) (by kernel_rfl) (fun _ _ _ h => h) (Or.inr ⟨by rfl, rfl⟩) hHeld ?_
                try simp only [Act.put, List.getElem_toArray, List.getElem_cons_zero, List.getElem_cons_succ, List.setIfInBounds_toArray, List.set_cons_zero, List.set_cons_succ]
                refine wpAnyH_take (i := 15) (v := undef) rfl (by kernel_rfl) (by kernel_rfl) (by kernel_rfl) (fun _ _ _ h => h) (Or.inr ⟨by rfl, rfl⟩) hHeld ?_
                try simp only [Act.put, List.getElem_toArray, List.getElem_cons_zero, List.getElem_cons_succ, List.setIfInBounds_toArray, List.set_cons_zero, List.set_cons_succ]
                refine wpAnyH_take (i := 16) (v := undef) rfl (by kernel_rfl) (by kernel_rfl) (by kernel_rfl) (fun _ _ _ h => h) (Or.inr ⟨by rfl, rfl⟩) hHeld ?_
                try simp only [Act.put, List.getElem_toArray, List.getElem_cons_zero, List.getElem_cons_succ, List.setIfInBounds_toArray, List.set_cons_zero, List.set_cons_succ]
                refine wpAnyH_take (i := 17) (v := undef) rfl (by kernel_rfl) (by kernel_rfl) (by kernel_rfl) (fun _ _ _ h => h) (Or.inr ⟨by rfl, rfl⟩) hHeld ?_
                try simp only [Act.put, List.getElem_toArray, List.getElem_cons_zero, List.getElem_cons_succ, List.setIfInBounds_toArray, List.set_cons_zero, List.set_cons_succ]
                refine wpAnyH_take (i := 18) (v := undef) rfl (by kernel_rfl) (by kernel_rfl) (by kernel_rfl) (fun _ _ _ h => h) (Or.inr ⟨by rfl, rfl⟩) hHeld ?_
                try simp only [Act.put, List.getElem_toArray, List.getElem_cons_zero, List.getElem_cons_succ, List.setIfInBounds_toArray, List.set_cons_zero, List.set_cons_succ]
                refine wpAnyH_take (i := 19) (v := undef) rfl (by kernel_rfl) (by kernel_rfl) (by kernel_rfl) (fun _ _ _ h => h) (Or.inr ⟨by rfl, rfl⟩) hHeld ?_
                try simp only [Act.put, List.getElem_toArray, List.getElem_cons_zero, List.getElem_cons_succ, List.setIfInBounds_toArray, List.set_cons_zero, List.set_cons_succ]
                refine' wpAnyH_take (i := 20) (v := _) rfl (by kernel_rfl) (by kernel_rfl) (by kernel_rfl) (fun _ _ _ h => h) (Or.inl ⟨by rfl, ?hy⟩) hHeld _
                case hy => (intro w0 hSw; (try dsimp only at hSw); (try simp only [List.getElem_toArray, List.getElem_cons_zero, List.getElem_cons_succ]); go_simp; first | done | with_reducible rfl)
                try simp only [Act.put, List.getElem_toArray, List.getElem_cons_zero, List.getElem_cons_succ, List.setIfInBounds_toArray, List.set_cons_zero, List.set_cons_succ]
                refine wpAnyH_done (by kernel_rfl) ?_ _
                refine NoPanic.normal ?_
                have HD : Hid (TabAt wr.drew T 95 zeroT ∧ TabAt wr.drew (T + 1) 95 u ∧ Below w.heap.size w wr.drew) := Lib.hid ⟨HU.out.1, HU.out.2.1, HU.out.2.2.drew⟩
                obtain ⟨w9, hw9⟩ : ∃ w9, wr.drew = w9 := ⟨_, rfl⟩
                rw [hw9] at HD
                rw [hw9]
                clear hw9 hHeld
                go_wp2_with (first | (refine wpList_load_mid rfl 95 (.tmp 4) rfl (T + 1) 0 rfl (tb u) (.array 128 3) HD.out.2.1.range (by kernel_rfl) rfl (by rw [tb_len, HUL.out]; kernel_rfl) ?_) | (refine wpList_store_mid rfl 95 (.tmp 2) (.tmp 54) rfl T 0 (tb u).toArray rfl rfl (by simpa [tb_len, zeroT, HUL.out] using HD.out.1.there) (by simp only [List.size_toArray, tb_len, HUL.out]; kernel_rfl) (all_oneCell_toArray (tb_one _)) ?_))
                have htz := HD.out.1.sets u (zeroT_ok.len.trans HUL.out.symm)
                have hbz : Below w.heap.size w (w9.setCells T 0 (tb u)) := HD.out.2.2.trans ((setCellsX_frn _ _ _).below HD.out.2.2.size (fun b e => by have := HW.out.2.1; omega))
                refine bodyPost_ret (results_ct rfl _ _ rfl (run_loadVar_mid _ T 0 95 (tb u) (.array 128 3) htz.range (by kernel_rfl) rfl (by rw [tb_len, HUL.out]; kernel_rfl)) rfl) rfl ?_
                exact ⟨u, HUL.out, fun t h => (by rw [HNO.out] at h; cases h), by rw [HNO.out]; rfl, hbz⟩
            · obtain rfl : Mm = k := by omega
              have hnl : ¬ (Mm : Int) < (Mm : Int) := by omega
              have HP2 : Hid (placeL l (j + 1) = some u ∧ ∀ i (h : i < l.length), i < j + 1 → rightX l[i] = true) := Lib.hid ⟨by rw [placeL_step HJL.out HPL.out.1, HJ.out.1 HJL.out]; simpa using hpk, fun i h hij => (Nat.lt_succ_iff_lt_or_eq.1 hij).elim (HPL.out.2 i h) (fun e => by subst e; rw [HJ.out.1 h]; exact HJ.out.2.1)⟩
              have HU := Lib.hid (And.intro h0 (And.intro hta hb))
              clear hpk h0 hta hb hou hltk
              go_wp2_with fail
              go_roundw
              case rel => exact ⟨j + 1, u, hlt, by go_num, HP2.out.1, HP2.out.2, HU.out⟩
              case measure => simp [intOf]; omega
        · have HNO : Hid (ofX l = none) := Lib.hid (of_wrong (Bool.eq_false_iff.2 (fun h => by rw [List.all_eq_true] at h; have h9 := h _ (List.getElem_mem hjl); rw [hx] at h9; exact hr h9)))
          rw [Bool.not_eq_true] at hr
          rw [hr] at HRR
          clear hx hpl hrt hok h0 hta hb hxw hjl hr
          go_wp2_with fail
          refine HRR.out.mono ?_
          rintro e w3 ⟨rfl, hb3⟩
          have HD : Hid (TabAt w3 T 95 zeroT ∧ TabAt w3 (T + 1) 95 t ∧ Below w.heap.size w w3) := Lib.hid ⟨HS.out.1.below hb3, HS.out.2.1.below hb3, HS.out.2.2.1.trans (hb3.mono HS.out.2.2.1.size)⟩
          clear a0 a1 a2 hgw hb3 HRR
          go_wp2_with (first | (refine wpList_load_mid rfl 95 (.tmp 4) rfl (T + 1) 0 rfl (tb t) (.array 128 3) HD.out.2.1.range (by kernel_rfl) rfl (by rw [tb_len, HS.out.2.2.2.1]; kernel_rfl) ?_) | (refine wpList_store_mid rfl 95 (.tmp 2) (.tmp 23) rfl T 0 (tb t).toArray rfl rfl (by simpa [tb_len, zeroT, HS.out.2.2.2.1] using HD.out.1.there) (by simp only [List.size_toArray, tb_len, HS.out.2.2.2.1]; kernel_rfl) (all_oneCell_toArray (tb_one _)) ?_))
          have htz := HD.out.1.sets t (zeroT_ok.len.trans HS.out.2.2.2.1.symm)
          have hbz : Below w.heap.size w (w3.setCells T 0 (tb t)) := HD.out.2.2.trans ((setCellsX_frn _ _ _).below HD.out.2.2.size (fun b e => by have := HW.out.2.1; omega))
          refine bodyPost_ret (results_ct rfl _ _ rfl (run_loadVar_mid _ T 0 95 (tb t) (.array 128 3) htz.range (by kernel_rfl) rfl (by rw [tb_len, HS.out.2.2.2.1]; kernel_rfl)) rfl) rfl ?_
          exact ⟨t, HS.out.2.2.2.1, fun t h => (by rw [HNO.out] at h; cases h), by rw [HNO.out]; rfl, hbz⟩
      · obtain rfl : n = j := by omega
        have hnl : ¬ (n : Int) < (n : Int) := by omega
        have hlen9 := hok.len
        have HLEN := Lib.hid hlen9
        have hall : l.all rightX = true := List.all_eq_true.2 (fun x hx => by obtain ⟨i, hi, rfl⟩ := List.mem_iff_getElem.1 hx; exact hrt i hi (by rw [← HN.out]; exact hi))
        have hof := of_some (l := l) (by rw [HN.out]; exact H10.out) hall (by rw [HN.out]; exact hpl)
        have HLT := Lib.hid (refListT_any t wr.drew hok)
        have hrg := hta.range
        have HS := Lib.hid (And.intro h0 (And.intro hta (And.intro hb (And.intro hok hof))))
        have HSB : Hid (∀ V, Below wr.heap.size wr V → V.rangeAt (T + 1) 0 (tb t)) := Lib.hid (fun V hV => (hta.below hV).range)
        clear hpl hok h0 hta hb hof hall hrt hlt hlen9
        go_upto_region 15 with fail
        refine wp_region_noPanic ?_
        refine wp_region_held_drew (S := (fun w' => w'.rangeAt (T + 1) 0 (tb t))) (by kernel_rfl) ?_ (fun hHeld => ?_)
        · exact hrg
        refine' wpAnyH_take (i := 0) (v := (.agg (tb t).toArray)) rfl (by kernel_rfl) (by kernel_rfl) (by kernel_rfl) (fun _ _ _ h => h) (yieldsIf_load_mid (by rfl) 95 (.tmp 4) rfl (T + 1) 0 rfl (tb t) (.array 128 3) (fun _ h => h) (by kernel_rfl) rfl (by rw [tb_len, HLEN.out]; kernel_rfl)) hHeld _
        try simp only [Act.put, List.getElem_toArray, List.getElem_cons_zero, List.getElem_cons_succ, List.setIfInBounds_toArray, List.set_cons_zero, List.set_cons_succ]
        refine' wpAnyH_take (i := 1) (v := (.agg (tb t).toArray)) rfl (by kernel_rfl) (by kernel_rfl) (by kernel_rfl) (fun _ _ _ h => h) (yieldsIf_load_mid (by rfl) 95 (.tmp 4) rfl (T + 1) 0 rfl (tb t) (.array 128 3) (fun _ h => h) (by kernel_rfl) rfl (by rw [tb_len, HLEN.out]; kernel_rfl)) hHeld _
        try simp only [Act.put, List.getElem_toArray, List.getElem_cons_zero, List.getElem_cons_succ, List.setIfInBounds_toArray, List.set_cons_zero, List.set_cons_succ]
        refine' wpAnyH_take (i := 3) (v := _) rfl (by kernel_rfl) (by kernel_rfl) (by kernel_rfl) (fun _ _ _ h => h) (Or.inl ⟨by rfl, ?hy⟩) hHeld _
        case hy => (intro w0 hSw; (try dsimp only at hSw); (try simp only [List.getElem_toArray, List.getElem_cons_zero, List.getElem_cons_succ]); go_simp; first | done | with_reducible rfl)
        try simp only [Act.put, List.getElem_toArray, List.getElem_cons_zero, List.getElem_cons_succ, List.setIfInBounds_toArray, List.set_cons_zero, List.set_cons_succ]
        refine wpAnyH_ready (rs := [2]) (by kernel_rfl) (by simp) ?_
        refine AllReadyH.cons rfl (fun K hK => ?_) AllReadyH.nil
        go_simp
        refine HLT.out.mono ?_
        rintro e w7 ⟨p7, c7, rfl, hown, hfr, hb7⟩
        have HB7 := Lib.hid ((Below.refl _ wr).drew.trans hb7)
        have heq := sameList_any p7 p c7 cap (listX t 128) l w7 (OwnG.rds xc_len hown) (HR.out.onX (HS.out.2.2.1.trans (HB7.out.mono HS.out.2.2.1.size)))
        rw [HN.out] at heq
        have HEQ := Lib.hid heq
        clear hown hfr hb7 heq HLT
        clear hHeld
        refine hK.out _ _ ?_ (fun hHeld => ?_)
        · exact HSB.out _ HB7.out
        clear hK K
        try simp only [Act.put, List.getElem_toArray, List.getElem_cons_zero, List.getElem_cons_succ, List.setIfInBounds_toArray, List.set_cons_zero, List.set_cons_succ]
        refine wpAnyH_ready (rs := [4]) (by kernel_rfl) (by simp) ?_
        refine AllReadyH.cons rfl (fun K hK => ?_) AllReadyH.nil
        go_simp
        refine HEQ.out.mono ?_
        rintro e w8 ⟨rfl, nq, rfl⟩
        have HB8 := Lib.hid (below_drewN HB7.out nq)
        clear hHeld
        refine hK.out _ _ ?_ (fun hHeld => ?_)
        · exact HSB.out _ HB8.out
        clear hK K
        try simp only [Act.put, List.getElem_toArray, List.getElem_cons_zero, List.getElem_cons_succ, List.setIfInBounds_toArray, List.set_cons_zero, List.set_cons_succ]
        obtain ⟨w8, hw8⟩ : ∃ w8, w7.drewN nq = w8 := ⟨_, rfl⟩
        rw [hw8] at HB8 hHeld
        rw [hw8]
        have HD : Hid (TabAt w8 T 95 zeroT ∧ TabAt w8 (T + 1) 95 t ∧ Below w.heap.size w w8) := Lib.hid ⟨HS.out.1.below HB8.out, HS.out.2.1.below HB8.out, HS.out.2.2.1.trans (HB8.out.mono HS.out.2.2.1.size)⟩
        clear hw8 HEQ
        refine wpAnyH_ready (rs := [5]) (by kernel_rfl) (by simp) ?_
        refine AllReadyH.cons rfl (fun K hK => ?_) AllReadyH.nil
        rw [if_pos (by rfl)]
        refine wp_store_mid 95 (.tmp 2) (.tmp 70) rfl T 0 (tb t).toArray rfl rfl (by simpa [tb_len, zeroT, HLEN.out] using HD.out.1.there) (by simp only [List.size_toArray, tb_len, HLEN.out]; kernel_rfl) (all_oneCell_toArray (tb_one _)) ?_
        clear hHeld
        refine hK.out _ _ ?_ (fun hHeld => ?_)
        · exact (HD.out.2.1.keep ((setCellsX_frn _ _ _).block (T + 1) HD.out.2.1.lt (by omega))).range
        clear hK K
        try simp only [Act.put, List.getElem_toArray, List.getElem_cons_zero, List.getElem_cons_succ, List.setIfInBounds_toArray, List.set_cons_zero, List.set_cons_succ]
        refine' wpAnyH_take (i := 6) (v := _) rfl (by kernel_rfl) (by kernel_rfl) (by kernel_rfl) (fun _ _ _ h => h) (Or.inl ⟨by rfl, ?hy⟩) hHeld _
        case hy => (intro w0 hSw; (try dsimp only at hSw); (try simp only [List.getElem_toArray, List.getElem_cons_zero, List.getElem_cons_succ]); go_simp; first | done | with_reducible rfl)
        try simp only [Act.put, List.getElem_toArray, List.getElem_cons_zero, List.getElem_cons_succ, List.setIfInBounds_toArray, List.set_cons_zero, List.set_cons_succ]
        refine wpAnyH_done (by kernel_rfl) ?_ _
        refine NoPanic.normal ?_
        skip
        go_wp2_with fail
        have htz := HD.out.1.sets t (zeroT_ok.len.trans HLEN.out.symm)
        have hbz : Below w.heap.size w (w8.setCells T 0 (tb t)) := HD.out.2.2.trans ((setCellsX_frn _ _ _).below HD.out.2.2.size (fun b e => by have := HW.out.2.1; omega))
        refine bodyPost_ret (results_ct rfl _ _ rfl (run_loadVar_mid _ T 0 95 (tb t) (.array 128 3) htz.range (by kernel_rfl) rfl (by rw [tb_len, HLEN.out]; kernel_rfl)) rfl) rfl ?_
        exact ⟨t, HLEN.out, of_tail HS.out.2.2.2.2, of_isSome HS.out.2.2.2.2, hbz⟩
end Go.Proofs.Ytenmogokbelahaa
