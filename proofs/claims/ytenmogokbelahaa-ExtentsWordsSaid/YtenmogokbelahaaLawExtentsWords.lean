/- The law ExtentsWords. -/
import Derived.Test.YtenmogokbelahaaExtT
import Derived.Test.YtenmogokbelahaaLawExtents
namespace Go.Proofs.Ytenmogokbelahaa
open Go Go.RowKit

theorem run_eql_tw {a b : List (BitVec 64)} {r : Bool} (ha : a.length = 10) (hb : b.length = 10) (h : decide (a = b) = r) (x y : Operand) (w : World) :
    (do eqGuard .eql 101 x y (.agg (tw a).toArray) (.agg (tw b).toArray); binOp .eql 101 (.agg (tw a).toArray) (.agg (tw b).toArray) : Sem Value).run Try.prog w = .ok (.bool r) w := by
  have hg : Try.prog.eqGuardType Try.prog.depth 101 = false := by kernel_rfl
  have he : (Op.equal 101 (.agg (tw a).toArray) (.agg (tw b).toArray)).run Try.prog w = .ok (decide (a = b)) w := eq_tw a b ha hb w
  have h1 : (eqGuard .eql 101 x y (.agg (tw a).toArray) (.agg (tw b).toArray)).run Try.prog w = .ok () w := by
    simp [eqGuard, Sem.run_bind, hg, go_sem]
  have h2 : (binOp .eql 101 (.agg (tw a).toArray) (.agg (tw b).toArray)).run Try.prog w = .ok (.bool r) w := by
    have : binOp .eql 101 (.agg (tw a).toArray) (.agg (tw b).toArray) = (do pure (.bool (← Op.equal 101 (.agg (tw a).toArray) (.agg (tw b).toArray))) : Sem Value) := rfl
    rw [this]
    simp [he, Result.andThen, ← h]
  simp [Sem.run_bind, h1, h2, Result.andThen]
theorem wpList_eql_tw {ops : Array Oper} {rest : List Oper} {o : Oper} {a : Act} {w : World} {Q : Exit → Act → World → Prop} (hw : Region.wanted o (yielded ops a.tmps) = true) (x y : Operand) {ty : TypeId} (ho : o.op = .binOp .eql 101 x y ty) {u v : List (BitVec 64)} {r : Bool}
    (hx : a.eval x = .agg (tw u).toArray) (hy : a.eval y = .agg (tw v).toArray) (hu : u.length = 10) (hv : v.length = 10) (hr : decide (u = v) = r)
    (h : wpList Try.prog ops Q rest (a.put o.dst (.bool r)) w) : wpList Try.prog ops Q (o :: rest) a w :=
  BigFrame.wpList_want hw fun K hK => by
    have hl := run_eql_tw hu hv hr x y w
    unfold Oper.wp execOp
    simp only [Sem.run_bind] at hl
    simp only [ho, hx, hy, Sem.run_bind, hl, Sem.run_pure, Result.andThen_ok]
    exact hK _ _ h
theorem zero_tw (w : World) : (zeroValue 101).run Try.prog w = .ok (.agg (tw zero10).toArray) w := by
  obtain ⟨i, hi⟩ := Option.isSome_iff_exists.1 (show (Try.prog.info? 101).isSome = true by kernel_rfl)
  have h0 : (Try.prog.info? 101).map (·.zero) = some (some (.agg (tw zero10).toArray)) := by kernel_rfl
  have hz : i.zero = some (.agg (tw zero10).toArray) := by rw [hi] at h0; simpa using h0
  simp [zeroValue, typeInfo, hi, hz]
theorem read_cases (ws : List (BitVec 64)) : ((readL ws).2 = 0 ∨ (readL ws).2 = 2) ∧ ((readL ws).2 = 0 → wordsR (readL ws).1 = (ws, 0)) := by
  unfold readL
  by_cases h : (ofX (unL ws)).isSome = true ∧ wordsX (unL ws) = ws
  · rw [if_pos h]
    refine ⟨.inl rfl, fun _ => ?_⟩
    unfold wordsR
    rw [if_pos h.1, h.2]
  · rw [if_neg h]
    exact ⟨.inr rfl, fun e => absurd e (by decide)⟩
set_option maxRecDepth 100000 in
set_option maxHeartbeats 16000000 in
theorem lawExtentsWords (p : Option Addr) (cap : Nat) (l : List Ext3) (ws : List (BitVec 64)) (hl : ws.length = 10) (w : World) (hrd : RdS w.heap.size w p cap 3 xc l) :
    Calls Try.prog 11 #[.slice p l.length cap, .agg (tw ws).toArray] w fun e w' => e = .returned (.bool true) ∧ Below w.heap.size w w' := by
  obtain ⟨n, hn⟩ : ∃ n, l.length = n := ⟨_, rfl⟩
  have hx := WrdAt.new w ws
  have hb0 := below_allocX w (.cells (tw ws).toArray 101)
  obtain ⟨wb, hwb⟩ : ∃ wb, w.alloc (.cells (tw ws).toArray 101) = wb := ⟨_, rfl⟩
  obtain ⟨X, hX⟩ : ∃ X, w.heap.size = X := ⟨_, rfl⟩
  rw [hwb, hX] at hx
  rw [hwb] at hb0
  have HXB := Lib.hid (And.intro hwb hX)
  have HX : Hid (WrdAt wb X ws ∧ Below w.heap.size w wb) := Lib.hid (And.intro hx hb0)
  have HL := Lib.hid hl
  have HRDS := Lib.hid hrd
  have HN := Lib.hid hn
  have hlen := hrd.len
  rw [hn] at hlen ⊢
  have hwe := wordsE_any p cap l wb (hrd.onX hb0)
  rw [hn] at hwe
  clear hrd hn hx hb0 hwb hX hl
  by_cases h30 : 30 < n
  · have d1 : decide (30 < (n : Int)) = true := decide_eq_true (by omega)
    clear h30 hwe
    go_enter Try.func11, Try.ntmps11
    go_upto_region 1 with fail
    rw [HXB.out.1, HXB.out.2]
    go_wp2_with fail
    refine (works06_any _).mono ?_
    rintro e w' ⟨rfl, hb⟩
    have H9 := Lib.hid (HX.out.2.trans (hb.mono HX.out.2.size))
    clear hb
    go_wp2_with fail
    go_ret
    exact ⟨rfl, H9.out⟩
  · have d1 : decide (30 < (n : Int)) = false := decide_eq_false (by omega)
    clear h30
    cases ho : ofX l with
    | none =>
      have hE : wordsR l = (zero10, 2) := by unfold wordsR; rw [ho]; rfl
      rw [hE] at hwe
      have HWE := Lib.hid hwe
      have HOF : Hid (∀ V, Below wb.heap.size wb V → Calls Try.prog 48 #[.slice p n cap] V fun e w' => ∃ t' : List Int, t'.length = 128 ∧ e = .returned (.tuple #[.agg (tb t').toArray, .bool false]) ∧ Below V.heap.size V w') := Lib.hid (fun V hV => by have h := refOfT_any p cap l V (HRDS.out.onX (HX.out.2.trans (hV.mono HX.out.2.size))); rw [ho, HN.out] at h; exact h.mono (fun e w' ⟨t', a, _, b, c⟩ => ⟨t', a, b, c⟩))
      clear hE hwe ho
      have HLT : Hid (zero10.length = 10) := Lib.hid (rfl)
      go_enter Try.func11, Try.ntmps11
      go_upto_region 1 with fail
      rw [HXB.out.1, HXB.out.2]
      go_wp2_with fail
      refine HWE.out.mono ?_
      rintro e w1 ⟨rfl, hb1⟩
      have HTMT := Lib.hid (wrd_made w1 zero10 HLT.out)
      obtain ⟨w2, hww2⟩ : ∃ V, (w1.alloc (.cells #[.int .u64 0, .int .u64 0, .int .u64 0, .int .u64 0, .int .u64 0, .int .u64 0, .int .u64 0, .int .u64 0, .int .u64 0, .int .u64 0] 101)).setCells w1.heap.size 0 (tw zero10) = V := ⟨_, rfl⟩
      obtain ⟨T, hT⟩ : ∃ T, w1.heap.size = T := ⟨_, rfl⟩
      have HET := Lib.hid (And.intro hww2 hT)
      have HMM : WrdAt w2 T zero10 ∧ Below w1.heap.size w1 w2 := by
        have h := HTMT.out
        rw [hww2, hT] at h
        rw [← hT] at h ⊢
        exact ⟨h.1, h.2.1⟩
      clear hww2 hT
      have H2 : Hid (Below wb.heap.size wb w2 ∧ WrdAt w2 T zero10) := Lib.hid ⟨hb1.trans (HMM.2.mono hb1.size), HMM.1⟩
      clear hb1 HMM HWE
      go_wp2_with (refine wpList_store_mid rfl 101 (.tmp 5) (.tmp 24) rfl w1.heap.size 0 (tw zero10).toArray rfl rfl (by simpa [tw_len, HLT.out] using HTMT.out.2.2) (by simp only [List.size_toArray, tw_len, HLT.out]; kernel_rfl) (all_oneCell_toArray (tw_one _)) ?_; rw [List.toList_toArray, HET.out.1, HET.out.2])
      refine (HOF.out _ H2.out.1).mono ?_
      rintro e w3 ⟨t', htl, rfl, hb3⟩
      obtain ⟨htm, hbm, hlm, hth⟩ := tab_made (ty := 95) (zc := Try.zeroCells95) w3 t' htl zero_cellsM
      obtain ⟨T3, hT3⟩ : ∃ T, w3.heap.size = T := ⟨_, rfl⟩
      obtain ⟨w4, hw4⟩ : ∃ V, (w3.alloc (.cells Try.zeroCells95 95)).setCells w3.heap.size 0 (tb t') = V := ⟨_, rfl⟩
      rw [hw4] at hbm
      have HWM := Lib.hid (And.intro hT3 (And.intro hw4 hth))
      have HTL := Lib.hid htl
      have H4 : Hid (Below wb.heap.size wb w4 ∧ WrdAt w4 T zero10 ∧ WrdAt w4 X ws) := Lib.hid (by
        have h2 := hb3.trans (hbm.mono hb3.size)
        have h3 := H2.out.1.trans (h2.mono H2.out.1.size)
        exact ⟨h3, H2.out.2.below h2, HX.out.1.below h3⟩)
      clear htm hbm hlm hth hb3 hT3 hw4 htl HOF
      go_upto_region 5 with (refine wpList_store_mid rfl 95 (.tmp 7) (.tmp 29) rfl w3.heap.size 0 (tb t').toArray rfl rfl (by simpa [tb_len, HTL.out] using HWM.out.2.2) (by simp only [List.size_toArray, tb_len, HTL.out]; kernel_rfl) (all_oneCell_toArray (tb_one _)) ?_; rw [List.toList_toArray, HWM.out.2.1, HWM.out.1])
      have hrg : w4.rangeAt T 0 (tw zero10) := H4.out.2.1.range
      have HSB : Hid (∀ V, Below w4.heap.size w4 V → V.rangeAt T 0 (tw zero10)) := Lib.hid (fun V hV => (H4.out.2.1.below hV).range)
      have HHR : Hid (decide (zero10 ≠ zero10) = false) := Lib.hid (by simp)
      refine wp_region_noPanic ?_
      refine wp_region_held_drew (S := (fun w' => w'.rangeAt T 0 (tw zero10))) (by kernel_rfl) ?_ (fun hHeld => ?_)
      · exact hrg
      refine' wpAnyH_take (i := 0) (v := _) rfl (by kernel_rfl) (by kernel_rfl) (by kernel_rfl) (fun _ _ _ h => h) (Or.inl ⟨by rfl, ?hy⟩) hHeld _
      case hy => (intro w0 hSw; (try dsimp only at hSw); (try simp only [List.getElem_toArray, List.getElem_cons_zero, List.getElem_cons_succ]); go_simp; first | done | with_reducible rfl)
      try simp only [Act.put, List.getElem_toArray, List.getElem_cons_zero, List.getElem_cons_succ, List.setIfInBounds_toArray, List.set_cons_zero, List.set_cons_succ]
      refine' wpAnyH_take (i := 1) (v := _) rfl (by kernel_rfl) (by kernel_rfl) (by kernel_rfl) (fun _ _ _ h => h) (Or.inl ⟨by rfl, ?hy⟩) hHeld _
      case hy => (intro w0 hSw; (try dsimp only at hSw); (try simp only [List.getElem_toArray, List.getElem_cons_zero, List.getElem_cons_succ]); go_simp; first | done | with_reducible rfl)
      try simp only [Act.put, List.getElem_toArray, List.getElem_cons_zero, List.getElem_cons_succ, List.setIfInBounds_toArray, List.set_cons_zero, List.set_cons_succ]
      refine wpAnyH_ready (rs := [2]) (by kernel_rfl) (by simp) ?_
      refine AllReadyH.cons rfl (fun K hK => ?_) AllReadyH.nil
      go_simp
      refine (num06_any _ _).mono ?_
      rintro e wn ⟨rfl, hwn⟩
      subst hwn
      clear hHeld
      refine hK.out _ _ ?_ (fun hHeld => ?_)
      · exact hrg
      clear hK K
      try simp only [Act.put, List.getElem_toArray, List.getElem_cons_zero, List.getElem_cons_succ, List.setIfInBounds_toArray, List.set_cons_zero, List.set_cons_succ]
      refine' wpAnyH_take (i := 3) (v := _) rfl (by kernel_rfl) (by kernel_rfl) (by kernel_rfl) (fun _ _ _ h => h) (Or.inl ⟨by rfl, ?hy⟩) hHeld _
      case hy => (intro w0 hSw; (try dsimp only at hSw); (try simp only [List.getElem_toArray, List.getElem_cons_zero, List.getElem_cons_succ]); go_simp; first | done | with_reducible rfl)
      try simp only [Act.put, List.getElem_toArray, List.getElem_cons_zero, List.getElem_cons_succ, List.setIfInBounds_toArray, List.set_cons_zero, List.set_cons_succ]
      refine' wpAnyH_take (i := 4) (v := _) rfl (by kernel_rfl) (by kernel_rfl) (by kernel_rfl) (fun _ _ _ h => h) (Or.inl ⟨by rfl, ?hy⟩) hHeld _
      case hy => (intro w0 hSw; (try dsimp only at hSw); (try simp only [List.getElem_toArray, List.getElem_cons_zero, List.getElem_cons_succ]); go_simp; first | done | with_reducible rfl)
      try simp only [Act.put, List.getElem_toArray, List.getElem_cons_zero, List.getElem_cons_succ, List.setIfInBounds_toArray, List.set_cons_zero, List.set_cons_succ]
      refine' wpAnyH_take (i := 5) (v := _) rfl (by kernel_rfl) (by kernel_rfl) (by kernel_rfl) (fun _ _ _ h => h) (Or.inl ⟨by rfl, ?hy⟩) hHeld _
      case hy => (intro w0 hSw; (try dsimp only at hSw); (try simp only [List.getElem_toArray, List.getElem_cons_zero, List.getElem_cons_succ]); go_simp; first | done | with_reducible rfl)
      try simp only [Act.put, List.getElem_toArray, List.getElem_cons_zero, List.getElem_cons_succ, List.setIfInBounds_toArray, List.set_cons_zero, List.set_cons_succ]
      refine' wpAnyH_take (i := 6) (v := _) rfl (by kernel_rfl) (by kernel_rfl) (by kernel_rfl) (fun _ _ _ h => h) (Or.inl ⟨by rfl, ?hy⟩) hHeld _
      case hy => (intro w0 hSw; (try dsimp only at hSw); (try simp only [List.getElem_toArray, List.getElem_cons_zero, List.getElem_cons_succ]); go_simp; first | done | with_reducible rfl)
      try simp only [Act.put, List.getElem_toArray, List.getElem_cons_zero, List.getElem_cons_succ, List.setIfInBounds_toArray, List.set_cons_zero, List.set_cons_succ]
      refine' wpAnyH_take (i := 7) (v := _) rfl (by kernel_rfl) (by kernel_rfl) (by kernel_rfl) (fun _ _ _ h => h) (Or.inl ⟨by rfl, ?hy⟩) hHeld _
      case hy => (intro w0 hSw; (try dsimp only at hSw); (try simp only [List.getElem_toArray, List.getElem_cons_zero, List.getElem_cons_succ]); go_simp; first | done | with_reducible rfl)
      try simp only [Act.put, List.getElem_toArray, List.getElem_cons_zero, List.getElem_cons_succ, List.setIfInBounds_toArray, List.set_cons_zero, List.set_cons_succ]
      refine wpAnyH_take (i := 8) (v := undef) rfl (by kernel_rfl) (by kernel_rfl) (by kernel_rfl) (fun _ _ _ h => h) (Or.inr ⟨by rfl, rfl⟩) hHeld ?_
      try simp only [Act.put, List.getElem_toArray, List.getElem_cons_zero, List.getElem_cons_succ, List.setIfInBounds_toArray, List.set_cons_zero, List.set_cons_succ]
      refine wpAnyH_take (i := 9) (v := undef) rfl (by kernel_rfl) (by kernel_rfl) (by kernel_rfl) (fun _ _ _ h => h) (Or.inr ⟨by rfl, rfl⟩) hHeld ?_
      try simp only [Act.put, List.getElem_toArray, List.getElem_cons_zero, List.getElem_cons_succ, List.setIfInBounds_toArray, List.set_cons_zero, List.set_cons_succ]
      refine wpAnyH_take (i := 10) (v := undef) rfl (by kernel_rfl) (by kernel_rfl) (by kernel_rfl) (fun _ _ _ h => h) (Or.inr ⟨by rfl, rfl⟩) hHeld ?_
      try simp only [Act.put, List.getElem_toArray, List.getElem_cons_zero, List.getElem_cons_succ, List.setIfInBounds_toArray, List.set_cons_zero, List.set_cons_succ]
      refine wpAnyH_take (i := 11) (v := undef) rfl (by kernel_rfl) (by kernel_rfl) (by kernel_rfl) (fun _ _ _ h => h) (Or.inr ⟨by rfl, rfl⟩) hHeld ?_
      try simp only [Act.put, List.getElem_toArray, List.getElem_cons_zero, List.getElem_cons_succ, List.setIfInBounds_toArray, List.set_cons_zero, List.set_cons_succ]
      refine' wpAnyH_take (i := 12) (v := _) rfl (by kernel_rfl) (by kernel_rfl) (by kernel_rfl) (fun _ _ _ h => h) (Or.inl ⟨by rfl, ?hy⟩) hHeld _
      case hy => (intro w0 hSw; (try dsimp only at hSw); (try simp only [List.getElem_toArray, List.getElem_cons_zero, List.getElem_cons_succ]); go_simp; first | done | with_reducible rfl)
      try simp only [Act.put, List.getElem_toArray, List.getElem_cons_zero, List.getElem_cons_succ, List.setIfInBounds_toArray, List.set_cons_zero, List.set_cons_succ]
      refine' wpAnyH_take (i := 13) (v := _) rfl (by kernel_rfl) (by kernel_rfl) (by kernel_rfl) (fun _ _ _ h => h) (Or.inl ⟨by rfl, ?hy⟩) hHeld _
      case hy => (intro w0 hSw; (try dsimp only at hSw); (try simp only [List.getElem_toArray, List.getElem_cons_zero, List.getElem_cons_succ]); go_simp; first | done | with_reducible rfl)
      try simp only [Act.put, List.getElem_toArray, List.getElem_cons_zero, List.getElem_cons_succ, List.setIfInBounds_toArray, List.set_cons_zero, List.set_cons_succ]
      refine' wpAnyH_take (i := 14) (v := _) rfl (by kernel_rfl) (by kernel_rfl) (by kernel_rfl) (fun _ _ _ h => h) (Or.inl ⟨by rfl, ?hy⟩) hHeld _
      case hy => (intro w0 hSw; (try dsimp only at hSw); (try simp only [List.getElem_toArray, List.getElem_cons_zero, List.getElem_cons_succ]); go_simp; first | done | with_reducible rfl)
      try simp only [Act.put, List.getElem_toArray, List.getElem_cons_zero, List.getElem_cons_succ, List.setIfInBounds_toArray, List.set_cons_zero, List.set_cons_succ]
      refine' wpAnyH_take (i := 15) (v := _) rfl (by kernel_rfl) (by kernel_rfl) (by kernel_rfl) (fun _ _ _ h => h) (Or.inl ⟨by rfl, ?hy⟩) hHeld _
      case hy => (intro w0 hSw; (try dsimp only at hSw); (try simp only [List.getElem_toArray, List.getElem_cons_zero, List.getElem_cons_succ]); go_simp; first | done | with_reducible rfl)
      try simp only [Act.put, List.getElem_toArray, List.getElem_cons_zero, List.getElem_cons_succ, List.setIfInBounds_toArray, List.set_cons_zero, List.set_cons_succ]
      refine' wpAnyH_take (i := 16) (v := _) rfl (by kernel_rfl) (by kernel_rfl) (by kernel_rfl) (fun _ _ _ h => h) (Or.inl ⟨by rfl, ?hy⟩) hHeld _
      case hy => (intro w0 hSw; (try dsimp only at hSw); (try simp only [List.getElem_toArray, List.getElem_cons_zero, List.getElem_cons_succ]); go_simp; first | done | with_reducible rfl)
      try simp only [Act.put, List.getElem_toArray, List.getElem_cons_zero, List.getElem_cons_succ, List.setIfInBounds_toArray, List.set_cons_zero, List.set_cons_succ]
      refine' wpAnyH_take (i := 17) (v := _) rfl (by kernel_rfl) (by kernel_rfl) (by kernel_rfl) (fun _ _ _ h => h) (Or.inl ⟨by rfl, ?hy⟩) hHeld _
      case hy => (intro w0 hSw; (try dsimp only at hSw); (try simp only [List.getElem_toArray, List.getElem_cons_zero, List.getElem_cons_succ]); go_simp; first | done | with_reducible rfl)
      try simp only [Act.put, List.getElem_toArray, List.getElem_cons_zero, List.getElem_cons_succ, List.setIfInBounds_toArray, List.set_cons_zero, List.set_cons_succ]
      refine' wpAnyH_take (i := 18) (v := _) rfl (by kernel_rfl) (by kernel_rfl) (by kernel_rfl) (fun _ _ _ h => h) (Or.inl ⟨by rfl, ?hy⟩) hHeld _
      case hy => (intro w0 hSw; (try dsimp only at hSw); (try simp only [List.getElem_toArray, List.getElem_cons_zero, List.getElem_cons_succ]); go_simp; first | done | with_reducible rfl)
      try simp only [Act.put, List.getElem_toArray, List.getElem_cons_zero, List.getElem_cons_succ, List.setIfInBounds_toArray, List.set_cons_zero, List.set_cons_succ]
      refine wpAnyH_ready (rs := [19]) (by kernel_rfl) (by simp) ?_
      refine AllReadyH.cons rfl (fun K hK => ?_) AllReadyH.nil
      go_simp
      refine (num06_any _ _).mono ?_
      rintro e wn ⟨rfl, hwn⟩
      subst hwn
      clear hHeld
      refine hK.out _ _ ?_ (fun hHeld => ?_)
      · exact hrg
      clear hK K
      try simp only [Act.put, List.getElem_toArray, List.getElem_cons_zero, List.getElem_cons_succ, List.setIfInBounds_toArray, List.set_cons_zero, List.set_cons_succ]
      refine' wpAnyH_take (i := 20) (v := _) rfl (by kernel_rfl) (by kernel_rfl) (by kernel_rfl) (fun _ _ _ h => h) (Or.inl ⟨by rfl, ?hy⟩) hHeld _
      case hy => (intro w0 hSw; (try dsimp only at hSw); (try simp only [List.getElem_toArray, List.getElem_cons_zero, List.getElem_cons_succ]); go_simp; first | done | with_reducible rfl)
      try simp only [Act.put, List.getElem_toArray, List.getElem_cons_zero, List.getElem_cons_succ, List.setIfInBounds_toArray, List.set_cons_zero, List.set_cons_succ]
      refine' wpAnyH_take (i := 21) (v := _) rfl (by kernel_rfl) (by kernel_rfl) (by kernel_rfl) (fun _ _ _ h => h) (Or.inl ⟨by rfl, ?hy⟩) hHeld _
      case hy => (intro w0 hSw; (try dsimp only at hSw); (try simp only [List.getElem_toArray, List.getElem_cons_zero, List.getElem_cons_succ]); go_simp; first | done | with_reducible rfl)
      try simp only [Act.put, List.getElem_toArray, List.getElem_cons_zero, List.getElem_cons_succ, List.setIfInBounds_toArray, List.set_cons_zero, List.set_cons_succ]
      refine' wpAnyH_take (i := 22) (v := (.agg (tw zero10).toArray)) rfl (by kernel_rfl) (by kernel_rfl) (by kernel_rfl) (fun _ _ _ h => h) (yieldsIf_load_mid (by rfl) 101 (.tmp 5) rfl T 0 rfl (tw zero10) (.array 10 23) (fun _ h => h) (by kernel_rfl) rfl (by rw [tw_len, HLT.out]; kernel_rfl)) hHeld _
      try simp only [Act.put, List.getElem_toArray, List.getElem_cons_zero, List.getElem_cons_succ, List.setIfInBounds_toArray, List.set_cons_zero, List.set_cons_succ]
      have hzv := zero_tw
      refine' wpAnyH_take (i := 23) (v := _) rfl (by kernel_rfl) (by kernel_rfl) (by kernel_rfl) (fun _ _ _ h => h) (Or.inl ⟨by rfl, ?hy⟩) hHeld _
      case hy => (intro w0 hSw; (try dsimp only at hSw); (try simp only [List.getElem_toArray, List.getElem_cons_zero, List.getElem_cons_succ]); go_simp; first | done | with_reducible rfl)
      try simp only [Act.put, List.getElem_toArray, List.getElem_cons_zero, List.getElem_cons_succ, List.setIfInBounds_toArray, List.set_cons_zero, List.set_cons_succ]
      clear hzv
      refine' wpAnyH_take (i := 24) (v := (.bool false)) rfl (by kernel_rfl) (by kernel_rfl) (by kernel_rfl) (fun _ _ _ h => h) (yieldsIf_neq_tw (by rfl) (.tmp 53) (.tmp 54) rfl rfl rfl HLT.out HLT.out HHR.out) hHeld _
      try simp only [Act.put, List.getElem_toArray, List.getElem_cons_zero, List.getElem_cons_succ, List.setIfInBounds_toArray, List.set_cons_zero, List.set_cons_succ]
      refine' wpAnyH_take (i := 25) (v := _) rfl (by kernel_rfl) (by kernel_rfl) (by kernel_rfl) (fun _ _ _ h => h) (Or.inl ⟨by rfl, ?hy⟩) hHeld _
      case hy => (intro w0 hSw; (try dsimp only at hSw); (try simp only [List.getElem_toArray, List.getElem_cons_zero, List.getElem_cons_succ]); go_simp; first | done | with_reducible rfl)
      try simp only [Act.put, List.getElem_toArray, List.getElem_cons_zero, List.getElem_cons_succ, List.setIfInBounds_toArray, List.set_cons_zero, List.set_cons_succ]
      refine' wpAnyH_take (i := 26) (v := _) rfl (by kernel_rfl) (by kernel_rfl) (by kernel_rfl) (fun _ _ _ h => h) (Or.inl ⟨by rfl, ?hy⟩) hHeld _
      case hy => (intro w0 hSw; (try dsimp only at hSw); (try simp only [List.getElem_toArray, List.getElem_cons_zero, List.getElem_cons_succ]); go_simp; first | done | with_reducible rfl)
      try simp only [Act.put, List.getElem_toArray, List.getElem_cons_zero, List.getElem_cons_succ, List.setIfInBounds_toArray, List.set_cons_zero, List.set_cons_succ]
      refine' wpAnyH_take (i := 27) (v := _) rfl (by kernel_rfl) (by kernel_rfl) (by kernel_rfl) (fun _ _ _ h => h) (Or.inl ⟨by rfl, ?hy⟩) hHeld _
      case hy => (intro w0 hSw; (try dsimp only at hSw); (try simp only [List.getElem_toArray, List.getElem_cons_zero, List.getElem_cons_succ]); go_simp; first | done | with_reducible rfl)
      try simp only [Act.put, List.getElem_toArray, List.getElem_cons_zero, List.getElem_cons_succ, List.setIfInBounds_toArray, List.set_cons_zero, List.set_cons_succ]
      refine wpAnyH_done (by kernel_rfl) ?_ _
      refine NoPanic.normal ?_
      clear hHeld hrg
      have HV : Hid (Below w.heap.size w w4.drew ∧ WrdAt w4.drew X ws) := Lib.hid ⟨(HX.out.2.trans (H4.out.1.mono HX.out.2.size)).drew, H4.out.2.2⟩
      go_wp2_with (refine wpList_load_mid rfl 101 (.tmp 3) rfl X 0 rfl (tw ws) (.array 10 23) HV.out.2.range (by kernel_rfl) rfl (by rw [tw_len, HL.out]; kernel_rfl) ?_)
      refine (eOf_any ws HL.out _).mono ?_
      rintro e wa ⟨p1, c1, rfl, ho1, -, hb1⟩
      have HA := Lib.hid (And.intro ho1 (And.intro (HV.out.1.trans (hb1.mono HV.out.1.size)) (HV.out.2.below hb1)))
      clear ho1 hb1
      go_wp2_with (refine wpList_load_mid rfl 101 (.tmp 3) rfl X 0 rfl (tw ws) (.array 10 23) HA.out.2.2.range (by kernel_rfl) rfl (by rw [tw_len, HL.out]; kernel_rfl) ?_)
      refine (refRead_any ws HL.out _).mono ?_
      rintro e wc ⟨p2, c2, rfl, ho2, -, hb2⟩
      have HC := Lib.hid (And.intro (OwnG.below HA.out.1 hb2) (And.intro ho2 (And.intro (HA.out.2.1.trans (hb2.mono HA.out.2.1.size)) (HA.out.2.2.below hb2))))
      clear ho2 hb2
      have HRD := Lib.hid (read_cases ws)
      obtain ⟨rr, hrr⟩ : ∃ rr, readL ws = rr := ⟨_, rfl⟩
      rw [hrr] at HC HRD ⊢
      clear hrr
      obtain ⟨RL, RE⟩ := rr
      simp only at HC HRD ⊢
      have hs : Calls Try.prog 43 #[.slice p1 RL.length c1, .slice p2 RL.length c2] wc fun e w' => e = .returned (.bool true) ∧ Below wc.heap.size wc w' := (sameList_any p1 p2 c1 c2 RL RL wc (OwnG.rds xc_len HC.out.1) (OwnG.rds xc_len HC.out.2.1)).mono (fun e w' h => ⟨by rw [h.1, decide_eq_true rfl], (by obtain ⟨q, rfl⟩ := h.2; exact below_drewN (Below.refl _ wc) q)⟩)
      obtain ⟨rn, hrn⟩ : ∃ rn, RL.length = rn := ⟨_, rfl⟩
      rw [hrn] at hs
      try rw [hrn]
      have HRN := Lib.hid hrn
      have HS := Lib.hid hs
      clear hs hrn
      have hc := HRD.out.1
      rcases hc with rfl | rfl
      · have HW0 := Lib.hid (HRD.out.2 rfl)
        go_wp2_with fail
        refine HS.out.mono ?_
        rintro e wd ⟨rfl, hb3⟩
        have HD := Lib.hid (And.intro (OwnG.below HC.out.1 hb3) (And.intro (HC.out.2.2.1.trans (hb3.mono HC.out.2.2.1.size)) (HC.out.2.2.2.below hb3)))
        clear hb3
        go_wp2_with fail
        refine (num06_any _ _).mono ?_
        rintro e wn ⟨rfl, hwn⟩
        subst hwn
        go_wp2_with fail
        have hwd := wordsE_any p1 c1 RL wd (OwnG.rds xc_len HD.out.1)
        rw [HW0.out, HRN.out] at hwd
        have HWD := Lib.hid hwd
        clear hwd
        refine HWD.out.mono ?_
        rintro e we ⟨rfl, hb4⟩
        have HTMT2 := Lib.hid (wrd_made we ws HL.out)
        obtain ⟨wf, hwwf⟩ : ∃ V, (we.alloc (.cells #[.int .u64 0, .int .u64 0, .int .u64 0, .int .u64 0, .int .u64 0, .int .u64 0, .int .u64 0, .int .u64 0, .int .u64 0, .int .u64 0] 101)).setCells we.heap.size 0 (tw ws) = V := ⟨_, rfl⟩
        obtain ⟨T2, hT2⟩ : ∃ T, we.heap.size = T := ⟨_, rfl⟩
        have HET2 := Lib.hid (And.intro hwwf hT2)
        have HMM : WrdAt wf T2 ws ∧ Below we.heap.size we wf := by
          have h := HTMT2.out
          rw [hwwf, hT2] at h
          rw [← hT2] at h ⊢
          exact ⟨h.1, h.2.1⟩
        clear hwwf hT2
        have HF : Hid (Below w.heap.size w wf ∧ WrdAt wf T2 ws ∧ WrdAt wf X ws) := Lib.hid (by
          have h2 := hb4.trans (HMM.2.mono hb4.size)
          exact ⟨HD.out.2.1.trans (h2.mono HD.out.2.1.size), HMM.1, HD.out.2.2.below h2⟩)
        clear hb4 HMM HWD
        go_wp2_with (refine wpList_store_mid rfl 101 (.tmp 15) (.tmp 100) rfl we.heap.size 0 (tw ws).toArray rfl rfl (by simpa [tw_len, HL.out] using HTMT2.out.2.2) (by simp only [List.size_toArray, tw_len, HL.out]; kernel_rfl) (all_oneCell_toArray (tw_one _)) ?_; rw [List.toList_toArray, HET2.out.1, HET2.out.2])
        refine (num06_any _ _).mono ?_
        rintro e wn ⟨rfl, hwn⟩
        subst hwn
        go_wp2_with (first | (refine wpList_load_midW (by rfl) 101 (.tmp 15) rfl T2 0 rfl (tw ws) (.array 10 23) HF.out.2.1.range (by kernel_rfl) rfl (by rw [tw_len, HL.out]; kernel_rfl) ?_) | (refine wpList_load_midW (by rfl) 101 (.tmp 3) rfl X 0 rfl (tw ws) (.array 10 23) HF.out.2.2.range (by kernel_rfl) rfl (by rw [tw_len, HL.out]; kernel_rfl) ?_) | (refine wpList_eql_tw (r := true) (by rfl) (.tmp 106) (.tmp 107) rfl rfl rfl HL.out HL.out (decide_eq_true rfl) ?_))
        refine (works06_any _).mono ?_
        rintro e w' ⟨rfl, hb⟩
        have H9 := Lib.hid (HF.out.1.trans (hb.mono HF.out.1.size))
        clear hb
        go_wp2_with fail
        go_ret
        exact ⟨rfl, H9.out⟩
      · go_wp2_with fail
        refine HS.out.mono ?_
        rintro e wd ⟨rfl, hb3⟩
        have HD := Lib.hid (And.intro (OwnG.below HC.out.1 hb3) (And.intro (HC.out.2.2.1.trans (hb3.mono HC.out.2.2.1.size)) (HC.out.2.2.2.below hb3)))
        clear hb3
        go_wp2_with fail
        refine (num06_any _ _).mono ?_
        rintro e wn ⟨rfl, hwn⟩
        subst hwn
        go_wp2_with fail
        refine (works06_any _).mono ?_
        rintro e w' ⟨rfl, hb⟩
        have H9 := Lib.hid (HD.out.2.1.trans (hb.mono HD.out.2.1.size))
        clear hb
        go_wp2_with fail
        go_ret
        exact ⟨rfl, H9.out⟩
    | some t =>
      have hE : wordsR l = (wordsX l, 0) := by unfold wordsR; rw [ho]; rfl
      rw [hE] at hwe
      have HWE := Lib.hid hwe
      have HOF : Hid (∀ V, Below wb.heap.size wb V → Calls Try.prog 48 #[.slice p n cap] V fun e w' => ∃ t' : List Int, t'.length = 128 ∧ e = .returned (.tuple #[.agg (tb t').toArray, .bool true]) ∧ Below V.heap.size V w') := Lib.hid (fun V hV => by have h := refOfT_any p cap l V (HRDS.out.onX (HX.out.2.trans (hV.mono HX.out.2.size))); rw [ho, HN.out] at h; exact h.mono (fun e w' ⟨t', a, _, b, c⟩ => ⟨t', a, b, c⟩))
      have HRW0 := Lib.hid (read_words ho)
      have HRW : Hid (∀ V, Below wb.heap.size wb V → Calls Try.prog 51 #[.slice p n cap] V fun e w' => e = .returned (.agg (tw (wordsX l)).toArray) ∧ Below V.heap.size V w') := Lib.hid (fun V hV => by have ho2 := ofX_ok ho; have h := refWords_any p cap l V (HRDS.out.onX (HX.out.2.trans (hV.mono HX.out.2.size))) ho2.2.2.1 ho2.2.2.2; rw [HN.out] at h; exact h)
      clear hE hwe ho
      have HLT : Hid ((wordsX l).length = 10) := Lib.hid (wordsX_len l)
      go_enter Try.func11, Try.ntmps11
      go_upto_region 1 with fail
      rw [HXB.out.1, HXB.out.2]
      go_wp2_with fail
      refine HWE.out.mono ?_
      rintro e w1 ⟨rfl, hb1⟩
      have HTMT := Lib.hid (wrd_made w1 (wordsX l) HLT.out)
      obtain ⟨w2, hww2⟩ : ∃ V, (w1.alloc (.cells #[.int .u64 0, .int .u64 0, .int .u64 0, .int .u64 0, .int .u64 0, .int .u64 0, .int .u64 0, .int .u64 0, .int .u64 0, .int .u64 0] 101)).setCells w1.heap.size 0 (tw (wordsX l)) = V := ⟨_, rfl⟩
      obtain ⟨T, hT⟩ : ∃ T, w1.heap.size = T := ⟨_, rfl⟩
      have HET := Lib.hid (And.intro hww2 hT)
      have HMM : WrdAt w2 T (wordsX l) ∧ Below w1.heap.size w1 w2 := by
        have h := HTMT.out
        rw [hww2, hT] at h
        rw [← hT] at h ⊢
        exact ⟨h.1, h.2.1⟩
      clear hww2 hT
      have H2 : Hid (Below wb.heap.size wb w2 ∧ WrdAt w2 T (wordsX l)) := Lib.hid ⟨hb1.trans (HMM.2.mono hb1.size), HMM.1⟩
      clear hb1 HMM HWE
      go_wp2_with (refine wpList_store_mid rfl 101 (.tmp 5) (.tmp 24) rfl w1.heap.size 0 (tw (wordsX l)).toArray rfl rfl (by simpa [tw_len, HLT.out] using HTMT.out.2.2) (by simp only [List.size_toArray, tw_len, HLT.out]; kernel_rfl) (all_oneCell_toArray (tw_one _)) ?_; rw [List.toList_toArray, HET.out.1, HET.out.2])
      refine (HOF.out _ H2.out.1).mono ?_
      rintro e w3 ⟨t', htl, rfl, hb3⟩
      obtain ⟨htm, hbm, hlm, hth⟩ := tab_made (ty := 95) (zc := Try.zeroCells95) w3 t' htl zero_cellsM
      obtain ⟨T3, hT3⟩ : ∃ T, w3.heap.size = T := ⟨_, rfl⟩
      obtain ⟨w4, hw4⟩ : ∃ V, (w3.alloc (.cells Try.zeroCells95 95)).setCells w3.heap.size 0 (tb t') = V := ⟨_, rfl⟩
      rw [hw4] at hbm
      have HWM := Lib.hid (And.intro hT3 (And.intro hw4 hth))
      have HTL := Lib.hid htl
      have H4 : Hid (Below wb.heap.size wb w4 ∧ WrdAt w4 T (wordsX l) ∧ WrdAt w4 X ws) := Lib.hid (by
        have h2 := hb3.trans (hbm.mono hb3.size)
        have h3 := H2.out.1.trans (h2.mono H2.out.1.size)
        exact ⟨h3, H2.out.2.below h2, HX.out.1.below h3⟩)
      clear htm hbm hlm hth hb3 hT3 hw4 htl HOF
      go_upto_region 5 with (refine wpList_store_mid rfl 95 (.tmp 7) (.tmp 29) rfl w3.heap.size 0 (tb t').toArray rfl rfl (by simpa [tb_len, HTL.out] using HWM.out.2.2) (by simp only [List.size_toArray, tb_len, HTL.out]; kernel_rfl) (all_oneCell_toArray (tb_one _)) ?_; rw [List.toList_toArray, HWM.out.2.1, HWM.out.1])
      have hrg : w4.rangeAt T 0 (tw (wordsX l)) := H4.out.2.1.range
      have HSB : Hid (∀ V, Below w4.heap.size w4 V → V.rangeAt T 0 (tw (wordsX l))) := Lib.hid (fun V hV => (H4.out.2.1.below hV).range)
      have HHR : Hid (decide ((wordsX l) ≠ (wordsX l)) = false) := Lib.hid (by simp)
      refine wp_region_noPanic ?_
      refine wp_region_held_drew (S := (fun w' => w'.rangeAt T 0 (tw (wordsX l)))) (by kernel_rfl) ?_ (fun hHeld => ?_)
      · exact hrg
      refine' wpAnyH_take (i := 0) (v := _) rfl (by kernel_rfl) (by kernel_rfl) (by kernel_rfl) (fun _ _ _ h => h) (Or.inl ⟨by rfl, ?hy⟩) hHeld _
      case hy => (intro w0 hSw; (try dsimp only at hSw); (try simp only [List.getElem_toArray, List.getElem_cons_zero, List.getElem_cons_succ]); go_simp; first | done | with_reducible rfl)
      try simp only [Act.put, List.getElem_toArray, List.getElem_cons_zero, List.getElem_cons_succ, List.setIfInBounds_toArray, List.set_cons_zero, List.set_cons_succ]
      refine' wpAnyH_take (i := 1) (v := _) rfl (by kernel_rfl) (by kernel_rfl) (by kernel_rfl) (fun _ _ _ h => h) (Or.inl ⟨by rfl, ?hy⟩) hHeld _
      case hy => (intro w0 hSw; (try dsimp only at hSw); (try simp only [List.getElem_toArray, List.getElem_cons_zero, List.getElem_cons_succ]); go_simp; first | done | with_reducible rfl)
      try simp only [Act.put, List.getElem_toArray, List.getElem_cons_zero, List.getElem_cons_succ, List.setIfInBounds_toArray, List.set_cons_zero, List.set_cons_succ]
      refine wpAnyH_ready (rs := [2]) (by kernel_rfl) (by simp) ?_
      refine AllReadyH.cons rfl (fun K hK => ?_) AllReadyH.nil
      go_simp
      refine (num06_any _ _).mono ?_
      rintro e wn ⟨rfl, hwn⟩
      subst hwn
      clear hHeld
      refine hK.out _ _ ?_ (fun hHeld => ?_)
      · exact hrg
      clear hK K
      try simp only [Act.put, List.getElem_toArray, List.getElem_cons_zero, List.getElem_cons_succ, List.setIfInBounds_toArray, List.set_cons_zero, List.set_cons_succ]
      refine' wpAnyH_take (i := 3) (v := _) rfl (by kernel_rfl) (by kernel_rfl) (by kernel_rfl) (fun _ _ _ h => h) (Or.inl ⟨by rfl, ?hy⟩) hHeld _
      case hy => (intro w0 hSw; (try dsimp only at hSw); (try simp only [List.getElem_toArray, List.getElem_cons_zero, List.getElem_cons_succ]); go_simp; first | done | with_reducible rfl)
      try simp only [Act.put, List.getElem_toArray, List.getElem_cons_zero, List.getElem_cons_succ, List.setIfInBounds_toArray, List.set_cons_zero, List.set_cons_succ]
      refine' wpAnyH_take (i := 4) (v := _) rfl (by kernel_rfl) (by kernel_rfl) (by kernel_rfl) (fun _ _ _ h => h) (Or.inl ⟨by rfl, ?hy⟩) hHeld _
      case hy => (intro w0 hSw; (try dsimp only at hSw); (try simp only [List.getElem_toArray, List.getElem_cons_zero, List.getElem_cons_succ]); go_simp; first | done | with_reducible rfl)
      try simp only [Act.put, List.getElem_toArray, List.getElem_cons_zero, List.getElem_cons_succ, List.setIfInBounds_toArray, List.set_cons_zero, List.set_cons_succ]
      refine' wpAnyH_take (i := 5) (v := _) rfl (by kernel_rfl) (by kernel_rfl) (by kernel_rfl) (fun _ _ _ h => h) (Or.inl ⟨by rfl, ?hy⟩) hHeld _
      case hy => (intro w0 hSw; (try dsimp only at hSw); (try simp only [List.getElem_toArray, List.getElem_cons_zero, List.getElem_cons_succ]); go_simp; first | done | with_reducible rfl)
      try simp only [Act.put, List.getElem_toArray, List.getElem_cons_zero, List.getElem_cons_succ, List.setIfInBounds_toArray, List.set_cons_zero, List.set_cons_succ]
      refine' wpAnyH_take (i := 6) (v := _) rfl (by kernel_rfl) (by kernel_rfl) (by kernel_rfl) (fun _ _ _ h => h) (Or.inl ⟨by rfl, ?hy⟩) hHeld _
      case hy => (intro w0 hSw; (try dsimp only at hSw); (try simp only [List.getElem_toArray, List.getElem_cons_zero, List.getElem_cons_succ]); go_simp; first | done | with_reducible rfl)
      try simp only [Act.put, List.getElem_toArray, List.getElem_cons_zero, List.getElem_cons_succ, List.setIfInBounds_toArray, List.set_cons_zero, List.set_cons_succ]
      refine' wpAnyH_take (i := 7) (v := _) rfl (by kernel_rfl) (by kernel_rfl) (by kernel_rfl) (fun _ _ _ h => h) (Or.inl ⟨by rfl, ?hy⟩) hHeld _
      case hy => (intro w0 hSw; (try dsimp only at hSw); (try simp only [List.getElem_toArray, List.getElem_cons_zero, List.getElem_cons_succ]); go_simp; first | done | with_reducible rfl)
      try simp only [Act.put, List.getElem_toArray, List.getElem_cons_zero, List.getElem_cons_succ, List.setIfInBounds_toArray, List.set_cons_zero, List.set_cons_succ]
      refine' wpAnyH_take (i := 8) (v := (.agg (tw (wordsX l)).toArray)) rfl (by kernel_rfl) (by kernel_rfl) (by kernel_rfl) (fun _ _ _ h => h) (yieldsIf_load_mid (by rfl) 101 (.tmp 5) rfl T 0 rfl (tw (wordsX l)) (.array 10 23) (fun _ h => h) (by kernel_rfl) rfl (by rw [tw_len, HLT.out]; kernel_rfl)) hHeld _
      try simp only [Act.put, List.getElem_toArray, List.getElem_cons_zero, List.getElem_cons_succ, List.setIfInBounds_toArray, List.set_cons_zero, List.set_cons_succ]
      refine' wpAnyH_take (i := 9) (v := _) rfl (by kernel_rfl) (by kernel_rfl) (by kernel_rfl) (fun _ _ _ h => h) (Or.inl ⟨by rfl, ?hy⟩) hHeld _
      case hy => (intro w0 hSw; (try dsimp only at hSw); (try simp only [List.getElem_toArray, List.getElem_cons_zero, List.getElem_cons_succ]); go_simp; first | done | with_reducible rfl)
      try simp only [Act.put, List.getElem_toArray, List.getElem_cons_zero, List.getElem_cons_succ, List.setIfInBounds_toArray, List.set_cons_zero, List.set_cons_succ]
      refine wpAnyH_ready (rs := [10]) (by kernel_rfl) (by simp) ?_
      refine AllReadyH.cons rfl (fun K hK => ?_) AllReadyH.nil
      go_simp
      refine (HRW.out _ H4.out.1.drew).mono ?_
      rintro e w8 ⟨rfl, hb8⟩
      have HB8 : Hid (Below w4.heap.size w4 w8) := Lib.hid ((Below.refl _ w4).drew.trans hb8)
      clear hb8
      clear hHeld
      refine hK.out _ _ ?_ (fun hHeld => ?_)
      · exact HSB.out _ HB8.out
      clear hK K
      try simp only [Act.put, List.getElem_toArray, List.getElem_cons_zero, List.getElem_cons_succ, List.setIfInBounds_toArray, List.set_cons_zero, List.set_cons_succ]
      refine' wpAnyH_take (i := 11) (v := (.bool false)) rfl (by kernel_rfl) (by kernel_rfl) (by kernel_rfl) (fun _ _ _ h => h) (yieldsIf_neq_tw (by rfl) (.tmp 39) (.tmp 41) rfl rfl rfl HLT.out HLT.out HHR.out) hHeld _
      try simp only [Act.put, List.getElem_toArray, List.getElem_cons_zero, List.getElem_cons_succ, List.setIfInBounds_toArray, List.set_cons_zero, List.set_cons_succ]
      refine' wpAnyH_take (i := 12) (v := _) rfl (by kernel_rfl) (by kernel_rfl) (by kernel_rfl) (fun _ _ _ h => h) (Or.inl ⟨by rfl, ?hy⟩) hHeld _
      case hy => (intro w0 hSw; (try dsimp only at hSw); (try simp only [List.getElem_toArray, List.getElem_cons_zero, List.getElem_cons_succ]); go_simp; first | done | with_reducible rfl)
      try simp only [Act.put, List.getElem_toArray, List.getElem_cons_zero, List.getElem_cons_succ, List.setIfInBounds_toArray, List.set_cons_zero, List.set_cons_succ]
      refine' wpAnyH_take (i := 13) (v := _) rfl (by kernel_rfl) (by kernel_rfl) (by kernel_rfl) (fun _ _ _ h => h) (Or.inl ⟨by rfl, ?hy⟩) hHeld _
      case hy => (intro w0 hSw; (try dsimp only at hSw); (try simp only [List.getElem_toArray, List.getElem_cons_zero, List.getElem_cons_succ]); go_simp; first | done | with_reducible rfl)
      try simp only [Act.put, List.getElem_toArray, List.getElem_cons_zero, List.getElem_cons_succ, List.setIfInBounds_toArray, List.set_cons_zero, List.set_cons_succ]
      refine' wpAnyH_take (i := 14) (v := _) rfl (by kernel_rfl) (by kernel_rfl) (by kernel_rfl) (fun _ _ _ h => h) (Or.inl ⟨by rfl, ?hy⟩) hHeld _
      case hy => (intro w0 hSw; (try dsimp only at hSw); (try simp only [List.getElem_toArray, List.getElem_cons_zero, List.getElem_cons_succ]); go_simp; first | done | with_reducible rfl)
      try simp only [Act.put, List.getElem_toArray, List.getElem_cons_zero, List.getElem_cons_succ, List.setIfInBounds_toArray, List.set_cons_zero, List.set_cons_succ]
      refine' wpAnyH_take (i := 15) (v := _) rfl (by kernel_rfl) (by kernel_rfl) (by kernel_rfl) (fun _ _ _ h => h) (Or.inl ⟨by rfl, ?hy⟩) hHeld _
      case hy => (intro w0 hSw; (try dsimp only at hSw); (try simp only [List.getElem_toArray, List.getElem_cons_zero, List.getElem_cons_succ]); go_simp; first | done | with_reducible rfl)
      try simp only [Act.put, List.getElem_toArray, List.getElem_cons_zero, List.getElem_cons_succ, List.setIfInBounds_toArray, List.set_cons_zero, List.set_cons_succ]
      refine' wpAnyH_take (i := 16) (v := _) rfl (by kernel_rfl) (by kernel_rfl) (by kernel_rfl) (fun _ _ _ h => h) (Or.inl ⟨by rfl, ?hy⟩) hHeld _
      case hy => (intro w0 hSw; (try dsimp only at hSw); (try simp only [List.getElem_toArray, List.getElem_cons_zero, List.getElem_cons_succ]); go_simp; first | done | with_reducible rfl)
      try simp only [Act.put, List.getElem_toArray, List.getElem_cons_zero, List.getElem_cons_succ, List.setIfInBounds_toArray, List.set_cons_zero, List.set_cons_succ]
      refine' wpAnyH_take (i := 17) (v := _) rfl (by kernel_rfl) (by kernel_rfl) (by kernel_rfl) (fun _ _ _ h => h) (Or.inl ⟨by rfl, ?hy⟩) hHeld _
      case hy => (intro w0 hSw; (try dsimp only at hSw); (try simp only [List.getElem_toArray, List.getElem_cons_zero, List.getElem_cons_succ]); go_simp; first | done | with_reducible rfl)
      try simp only [Act.put, List.getElem_toArray, List.getElem_cons_zero, List.getElem_cons_succ, List.setIfInBounds_toArray, List.set_cons_zero, List.set_cons_succ]
      refine wpAnyH_take (i := 18) (v := undef) rfl (by kernel_rfl) (by kernel_rfl) (by kernel_rfl) (fun _ _ _ h => h) (Or.inr ⟨by rfl, rfl⟩) hHeld ?_
      try simp only [Act.put, List.getElem_toArray, List.getElem_cons_zero, List.getElem_cons_succ, List.setIfInBounds_toArray, List.set_cons_zero, List.set_cons_succ]
      refine wpAnyH_take (i := 19) (v := undef) rfl (by kernel_rfl) (by kernel_rfl) (by kernel_rfl) (fun _ _ _ h => h) (Or.inr ⟨by rfl, rfl⟩) hHeld ?_
      try simp only [Act.put, List.getElem_toArray, List.getElem_cons_zero, List.getElem_cons_succ, List.setIfInBounds_toArray, List.set_cons_zero, List.set_cons_succ]
      refine wpAnyH_take (i := 20) (v := undef) rfl (by kernel_rfl) (by kernel_rfl) (by kernel_rfl) (fun _ _ _ h => h) (Or.inr ⟨by rfl, rfl⟩) hHeld ?_
      try simp only [Act.put, List.getElem_toArray, List.getElem_cons_zero, List.getElem_cons_succ, List.setIfInBounds_toArray, List.set_cons_zero, List.set_cons_succ]
      refine wpAnyH_take (i := 21) (v := undef) rfl (by kernel_rfl) (by kernel_rfl) (by kernel_rfl) (fun _ _ _ h => h) (Or.inr ⟨by rfl, rfl⟩) hHeld ?_
      try simp only [Act.put, List.getElem_toArray, List.getElem_cons_zero, List.getElem_cons_succ, List.setIfInBounds_toArray, List.set_cons_zero, List.set_cons_succ]
      refine wpAnyH_take (i := 22) (v := undef) rfl (by kernel_rfl) (by kernel_rfl) (by kernel_rfl) (fun _ _ _ h => h) (Or.inr ⟨by rfl, rfl⟩) hHeld ?_
      try simp only [Act.put, List.getElem_toArray, List.getElem_cons_zero, List.getElem_cons_succ, List.setIfInBounds_toArray, List.set_cons_zero, List.set_cons_succ]
      refine wpAnyH_take (i := 23) (v := undef) rfl (by kernel_rfl) (by kernel_rfl) (by kernel_rfl) (fun _ _ _ h => h) (Or.inr ⟨by rfl, rfl⟩) hHeld ?_
      try simp only [Act.put, List.getElem_toArray, List.getElem_cons_zero, List.getElem_cons_succ, List.setIfInBounds_toArray, List.set_cons_zero, List.set_cons_succ]
      refine wpAnyH_take (i := 24) (v := undef) rfl (by kernel_rfl) (by kernel_rfl) (by kernel_rfl) (fun _ _ _ h => h) (Or.inr ⟨by rfl, rfl⟩) hHeld ?_
      try simp only [Act.put, List.getElem_toArray, List.getElem_cons_zero, List.getElem_cons_succ, List.setIfInBounds_toArray, List.set_cons_zero, List.set_cons_succ]
      refine wpAnyH_take (i := 25) (v := undef) rfl (by kernel_rfl) (by kernel_rfl) (by kernel_rfl) (fun _ _ _ h => h) (Or.inr ⟨by rfl, rfl⟩) hHeld ?_
      try simp only [Act.put, List.getElem_toArray, List.getElem_cons_zero, List.getElem_cons_succ, List.setIfInBounds_toArray, List.set_cons_zero, List.set_cons_succ]
      refine' wpAnyH_take (i := 26) (v := _) rfl (by kernel_rfl) (by kernel_rfl) (by kernel_rfl) (fun _ _ _ h => h) (Or.inl ⟨by rfl, ?hy⟩) hHeld _
      case hy => (intro w0 hSw; (try dsimp only at hSw); (try simp only [List.getElem_toArray, List.getElem_cons_zero, List.getElem_cons_succ]); go_simp; first | done | with_reducible rfl)
      try simp only [Act.put, List.getElem_toArray, List.getElem_cons_zero, List.getElem_cons_succ, List.setIfInBounds_toArray, List.set_cons_zero, List.set_cons_succ]
      refine' wpAnyH_take (i := 27) (v := _) rfl (by kernel_rfl) (by kernel_rfl) (by kernel_rfl) (fun _ _ _ h => h) (Or.inl ⟨by rfl, ?hy⟩) hHeld _
      case hy => (intro w0 hSw; (try dsimp only at hSw); (try simp only [List.getElem_toArray, List.getElem_cons_zero, List.getElem_cons_succ]); go_simp; first | done | with_reducible rfl)
      try simp only [Act.put, List.getElem_toArray, List.getElem_cons_zero, List.getElem_cons_succ, List.setIfInBounds_toArray, List.set_cons_zero, List.set_cons_succ]
      refine wpAnyH_done (by kernel_rfl) ?_ _
      refine NoPanic.normal ?_
      clear hHeld hrg
      have H8 : Hid (Below wb.heap.size wb w8 ∧ WrdAt w8 T (wordsX l) ∧ WrdAt w8 X ws) := Lib.hid ⟨H4.out.1.trans (HB8.out.mono H4.out.1.size), H4.out.2.1.below HB8.out, H4.out.2.2.below HB8.out⟩
      go_wp2_with (refine wpList_load_mid rfl 101 (.tmp 5) rfl T 0 rfl (tw (wordsX l)) (.array 10 23) H8.out.2.1.range (by kernel_rfl) rfl (by rw [tw_len, HLT.out]; kernel_rfl) ?_)
      have he := eOf_any (wordsX l) HLT.out w8
      rw [HRW0.out] at he
      simp only at he
      rw [HN.out] at he
      have HEO := Lib.hid he
      clear he
      refine HEO.out.mono ?_
      rintro e w9 ⟨p9, c9, rfl, ho9, -, hb9⟩
      have H10 : Hid (OwnX w9 p9 c9 l ∧ Below wb.heap.size wb w9 ∧ WrdAt w9 X ws) := Lib.hid ⟨ho9, H8.out.1.trans (hb9.mono H8.out.1.size), H8.out.2.2.below hb9⟩
      clear ho9 hb9 HEO
      go_wp2_with fail
      refine (num06_any _ _).mono ?_
      rintro e wn ⟨rfl, hwn⟩
      subst hwn
      have hs : Calls Try.prog 43 #[.slice p9 l.length c9, .slice p l.length cap] w9 fun e w' => e = .returned (.bool true) ∧ Below w9.heap.size w9 w' := (sameList_any p9 p c9 cap l l w9 (OwnG.rds xc_len H10.out.1) ((HRDS.out.onX (HX.out.2.trans (H10.out.2.1.mono HX.out.2.size))))).mono (fun e w' h => ⟨by rw [h.1, decide_eq_true rfl], (by obtain ⟨q, rfl⟩ := h.2; exact below_drewN (Below.refl _ w9) q)⟩)
      rw [HN.out] at hs
      have HSL := Lib.hid hs
      clear hs
      go_wp2_with fail
      refine HSL.out.mono ?_
      rintro e w11 ⟨rfl, hb11⟩
      have HV : Hid (Below w.heap.size w w11 ∧ WrdAt w11 X ws) := Lib.hid (by
        have h1 := H10.out.2.1.trans (hb11.mono H10.out.2.1.size)
        exact ⟨HX.out.2.trans (h1.mono HX.out.2.size), H10.out.2.2.below hb11⟩)
      clear hb11 HSL
      go_wp2_with (refine wpList_load_mid rfl 101 (.tmp 3) rfl X 0 rfl (tw ws) (.array 10 23) HV.out.2.range (by kernel_rfl) rfl (by rw [tw_len, HL.out]; kernel_rfl) ?_)
      refine (eOf_any ws HL.out _).mono ?_
      rintro e wa ⟨p1, c1, rfl, ho1, -, hb1⟩
      have HA := Lib.hid (And.intro ho1 (And.intro (HV.out.1.trans (hb1.mono HV.out.1.size)) (HV.out.2.below hb1)))
      clear ho1 hb1
      go_wp2_with (refine wpList_load_mid rfl 101 (.tmp 3) rfl X 0 rfl (tw ws) (.array 10 23) HA.out.2.2.range (by kernel_rfl) rfl (by rw [tw_len, HL.out]; kernel_rfl) ?_)
      refine (refRead_any ws HL.out _).mono ?_
      rintro e wc ⟨p2, c2, rfl, ho2, -, hb2⟩
      have HC := Lib.hid (And.intro (OwnG.below HA.out.1 hb2) (And.intro ho2 (And.intro (HA.out.2.1.trans (hb2.mono HA.out.2.1.size)) (HA.out.2.2.below hb2))))
      clear ho2 hb2
      have HRD := Lib.hid (read_cases ws)
      obtain ⟨rr, hrr⟩ : ∃ rr, readL ws = rr := ⟨_, rfl⟩
      rw [hrr] at HC HRD ⊢
      clear hrr
      obtain ⟨RL, RE⟩ := rr
      simp only at HC HRD ⊢
      have hs : Calls Try.prog 43 #[.slice p1 RL.length c1, .slice p2 RL.length c2] wc fun e w' => e = .returned (.bool true) ∧ Below wc.heap.size wc w' := (sameList_any p1 p2 c1 c2 RL RL wc (OwnG.rds xc_len HC.out.1) (OwnG.rds xc_len HC.out.2.1)).mono (fun e w' h => ⟨by rw [h.1, decide_eq_true rfl], (by obtain ⟨q, rfl⟩ := h.2; exact below_drewN (Below.refl _ wc) q)⟩)
      obtain ⟨rn, hrn⟩ : ∃ rn, RL.length = rn := ⟨_, rfl⟩
      rw [hrn] at hs
      try rw [hrn]
      have HRN := Lib.hid hrn
      have HS := Lib.hid hs
      clear hs hrn
      have hc := HRD.out.1
      rcases hc with rfl | rfl
      · have HW0 := Lib.hid (HRD.out.2 rfl)
        go_wp2_with fail
        refine HS.out.mono ?_
        rintro e wd ⟨rfl, hb3⟩
        have HD := Lib.hid (And.intro (OwnG.below HC.out.1 hb3) (And.intro (HC.out.2.2.1.trans (hb3.mono HC.out.2.2.1.size)) (HC.out.2.2.2.below hb3)))
        clear hb3
        go_wp2_with fail
        refine (num06_any _ _).mono ?_
        rintro e wn ⟨rfl, hwn⟩
        subst hwn
        go_wp2_with fail
        have hwd := wordsE_any p1 c1 RL wd (OwnG.rds xc_len HD.out.1)
        rw [HW0.out, HRN.out] at hwd
        have HWD := Lib.hid hwd
        clear hwd
        refine HWD.out.mono ?_
        rintro e we ⟨rfl, hb4⟩
        have HTMT2 := Lib.hid (wrd_made we ws HL.out)
        obtain ⟨wf, hwwf⟩ : ∃ V, (we.alloc (.cells #[.int .u64 0, .int .u64 0, .int .u64 0, .int .u64 0, .int .u64 0, .int .u64 0, .int .u64 0, .int .u64 0, .int .u64 0, .int .u64 0] 101)).setCells we.heap.size 0 (tw ws) = V := ⟨_, rfl⟩
        obtain ⟨T2, hT2⟩ : ∃ T, we.heap.size = T := ⟨_, rfl⟩
        have HET2 := Lib.hid (And.intro hwwf hT2)
        have HMM : WrdAt wf T2 ws ∧ Below we.heap.size we wf := by
          have h := HTMT2.out
          rw [hwwf, hT2] at h
          rw [← hT2] at h ⊢
          exact ⟨h.1, h.2.1⟩
        clear hwwf hT2
        have HF : Hid (Below w.heap.size w wf ∧ WrdAt wf T2 ws ∧ WrdAt wf X ws) := Lib.hid (by
          have h2 := hb4.trans (HMM.2.mono hb4.size)
          exact ⟨HD.out.2.1.trans (h2.mono HD.out.2.1.size), HMM.1, HD.out.2.2.below h2⟩)
        clear hb4 HMM HWD
        go_wp2_with (refine wpList_store_mid rfl 101 (.tmp 15) (.tmp 100) rfl we.heap.size 0 (tw ws).toArray rfl rfl (by simpa [tw_len, HL.out] using HTMT2.out.2.2) (by simp only [List.size_toArray, tw_len, HL.out]; kernel_rfl) (all_oneCell_toArray (tw_one _)) ?_; rw [List.toList_toArray, HET2.out.1, HET2.out.2])
        refine (num06_any _ _).mono ?_
        rintro e wn ⟨rfl, hwn⟩
        subst hwn
        go_wp2_with (first | (refine wpList_load_midW (by rfl) 101 (.tmp 15) rfl T2 0 rfl (tw ws) (.array 10 23) HF.out.2.1.range (by kernel_rfl) rfl (by rw [tw_len, HL.out]; kernel_rfl) ?_) | (refine wpList_load_midW (by rfl) 101 (.tmp 3) rfl X 0 rfl (tw ws) (.array 10 23) HF.out.2.2.range (by kernel_rfl) rfl (by rw [tw_len, HL.out]; kernel_rfl) ?_) | (refine wpList_eql_tw (r := true) (by rfl) (.tmp 106) (.tmp 107) rfl rfl rfl HL.out HL.out (decide_eq_true rfl) ?_))
        refine (works06_any _).mono ?_
        rintro e w' ⟨rfl, hb⟩
        have H9 := Lib.hid (HF.out.1.trans (hb.mono HF.out.1.size))
        clear hb
        go_wp2_with fail
        go_ret
        exact ⟨rfl, H9.out⟩
      · go_wp2_with fail
        refine HS.out.mono ?_
        rintro e wd ⟨rfl, hb3⟩
        have HD := Lib.hid (And.intro (OwnG.below HC.out.1 hb3) (And.intro (HC.out.2.2.1.trans (hb3.mono HC.out.2.2.1.size)) (HC.out.2.2.2.below hb3)))
        clear hb3
        go_wp2_with fail
        refine (num06_any _ _).mono ?_
        rintro e wn ⟨rfl, hwn⟩
        subst hwn
        go_wp2_with fail
        refine (works06_any _).mono ?_
        rintro e w' ⟨rfl, hb⟩
        have H9 := Lib.hid (HD.out.2.1.trans (hb.mono HD.out.2.1.size))
        clear hb
        go_wp2_with fail
        go_ret
        exact ⟨rfl, H9.out⟩
end Go.Proofs.Ytenmogokbelahaa
