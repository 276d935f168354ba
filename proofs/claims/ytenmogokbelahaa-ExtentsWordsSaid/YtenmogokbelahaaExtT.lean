/- The walk of the reference's Read. -/
import Derived.Test.YtenmogokbelahaaExtR
import Derived.Test.YtenmogokbelahaaExtS
import Derived.Test.YtenmogokbelahaaExtK
namespace Go.Proofs.Ytenmogokbelahaa
open Go Go.RowKit

/-- The comparison of ten words in a region that draws its order. -/
theorem yieldsIf_neq_tw {ops : Array Oper} {S : World → Prop} {o : Oper} {a : Act} (hw : Region.wanted o (yielded ops a.tmps) = true) (x y : Operand) {ty : TypeId} (ho : o.op = .binOp .neq 101 x y ty) {u v : List (BitVec 64)} {r : Bool}
    (hx : a.eval x = .agg (tw u).toArray) (hy : a.eval y = .agg (tw v).toArray) (hu : u.length = 10) (hv : v.length = 10) (hr : decide (u ≠ v) = r) : YieldsIf Try.prog ops S o (.bool r) a :=
  .inl ⟨hw, fun w _ => by
    have hl := run_neq_tw hu hv hr x y w
    unfold execOp
    simp only [Sem.run_bind] at hl
    simp only [ho, hx, hy, Sem.run_bind, hl, Sem.run_pure, Result.andThen_ok]⟩
set_option maxRecDepth 100000 in
set_option maxHeartbeats 8000000 in
theorem refRead_any (ws : List (BitVec 64)) (hl : ws.length = 10) (w : World) :
    Calls Try.prog 53 #[.agg (tw ws).toArray] w fun e w' => ∃ p c, e = .returned (.tuple #[.slice p (readL ws).1.length c, .int .i64 (readL ws).2]) ∧ OwnX w' p c (readL ws).1 ∧ (∀ b, inP p c b → w.heap.size ≤ b) ∧ Below w.heap.size w w' := by
  have hx := WrdAt.new w ws
  have hb0 := below_allocX w (.cells (tw ws).toArray 101)
  obtain ⟨wb, hwb⟩ : ∃ wb, w.alloc (.cells (tw ws).toArray 101) = wb := ⟨_, rfl⟩
  obtain ⟨X, hX⟩ : ∃ X, w.heap.size = X := ⟨_, rfl⟩
  rw [hwb, hX] at hx
  rw [hwb] at hb0
  have HXB := Lib.hid (And.intro hwb hX)
  have HX := Lib.hid (And.intro hx hb0)
  have HL := Lib.hid hl
  clear hx hb0 hwb hX hl
  go_enter Try.func53, Try.ntmps53
  go_upto_region 1 with fail
  rw [HXB.out.1, HXB.out.2]
  go_wp2_with fail
  go_loopw [4, 5] (fun x4 i wr => ∃ (k : Nat) (p : Option Addr) (cap : Nat), k ≤ 10 ∧ x4 = .slice p (unTo ws k).length cap ∧ i = .int .i64 k ∧ OwnX wr p cap (unTo ws k) ∧ (∀ b, inP p cap b → wb.heap.size ≤ b) ∧ Below wb.heap.size wb wr) (fun _ i _ => 10 - (intOf i).toNat)
  case atStart => exact ⟨0, none, 0, Nat.zero_le _, by rw [unTo_zero]; rfl, rfl, by rw [unTo_zero]; exact OwnG.nil _ _ _ _ _, fun b hb => (by obtain ⟨x, hx, -⟩ := hb; cases hx), Below.refl _ _⟩
  case round =>
    obtain ⟨k, p, cap, hk, rfl, rfl, hown, hfr, hb⟩ := hrel
    by_cases hlt : k < 10
    · have hlt' : (k : Int) < 10 := by omega
      have hk0 : (0 : Int) ≤ (k : Int) := by omega
      have hkl : k < ws.length := by rw [HL.out]; exact hlt
      have hcell := ((HX.out.1.below hb).cell k hkl).1
      have hsu := unTo_succ ws k hkl
      have hln := unTo_len ws k
      obtain ⟨x, hx⟩ : ∃ x, ws[k] = x := ⟨_, rfl⟩
      rw [hx] at hcell hsu
      obtain ⟨V, hV⟩ : ∃ V : Int, (x.toNat : Int) = V := ⟨_, rfl⟩
      have hvw : vw x = .int .u64 V := by unfold vw; rw [hV]
      rw [hvw] at hcell
      have hf1 := fun W => refField_any x 0 16 W (by decide) (by decide)
      have hf2 := fun W => refField_any x 16 24 W (by decide) (by decide)
      have hf3 := fun W => refField_any x 40 16 W (by decide) (by decide)
      have l1 := field_lt x 0 16 (by decide)
      have l2 := field_lt x 16 24 (by decide)
      have l3 := field_lt x 40 16 (by decide)
      rw [hvw] at hf1 hf2 hf3
      unfold vw at hf1 hf2 hf3
      obtain ⟨A1, hA1⟩ : ∃ A, (fieldW x 0 16).toNat = A := ⟨_, rfl⟩
      obtain ⟨A2, hA2⟩ : ∃ A, (fieldW x 16 24).toNat = A := ⟨_, rfl⟩
      obtain ⟨A3, hA3⟩ : ∃ A, (fieldW x 40 16).toNat = A := ⟨_, rfl⟩
      rw [hA1] at hf1 l1
      rw [hA2] at hf2 l2
      rw [hA3] at hf3 l3
      have hw1 : IntKind.i64.wrap (A1 : Int) = (A1 : Int) := by rw [IntKind.wrap_i64]; omega
      have hw2 : IntKind.i64.wrap (A2 : Int) = (A2 : Int) := by rw [IntKind.wrap_i64]; omega
      have hw3 : IntKind.i64.wrap (A3 : Int) = (A3 : Int) := by rw [IntKind.wrap_i64]; omega
      have hun : unX x = ((A1 : Int), (A2 : Int), (A3 : Int)) := by unfold unX; rw [hA1, hA2, hA3]
      rw [hun] at hsu
      have HF1 := Lib.hid hf1
      have HF2 := Lib.hid hf2
      have HF3 := Lib.hid hf3
      obtain ⟨n, hn⟩ : ∃ n, (unTo ws k).length = n := ⟨_, rfl⟩
      rw [hn]
      have HN := Lib.hid hn
      have HO := Lib.hid (And.intro hown (And.intro hfr (And.intro hb (show n ≤ 10 by omega))))
      clear hown hfr hb hx hvw hf1 hf2 hf3 l1 l2 l3 hA1 hA2 hA3 hun hn hln hkl
      by_cases h0 : x = 0#64
      · have b0 : (V == 0) = true := by rw [← hV, h0]; rfl
        have HR : Hid (unTo ws (k + 1) = unTo ws k) := Lib.hid (by rw [hsu, if_pos h0])
        clear h0 hV hsu
        go_wp2_with fail
        go_roundw
        case rel => exact ⟨k + 1, p, cap, hlt, by rw [HR.out, HN.out], by go_num, by rw [HR.out]; exact HO.out.1, HO.out.2.1, HO.out.2.2.1⟩
        case measure => simp [intOf]; omega
      · have b0 : (V == 0) = false := by rw [beq_eq_false_iff_ne, ← hV]; exact fun e => h0 (BitVec.eq_of_toNat_eq (by rw [Int.natCast_eq_zero.1 e]; rfl))
        have HR : Hid (unTo ws (k + 1) = unTo ws k ++ [((A1 : Int), (A2 : Int), (A3 : Int))]) := Lib.hid (by rw [hsu, if_neg h0])
        clear h0 hV hsu
        go_upto_region 6 with fail
        refine wp_region_noPanic ?_
        refine wp_region_held_drew (S := (fun w' => w'.cell? ⟨X, k, none⟩ = some (.int .u64 V))) (by kernel_rfl) ?_ (fun hHeld => ?_)
        · exact hcell
        refine' wpAnyH_take (i := 0) (v := _) rfl (by kernel_rfl) (by kernel_rfl) (by kernel_rfl) (fun _ _ _ h => h) (Or.inl ⟨by rfl, ?hy⟩) hHeld _
        case hy => (intro w0 hSw; (try dsimp only at hSw); (try simp only [List.getElem_toArray, List.getElem_cons_zero, List.getElem_cons_succ]); go_simp; first | done | with_reducible rfl)
        try simp only [Act.put, List.getElem_toArray, List.getElem_cons_zero, List.getElem_cons_succ, List.setIfInBounds_toArray, List.set_cons_zero, List.set_cons_succ]
        refine' wpAnyH_take (i := 1) (v := _) rfl (by kernel_rfl) (by kernel_rfl) (by kernel_rfl) (fun _ _ _ h => h) (Or.inl ⟨by rfl, ?hy⟩) hHeld _
        case hy => (intro w0 hSw; (try dsimp only at hSw); (try simp only [List.getElem_toArray, List.getElem_cons_zero, List.getElem_cons_succ]); go_simp; first | done | with_reducible rfl)
        try simp only [Act.put, List.getElem_toArray, List.getElem_cons_zero, List.getElem_cons_succ, List.setIfInBounds_toArray, List.set_cons_zero, List.set_cons_succ]
        refine' wpAnyH_take (i := 2) (v := _) rfl (by kernel_rfl) (by kernel_rfl) (by kernel_rfl) (fun _ _ _ h => h) (Or.inl ⟨by rfl, ?hy⟩) hHeld _
        case hy => (intro w0 hSw; (try dsimp only at hSw); (try simp only [List.getElem_toArray, List.getElem_cons_zero, List.getElem_cons_succ]); go_simp; first | done | with_reducible rfl)
        try simp only [Act.put, List.getElem_toArray, List.getElem_cons_zero, List.getElem_cons_succ, List.setIfInBounds_toArray, List.set_cons_zero, List.set_cons_succ]
        refine' wpAnyH_take (i := 3) (v := _) rfl (by kernel_rfl) (by kernel_rfl) (by kernel_rfl) (fun _ _ _ h => h) (Or.inl ⟨by rfl, ?hy⟩) hHeld _
        case hy => (intro w0 hSw; (try dsimp only at hSw); (try simp only [List.getElem_toArray, List.getElem_cons_zero, List.getElem_cons_succ]); go_simp; first | done | with_reducible rfl)
        try simp only [Act.put, List.getElem_toArray, List.getElem_cons_zero, List.getElem_cons_succ, List.setIfInBounds_toArray, List.set_cons_zero, List.set_cons_succ]
        refine' wpAnyH_take (i := 6) (v := _) rfl (by kernel_rfl) (by kernel_rfl) (by kernel_rfl) (fun _ _ _ h => h) (Or.inl ⟨by rfl, ?hy⟩) hHeld _
        case hy => (intro w0 hSw; (try dsimp only at hSw); (try simp only [List.getElem_toArray, List.getElem_cons_zero, List.getElem_cons_succ]); go_simp; first | done | with_reducible rfl)
        try simp only [Act.put, List.getElem_toArray, List.getElem_cons_zero, List.getElem_cons_succ, List.setIfInBounds_toArray, List.set_cons_zero, List.set_cons_succ]
        refine' wpAnyH_take (i := 7) (v := _) rfl (by kernel_rfl) (by kernel_rfl) (by kernel_rfl) (fun _ _ _ h => h) (Or.inl ⟨by rfl, ?hy⟩) hHeld _
        case hy => (intro w0 hSw; (try dsimp only at hSw); (try simp only [List.getElem_toArray, List.getElem_cons_zero, List.getElem_cons_succ]); go_simp; first | done | with_reducible rfl)
        try simp only [Act.put, List.getElem_toArray, List.getElem_cons_zero, List.getElem_cons_succ, List.setIfInBounds_toArray, List.set_cons_zero, List.set_cons_succ]
        refine' wpAnyH_take (i := 8) (v := _) rfl (by kernel_rfl) (by kernel_rfl) (by kernel_rfl) (fun _ _ _ h => h) (Or.inl ⟨by rfl, ?hy⟩) hHeld _
        case hy => (intro w0 hSw; (try dsimp only at hSw); (try simp only [List.getElem_toArray, List.getElem_cons_zero, List.getElem_cons_succ]); go_simp; first | done | with_reducible rfl)
        try simp only [Act.put, List.getElem_toArray, List.getElem_cons_zero, List.getElem_cons_succ, List.setIfInBounds_toArray, List.set_cons_zero, List.set_cons_succ]
        refine' wpAnyH_take (i := 11) (v := _) rfl (by kernel_rfl) (by kernel_rfl) (by kernel_rfl) (fun _ _ _ h => h) (Or.inl ⟨by rfl, ?hy⟩) hHeld _
        case hy => (intro w0 hSw; (try dsimp only at hSw); (try simp only [List.getElem_toArray, List.getElem_cons_zero, List.getElem_cons_succ]); go_simp; first | done | with_reducible rfl)
        try simp only [Act.put, List.getElem_toArray, List.getElem_cons_zero, List.getElem_cons_succ, List.setIfInBounds_toArray, List.set_cons_zero, List.set_cons_succ]
        refine' wpAnyH_take (i := 12) (v := _) rfl (by kernel_rfl) (by kernel_rfl) (by kernel_rfl) (fun _ _ _ h => h) (Or.inl ⟨by rfl, ?hy⟩) hHeld _
        case hy => (intro w0 hSw; (try dsimp only at hSw); (try simp only [List.getElem_toArray, List.getElem_cons_zero, List.getElem_cons_succ]); go_simp; first | done | with_reducible rfl)
        try simp only [Act.put, List.getElem_toArray, List.getElem_cons_zero, List.getElem_cons_succ, List.setIfInBounds_toArray, List.set_cons_zero, List.set_cons_succ]
        refine' wpAnyH_take (i := 13) (v := _) rfl (by kernel_rfl) (by kernel_rfl) (by kernel_rfl) (fun _ _ _ h => h) (Or.inl ⟨by rfl, ?hy⟩) hHeld _
        case hy => (intro w0 hSw; (try dsimp only at hSw); (try simp only [List.getElem_toArray, List.getElem_cons_zero, List.getElem_cons_succ]); go_simp; first | done | with_reducible rfl)
        try simp only [Act.put, List.getElem_toArray, List.getElem_cons_zero, List.getElem_cons_succ, List.setIfInBounds_toArray, List.set_cons_zero, List.set_cons_succ]
        refine wpAnyH_ready (rs := [4]) (by kernel_rfl) (by simp) ?_
        refine AllReadyH.cons rfl (fun K hK => ?_) AllReadyH.nil
        go_simp
        refine (HF1.out _).mono ?_
        rintro e w8 ⟨rfl, hw8⟩
        subst hw8
        clear hHeld
        refine hK.out _ _ ?_ (fun hHeld => ?_)
        · exact hcell
        clear hK K
        try simp only [Act.put, List.getElem_toArray, List.getElem_cons_zero, List.getElem_cons_succ, List.setIfInBounds_toArray, List.set_cons_zero, List.set_cons_succ]
        refine' wpAnyH_take (i := 5) (v := _) rfl (by kernel_rfl) (by kernel_rfl) (by kernel_rfl) (fun _ _ _ h => h) (Or.inl ⟨by rfl, ?hy⟩) hHeld _
        case hy => (intro w0 hSw; (try dsimp only at hSw); (try simp only [List.getElem_toArray, List.getElem_cons_zero, List.getElem_cons_succ]); go_simp; first | done | with_reducible rfl)
        try simp only [Act.put, List.getElem_toArray, List.getElem_cons_zero, List.getElem_cons_succ, List.setIfInBounds_toArray, List.set_cons_zero, List.set_cons_succ]
        refine wpAnyH_ready (rs := [9]) (by kernel_rfl) (by simp) ?_
        refine AllReadyH.cons rfl (fun K hK => ?_) AllReadyH.nil
        go_simp
        refine (HF2.out _).mono ?_
        rintro e w8 ⟨rfl, hw8⟩
        subst hw8
        clear hHeld
        refine hK.out _ _ ?_ (fun hHeld => ?_)
        · exact hcell
        clear hK K
        try simp only [Act.put, List.getElem_toArray, List.getElem_cons_zero, List.getElem_cons_succ, List.setIfInBounds_toArray, List.set_cons_zero, List.set_cons_succ]
        refine' wpAnyH_take (i := 10) (v := _) rfl (by kernel_rfl) (by kernel_rfl) (by kernel_rfl) (fun _ _ _ h => h) (Or.inl ⟨by rfl, ?hy⟩) hHeld _
        case hy => (intro w0 hSw; (try dsimp only at hSw); (try simp only [List.getElem_toArray, List.getElem_cons_zero, List.getElem_cons_succ]); go_simp; first | done | with_reducible rfl)
        try simp only [Act.put, List.getElem_toArray, List.getElem_cons_zero, List.getElem_cons_succ, List.setIfInBounds_toArray, List.set_cons_zero, List.set_cons_succ]
        refine wpAnyH_ready (rs := [14]) (by kernel_rfl) (by simp) ?_
        refine AllReadyH.cons rfl (fun K hK => ?_) AllReadyH.nil
        go_simp
        refine (HF3.out _).mono ?_
        rintro e w8 ⟨rfl, hw8⟩
        subst hw8
        clear hHeld
        refine hK.out _ _ ?_ (fun hHeld => ?_)
        · exact hcell
        clear hK K
        try simp only [Act.put, List.getElem_toArray, List.getElem_cons_zero, List.getElem_cons_succ, List.setIfInBounds_toArray, List.set_cons_zero, List.set_cons_succ]
        refine' wpAnyH_take (i := 15) (v := _) rfl (by kernel_rfl) (by kernel_rfl) (by kernel_rfl) (fun _ _ _ h => h) (Or.inl ⟨by rfl, ?hy⟩) hHeld _
        case hy => (intro w0 hSw; (try dsimp only at hSw); (try simp only [List.getElem_toArray, List.getElem_cons_zero, List.getElem_cons_succ]); go_simp; first | done | with_reducible rfl)
        try simp only [Act.put, List.getElem_toArray, List.getElem_cons_zero, List.getElem_cons_succ, List.setIfInBounds_toArray, List.set_cons_zero, List.set_cons_succ]
        refine' wpAnyH_take (i := 16) (v := _) rfl (by kernel_rfl) (by kernel_rfl) (by kernel_rfl) (fun _ _ _ h => h) (Or.inl ⟨by rfl, ?hy⟩) hHeld _
        case hy => (intro w0 hSw; (try dsimp only at hSw); (try simp only [List.getElem_toArray, List.getElem_cons_zero, List.getElem_cons_succ]); go_simp; first | done | with_reducible rfl)
        try simp only [Act.put, List.getElem_toArray, List.getElem_cons_zero, List.getElem_cons_succ, List.setIfInBounds_toArray, List.set_cons_zero, List.set_cons_succ]
        refine wpAnyH_ready (rs := [17]) (by kernel_rfl) (by simp) ?_
        refine AllReadyH.cons rfl (fun K hK => ?_) AllReadyH.nil
        go_simp
        clear hHeld
        refine hK.out _ _ ?_ (fun hHeld => ?_)
        · exact (((Below.refl _ wr).drew.alloc (Nat.le_refl _) (.cells #[.int .i64 (A1 : Int), .int .i64 (A2 : Int), .int .i64 (A3 : Int)] 81)).cell (p := ⟨X, k, none⟩) (Nat.lt_of_lt_of_le HX.out.1.lt HO.out.2.2.1.size)).trans hcell
        clear hK K
        try simp only [Act.put, List.getElem_toArray, List.getElem_cons_zero, List.getElem_cons_succ, List.setIfInBounds_toArray, List.set_cons_zero, List.set_cons_succ]
        refine wpAnyH_ready (rs := [18]) (by kernel_rfl) (by simp) ?_
        refine AllReadyH.cons rfl (fun K hK => ?_) AllReadyH.nil
        refine step_appG (by rfl) (.tmp 16) (.tmp 33) _ rfl elem_exts (by decide) xc_len xc_one p cap (unTo ws k) [((A1 : Int), (A2 : Int), (A3 : Int))] (by rw [HN.out]; rfl) (OwnG.below HO.out.1 ((Below.refl _ wr).drew.alloc (Nat.le_refl _) (.cells #[.int .i64 (A1 : Int), .int .i64 (A2 : Int), .int .i64 (A3 : Int)] 81))) wr.heap.size 1 1 rfl rfl 81 (0, 0) (World.alloc_heap_new wr.drew _) (Nat.succ_pos _) ⟨by rw [HN.out]; have := HO.out.2.2.2; omega, by simp⟩ ?_
        rw [HN.out]
        intro p' cap' w' happ
        have hap := Lib.hid (AppG.of ((Frn.refl _ wr).drew.trans (Frn.alloc _ wr.drew (.cells #[.int .i64 (A1 : Int), .int .i64 (A2 : Int), .int .i64 (A3 : Int)] 81))) happ)
        clear hHeld
        refine hK.out _ _ ?_ (fun hHeld => ?_)
        · exact ((hap.out.2.1.below HO.out.2.2.1.size HO.out.2.1).cell (p := ⟨X, k, none⟩) HX.out.1.lt).trans hcell
        clear hK K
        try simp only [Act.put, List.getElem_toArray, List.getElem_cons_zero, List.getElem_cons_succ, List.setIfInBounds_toArray, List.set_cons_zero, List.set_cons_succ]
        refine' wpAnyH_take (i := 19) (v := _) rfl (by kernel_rfl) (by kernel_rfl) (by kernel_rfl) (fun _ _ _ h => h) (Or.inl ⟨by rfl, ?hy⟩) hHeld _
        case hy => (intro w0 hSw; (try dsimp only at hSw); (try simp only [List.getElem_toArray, List.getElem_cons_zero, List.getElem_cons_succ]); go_simp; first | done | with_reducible rfl)
        try simp only [Act.put, List.getElem_toArray, List.getElem_cons_zero, List.getElem_cons_succ, List.setIfInBounds_toArray, List.set_cons_zero, List.set_cons_succ]
        refine wpAnyH_done (by kernel_rfl) ?_ _
        refine NoPanic.normal ?_
        clear hHeld
        have HE : Hid (OwnX w' p' cap' (unTo ws (k + 1)) ∧ (∀ b, inP p' cap' b → wb.heap.size ≤ b) ∧ Below wb.heap.size wb w' ∧ (unTo ws (k + 1)).length = n + 1) := Lib.hid (by
          rw [HR.out]
          have hfr := hap.out
          exact ⟨hfr.1, fun b hb => (hfr.2.2 b hb).elim (HO.out.2.1 b) (fun h => Nat.le_trans HO.out.2.2.1.size h.1), HO.out.2.2.1.trans (hfr.2.1.below HO.out.2.2.1.size HO.out.2.1), by rw [List.length_append, HN.out]; rfl⟩)
        clear happ hap
        go_wp2_with fail
        go_roundw
        case rel => exact ⟨k + 1, p', cap', hlt, by rw [HE.out.2.2.2], by go_num, HE.out.1, HE.out.2.1, HE.out.2.2.1⟩
        case measure => simp [intOf]; omega
    · obtain rfl : k = 10 := by omega
      have hua : unTo ws 10 = unL ws := by rw [← HL.out]; exact unTo_all ws
      rw [hua] at hown ⊢
      have hof := refOfT_any p cap (unL ws) wr (OwnG.rds xc_len hown)
      have hwd : ∀ V, Below wr.heap.size wr V → (ofX (unL ws)).isSome = true → Calls Try.prog 51 #[.slice p (unL ws).length cap] V fun e w' => e = .returned (.agg (tw (wordsX (unL ws))).toArray) ∧ Below V.heap.size V w' := fun V hV hs => by
        obtain ⟨t, ht⟩ := Option.isSome_iff_exists.1 hs
        have ho := ofX_ok ht
        exact refWords_any p cap (unL ws) V (OwnG.rds xc_len (OwnG.below hown hV)) ho.2.2.1 ho.2.2.2
      obtain ⟨n, hn⟩ : ∃ n, (unL ws).length = n := ⟨_, rfl⟩
      rw [hn] at hof hwd ⊢
      have HN := Lib.hid hn
      have HWD := Lib.hid hwd
      have HO := Lib.hid (And.intro hown (And.intro hfr hb))
      clear hown hfr hb hua hwd hn hlt
      have HRD : Hid (readL ws = if (ofX (unL ws)).isSome = true ∧ wordsX (unL ws) = ws then (unL ws, 0) else ([], 2)) := Lib.hid rfl
      obtain ⟨OK, hOK⟩ : ∃ OK, (ofX (unL ws)).isSome = OK := ⟨_, rfl⟩
      rw [hOK] at hof HWD HRD
      have HOF := Lib.hid hof
      clear hof hOK
      go_wp2_with fail
      refine HOF.out.mono ?_
      rintro e w1 ⟨t', htl, -, rfl, hb1⟩
      obtain ⟨htm, hbm, hlm, hth⟩ := tab_made (ty := 95) (zc := Try.zeroCells95) w1 t' htl zero_cellsM
      obtain ⟨T, hT⟩ : ∃ T, w1.heap.size = T := ⟨_, rfl⟩
      obtain ⟨w2, hw2⟩ : ∃ w2, (w1.alloc (.cells Try.zeroCells95 95)).setCells w1.heap.size 0 (tb t') = w2 := ⟨_, rfl⟩
      rw [hw2] at htm hbm hlm
      rw [hT] at htm hlm
      have HWM := Lib.hid (And.intro hT (And.intro hw2 hth))
      have HTL := Lib.hid htl
      have hb2 : Below wr.heap.size wr w2 := hb1.trans (hbm.mono hb1.size)
      have H2 : Hid (OwnX w2 p cap (unL ws) ∧ Below wb.heap.size wb w2 ∧ Below wr.heap.size wr w2) := Lib.hid ⟨OwnG.below HO.out.1 hb2, HO.out.2.2.trans (hb2.mono HO.out.2.2.size), hb2⟩
      clear htm hbm hlm hth hb1 hT hw2 htl hb2
      cases OK with
      | false =>
        have HRD' : Hid (readL ws = ([], 2)) := Lib.hid (by rw [HRD.out, if_neg (fun h => Bool.noConfusion h.1)])
        clear HRD
        go_upto_region 8 with (refine wpList_store_mid rfl 95 (.tmp 6) (.tmp 38) rfl w1.heap.size 0 (tb t').toArray rfl rfl (by simpa [tb_len, HTL.out] using HWM.out.2.2) (by simp only [List.size_toArray, tb_len, HTL.out]; kernel_rfl) (all_oneCell_toArray (tb_one _)) ?_; rw [List.toList_toArray, HWM.out.2.1, HWM.out.1])
        refine wp_region_noPanic ?_
        refine wp_region_held_drew (S := (fun w' => True)) (by kernel_rfl) ?_ (fun hHeld => ?_)
        · exact trivial
        refine' wpAnyH_take (i := 0) (v := _) rfl (by kernel_rfl) (by kernel_rfl) (by kernel_rfl) (fun _ _ _ h => h) (Or.inl ⟨by rfl, ?hy⟩) hHeld _
        case hy => (intro w0 hSw; (try dsimp only at hSw); (try simp only [List.getElem_toArray, List.getElem_cons_zero, List.getElem_cons_succ]); go_simp; first | done | with_reducible rfl)
        try simp only [Act.put, List.getElem_toArray, List.getElem_cons_zero, List.getElem_cons_succ, List.setIfInBounds_toArray, List.set_cons_zero, List.set_cons_succ]
        refine' wpAnyH_take (i := 1) (v := _) rfl (by kernel_rfl) (by kernel_rfl) (by kernel_rfl) (fun _ _ _ h => h) (Or.inl ⟨by rfl, ?hy⟩) hHeld _
        case hy => (intro w0 hSw; (try dsimp only at hSw); (try simp only [List.getElem_toArray, List.getElem_cons_zero, List.getElem_cons_succ]); go_simp; first | done | with_reducible rfl)
        try simp only [Act.put, List.getElem_toArray, List.getElem_cons_zero, List.getElem_cons_succ, List.setIfInBounds_toArray, List.set_cons_zero, List.set_cons_succ]
        refine' wpAnyH_take (i := 2) (v := _) rfl (by kernel_rfl) (by kernel_rfl) (by kernel_rfl) (fun _ _ _ h => h) (Or.inl ⟨by rfl, ?hy⟩) hHeld _
        case hy => (intro w0 hSw; (try dsimp only at hSw); (try simp only [List.getElem_toArray, List.getElem_cons_zero, List.getElem_cons_succ]); go_simp; first | done | with_reducible rfl)
        try simp only [Act.put, List.getElem_toArray, List.getElem_cons_zero, List.getElem_cons_succ, List.setIfInBounds_toArray, List.set_cons_zero, List.set_cons_succ]
        refine wpAnyH_take (i := 3) (v := undef) rfl (by kernel_rfl) (by kernel_rfl) (by kernel_rfl) (fun _ _ _ h => h) (Or.inr ⟨by rfl, rfl⟩) hHeld ?_
        try simp only [Act.put, List.getElem_toArray, List.getElem_cons_zero, List.getElem_cons_succ, List.setIfInBounds_toArray, List.set_cons_zero, List.set_cons_succ]
        refine wpAnyH_take (i := 4) (v := undef) rfl (by kernel_rfl) (by kernel_rfl) (by kernel_rfl) (fun _ _ _ h => h) (Or.inr ⟨by rfl, rfl⟩) hHeld ?_
        try simp only [Act.put, List.getElem_toArray, List.getElem_cons_zero, List.getElem_cons_succ, List.setIfInBounds_toArray, List.set_cons_zero, List.set_cons_succ]
        refine wpAnyH_take (i := 5) (v := undef) rfl (by kernel_rfl) (by kernel_rfl) (by kernel_rfl) (fun _ _ _ h => h) (Or.inr ⟨by rfl, rfl⟩) hHeld ?_
        try simp only [Act.put, List.getElem_toArray, List.getElem_cons_zero, List.getElem_cons_succ, List.setIfInBounds_toArray, List.set_cons_zero, List.set_cons_succ]
        refine wpAnyH_take (i := 6) (v := undef) rfl (by kernel_rfl) (by kernel_rfl) (by kernel_rfl) (fun _ _ _ h => h) (Or.inr ⟨by rfl, rfl⟩) hHeld ?_
        try simp only [Act.put, List.getElem_toArray, List.getElem_cons_zero, List.getElem_cons_succ, List.setIfInBounds_toArray, List.set_cons_zero, List.set_cons_succ]
        refine' wpAnyH_take (i := 7) (v := _) rfl (by kernel_rfl) (by kernel_rfl) (by kernel_rfl) (fun _ _ _ h => h) (Or.inl ⟨by rfl, ?hy⟩) hHeld _
        case hy => (intro w0 hSw; (try dsimp only at hSw); (try simp only [List.getElem_toArray, List.getElem_cons_zero, List.getElem_cons_succ]); go_simp; first | done | with_reducible rfl)
        try simp only [Act.put, List.getElem_toArray, List.getElem_cons_zero, List.getElem_cons_succ, List.setIfInBounds_toArray, List.set_cons_zero, List.set_cons_succ]
        refine wpAnyH_done (by kernel_rfl) ?_ _
        refine NoPanic.normal ?_
        clear hHeld
        go_wp2_with fail
        go_ret2
        exact ⟨none, 0, by rw [HRD'.out]; rfl, by rw [HRD'.out]; exact OwnG.nil _ _ _ _ _, fun b hb => (by obtain ⟨x, hx, -⟩ := hb; cases hx), HX.out.2.trans ((H2.out.2.1.drew).mono HX.out.2.size)⟩
      | true =>
        by_cases he : wordsX (unL ws) = ws
        · have hr : decide (wordsX (unL ws) ≠ ws) = false := by simp [he]
          have HRD' : Hid (readL ws = (unL ws, 0)) := Lib.hid (by rw [HRD.out, if_pos ⟨rfl, he⟩])
          have hrg : w2.rangeAt X 0 (tw ws) := (HX.out.1.below H2.out.2.1).range
          have HSB : Hid (∀ V, Below w2.heap.size w2 V → V.rangeAt X 0 (tw ws)) := Lib.hid (fun V hV => ((HX.out.1.below H2.out.2.1).below hV).range)
          have HHR := Lib.hid hr
          clear he hr HRD
          go_upto_region 8 with (refine wpList_store_mid rfl 95 (.tmp 6) (.tmp 38) rfl w1.heap.size 0 (tb t').toArray rfl rfl (by simpa [tb_len, HTL.out] using HWM.out.2.2) (by simp only [List.size_toArray, tb_len, HTL.out]; kernel_rfl) (all_oneCell_toArray (tb_one _)) ?_; rw [List.toList_toArray, HWM.out.2.1, HWM.out.1])
          refine wp_region_noPanic ?_
          refine wp_region_held_drew (S := (fun w' => w'.rangeAt X 0 (tw ws))) (by kernel_rfl) ?_ (fun hHeld => ?_)
          · exact hrg
          refine' wpAnyH_take (i := 0) (v := _) rfl (by kernel_rfl) (by kernel_rfl) (by kernel_rfl) (fun _ _ _ h => h) (Or.inl ⟨by rfl, ?hy⟩) hHeld _
          case hy => (intro w0 hSw; (try dsimp only at hSw); (try simp only [List.getElem_toArray, List.getElem_cons_zero, List.getElem_cons_succ]); go_simp; first | done | with_reducible rfl)
          try simp only [Act.put, List.getElem_toArray, List.getElem_cons_zero, List.getElem_cons_succ, List.setIfInBounds_toArray, List.set_cons_zero, List.set_cons_succ]
          refine' wpAnyH_take (i := 1) (v := _) rfl (by kernel_rfl) (by kernel_rfl) (by kernel_rfl) (fun _ _ _ h => h) (Or.inl ⟨by rfl, ?hy⟩) hHeld _
          case hy => (intro w0 hSw; (try dsimp only at hSw); (try simp only [List.getElem_toArray, List.getElem_cons_zero, List.getElem_cons_succ]); go_simp; first | done | with_reducible rfl)
          try simp only [Act.put, List.getElem_toArray, List.getElem_cons_zero, List.getElem_cons_succ, List.setIfInBounds_toArray, List.set_cons_zero, List.set_cons_succ]
          refine' wpAnyH_take (i := 2) (v := _) rfl (by kernel_rfl) (by kernel_rfl) (by kernel_rfl) (fun _ _ _ h => h) (Or.inl ⟨by rfl, ?hy⟩) hHeld _
          case hy => (intro w0 hSw; (try dsimp only at hSw); (try simp only [List.getElem_toArray, List.getElem_cons_zero, List.getElem_cons_succ]); go_simp; first | done | with_reducible rfl)
          try simp only [Act.put, List.getElem_toArray, List.getElem_cons_zero, List.getElem_cons_succ, List.setIfInBounds_toArray, List.set_cons_zero, List.set_cons_succ]
          refine' wpAnyH_take (i := 3) (v := _) rfl (by kernel_rfl) (by kernel_rfl) (by kernel_rfl) (fun _ _ _ h => h) (Or.inl ⟨by rfl, ?hy⟩) hHeld _
          case hy => (intro w0 hSw; (try dsimp only at hSw); (try simp only [List.getElem_toArray, List.getElem_cons_zero, List.getElem_cons_succ]); go_simp; first | done | with_reducible rfl)
          try simp only [Act.put, List.getElem_toArray, List.getElem_cons_zero, List.getElem_cons_succ, List.setIfInBounds_toArray, List.set_cons_zero, List.set_cons_succ]
          refine' wpAnyH_take (i := 5) (v := (.agg (tw ws).toArray)) rfl (by kernel_rfl) (by kernel_rfl) (by kernel_rfl) (fun _ _ _ h => h) (yieldsIf_load_mid (by rfl) 101 (.tmp 1) rfl X 0 rfl (tw ws) (.array 10 23) (fun _ h => h) (by kernel_rfl) rfl (by rw [tw_len, HL.out]; kernel_rfl)) hHeld _
          try simp only [Act.put, List.getElem_toArray, List.getElem_cons_zero, List.getElem_cons_succ, List.setIfInBounds_toArray, List.set_cons_zero, List.set_cons_succ]
          refine wpAnyH_ready (rs := [4]) (by kernel_rfl) (by simp) ?_
          refine AllReadyH.cons rfl (fun K hK => ?_) AllReadyH.nil
          go_simp
          refine (HWD.out _ H2.out.2.2.drew (by trivial)).mono ?_
          rintro e w8 ⟨rfl, hb8⟩
          have HB8 : Hid (Below w2.heap.size w2 w8) := Lib.hid ((Below.refl _ w2).drew.trans hb8)
          clear hb8
          clear hHeld
          refine hK.out _ _ ?_ (fun hHeld => ?_)
          · exact HSB.out _ HB8.out
          clear hK K
          try simp only [Act.put, List.getElem_toArray, List.getElem_cons_zero, List.getElem_cons_succ, List.setIfInBounds_toArray, List.set_cons_zero, List.set_cons_succ]
          refine' wpAnyH_take (i := 6) (v := (.bool false)) rfl (by kernel_rfl) (by kernel_rfl) (by kernel_rfl) (fun _ _ _ h => h) (yieldsIf_neq_tw (by rfl) (.tmp 44) (.tmp 45) rfl rfl rfl (wordsX_len _) HL.out HHR.out) hHeld _
          try simp only [Act.put, List.getElem_toArray, List.getElem_cons_zero, List.getElem_cons_succ, List.setIfInBounds_toArray, List.set_cons_zero, List.set_cons_succ]
          refine' wpAnyH_take (i := 7) (v := _) rfl (by kernel_rfl) (by kernel_rfl) (by kernel_rfl) (fun _ _ _ h => h) (Or.inl ⟨by rfl, ?hy⟩) hHeld _
          case hy => (intro w0 hSw; (try dsimp only at hSw); (try simp only [List.getElem_toArray, List.getElem_cons_zero, List.getElem_cons_succ]); go_simp; first | done | with_reducible rfl)
          try simp only [Act.put, List.getElem_toArray, List.getElem_cons_zero, List.getElem_cons_succ, List.setIfInBounds_toArray, List.set_cons_zero, List.set_cons_succ]
          refine wpAnyH_done (by kernel_rfl) ?_ _
          refine NoPanic.normal ?_
          clear hHeld hrg
          have H8 : Hid (OwnX w8 p cap (unL ws) ∧ Below wb.heap.size wb w8) := Lib.hid ⟨OwnG.below H2.out.1 HB8.out, H2.out.2.1.trans (HB8.out.mono H2.out.2.1.size)⟩
          go_wp2_with fail
          go_ret2
          exact ⟨p, cap, by rw [HRD'.out, HN.out]; rfl, by rw [HRD'.out]; exact H8.out.1, fun b hb => Nat.le_trans HX.out.2.size (HO.out.2.1 b hb), HX.out.2.trans (H8.out.2.mono HX.out.2.size)⟩
        · have hr : decide (wordsX (unL ws) ≠ ws) = true := by simp [he]
          have HRD' : Hid (readL ws = ([], 2)) := Lib.hid (by rw [HRD.out, if_neg (fun h => he h.2)])
          have hrg : w2.rangeAt X 0 (tw ws) := (HX.out.1.below H2.out.2.1).range
          have HSB : Hid (∀ V, Below w2.heap.size w2 V → V.rangeAt X 0 (tw ws)) := Lib.hid (fun V hV => ((HX.out.1.below H2.out.2.1).below hV).range)
          have HHR := Lib.hid hr
          clear he hr HRD
          go_upto_region 8 with (refine wpList_store_mid rfl 95 (.tmp 6) (.tmp 38) rfl w1.heap.size 0 (tb t').toArray rfl rfl (by simpa [tb_len, HTL.out] using HWM.out.2.2) (by simp only [List.size_toArray, tb_len, HTL.out]; kernel_rfl) (all_oneCell_toArray (tb_one _)) ?_; rw [List.toList_toArray, HWM.out.2.1, HWM.out.1])
          refine wp_region_noPanic ?_
          refine wp_region_held_drew (S := (fun w' => w'.rangeAt X 0 (tw ws))) (by kernel_rfl) ?_ (fun hHeld => ?_)
          · exact hrg
          refine' wpAnyH_take (i := 0) (v := _) rfl (by kernel_rfl) (by kernel_rfl) (by kernel_rfl) (fun _ _ _ h => h) (Or.inl ⟨by rfl, ?hy⟩) hHeld _
          case hy => (intro w0 hSw; (try dsimp only at hSw); (try simp only [List.getElem_toArray, List.getElem_cons_zero, List.getElem_cons_succ]); go_simp; first | done | with_reducible rfl)
          try simp only [Act.put, List.getElem_toArray, List.getElem_cons_zero, List.getElem_cons_succ, List.setIfInBounds_toArray, List.set_cons_zero, List.set_cons_succ]
          refine' wpAnyH_take (i := 1) (v := _) rfl (by kernel_rfl) (by kernel_rfl) (by kernel_rfl) (fun _ _ _ h => h) (Or.inl ⟨by rfl, ?hy⟩) hHeld _
          case hy => (intro w0 hSw; (try dsimp only at hSw); (try simp only [List.getElem_toArray, List.getElem_cons_zero, List.getElem_cons_succ]); go_simp; first | done | with_reducible rfl)
          try simp only [Act.put, List.getElem_toArray, List.getElem_cons_zero, List.getElem_cons_succ, List.setIfInBounds_toArray, List.set_cons_zero, List.set_cons_succ]
          refine' wpAnyH_take (i := 2) (v := _) rfl (by kernel_rfl) (by kernel_rfl) (by kernel_rfl) (fun _ _ _ h => h) (Or.inl ⟨by rfl, ?hy⟩) hHeld _
          case hy => (intro w0 hSw; (try dsimp only at hSw); (try simp only [List.getElem_toArray, List.getElem_cons_zero, List.getElem_cons_succ]); go_simp; first | done | with_reducible rfl)
          try simp only [Act.put, List.getElem_toArray, List.getElem_cons_zero, List.getElem_cons_succ, List.setIfInBounds_toArray, List.set_cons_zero, List.set_cons_succ]
          refine' wpAnyH_take (i := 3) (v := _) rfl (by kernel_rfl) (by kernel_rfl) (by kernel_rfl) (fun _ _ _ h => h) (Or.inl ⟨by rfl, ?hy⟩) hHeld _
          case hy => (intro w0 hSw; (try dsimp only at hSw); (try simp only [List.getElem_toArray, List.getElem_cons_zero, List.getElem_cons_succ]); go_simp; first | done | with_reducible rfl)
          try simp only [Act.put, List.getElem_toArray, List.getElem_cons_zero, List.getElem_cons_succ, List.setIfInBounds_toArray, List.set_cons_zero, List.set_cons_succ]
          refine' wpAnyH_take (i := 5) (v := (.agg (tw ws).toArray)) rfl (by kernel_rfl) (by kernel_rfl) (by kernel_rfl) (fun _ _ _ h => h) (yieldsIf_load_mid (by rfl) 101 (.tmp 1) rfl X 0 rfl (tw ws) (.array 10 23) (fun _ h => h) (by kernel_rfl) rfl (by rw [tw_len, HL.out]; kernel_rfl)) hHeld _
          try simp only [Act.put, List.getElem_toArray, List.getElem_cons_zero, List.getElem_cons_succ, List.setIfInBounds_toArray, List.set_cons_zero, List.set_cons_succ]
          refine wpAnyH_ready (rs := [4]) (by kernel_rfl) (by simp) ?_
          refine AllReadyH.cons rfl (fun K hK => ?_) AllReadyH.nil
          go_simp
          refine (HWD.out _ H2.out.2.2.drew (by trivial)).mono ?_
          rintro e w8 ⟨rfl, hb8⟩
          have HB8 : Hid (Below w2.heap.size w2 w8) := Lib.hid ((Below.refl _ w2).drew.trans hb8)
          clear hb8
          clear hHeld
          refine hK.out _ _ ?_ (fun hHeld => ?_)
          · exact HSB.out _ HB8.out
          clear hK K
          try simp only [Act.put, List.getElem_toArray, List.getElem_cons_zero, List.getElem_cons_succ, List.setIfInBounds_toArray, List.set_cons_zero, List.set_cons_succ]
          refine' wpAnyH_take (i := 6) (v := (.bool true)) rfl (by kernel_rfl) (by kernel_rfl) (by kernel_rfl) (fun _ _ _ h => h) (yieldsIf_neq_tw (by rfl) (.tmp 44) (.tmp 45) rfl rfl rfl (wordsX_len _) HL.out HHR.out) hHeld _
          try simp only [Act.put, List.getElem_toArray, List.getElem_cons_zero, List.getElem_cons_succ, List.setIfInBounds_toArray, List.set_cons_zero, List.set_cons_succ]
          refine' wpAnyH_take (i := 7) (v := _) rfl (by kernel_rfl) (by kernel_rfl) (by kernel_rfl) (fun _ _ _ h => h) (Or.inl ⟨by rfl, ?hy⟩) hHeld _
          case hy => (intro w0 hSw; (try dsimp only at hSw); (try simp only [List.getElem_toArray, List.getElem_cons_zero, List.getElem_cons_succ]); go_simp; first | done | with_reducible rfl)
          try simp only [Act.put, List.getElem_toArray, List.getElem_cons_zero, List.getElem_cons_succ, List.setIfInBounds_toArray, List.set_cons_zero, List.set_cons_succ]
          refine wpAnyH_done (by kernel_rfl) ?_ _
          refine NoPanic.normal ?_
          clear hHeld hrg
          have H8 : Hid (OwnX w8 p cap (unL ws) ∧ Below wb.heap.size wb w8) := Lib.hid ⟨OwnG.below H2.out.1 HB8.out, H2.out.2.1.trans (HB8.out.mono H2.out.2.1.size)⟩
          go_wp2_with fail
          go_ret2
          exact ⟨none, 0, by rw [HRD'.out]; rfl, by rw [HRD'.out]; exact OwnG.nil _ _ _ _ _, fun b hb => (by obtain ⟨x, hx, -⟩ := hb; cases hx), HX.out.2.trans (H8.out.2.mono HX.out.2.size)⟩
end Go.Proofs.Ytenmogokbelahaa
