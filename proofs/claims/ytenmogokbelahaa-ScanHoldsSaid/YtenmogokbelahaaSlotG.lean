/- The walks of the reference's slots: shift, Take, Swap. -/
import Derived.Test.YtenmogokbelahaaSlotF
namespace Go.Proofs.Ytenmogokbelahaa
open Go Go.RowKit

/-- Append of what is read onto a slice that is owned. -/
theorem wpList_ontoG {α : Type} {e : TypeId} {c : Nat} {enc : α → List Value} {P : Program} {w : World} {ops : Array Oper} {rest : List Oper} {o : Oper} {a : Act} {Q : Exit → Act → World → Prop} (hgd : o.guard = none) (s x : Operand) (t : TypeId)
    (hop : o.op = .call { callee := .builtin .append, args := #[s, x], argTypes := #[t, t] }) {z : Value} {bytes : Nat} (he : ElemIs P t e z c bytes) (hb : bytes ≤ 1000) (hc : ∀ y, (enc y).length = c) (h1 : ∀ y, ∀ u ∈ enc y, u.oneCell' = true)
    (base : Nat) (v : Value) (xs : List α) (hs : a.eval s = v) (hown : w.ownsRow base e c v xs.length (xs.flatMap enc)) (p : Option Addr) (cap : Nat) (ys : List α) (B m : Nat) (hm : m = ys.length) (hx : a.eval x = .slice p m cap) (hrd : RdS B w p cap c enc ys) (hn : xs.length + ys.length < 1000000) (hbase : base ≤ w.heap.size)
    (h : ∀ p' cap' w', OwnG e c enc w' p' cap' (xs ++ ys) → (∀ b, inP p' cap' b → base ≤ b) → w.grownBy w' v.ownBlock → wpList P ops Q rest (a.put o.dst (.slice p' (xs ++ ys).length cap')) w') : wpList P ops Q (o :: rest) a w := by
  subst hm
  refine wpList_append_src hgd s x t hop he base v xs.length (xs.flatMap enc) hs hown _ ys.length (ys.flatMap enc) hx (src_rds hc hrd) (flat_len hc ys) (flat_one h1 ys) (by unfold maxLen; omega) ?_ hbase ?_
  · have : (xs.length + ys.length) * bytes ≤ 1000000 * 1000 := Nat.mul_le_mul (by omega) hb
    omega
  intro v' w' h2 h3 h4 h5
  have h2' : w'.ownsRow base e c v' (xs ++ ys).length ((xs ++ ys).flatMap enc) := by rw [List.length_append, List.flatMap_append]; exact h2
  obtain ⟨p', c', rfl, h1, h6⟩ := ownG_of h2'
  exact h p' c' w' h1 h6 h3
theorem getD_eq {s : List (BitVec 64)} {i : Nat} (h : i < s.length) : s[i] = s.getD i 0#64 := by simp [h]
set_option maxRecDepth 100000 in
set_option maxHeartbeats 8000000 in
theorem shift_any (p : Option Addr) (cap : Nat) (s : List (BitVec 64)) (d m : Nat) (w : World) (hrd : RdL w.heap.size w p cap vw s) (hl : s.length ≤ 1000) (hdm : d < m) (hm : 2 * m ≤ s.length) :
    Calls Try.prog 67 #[.slice p s.length cap, .int .i64 d, .int .i64 m] w fun e w' => ∃ q d', e = .returned (.slice q (shiftL s d (m - 1 - d) ++ [(2 * m - 1, 0#64)]).length d') ∧ PutSt w q d' (shiftL s d (m - 1 - d) ++ [(2 * m - 1, 0#64)]) w' := by
  have HR := Lib.hid hrd
  have hwm : IntKind.i64.wrap ((m : Int) - 2) = (m : Int) - 2 := by rw [IntKind.wrap_i64]; omega
  have HO := Lib.hid (fun W => OwnG.nil 122 2 sc W none)
  clear hrd
  go_enter Try.func67, Try.ntmps67
  go_wp2_with fail
  go_loopw [7, 8] (fun x7 x8 wr => ∃ (J : Nat) (q2 : Option Addr) (d2 : Nat), d ≤ J ∧ J ≤ m - 1 ∧ x8 = .int .i64 J ∧ x7 = .slice q2 (shiftL s d (J - d)).length d2 ∧ PutSt w q2 d2 (shiftL s d (J - d)) wr)
    (fun _ x8 _ => m - (intOf x8).toNat)
  case atStart => exact ⟨d, none, 0, Nat.le_refl _, by omega, rfl, by rw [Nat.sub_self]; rfl, by rw [Nat.sub_self]; exact ⟨HO.out _, fun b hb => (by obtain ⟨a, ha, _⟩ := hb; cases ha), Below.refl _ _⟩⟩
  case round =>
    obtain ⟨J, q2, d2, hdJ, hJ, rfl, rfl, hst⟩ := hrel
    have HST := Lib.hid hst
    clear hst
    have hsl := shiftL_len s d (J - d)
    by_cases hlt : J < m - 1
    · have hle : (J : Int) ≤ (m : Int) - 2 := by omega
      have hsucc : shiftL s d (J + 1 - d) = shiftL s d (J - d) ++ [(2 * J, keyS s (J + 1)), (2 * J + 1, ptrS s (J + 1))] := by
        rw [show J + 1 - d = J - d + 1 by omega]
        show shiftL s d (J - d) ++ [(2 * (d + (J - d)), keyS s (d + (J - d) + 1)), (2 * (d + (J - d)) + 1, ptrS s (d + (J - d) + 1))] = _
        rw [show d + (J - d) = J by omega]
      obtain ⟨b, off, hpo, hbl, h0⟩ := HR.out.at (2 * J + 2) (by omega)
      obtain ⟨b', off', hpo', hbl', h1⟩ := HR.out.at (2 * J + 3) (by omega)
      obtain ⟨rfl, rfl⟩ : b = b' ∧ off = off' := by rw [hpo] at hpo'; cases hpo'; exact ⟨rfl, rfl⟩
      rw [getD_eq, show s.getD (2 * J + 2) 0#64 = keyS s (J + 1) from rfl] at h0
      rw [getD_eq, show s.getD (2 * J + 3) 0#64 = ptrS s (J + 1) from rfl] at h1
      obtain ⟨A, hA⟩ : ∃ A, 2 * J = A := ⟨_, rfl⟩
      obtain ⟨D, hD⟩ : ∃ A, 2 * J + 1 = A := ⟨_, rfl⟩
      obtain ⟨B, hB⟩ : ∃ A, 2 * J + 2 = A := ⟨_, rfl⟩
      obtain ⟨C, hC⟩ : ∃ A, 2 * J + 3 = A := ⟨_, rfl⟩
      have hw1 : IntKind.i64.wrap (2 * (J : Int)) = (A : Int) := by rw [IntKind.wrap_i64]; omega
      have hw2 : IntKind.i64.wrap ((A : Int) + 1) = (D : Int) := by rw [IntKind.wrap_i64]; omega
      have hw3 : IntKind.i64.wrap ((A : Int) + 2) = (B : Int) := by rw [IntKind.wrap_i64]; omega
      have hw4 : IntKind.i64.wrap ((A : Int) + 3) = (C : Int) := by rw [IntKind.wrap_i64]; omega
      have hwj : IntKind.i64.wrap ((J : Int) + 1) = (J : Int) + 1 := by rw [IntKind.wrap_i64]; omega
      have hBl : (B : Int) < (s.length : Int) := by omega
      have hCl : (C : Int) < (s.length : Int) := by omega
      rw [hD, hA] at hsucc
      rw [hB] at h0
      rw [hC] at h1
      have HSTEP := Lib.hid hsucc
      have hbe : Below w.heap.size w wr.drew := HST.out.2.2.drew
      have x0 := (hbe.cell (p := ⟨b, off + B, none⟩) hbl).trans h0
      have x1 := (hbe.cell (p := ⟨b, off + C, none⟩) hbl).trans h1
      obtain ⟨xs, hxs⟩ : ∃ xs, shiftL s d (J - d) = xs := ⟨_, rfl⟩
      rw [hxs] at HST HSTEP hsl
      rw [hxs]
      have HLN := Lib.hid (show xs.length < 1000000 by omega)
      have hbn : Below w.heap.size w (wr.drew.alloc (.cells [.int .i64 (A : Int), vw (keyS s (J + 1)), .int .i64 (D : Int), vw (ptrS s (J + 1))].toArray 122)) := hbe.alloc hbe.size _
      have y0 := (hbn.cell (p := ⟨b, off + B, none⟩) hbl).trans h0
      have y1 := (hbn.cell (p := ⟨b, off + C, none⟩) hbl).trans h1
      have hzz : ((wr.alloc (.cells [.int .i64 (A : Int), vw (keyS s (J + 1)), .int .i64 (D : Int), vw (ptrS s (J + 1))].toArray 122)).drew).heap.size = wr.heap.size + 1 := by show (wr.alloc _).heap.size = _; simp
      have how : OwnSt (wr.alloc (.cells [.int .i64 (A : Int), vw (keyS s (J + 1)), .int .i64 (D : Int), vw (ptrS s (J + 1))].toArray 122)).drew q2 d2 xs := HST.out.1.below (((Below.refl _ wr).alloc (Nat.le_refl _) _).drew)
      have HOW := Lib.hid how
      have HQW := Lib.hid HST.out.2.1
      have HBE := Lib.hid (show Below w.heap.size w (wr.alloc (.cells [.int .i64 (A : Int), vw (keyS s (J + 1)), .int .i64 (D : Int), vw (ptrS s (J + 1))].toArray 122)).drew from (HST.out.2.2.alloc HST.out.2.2.size _).drew)
      have HZZ := Lib.hid hzz
      have HC0 := Lib.hid h0
      have HC1 := Lib.hid h1
      have HJJ := Lib.hid (And.intro hdJ (And.intro hJ hlt))
      have HDM := Lib.hid (And.intro hdm hm)
      subst hpo
      clear hsucc hxs hsl hA hB hC hD h0 h1 hbe hbn hzz how hpo' hbl' hdJ hJ hlt hdm hm
      go_wp2_with fail
      refine wp_region_noPanic ?_
      refine wp_region_F 22 (fun w' => w'.cell? ⟨b, off + B, none⟩ = some (vw (keyS s (J + 1))) ∧ w'.cell? ⟨b, off + C, none⟩ = some (vw (ptrS s (J + 1)))) (by kernel_rfl) ?_ (fun hHeld => ?_)
      · exact ⟨x0, x1⟩
      refine' wpAnyF_takeT (i := 0) (v := _) rfl (by kernel_rfl) (by kernel_rfl) (by kernel_rfl) (by rfl) (fun _ _ _ h => h) (Or.inl ⟨by rfl, ?hy⟩) (fun _ => hHeld) _
      case hy => (intro w0 hSw; (try dsimp only at hSw); simp only [List.getElem_toArray, List.getElem_cons_zero]; go_simp; first | done | with_reducible rfl)
      simp only [Act.put, List.getElem_toArray, List.getElem_cons_zero, List.setIfInBounds_toArray, List.set_cons_zero, List.set_cons_succ]
      refine' wpAnyF_takeT (i := 1) (v := _) rfl (by kernel_rfl) (by kernel_rfl) (by kernel_rfl) (by rfl) (fun _ _ _ h => h) (Or.inl ⟨by rfl, ?hy⟩) (fun _ => hHeld) _
      case hy => (intro w0 hSw; (try dsimp only at hSw); simp only [List.getElem_toArray, List.getElem_cons_zero, List.getElem_cons_succ]; go_simp; first | done | with_reducible rfl)
      simp only [Act.put, List.getElem_toArray, List.getElem_cons_zero, List.getElem_cons_succ, List.setIfInBounds_toArray, List.set_cons_zero, List.set_cons_succ]
      refine' wpAnyF_takeT (i := 2) (v := _) rfl (by kernel_rfl) (by kernel_rfl) (by kernel_rfl) (by rfl) (fun _ _ _ h => h) (Or.inl ⟨by rfl, ?hy⟩) (fun _ => hHeld) _
      case hy => (intro w0 hSw; (try dsimp only at hSw); simp only [List.getElem_toArray, List.getElem_cons_zero, List.getElem_cons_succ]; go_simp; first | done | with_reducible rfl)
      simp only [Act.put, List.getElem_toArray, List.getElem_cons_zero, List.getElem_cons_succ, List.setIfInBounds_toArray, List.set_cons_zero, List.set_cons_succ]
      refine' wpAnyF_takeT (i := 3) (v := _) rfl (by kernel_rfl) (by kernel_rfl) (by kernel_rfl) (by rfl) (fun _ _ _ h => h) (Or.inl ⟨by rfl, ?hy⟩) (fun _ => hHeld) _
      case hy => (intro w0 hSw; (try dsimp only at hSw); simp only [List.getElem_toArray, List.getElem_cons_zero, List.getElem_cons_succ]; go_simp; first | done | with_reducible rfl)
      simp only [Act.put, List.getElem_toArray, List.getElem_cons_zero, List.getElem_cons_succ, List.setIfInBounds_toArray, List.set_cons_zero, List.set_cons_succ]
      refine' wpAnyF_takeT (i := 4) (v := _) rfl (by kernel_rfl) (by kernel_rfl) (by kernel_rfl) (by rfl) (fun _ _ _ h => h) (Or.inl ⟨by rfl, ?hy⟩) (fun _ => hHeld) _
      case hy => (intro w0 hSw; (try dsimp only at hSw); simp only [List.getElem_toArray, List.getElem_cons_zero, List.getElem_cons_succ]; go_simp; first | done | with_reducible rfl)
      simp only [Act.put, List.getElem_toArray, List.getElem_cons_zero, List.getElem_cons_succ, List.setIfInBounds_toArray, List.set_cons_zero, List.set_cons_succ]
      refine' wpAnyF_takeT (i := 5) (v := _) rfl (by kernel_rfl) (by kernel_rfl) (by kernel_rfl) (by rfl) (fun _ _ _ h => h) (Or.inl ⟨by rfl, ?hy⟩) (fun _ => hHeld) _
      case hy => (intro w0 hSw; (try dsimp only at hSw); simp only [List.getElem_toArray, List.getElem_cons_zero, List.getElem_cons_succ]; go_simp; first | done | with_reducible rfl)
      simp only [Act.put, List.getElem_toArray, List.getElem_cons_zero, List.getElem_cons_succ, List.setIfInBounds_toArray, List.set_cons_zero, List.set_cons_succ]
      refine' wpAnyF_takeT (i := 6) (v := _) rfl (by kernel_rfl) (by kernel_rfl) (by kernel_rfl) (by rfl) (fun _ _ _ h => h) (Or.inl ⟨by rfl, ?hy⟩) (fun _ => hHeld) _
      case hy => (intro w0 hSw; (try dsimp only at hSw); simp only [List.getElem_toArray, List.getElem_cons_zero, List.getElem_cons_succ]; go_simp; first | done | with_reducible rfl)
      simp only [Act.put, List.getElem_toArray, List.getElem_cons_zero, List.getElem_cons_succ, List.setIfInBounds_toArray, List.set_cons_zero, List.set_cons_succ]
      refine' wpAnyF_takeT (i := 7) (v := _) rfl (by kernel_rfl) (by kernel_rfl) (by kernel_rfl) (by rfl) (fun _ _ _ h => h) (Or.inl ⟨by rfl, ?hy⟩) (fun _ => hHeld) _
      case hy => (intro w0 hSw; (try dsimp only at hSw); simp only [List.getElem_toArray, List.getElem_cons_zero, List.getElem_cons_succ]; go_simp; first | done | with_reducible rfl)
      simp only [Act.put, List.getElem_toArray, List.getElem_cons_zero, List.getElem_cons_succ, List.setIfInBounds_toArray, List.set_cons_zero, List.set_cons_succ]
      refine' wpAnyF_take (i := 8) (v := _) rfl (by kernel_rfl) (by kernel_rfl) (by kernel_rfl) (by kernel_rfl) (by rfl) (by kernel_rfl) (fun _ _ _ h => h) (Or.inl ⟨by rfl, ?hy⟩) hHeld _
      case hy => (intro w0 hSw; (try dsimp only at hSw); simp only [List.getElem_toArray, List.getElem_cons_zero, List.getElem_cons_succ]; go_simp; first | done | with_reducible rfl)
      simp only [Act.put, List.getElem_toArray, List.getElem_cons_zero, List.getElem_cons_succ, List.setIfInBounds_toArray, List.set_cons_zero, List.set_cons_succ]
      refine' wpAnyF_takeT (i := 9) (v := _) rfl (by kernel_rfl) (by kernel_rfl) (by kernel_rfl) (by rfl) (fun _ _ _ h => h) (Or.inl ⟨by rfl, ?hy⟩) (fun _ => hHeld) _
      case hy => (intro w0 hSw; (try dsimp only at hSw); simp only [List.getElem_toArray, List.getElem_cons_zero, List.getElem_cons_succ]; go_simp; first | done | with_reducible rfl)
      simp only [Act.put, List.getElem_toArray, List.getElem_cons_zero, List.getElem_cons_succ, List.setIfInBounds_toArray, List.set_cons_zero, List.set_cons_succ]
      refine' wpAnyF_takeT (i := 10) (v := _) rfl (by kernel_rfl) (by kernel_rfl) (by kernel_rfl) (by rfl) (fun _ _ _ h => h) (Or.inl ⟨by rfl, ?hy⟩) (fun _ => hHeld) _
      case hy => (intro w0 hSw; (try dsimp only at hSw); simp only [List.getElem_toArray, List.getElem_cons_zero, List.getElem_cons_succ]; go_simp; first | done | with_reducible rfl)
      simp only [Act.put, List.getElem_toArray, List.getElem_cons_zero, List.getElem_cons_succ, List.setIfInBounds_toArray, List.set_cons_zero, List.set_cons_succ]
      refine' wpAnyF_takeT (i := 11) (v := _) rfl (by kernel_rfl) (by kernel_rfl) (by kernel_rfl) (by rfl) (fun _ _ _ h => h) (Or.inl ⟨by rfl, ?hy⟩) (fun _ => hHeld) _
      case hy => (intro w0 hSw; (try dsimp only at hSw); simp only [List.getElem_toArray, List.getElem_cons_zero, List.getElem_cons_succ]; go_simp; first | done | with_reducible rfl)
      simp only [Act.put, List.getElem_toArray, List.getElem_cons_zero, List.getElem_cons_succ, List.setIfInBounds_toArray, List.set_cons_zero, List.set_cons_succ]
      refine' wpAnyF_takeT (i := 12) (v := _) rfl (by kernel_rfl) (by kernel_rfl) (by kernel_rfl) (by rfl) (fun _ _ _ h => h) (Or.inl ⟨by rfl, ?hy⟩) (fun _ => hHeld) _
      case hy => (intro w0 hSw; (try dsimp only at hSw); simp only [List.getElem_toArray, List.getElem_cons_zero, List.getElem_cons_succ]; go_simp; first | done | with_reducible rfl)
      simp only [Act.put, List.getElem_toArray, List.getElem_cons_zero, List.getElem_cons_succ, List.setIfInBounds_toArray, List.set_cons_zero, List.set_cons_succ]
      refine' wpAnyF_takeT (i := 13) (v := _) rfl (by kernel_rfl) (by kernel_rfl) (by kernel_rfl) (by rfl) (fun _ _ _ h => h) (Or.inl ⟨by rfl, ?hy⟩) (fun _ => hHeld) _
      case hy => (intro w0 hSw; (try dsimp only at hSw); simp only [List.getElem_toArray, List.getElem_cons_zero, List.getElem_cons_succ]; go_simp; first | done | with_reducible rfl)
      simp only [Act.put, List.getElem_toArray, List.getElem_cons_zero, List.getElem_cons_succ, List.setIfInBounds_toArray, List.set_cons_zero, List.set_cons_succ]
      refine' wpAnyF_takeT (i := 14) (v := _) rfl (by kernel_rfl) (by kernel_rfl) (by kernel_rfl) (by rfl) (fun _ _ _ h => h) (Or.inl ⟨by rfl, ?hy⟩) (fun _ => hHeld) _
      case hy => (intro w0 hSw; (try dsimp only at hSw); simp only [List.getElem_toArray, List.getElem_cons_zero, List.getElem_cons_succ]; go_simp; first | done | with_reducible rfl)
      simp only [Act.put, List.getElem_toArray, List.getElem_cons_zero, List.getElem_cons_succ, List.setIfInBounds_toArray, List.set_cons_zero, List.set_cons_succ]
      refine' wpAnyF_takeT (i := 15) (v := _) rfl (by kernel_rfl) (by kernel_rfl) (by kernel_rfl) (by rfl) (fun _ _ _ h => h) (Or.inl ⟨by rfl, ?hy⟩) (fun _ => hHeld) _
      case hy => (intro w0 hSw; (try dsimp only at hSw); simp only [List.getElem_toArray, List.getElem_cons_zero, List.getElem_cons_succ]; go_simp; first | done | with_reducible rfl)
      simp only [Act.put, List.getElem_toArray, List.getElem_cons_zero, List.getElem_cons_succ, List.setIfInBounds_toArray, List.set_cons_zero, List.set_cons_succ]
      refine' wpAnyF_takeT (i := 16) (v := _) rfl (by kernel_rfl) (by kernel_rfl) (by kernel_rfl) (by rfl) (fun _ _ _ h => h) (Or.inl ⟨by rfl, ?hy⟩) (fun _ => hHeld) _
      case hy => (intro w0 hSw; (try dsimp only at hSw); simp only [List.getElem_toArray, List.getElem_cons_zero, List.getElem_cons_succ]; go_simp; first | done | with_reducible rfl)
      simp only [Act.put, List.getElem_toArray, List.getElem_cons_zero, List.getElem_cons_succ, List.setIfInBounds_toArray, List.set_cons_zero, List.set_cons_succ]
      refine' wpAnyF_takeT (i := 17) (v := _) rfl (by kernel_rfl) (by kernel_rfl) (by kernel_rfl) (by rfl) (fun _ _ _ h => h) (Or.inl ⟨by rfl, ?hy⟩) (fun _ => hHeld) _
      case hy => (intro w0 hSw; (try dsimp only at hSw); simp only [List.getElem_toArray, List.getElem_cons_zero, List.getElem_cons_succ]; go_simp; first | done | with_reducible rfl)
      simp only [Act.put, List.getElem_toArray, List.getElem_cons_zero, List.getElem_cons_succ, List.setIfInBounds_toArray, List.set_cons_zero, List.set_cons_succ]
      refine' wpAnyF_take (i := 18) (v := _) rfl (by kernel_rfl) (by kernel_rfl) (by kernel_rfl) (by kernel_rfl) (by rfl) (by kernel_rfl) (fun _ _ _ h => h) (Or.inl ⟨by rfl, ?hy⟩) hHeld _
      case hy => (intro w0 hSw; (try dsimp only at hSw); simp only [List.getElem_toArray, List.getElem_cons_zero, List.getElem_cons_succ]; go_simp; first | done | with_reducible rfl)
      simp only [Act.put, List.getElem_toArray, List.getElem_cons_zero, List.getElem_cons_succ, List.setIfInBounds_toArray, List.set_cons_zero, List.set_cons_succ]
      refine' wpAnyF_takeT (i := 19) (v := _) rfl (by kernel_rfl) (by kernel_rfl) (by kernel_rfl) (by rfl) (fun _ _ _ h => h) (Or.inl ⟨by rfl, ?hy⟩) (fun _ => hHeld) _
      case hy => (intro w0 hSw; (try dsimp only at hSw); simp only [List.getElem_toArray, List.getElem_cons_zero, List.getElem_cons_succ]; go_simp; first | done | with_reducible rfl)
      simp only [Act.put, List.getElem_toArray, List.getElem_cons_zero, List.getElem_cons_succ, List.setIfInBounds_toArray, List.set_cons_zero, List.set_cons_succ]
      refine wpAnyF_one (i := 20) (by kernel_rfl) rfl (fun K hK => ?_)
      go_simp
      refine hK.out _ _ (fun _ => ?_) ?_
      · exact ⟨y0, y1⟩
      clear hK K
      try simp only [Act.put, List.getElem_toArray, List.getElem_cons_zero, List.getElem_cons_succ, List.setIfInBounds_toArray, List.set_cons_zero, List.set_cons_succ]
      refine wpAnyF_one (i := 21) (by kernel_rfl) rfl (fun K hK => ?_)
      refine step_appG (by rfl) (.tmp 16) (.tmp 36) _ rfl elem_put (by decide) sc_len sc_one q2 d2 xs [(A, keyS s (J + 1)), (D, ptrS s (J + 1))] rfl HOW.out wr.heap.size 2 2 rfl rfl 122 (0, 0) (World.alloc_heap_new wr.drew _) (by simp) ⟨by have := HLN.out; omega, by simp⟩ ?_
      intro p9 c9 w9 happ
      have HAPP := Lib.hid happ
      have hbw : Below w.heap.size w w9 := HBE.out.trans (happ.2.1.below (by have := HBE.out.size; exact this) (fun b hb => HQW.out b hb))
      have z0 := (hbw.cell (p := ⟨b, off + B, none⟩) hbl).trans HC0.out
      have z1 := (hbw.cell (p := ⟨b, off + C, none⟩) hbl).trans HC1.out
      have HBW := Lib.hid hbw
      clear happ hbw
      refine hK.out _ _ (fun _ => ?_) ?_
      · exact ⟨z0, z1⟩
      clear hK K
      try simp only [Act.put, List.getElem_toArray, List.getElem_cons_zero, List.getElem_cons_succ, List.setIfInBounds_toArray, List.set_cons_zero, List.set_cons_succ]
      refine wpAnyF_one (i := 22) (by kernel_rfl) rfl (fun K hK => ?_)
      go_simp
      refine hK.out _ _ (fun h => Bool.noConfusion (h.symm.trans (by kernel_rfl : _ = true))) ?_
      clear hK K
      try simp only [Act.put, List.getElem_toArray, List.getElem_cons_zero, List.getElem_cons_succ, List.setIfInBounds_toArray, List.set_cons_zero, List.set_cons_succ]
      refine wpAnyF_done (by kernel_rfl) ?_ _
      refine NoPanic.normal ?_
      clear hHeld x0 x1 y0 y1 z0 z1
      have hs1 := HAPP.out.2.2
      rw [HZZ.out] at hs1
      have hnew : PutSt w p9 c9 (xs ++ [(A, keyS s (J + 1)), (D, ptrS s (J + 1))]) w9 := ⟨HAPP.out.1, fun b' hb' => (hs1 b' hb').elim (HST.out.2.1 b') (fun h => by have := HST.out.2.2.size; omega), HBW.out⟩
      have HNEW := Lib.hid hnew
      clear hs1 hnew
      go_wp2_with fail
      go_roundw
      case rel => exact ⟨J + 1, p9, c9, by have := HJJ.out; omega, by have := HJJ.out; omega, by go_num, by rw [HSTEP.out, List.length_append]; rfl, by rw [HSTEP.out]; exact HNEW.out⟩
      case measure => have := HJJ.out; simp [intOf]; omega
    · obtain rfl : J = m - 1 := by omega
      have hge : ¬ ((m - 1 : Nat) : Int) ≤ (m : Int) - 2 := by omega
      have hge' : decide (((m - 1 : Nat) : Int) ≤ (m : Int) - 2) = false := decide_eq_false hge
      obtain ⟨A, hA⟩ : ∃ A, 2 * m - 1 = A := ⟨_, rfl⟩
      obtain ⟨B, hB⟩ : ∃ A, 2 * m = A := ⟨_, rfl⟩
      have hw1 : IntKind.i64.wrap (2 * (m : Int)) = (B : Int) := by rw [IntKind.wrap_i64]; omega
      have hw2 : IntKind.i64.wrap ((B : Int) - 1) = (A : Int) := by rw [IntKind.wrap_i64]; omega
      obtain ⟨xs, hxs⟩ : ∃ xs, shiftL s d (m - 1 - d) = xs := ⟨_, rfl⟩
      rw [hxs] at HST hsl
      rw [hxs]
      have HXA := Lib.hid (And.intro hxs hA)
      have HLN := Lib.hid (show xs.length < 1000000 by omega)
      have HOW := Lib.hid (show OwnSt (wr.alloc (.cells #[.int .i64 (A : Int), .int .u64 0] 122)) q2 d2 xs from HST.out.1.below ((Below.refl _ wr).alloc (Nat.le_refl _) _))
      clear hxs hsl hA hB
      generalize ((m - 1 : Nat) : Int) = j at hge hge' ⊢
      go_wp2_with (at_builtin; refine wpList_appG rfl (.tmp 38) (.tmp 43) _ rfl elem_put (by decide) sc_len sc_one q2 d2 xs [(A, 0#64)] rfl HOW.out wr.heap.size 1 1 rfl rfl 122 (0, 0) (World.alloc_heap_new wr _) (by simp) ⟨HLN.out, by simp⟩ ?_
                   intro p' cap' w' happ
                   have HAP := Lib.hid happ
                   clear happ)
      have hst : PutSt w p' cap' (xs ++ [(A, 0#64)]) w' := ⟨HAP.out.1, fun b hb => (HAP.out.2.2 b hb).elim (HST.out.2.1 b) (fun h => by have h1 := h.1; have := HST.out.2.2.size; simp at h1; omega), (HST.out.2.2.alloc HST.out.2.2.size _).trans (HAP.out.2.1.below (by have := HST.out.2.2.size; simp; omega) (fun b hb => HST.out.2.1 b hb))⟩
      have HS2 := Lib.hid hst
      clear hst HAP
      go_wp2_with fail
      go_ret
      exact ⟨_, _, by rw [HXA.out.1]; rfl, by rw [HXA.out.1, HXA.out.2]; exact HS2.out⟩
set_option maxRecDepth 100000 in
set_option maxHeartbeats 8000000 in
theorem take_any (left : BitVec 64) (p : Option Addr) (cap : Nat) (s : List (BitVec 64)) (K : BitVec 64) (w : World) (hrd : RdL w.heap.size w p cap vw s) (hl : s.length ≤ 1000) :
    Calls Try.prog 25 #[vw left, .slice p s.length cap, vw K] w fun e w' => ∃ v1 no, e = .returned (.tuple #[v1, .int .i64 no]) ∧ PutsOk 2 left s w v1 no w' ∧ Below w.heap.size w w' := by
  have HCH := Lib.hid (check_any left p cap s w hrd hl)
  have HRE := Lib.hid (fun W (hb : Below w.heap.size w W) => read_any left p cap s W ((hrd.below hb).wide hb.size) (by omega))
  have HAH := Lib.hid (fun W (hb : Below w.heap.size w W) j (hj : 2 * j ≤ s.length) => ahead_any left p cap s j W ((hrd.below hb).wide hb.size) hj (by omega))
  have HSH := Lib.hid (fun W (hb : Below w.heap.size w W) d m (h1 : d < m) (h2 : 2 * m ≤ s.length) => shift_any p cap s d m W ((hrd.below hb).wide hb.size) hl h1 h2)
  clear hrd
  go_enter Try.func25, Try.ntmps25
  go_wp2_with fail
  refine HCH.out.mono ?_
  rintro e w2 ⟨v, rfl, hset, hb2⟩
  have HB2 := Lib.hid hb2
  have HSET := Lib.hid hset
  clear hset hb2 HCH
  by_cases hv : v = 0
  · subst hv
    have HS := Lib.hid (HSET.out rfl)
    have hlen := set_len HS.out
    have hn56 := HS.out.1.l56
    have hnm := HS.out.1.nm
    clear HSET
    go_wp2_with fail
    refine (HRE.out w2 HB2.out).mono ?_
    rintro e w3 ⟨q, d, v2, rfl, hown, hqb, hb3⟩
    have HB3 := Lib.hid (HB2.out.trans (hb3.mono HB2.out.size))
    have HF := Lib.hid (find_any q d (readL left s) K w3 (hown.rds pc_len) (by omega))
    clear hown hqb hb3 HRE HB2
    obtain ⟨n, hn⟩ : ∃ n, (readL left s).length = n := ⟨_, rfl⟩
    have hnr : rawS s = n := by omega
    rw [hn] at HF hlen
    rw [hn]
    have HN := Lib.hid (And.intro hn hnr)
    rw [hnr] at hnm
    clear hn hnr hlen
    go_wp2_with fail
    refine HF.out.mono ?_
    rintro e w4 ⟨i, b, rfl, hf, kk, hk⟩
    subst hk
    have HFO := Lib.hid hf
    clear hf HF
    obtain ⟨W4, hW4⟩ : ∃ W4, w3.drewN kk = W4 := ⟨_, rfl⟩
    have HB4 := Lib.hid (show Below w.heap.size w W4 by rw [← hW4]; exact below_drewN HB3.out kk)
    rw [hW4]
    clear hW4 HB3
    cases b with
    | false =>
      go_wp2_with fail
      go_ret2
      exact ⟨_, 5, rfl, fun h => absurd h (by decide), HB4.out⟩
    | true =>
      have hin : i < n := by
        obtain ⟨-, -, -, h, -⟩ := HFO.out
        obtain ⟨h, -⟩ := h rfl
        have := HN.out.1
        omega
      obtain ⟨A, hA⟩ : ∃ A, 2 * i + 1 = A := ⟨_, rfl⟩
      obtain ⟨B, hB⟩ : ∃ A, 2 * i = A := ⟨_, rfl⟩
      have hw1 : IntKind.i64.wrap (2 * (i : Int)) = (B : Int) := by rw [IntKind.wrap_i64]; omega
      have hw2 : IntKind.i64.wrap ((B : Int) + 1) = (A : Int) := by rw [IntKind.wrap_i64]; omega
      have htk := take_all (left := left) (s := s) hin
      rw [hA] at htk
      have HTK := Lib.hid htk
      have HIN := Lib.hid hin
      have HAI := Lib.hid (HAH.out W4 HB4.out i (by omega))
      obtain ⟨X, hX⟩ : ∃ X, W4.alloc (.cells #[.int .i64 (A : Int), vw (aheadS left s i)] 122) = X := ⟨_, rfl⟩
      have hbX : Below w.heap.size w X := by rw [← hX]; exact HB4.out.alloc HB4.out.size _
      have hhX : X.heap[W4.heap.size]? = some (.cells #[.int .i64 (A : Int), vw (aheadS left s i)] 122 (0, 0)) := by rw [← hX]; exact World.alloc_heap_new _ _
      have hzX : X.heap.size = W4.heap.size + 1 := by rw [← hX]; simp
      have HSI := Lib.hid (HSH.out X hbX i n hin (by omega))
      have HXX := Lib.hid (And.intro hX (And.intro hbX (And.intro hhX hzX)))
      have hsl := shiftL_len s i (n - 1 - i)
      obtain ⟨ys, hys⟩ : ∃ ys, shiftL s i (n - 1 - i) ++ [(2 * n - 1, 0#64)] = ys := ⟨_, rfl⟩
      rw [hys] at HTK HSI
      have HYL := Lib.hid (show ys.length < 100000 by rw [← hys, List.length_append, hsl]; simp; omega)
      clear hA hB htk hin hX hbX hhX hzX hsl hys HAH HSH
      go_wp2_with fail
      refine HAI.out.mono ?_
      rintro e w9 ⟨rfl, rfl⟩
      go_wp2_with fail
      rw [HXX.out.1]
      go_wp2_with fail
      refine HSI.out.mono ?_
      rintro e w6 ⟨q6, d6, rfl, hst⟩
      have HST := Lib.hid hst
      have hb6 : w6.heap[W4.heap.size]? = some (.cells #[.int .i64 (A : Int), vw (aheadS left s i)] 122 (0, 0)) := (hst.2.2.block _ (by rw [HXX.out.2.2.2]; omega)).trans HXX.out.2.2.1
      have HOWN := Lib.hid (show w6.ownsRow w.heap.size 122 2 (.slice (some ⟨W4.heap.size, 0, none⟩) 1 1) [(A, aheadS left s i)].length ([(A, aheadS left s i)].flatMap sc) from ⟨rfl, .inr ⟨_, 1, _, rfl, HB4.out.size, hb6, Nat.le_refl _, by unfold maxLen; omega, rfl, rfl⟩⟩)
      have HB6 := Lib.hid (HXX.out.2.1.trans (hst.2.2.mono HXX.out.2.1.size))
      clear hst hb6
      go_wp2_with (at_builtin; refine wpList_ontoG rfl (.tmp 41) (.tmp 46) _ rfl elem_put (by decide) sc_len sc_one w.heap.size _ [(A, aheadS left s i)] rfl HOWN.out q6 d6 ys _ ys.length rfl rfl (HST.out.1.rds sc_len) (by have := HYL.out; simp; omega) HB6.out.size ?_
                   intro p' cap' w' ho hbs hgr
                   have HOO := Lib.hid (And.intro ho (And.intro hbs hgr))
                   clear ho hbs hgr)
      have hpk : PutsOk 2 left s w (.slice p' ([(A, aheadS left s i)] ++ ys).length cap') 0 w' := fun _ => ⟨takeL left s n i, p', cap', by rw [HTK.out], by rw [HTK.out]; exact HOO.out.1, HOO.out.2.1, by
        have h := good_take (i := i) HS.out (by rw [HN.out.2]; exact HIN.out)
        rw [HN.out.2] at h
        exact h⟩
      have HPK := Lib.hid hpk
      clear hpk
      go_wp2_with fail
      go_ret2
      exact ⟨_, 0, rfl, HPK.out, below_grown HB6.out HOO.out.2.2 HB6.out.size (fun b hb => by cases hb; exact HB4.out.size)⟩
  · have hv' : (v != 0) = true := bne_iff_ne.2 hv
    have HV := Lib.hid hv
    clear hv
    go_wp2_with fail
    go_ret2
    exact ⟨_, v, rfl, fun h => absurd h HV.out, HB2.out⟩
set_option maxRecDepth 100000 in
set_option maxHeartbeats 8000000 in
theorem swap_any (left : BitVec 64) (p : Option Addr) (cap : Nat) (s : List (BitVec 64)) (K P : BitVec 64) (w : World) (hrd : RdL w.heap.size w p cap vw s) (hl : s.length ≤ 1000) :
    Calls Try.prog 26 #[vw left, .slice p s.length cap, .agg #[vw K, vw P]] w fun e w' => ∃ v1 no, e = .returned (.tuple #[v1, .int .i64 no]) ∧ PutsOk 1 left s w v1 no w' ∧ PutsOk 2 left s w v1 no w' ∧ Below w.heap.size w w' := by
  obtain ⟨W1, hW1⟩ : ∃ W1, w.alloc (.cells #[vw K, vw P] 49) = W1 := ⟨_, rfl⟩
  have hb1 : Below w.heap.size w W1 := by rw [← hW1]; exact (Below.refl _ _).alloc (Nat.le_refl _) _
  have hx1 : W1.heap[w.heap.size]? = some (.cells #[vw K, vw P] 49 (0, 0)) := by rw [← hW1]; exact World.alloc_heap_new _ _
  have hz1 : W1.heap.size = w.heap.size + 1 := by rw [← hW1]; simp
  have hrd1 := (hrd.below hb1).wide hb1.size
  have c0 : W1.cell? ⟨w.heap.size, 0, none⟩ = some (vw K) := by simp [World.cell?, hx1]
  have c1 : W1.cell? ⟨w.heap.size, 1, none⟩ = some (vw P) := by simp [World.cell?, hx1]
  have HPT := Lib.hid (pointer_any left p cap s K P W1 hrd1 hl)
  have HRE := Lib.hid (fun W (hb : Below w.heap.size w W) => read_any left p cap s W ((hrd.below hb).wide hb.size) (by omega))
  have HW1 := Lib.hid (And.intro hW1 (And.intro hb1 (And.intro hx1 hz1)))
  have HC0 := Lib.hid c0
  have HC1 := Lib.hid c1
  clear hW1 hb1 hx1 hz1 hrd hrd1
  go_enter Try.func26, Try.ntmps26
  go_wp2_with fail
  rw [HW1.out.1]
  go_wp2_with fail
  refine HPT.out.mono ?_
  rintro e w2 ⟨v, rfl, hset, hb2⟩
  have HB2 := Lib.hid (HW1.out.2.1.trans (hb2.mono HW1.out.2.1.size))
  have c0 := (hb2.cell (p := ⟨w.heap.size, 0, none⟩) (by show w.heap.size < W1.heap.size; have := HW1.out.2.2.2; omega)).trans HC0.out
  have c1 := (hb2.cell (p := ⟨w.heap.size, 1, none⟩) (by show w.heap.size < W1.heap.size; have := HW1.out.2.2.2; omega)).trans HC1.out
  have hzw : w.heap.size < w2.heap.size := by have := HW1.out.2.2.2; have := hb2.size; omega
  have HSET := Lib.hid hset
  have HZW := Lib.hid hzw
  clear hset hb2 HPT HC0 HC1 HW1 hzw
  by_cases hv : v = 0
  · subst hv
    obtain ⟨hS, hP0, hPl, hPn⟩ := HSET.out rfl
    have hn56 := hS.1.l56
    have hnm := hS.1.nm
    have hlen := set_len hS
    have HS := Lib.hid hS
    have HPP := Lib.hid (And.intro hP0 (And.intro hPl (set_has hS hPn)))
    clear hS hP0 hPl hPn HSET
    go_wp2_with fail
    refine (HRE.out w2 HB2.out).mono ?_
    rintro e w3 ⟨q, d, v2, rfl, hown, hqb, hb3⟩
    have HB3 := Lib.hid (HB2.out.trans (hb3.mono HB2.out.size))
    have c0 := (hb3.cell (p := ⟨w.heap.size, 0, none⟩) HZW.out).trans c0
    have c1 := (hb3.cell (p := ⟨w.heap.size, 1, none⟩) HZW.out).trans c1
    have HF := Lib.hid (find_any q d (readL left s) K w3 (hown.rds pc_len) (by omega))
    have HOWN := Lib.hid hown
    have hzw3 : w.heap.size < w3.heap.size := Nat.lt_of_lt_of_le HZW.out hb3.size
    have HZ3 := Lib.hid hzw3
    clear hown hqb hb3 HRE hzw3 HZW HB2
    obtain ⟨n, hn⟩ : ∃ n, (readL left s).length = n := ⟨_, rfl⟩
    have hnr : rawS s = n := by omega
    rw [hn] at HF hlen
    rw [hn]
    have HN := Lib.hid (And.intro hn hnr)
    rw [hnr] at hnm
    clear hn hnr hlen
    go_wp2_with fail
    refine HF.out.mono ?_
    rintro e w4 ⟨i, b, rfl, hf, kk, hk⟩
    subst hk
    have HFO := Lib.hid hf
    clear hf HF
    obtain ⟨W4, hW4⟩ : ∃ W4, w3.drewN kk = W4 := ⟨_, rfl⟩
    have hb4 : Below w3.heap.size w3 W4 := by rw [← hW4]; exact below_drewN (Below.refl _ _) kk
    have hz4 : W4.heap.size = w3.heap.size := by rw [← hW4]; rfl
    have c0 := (hb4.cell (p := ⟨w.heap.size, 0, none⟩) HZ3.out).trans c0
    have c1 := (hb4.cell (p := ⟨w.heap.size, 1, none⟩) HZ3.out).trans c1
    have HRD := Lib.hid ((HOWN.out.below hb4).rds pc_len)
    have HB4 := Lib.hid (HB3.out.trans (hb4.mono HB3.out.size))
    have HZ4 := Lib.hid (show w.heap.size < W4.heap.size by have := HZ3.out; omega)
    rw [hW4]
    clear hb4 hz4 hW4 HB3 HOWN HZ3
    cases b with
    | false =>
      go_wp2_with fail
      go_ret2
      exact ⟨_, 5, rfl, fun h => absurd h (by decide), fun h => absurd h (by decide), HB4.out⟩
    | true =>
      have hin : i < n := by
        obtain ⟨-, -, -, h, -⟩ := HFO.out
        obtain ⟨h, -⟩ := h rfl
        have := HN.out.1
        omega
      obtain ⟨A, hA⟩ : ∃ A, 2 * i + 1 = A := ⟨_, rfl⟩
      obtain ⟨B, hB⟩ : ∃ A, 2 * i = A := ⟨_, rfl⟩
      have hw1 : IntKind.i64.wrap (2 * (i : Int)) = (B : Int) := by rw [IntKind.wrap_i64]; omega
      have hw2 : IntKind.i64.wrap ((B : Int) + 1) = (A : Int) := by rw [IntKind.wrap_i64]; omega
      have HIA := Lib.hid (And.intro hin hA)
      clear hA hB hin
      go_wp2_with fail
      obtain ⟨X, hX⟩ : ∃ X, W4.alloc (.cells #[.int .i64 (A : Int), vw P] 122) = X := ⟨_, rfl⟩
      have hbX : Below w.heap.size w X := by rw [← hX]; exact HB4.out.alloc HB4.out.size _
      have hhX : X.heap[W4.heap.size]? = some (.cells #[.int .i64 (A : Int), vw P] 122 (0, 0)) := by rw [← hX]; exact World.alloc_heap_new _ _
      have how : OwnSt X (some ⟨W4.heap.size, 0, none⟩) 1 (swapL i P) := by
        unfold swapL
        rw [HIA.out.2]
        exact OwnG.block (enc := sc) (ys := [(A, P)]) sc_len hhX (by unfold maxLen; simp)
      have hbs : ∀ b, inP (some ⟨W4.heap.size, 0, none⟩ : Option Addr) 1 b → w.heap.size ≤ b := fun b hb => by obtain ⟨a, ha, hab, -⟩ := hb; cases ha; rw [← hab]; exact HB4.out.size
      have hin : i < rawS s := by rw [HN.out.2]; exact HIA.out.1
      have HXX := Lib.hid (And.intro hX (And.intro hbX (And.intro how (And.intro hbs hin))))
      clear hX hbX hhX how hbs hin
      rw [HXX.out.1]
      go_wp2_with fail
      go_ret2
      exact ⟨_, 0, rfl, fun _ => ⟨swapL i P, _, _, rfl, HXX.out.2.2.1, HXX.out.2.2.2.1, good_swapU HS.out HXX.out.2.2.2.2 HPP.out.1 HPP.out.2.1 HPP.out.2.2⟩, fun _ => ⟨swapL i P, _, _, rfl, HXX.out.2.2.1, HXX.out.2.2.2.1, good_swapD HS.out HXX.out.2.2.2.2 HPP.out.1 HPP.out.2.1 HPP.out.2.2⟩, HXX.out.2.1⟩
  · have hv' : (v != 0) = true := bne_iff_ne.2 hv
    have HV := Lib.hid hv
    clear hv
    go_wp2_with fail
    go_ret2
    exact ⟨_, v, rfl, fun h => absurd h HV.out, fun h => absurd h HV.out, HB2.out⟩
end Go.Proofs.Ytenmogokbelahaa
