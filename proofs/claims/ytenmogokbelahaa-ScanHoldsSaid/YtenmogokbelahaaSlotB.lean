/- The walks of the reference's slots: Read. -/
import Derived.Test.YtenmogokbelahaaSlotA
import Derived.Test.YtenmogokbelahaaRegF
namespace Go.Proofs.Ytenmogokbelahaa
open Go Go.RowKit

theorem elem_pr : ElemIs Try.prog 42 49 (.agg #[.int .u64 0, .int .u64 0]) 2 16 := ⟨by kernel_rfl, by kernel_rfl, rfl, by decide⟩
theorem elem_in : ElemIs Try.prog 43 3 (.int .i64 0) 1 8 := ⟨by kernel_rfl, by kernel_rfl, rfl, by decide⟩
def ic (i : Int) : List Value := [.int .i64 i]
theorem ic_len (i : Int) : (ic i).length = 1 := rfl
theorem ic_one (i : Int) : ∀ u ∈ ic i, u.oneCell' = true := by
  intro u hu
  simp [ic] at hu
  subst hu
  rfl
abbrev OwnPr (w : World) (p : Option Addr) (cap : Nat) (xs : List Pr) : Prop := OwnG 49 2 pc w p cap xs
abbrev OwnIn (w : World) (p : Option Addr) (cap : Nat) (xs : List Int) : Prop := OwnG 3 1 ic w p cap xs
/-- What Read has made so far: two slices of its own, apart. -/
def RdSt (w : World) (q : Option Addr) (d : Nat) (l : List Pr) (q2 : Option Addr) (d2 : Nat) (js : List Int) (W : World) : Prop :=
  OwnPr W q d l ∧ OwnIn W q2 d2 js ∧ (∀ b, inP q d b → w.heap.size ≤ b) ∧ (∀ b, inP q2 d2 b → w.heap.size ≤ b) ∧ (∀ b, inP q d b → ¬ inP q2 d2 b) ∧ Below w.heap.size w W
set_option maxRecDepth 100000 in
set_option maxHeartbeats 8000000 in
theorem read_any (left : BitVec 64) (p : Option Addr) (cap : Nat) (s : List (BitVec 64)) (w : World) (hrd : RdL w.heap.size w p cap vw s) (hl : s.length ≤ 100000) :
    Calls Try.prog 22 #[vw left, .slice p s.length cap] w fun e w' => ∃ q d v2, e = .returned (.tuple #[.slice q (readL left s).length d, v2]) ∧ OwnPr w' q d (readL left s) ∧ (∀ b, inP q d b → w.heap.size ≤ b) ∧ Below w.heap.size w w' := by
  have HR := Lib.hid hrd
  have hrw := (rawS_ok s).1
  have HRW := Lib.hid (fun W (hb : Below w.heap.size w W) => raw_any p cap s W ((hrd.below hb).wide hb.size) hl)
  have HAH := Lib.hid (fun W (hb : Below w.heap.size w W) j (hj : 2 * j ≤ s.length) => ahead_any left p cap s j W ((hrd.below hb).wide hb.size) hj hl)
  clear hrd
  go_enter Try.func22, Try.ntmps22
  go_wp2_with fail
  go_loopw [6, 7, 8] (fun x6 x7 i wr => ∃ (k : Nat) (q : Option Addr) (d : Nat) (q2 : Option Addr) (d2 : Nat) (js : List Int), k ≤ rawS s ∧ i = .int .i64 k ∧ x6 = .slice q (readN left s k).length d ∧ x7 = .slice q2 js.length d2 ∧ js.length ≤ k ∧ RdSt w q d (readN left s k) q2 d2 js wr)
    (fun _ _ i _ => s.length - (intOf i).toNat)
  case atStart => exact ⟨0, none, 0, none, 0, [], Nat.zero_le _, rfl, rfl, rfl, Nat.le_refl _, OwnG.nil _ _ _ _ _, OwnG.nil _ _ _ _ _, fun b hb => (by obtain ⟨a, ha, _⟩ := hb; cases ha), fun b hb => (by obtain ⟨a, ha, _⟩ := hb; cases ha), fun b hb => (by obtain ⟨a, ha, _⟩ := hb; cases ha), Below.refl _ _⟩
  case round =>
    obtain ⟨k, q, d, q2, d2, js, hk, rfl, rfl, rfl, hjs, hst⟩ := hrel
    have HST := Lib.hid hst
    have hlen := readN_len left s k
    have HLN := Lib.hid (show (readN left s k).length < 1000000 ∧ js.length < 1000000 by omega)
    clear hst
    by_cases hlt : k < rawS s
    · have hlt' : (k : Int) < (rawS s : Int) := by omega
      have hk9 : (k : Int) ≤ 100000 := by omega
      have hsucc : readN left s (k + 1) = readN left s k ++ (if ptrS s k ≠ aheadS left s k then [(keyS s k, ptrS s k)] else []) := rfl
      obtain ⟨b, off, hpo, hbl, hc1⟩ := HR.out.at (2 * k + 1) (by omega)
      obtain ⟨b', off', hpo', hbl', hc0⟩ := HR.out.at (2 * k) (by omega)
      obtain ⟨rfl, rfl⟩ : b = b' ∧ off = off' := by rw [hpo] at hpo'; cases hpo'; exact ⟨rfl, rfl⟩
      have hps : s[2 * k + 1] = ptrS s k := by unfold ptrS; simp [show 2 * k + 1 < s.length by omega]
      have hks : s[2 * k] = keyS s k := by unfold keyS; simp [show 2 * k < s.length by omega]
      rw [hps] at hc1
      rw [hks] at hc0
      have x1 := (HST.out.2.2.2.2.2.cell (p := ⟨b, off + (2 * k + 1), none⟩) hbl).trans hc1
      have HC0 := Lib.hid hc0
      have HC1 := Lib.hid hc1
      have hi1 : 2 * (k : Int) + 1 < (s.length : Int) := by omega
      have hi0 : 2 * (k : Int) < (s.length : Int) := by omega
      have hi2 : 0 ≤ 2 * (k : Int) + 1 := by omega
      have hi3 : 0 ≤ 2 * (k : Int) := by omega
      have hw1 : IntKind.i64.wrap (2 * (k : Int)) = 2 * (k : Int) := by rw [IntKind.wrap_i64]; omega
      have hw2 : IntKind.i64.wrap (2 * (k : Int) + 1) = 2 * (k : Int) + 1 := by rw [IntKind.wrap_i64]; omega
      have ht1 : (2 * (k : Int) + 1).toNat = 2 * k + 1 := by omega
      have ht0 : (2 * (k : Int)).toNat = 2 * k := by omega
      subst hpo
      clear hpo' hps hks hc0 hc1 hbl'
      have HAK := Lib.hid (fun W hb => HAH.out W hb k (by omega))
      have HS := Lib.hid hsucc
      obtain ⟨V, hV⟩ : ∃ V : Int, ((ptrS s k).toNat : Int) = V := ⟨_, rfl⟩
      obtain ⟨K, hK⟩ : ∃ V : Int, ((aheadS left s k).toNat : Int) = V := ⟨_, rfl⟩
      have eV : vw (ptrS s k) = .int .u64 V := by rw [← hV]
      have eK : vw (aheadS left s k) = .int .u64 K := by rw [← hK]
      have hiff : ptrS s k = aheadS left s k ↔ V = K := by rw [← hV, ← hK, word_eq]
      rw [eV] at x1
      rw [eK] at HAK
      have HEV := Lib.hid (And.intro eV hiff)
      clear hsucc eV eK hiff hV hK
      go_wp2_with fail
      refine (HRW.out _ HST.out.2.2.2.2.2).mono ?_
      rintro e w' ⟨rfl, rfl⟩
      go_wp2_with fail
      go_region_held3 (fun w' => w'.cell? ⟨b, off + (2 * k + 1), none⟩ = some (.int .u64 V))
        (first | exact x1)
        (first
         | (go_at_call 64
            refine (HAK.out _ (below_drewN HST.out.2.2.2.2.2 _)).mono ?_
            rintro e w4 ⟨rfl, rfl⟩))
      by_cases hne : V = K
      · subst hne
        have HN := Lib.hid (show readN left s (k + 1) = readN left s k by rw [HS.out, if_neg (fun h => h (HEV.out.2.2 rfl)), List.append_nil])
        go_wp2_with fail
        go_roundw
        case rel => exact ⟨k + 1, q, d, q2, d2, js, hlt, by go_num, by rw [HN.out], rfl, by omega, by rw [HN.out]; exact ⟨HST.out.1.keep (fun _ _ => rfl), HST.out.2.1.keep (fun _ _ => rfl), HST.out.2.2.1, HST.out.2.2.2.1, HST.out.2.2.2.2.1, below_drewN HST.out.2.2.2.2.2 1⟩⟩
        case measure => simp [intOf]; omega
      · have HN := Lib.hid (show readN left s (k + 1) = readN left s k ++ [(keyS s k, ptrS s k)] by rw [HS.out, if_pos (fun h => hne (HEV.out.2.1 h))])
        have hne' : (V != K) = true := bne_iff_ne.2 hne
        clear x1
        go_wp2_with fail
        have hbl2 : b < wr.heap.size := Nat.lt_of_lt_of_le hbl HST.out.2.2.2.2.2.size
        obtain ⟨W2, hW2⟩ : ∃ W2, wr.drewN 1 = W2 := ⟨_, rfl⟩
        have hbe : Below w.heap.size w W2 := by rw [← hW2]; exact below_drewN HST.out.2.2.2.2.2 1
        have hs2 : W2.heap = wr.heap := by rw [← hW2]; rfl
        rw [hW2]
        have x0 : W2.drew.cell? ⟨b, off + 2 * k, none⟩ = some (vw (keyS s k)) := (hbe.cell (p := ⟨b, off + 2 * k, none⟩) hbl).trans HC0.out
        have x1 : W2.drew.cell? ⟨b, off + (2 * k + 1), none⟩ = some (vw (ptrS s k)) := (hbe.cell (p := ⟨b, off + (2 * k + 1), none⟩) hbl).trans HC1.out
        have hb3 : Below w.heap.size w (W2.drew.alloc (.cells [vw (keyS s k), vw (ptrS s k)].toArray 49)) := hbe.drew.alloc hbe.size _
        have y0 := (hb3.cell (p := ⟨b, off + 2 * k, none⟩) hbl).trans HC0.out
        have y1 := (hb3.cell (p := ⟨b, off + (2 * k + 1), none⟩) hbl).trans HC1.out
        have how : OwnPr (W2.alloc (.cells [vw (keyS s k), vw (ptrS s k)].toArray 49)).drew q d (readN left s k) := (HST.out.1.keep (fun b' hb' => by rw [hs2])).below (((Below.refl _ W2).alloc (Nat.le_refl _) _).drew)
        have HOW := Lib.hid how
        have HQW := Lib.hid HST.out.2.2.1
        have HBE := Lib.hid (show Below w.heap.size w (W2.alloc (.cells [vw (keyS s k), vw (ptrS s k)].toArray 49)).drew from (hbe.alloc hbe.size _).drew)
        have HS2 := Lib.hid (And.intro hs2 hbe)
        clear hbe hs2 hb3 how hne hne' hW2
        refine wp_region_noPanic ?_
        refine wp_region_F 15 (fun w' => w'.cell? ⟨b, off + 2 * k, none⟩ = some (vw (keyS s k)) ∧ w'.cell? ⟨b, off + (2 * k + 1), none⟩ = some (vw (ptrS s k))) (by kernel_rfl) ?_ (fun hHeld => ?_)
        · exact ⟨x0, x1⟩
        refine' wpAnyF_takeT (i := 0) (v := _) rfl (by kernel_rfl) (by kernel_rfl) (by kernel_rfl) (by rfl) (fun _ _ _ h => h) (Or.inl ⟨by rfl, ?hy⟩) (fun _ => hHeld) _
        case hy => (intro w0 hSw; (try dsimp only at hSw); simp only [List.getElem_toArray, List.getElem_cons_zero]; go_simp; first | done | with_reducible rfl)
        simp only [Act.put, List.getElem_toArray, List.getElem_cons_zero, List.setIfInBounds_toArray, List.set_cons_zero, List.set_cons_succ]
        refine' wpAnyF_takeT (i := 1) (v := _) rfl (by kernel_rfl) (by kernel_rfl) (by kernel_rfl) (by rfl) (fun _ _ _ h => h) (Or.inl ⟨by rfl, ?hy⟩) (fun _ => hHeld) _
        case hy => (intro w0 hSw; (try dsimp only at hSw); simp only [List.getElem_toArray, List.getElem_cons_zero, List.getElem_cons_succ]; go_simp; first | done | with_reducible rfl)
        simp only [Act.put, List.getElem_toArray, List.getElem_cons_zero, List.getElem_cons_succ, List.setIfInBounds_toArray, List.set_cons_zero, List.set_cons_succ]
        refine' wpAnyF_takeT (i := 2) (v := _) rfl (by kernel_rfl) (by kernel_rfl) (by kernel_rfl) (by rfl) (fun _ _ _ h => h) (Or.inl ⟨by rfl, ?hy⟩) (fun _ => hHeld) _
        case hy => (intro w0 hSw; (try dsimp only at hSw); simp only [List.getElem_toArray, List.getElem_cons_zero, List.getElem_cons_succ]; go_simp; first | done | with_reducible rfl)
        simp only [Act.put, List.getElem_toArray, List.getElem_cons_zero, List.getElem_cons_succ, List.setIfInBounds_toArray, List.set_cons_zero, List.set_cons_succ]
        refine' wpAnyF_takeT (i := 3) (v := _) rfl (by kernel_rfl) (by kernel_rfl) (by kernel_rfl) (by rfl) (fun _ _ _ h => h) (Or.inl ⟨by rfl, ?hy⟩) (fun _ => hHeld) _
        case hy => (intro w0 hSw; (try dsimp only at hSw); simp only [List.getElem_toArray, List.getElem_cons_zero, List.getElem_cons_succ]; go_simp; first | done | with_reducible rfl)
        simp only [Act.put, List.getElem_toArray, List.getElem_cons_zero, List.getElem_cons_succ, List.setIfInBounds_toArray, List.set_cons_zero, List.set_cons_succ]
        refine' wpAnyF_takeT (i := 4) (v := _) rfl (by kernel_rfl) (by kernel_rfl) (by kernel_rfl) (by rfl) (fun _ _ _ h => h) (Or.inl ⟨by rfl, ?hy⟩) (fun _ => hHeld) _
        case hy => (intro w0 hSw; (try dsimp only at hSw); simp only [List.getElem_toArray, List.getElem_cons_zero, List.getElem_cons_succ]; go_simp; first | done | with_reducible rfl)
        simp only [Act.put, List.getElem_toArray, List.getElem_cons_zero, List.getElem_cons_succ, List.setIfInBounds_toArray, List.set_cons_zero, List.set_cons_succ]
        refine' wpAnyF_take (i := 5) (v := _) rfl (by kernel_rfl) (by kernel_rfl) (by kernel_rfl) (by kernel_rfl) (by rfl) (by kernel_rfl) (fun _ _ _ h => h) (Or.inl ⟨by rfl, ?hy⟩) hHeld _
        case hy => (intro w0 hSw; (try dsimp only at hSw); simp only [List.getElem_toArray, List.getElem_cons_zero, List.getElem_cons_succ]; go_simp; first | done | with_reducible rfl)
        simp only [Act.put, List.getElem_toArray, List.getElem_cons_zero, List.getElem_cons_succ, List.setIfInBounds_toArray, List.set_cons_zero, List.set_cons_succ]
        refine' wpAnyF_takeT (i := 6) (v := _) rfl (by kernel_rfl) (by kernel_rfl) (by kernel_rfl) (by rfl) (fun _ _ _ h => h) (Or.inl ⟨by rfl, ?hy⟩) (fun _ => hHeld) _
        case hy => (intro w0 hSw; (try dsimp only at hSw); simp only [List.getElem_toArray, List.getElem_cons_zero, List.getElem_cons_succ]; go_simp; first | done | with_reducible rfl)
        simp only [Act.put, List.getElem_toArray, List.getElem_cons_zero, List.getElem_cons_succ, List.setIfInBounds_toArray, List.set_cons_zero, List.set_cons_succ]
        refine' wpAnyF_takeT (i := 7) (v := _) rfl (by kernel_rfl) (by kernel_rfl) (by kernel_rfl) (by rfl) (fun _ _ _ h => h) (Or.inl ⟨by rfl, ?hy⟩) (fun _ => hHeld) _
        case hy => (intro w0 hSw; (try dsimp only at hSw); simp only [List.getElem_toArray, List.getElem_cons_zero, List.getElem_cons_succ]; go_simp; first | done | with_reducible rfl)
        simp only [Act.put, List.getElem_toArray, List.getElem_cons_zero, List.getElem_cons_succ, List.setIfInBounds_toArray, List.set_cons_zero, List.set_cons_succ]
        refine' wpAnyF_takeT (i := 8) (v := _) rfl (by kernel_rfl) (by kernel_rfl) (by kernel_rfl) (by rfl) (fun _ _ _ h => h) (Or.inl ⟨by rfl, ?hy⟩) (fun _ => hHeld) _
        case hy => (intro w0 hSw; (try dsimp only at hSw); simp only [List.getElem_toArray, List.getElem_cons_zero, List.getElem_cons_succ]; go_simp; first | done | with_reducible rfl)
        simp only [Act.put, List.getElem_toArray, List.getElem_cons_zero, List.getElem_cons_succ, List.setIfInBounds_toArray, List.set_cons_zero, List.set_cons_succ]
        refine' wpAnyF_takeT (i := 9) (v := _) rfl (by kernel_rfl) (by kernel_rfl) (by kernel_rfl) (by rfl) (fun _ _ _ h => h) (Or.inl ⟨by rfl, ?hy⟩) (fun _ => hHeld) _
        case hy => (intro w0 hSw; (try dsimp only at hSw); simp only [List.getElem_toArray, List.getElem_cons_zero, List.getElem_cons_succ]; go_simp; first | done | with_reducible rfl)
        simp only [Act.put, List.getElem_toArray, List.getElem_cons_zero, List.getElem_cons_succ, List.setIfInBounds_toArray, List.set_cons_zero, List.set_cons_succ]
        refine' wpAnyF_takeT (i := 10) (v := _) rfl (by kernel_rfl) (by kernel_rfl) (by kernel_rfl) (by rfl) (fun _ _ _ h => h) (Or.inl ⟨by rfl, ?hy⟩) (fun _ => hHeld) _
        case hy => (intro w0 hSw; (try dsimp only at hSw); simp only [List.getElem_toArray, List.getElem_cons_zero, List.getElem_cons_succ]; go_simp; first | done | with_reducible rfl)
        simp only [Act.put, List.getElem_toArray, List.getElem_cons_zero, List.getElem_cons_succ, List.setIfInBounds_toArray, List.set_cons_zero, List.set_cons_succ]
        refine' wpAnyF_take (i := 11) (v := _) rfl (by kernel_rfl) (by kernel_rfl) (by kernel_rfl) (by kernel_rfl) (by rfl) (by kernel_rfl) (fun _ _ _ h => h) (Or.inl ⟨by rfl, ?hy⟩) hHeld _
        case hy => (intro w0 hSw; (try dsimp only at hSw); simp only [List.getElem_toArray, List.getElem_cons_zero, List.getElem_cons_succ]; go_simp; first | done | with_reducible rfl)
        simp only [Act.put, List.getElem_toArray, List.getElem_cons_zero, List.getElem_cons_succ, List.setIfInBounds_toArray, List.set_cons_zero, List.set_cons_succ]
        refine' wpAnyF_takeT (i := 12) (v := _) rfl (by kernel_rfl) (by kernel_rfl) (by kernel_rfl) (by rfl) (fun _ _ _ h => h) (Or.inl ⟨by rfl, ?hy⟩) (fun _ => hHeld) _
        case hy => (intro w0 hSw; (try dsimp only at hSw); simp only [List.getElem_toArray, List.getElem_cons_zero, List.getElem_cons_succ]; go_simp; first | done | with_reducible rfl)
        simp only [Act.put, List.getElem_toArray, List.getElem_cons_zero, List.getElem_cons_succ, List.setIfInBounds_toArray, List.set_cons_zero, List.set_cons_succ]
        refine wpAnyF_one (i := 13) (by kernel_rfl) rfl (fun K hK => ?_)
        go_simp
        refine hK.out _ _ (fun _ => ?_) ?_
        · exact ⟨y0, y1⟩
        clear hK K
        try simp only [Act.put, List.getElem_toArray, List.getElem_cons_zero, List.getElem_cons_succ, List.setIfInBounds_toArray, List.set_cons_zero, List.set_cons_succ]
        refine wpAnyF_one (i := 14) (by kernel_rfl) rfl (fun K hK => ?_)
        refine step_appG (by rfl) (.tmp 26) (.tmp 39) _ rfl elem_pr (by decide) pc_len pc_one q d (readN left s k) [(keyS s k, ptrS s k)] rfl HOW.out W2.heap.size 1 1 rfl rfl 49 (0, 0) (World.alloc_heap_new W2.drew _) (by simp) ⟨by have := HLN.out; omega, by simp⟩ ?_
        intro p9 c9 w9 happ
        have HAPP := Lib.hid happ
        have hbw : Below w.heap.size w w9 := HBE.out.trans (happ.2.1.below (by have := HBE.out.size; exact this) (fun b hb => HQW.out b hb))
        have z0 := (hbw.cell (p := ⟨b, off + 2 * k, none⟩) hbl).trans HC0.out
        have z1 := (hbw.cell (p := ⟨b, off + (2 * k + 1), none⟩) hbl).trans HC1.out
        have HBW := Lib.hid hbw
        clear happ hbw
        refine hK.out _ _ (fun _ => ?_) ?_
        · exact ⟨z0, z1⟩
        clear hK K
        try simp only [Act.put, List.getElem_toArray, List.getElem_cons_zero, List.getElem_cons_succ, List.setIfInBounds_toArray, List.set_cons_zero, List.set_cons_succ]
        refine wpAnyF_one (i := 15) (by kernel_rfl) rfl (fun K hK => ?_)
        go_simp
        refine hK.out _ _ (fun h => Bool.noConfusion (h.symm.trans (by kernel_rfl : _ = true))) ?_
        clear hK K
        try simp only [Act.put, List.getElem_toArray, List.getElem_cons_zero, List.getElem_cons_succ, List.setIfInBounds_toArray, List.set_cons_zero, List.set_cons_succ]
        refine wpAnyF_done (by kernel_rfl) ?_ _
        refine NoPanic.normal ?_
        clear hHeld x0 x1 y0 y1 z0 z1
        have hwr : wr.heap.size ≤ w9.heap.size := by
          have h1 := HAPP.out.2.1.size
          have h2 : ((W2.alloc (.cells [vw (keyS s k), vw (ptrS s k)].toArray 49)).drew).heap.size = W2.heap.size + 1 := by show (W2.alloc _).heap.size = _; simp
          rw [h2, HS2.out.1] at h1
          omega
        have hz2 : ((W2.alloc (.cells [vw (keyS s k), vw (ptrS s k)].toArray 49)).drew).heap.size = wr.heap.size + 1 := by show (W2.alloc _).heap.size = _; rw [World.size_alloc, HS2.out.1]
        have ho2 : OwnIn w9 q2 d2 js := HST.out.2.1.keep (fun b' hb' => by
          have hl := HST.out.2.1.lt hb'
          rw [HAPP.out.2.1.block b' (by rw [hz2]; omega) (fun hq => HST.out.2.2.2.2.1 b' hq hb')]
          show (W2.alloc _).heap[b']? = _
          rw [Below.heap_alloc _ _ _ (by rw [HS2.out.1]; omega), HS2.out.1])
        have HO2 := Lib.hid (ho2.below ((Below.refl _ w9).alloc (Nat.le_refl _) (.cells [Value.int .i64 (k : Int)].toArray 3)))
        have HZ2 := Lib.hid (And.intro hz2 hwr)
        clear ho2 hz2 hwr
        go_wp2_with (at_builtin; refine wpList_appG rfl (.tmp 41) (.tmp 43) _ rfl elem_in (by decide) ic_len ic_one q2 d2 js [(k : Int)] rfl HO2.out w9.heap.size 1 1 rfl rfl 3 (0, 0) (World.alloc_heap_new w9 _) (by simp) ⟨HLN.out.2, by simp⟩ ?_
                     intro p' cap' w' happ
                     have HAP2 := Lib.hid happ
                     clear happ)
        have hz9 : (w9.alloc (.cells [Value.int .i64 (k : Int)].toArray 3)).heap.size = w9.heap.size + 1 := by simp
        have hs1 := HAPP.out.2.2
        have hs2 := HAP2.out.2.2
        have hzz := HZ2.out
        rw [hzz.1] at hs1
        rw [hz9] at hs2
        have hob : ∀ b', inP p9 c9 b' → w.heap.size ≤ b' := fun b' hb' => (hs1 b' hb').elim (HST.out.2.2.1 b') (fun h => by have := HST.out.2.2.2.2.2.size; omega)
        have hob2 : ∀ b', inP p' cap' b' → w.heap.size ≤ b' := fun b' hb' => (hs2 b' hb').elim (HST.out.2.2.2.1 b') (fun h => by have := HST.out.2.2.2.2.2.size; omega)
        have hnew : RdSt w p9 c9 (readN left s (k + 1)) p' cap' (js ++ [(k : Int)]) w' := by
          refine ⟨?_, HAP2.out.1, hob, hob2, ?_, ?_⟩
          · rw [HN.out]
            refine HAPP.out.1.keep (fun b' hb' => ?_)
            have hl := HAPP.out.1.lt hb'
            rw [HAP2.out.2.1.block b' (by rw [hz9]; omega) ?_, Below.heap_alloc _ _ _ hl]
            intro hq2
            rcases hs1 b' hb' with h | h
            · exact HST.out.2.2.2.2.1 b' h hq2
            · have := HST.out.2.1.lt hq2; omega
          · intro b' hb' hq2
            have hl := HAPP.out.1.lt hb'
            rcases hs1 b' hb' with h | h
            · rcases hs2 b' hq2 with h2 | h2
              · exact HST.out.2.2.2.2.1 b' h h2
              · omega
            · rcases hs2 b' hq2 with h2 | h2
              · have := HST.out.2.1.lt h2; omega
              · omega
          · exact (HBW.out.alloc HBW.out.size _).trans (HAP2.out.2.1.below (by have := HBW.out.size; rw [hz9]; omega) HST.out.2.2.2.1)
        have HNEW := Lib.hid hnew
        clear hs1 hs2 hzz hob hob2 hnew hz9
        go_wp2_with fail
        go_roundw
        case rel => exact ⟨k + 1, p9, c9, p', cap', js ++ [(k : Int)], hlt, by go_num, by rw [HN.out]; simp, by simp, by simp; omega, HNEW.out⟩
        case measure => simp [intOf]; omega
    · obtain rfl : k = rawS s := by omega
      go_wp2_with fail
      refine (HRW.out _ HST.out.2.2.2.2.2).mono ?_
      rintro e w' ⟨rfl, rfl⟩
      go_wp2_with fail
      go_ret2
      exact ⟨q, d, _, rfl, HST.out.1, HST.out.2.2.1, HST.out.2.2.2.2.2⟩
end Go.Proofs.Ytenmogokbelahaa
