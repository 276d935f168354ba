/- The walks of the latch's Ask and Free. -/
import Derived.Test.YthhdipfadnihjaaLatchJ
namespace Go.Proofs.Ythhdipfadnihjaa
open Go Go.RowKit

theorem askT_ask (xs ys : List Turn) (k : Int) (b : Bool) : askT xs ys k true = (askS (xs, ys) k b).2 := by
  unfold askT askS
  by_cases hk : 0 ≤ k ∧ k < 8
  · cases h : inT xs ys k <;> simp [hk, h]
  · simp [hk]
theorem askT_free (xs ys : List Turn) (k : Int) : askT xs ys k false = (freeS (xs, ys) k).2 := by
  unfold askT freeS
  by_cases hk : 0 ≤ k ∧ k < 8
  · cases h : inT xs ys k <;> simp [hk, h]
  · simp [hk]
theorem askS_stay {xs ys : List Turn} {k : Int} {b : Bool} (h : (askS (xs, ys) k b).2 ≠ 0) : (askS (xs, ys) k b).1 = (xs, ys) := by
  unfold askS at h ⊢
  by_cases hk : 0 ≤ k ∧ k < 8
  · cases h' : inT xs ys k <;> simp [hk, h'] at h ⊢
  · simp [hk]
theorem askS_go {xs ys : List Turn} {k : Int} {b : Bool} (h : (askS (xs, ys) k b).2 = 0) : (askS (xs, ys) k b).1 = givenT xs (ys ++ [(k, b)]) := by
  unfold askS at h ⊢
  by_cases hk : 0 ≤ k ∧ k < 8
  · cases h' : inT xs ys k <;> simp [hk, h'] at h ⊢
  · simp [hk] at h
theorem freeS_stay {xs ys : List Turn} {k : Int} (h : (freeS (xs, ys) k).2 ≠ 0) : (freeS (xs, ys) k).1 = (xs, ys) := by
  unfold freeS at h ⊢
  by_cases hk : 0 ≤ k ∧ k < 8
  · cases h' : inT xs ys k <;> simp [hk, h'] at h ⊢
  · simp [hk]
theorem freeS_go {xs ys : List Turn} {k : Int} (h : (freeS (xs, ys) k).2 = 0) : (freeS (xs, ys) k).1 = givenT (withoutT xs k) (withoutT ys k) := by
  unfold freeS at h ⊢
  by_cases hk : 0 ≤ k ∧ k < 8
  · cases h' : inT xs ys k <;> simp [hk, h'] at h ⊢
  · simp [hk] at h
theorem LOwn.below {T : Nat → Prop} {W W' : World} {L : Nat} {xs ys : List Turn} (h : LOwn T W L xs ys) (hb : Below W.heap.size W W') : LOwn T W' L xs ys := by
  obtain ⟨p, c, q, d, hs, hT⟩ := h
  exact ⟨p, c, q, d, hs.below hb, hT⟩
theorem LOwn.mono {T T' : Nat → Prop} {W : World} {L : Nat} {xs ys : List Turn} (h : LOwn T W L xs ys) (hT : ∀ b, T b → T' b) : LOwn T' W L xs ys := by
  obtain ⟨p, c, q, d, hs, h1⟩ := h
  exact ⟨p, c, q, d, hs, fun b hb => hT b (h1 b hb)⟩
theorem grow_grow {T : Nat → Prop} {w a b : World} (hab : a.heap.size ≤ b.heap.size) (hwa : w.heap.size ≤ a.heap.size) {k : Nat} (hk : grow (grow T w a) a b k) : grow T w b k := by
  rcases hk with (hk | hk) | hk
  · exact .inl hk
  · exact .inr ⟨hk.1, Nat.lt_of_lt_of_le hk.2 hab⟩
  · exact .inr ⟨Nat.le_trans hwa hk.1, hk.2⟩
/-- One more call behind what is known. -/
theorem lown_then {T : Nat → Prop} {w a b : World} {L : Nat} {xs ys : List Turn} (hf : Frn T w a) (h : LOwn (grow (grow T w a) a b) b L xs ys) (hf2 : Frn (grow T w a) a b) : LOwn (grow T w b) b L xs ys ∧ Frn T w b :=
  ⟨h.mono fun _ hk => grow_grow hf2.size hf.size hk, hf.grown (fun _ h => h) hf2⟩
/-- A turn is put behind those who wait. -/
theorem wait_step {T : Nat → Prop} {w wA w2 : World} {L : Nat} {p : Option Addr} {c : Nat} {xs : List Turn} {q : Option Addr} {d : Nat} {ys : List Turn} {q2 : Option Addr} {d2 : Nat} {t : Turn}
    (hst : LSt wA L p c xs q d ys) (hT : ∀ b, (b = L ∨ inP p c b ∨ inP q d b) → T b) (hw : Below w.heap.size w wA) (hTw : ∀ b, T b → b < w.heap.size) (hX : At wA.heap.size wA w2 ∨ Frn (inP q d) wA w2) (hf : Frn (inP q d) wA w2)
    (hown : OwnT w2 q2 d2 (ys ++ [t])) (hq : ∀ b, inP q2 d2 b → inP q d b ∨ (wA.heap.size ≤ b ∧ b < w2.heap.size)) :
    LOwn (grow T w (w2.setCell ⟨L, 1, none⟩ (.slice q2 (ys.length + 1) d2))) (w2.setCell ⟨L, 1, none⟩ (.slice q2 (ys.length + 1) d2)) L xs (ys ++ [t]) ∧ Frn T w (w2.setCell ⟨L, 1, none⟩ (.slice q2 (ys.length + 1) d2)) := by
  have hL := hst.lt
  have hL2 := (hf.block L hL hst.ny).trans hst.hp
  have h1 := heap_setCell_same w2 L 1 _ _ (.slice q2 (ys.length + 1) d2) hL2
  have hoth : ∀ b, b ≠ L → (w2.setCell ⟨L, 1, none⟩ (.slice q2 (ys.length + 1) d2)).heap[b]? = w2.heap[b]? := fun b hb => heap_setCell_other _ ⟨L, 1, none⟩ b _ hb
  have hsz : (w2.setCell ⟨L, 1, none⟩ (.slice q2 (ys.length + 1) d2)).heap.size = w2.heap.size := by simp [World.setCell]
  have hfr : Frn T w (w2.setCell ⟨L, 1, none⟩ (.slice q2 (ys.length + 1) d2)) := (((Frn.of_below hw : Frn T w wA).trans (hf.wide fun b hb => hT b (.inr (.inr hb)))).setCell ⟨L, 1, none⟩ (.inl (hT L (.inl rfl))) _)
  generalize (w2.setCell ⟨L, 1, none⟩ (.slice q2 (ys.length + 1) d2)) = w3 at *
  have hn2 : ∀ b, inP q2 d2 b → b ≠ L := fun b hb e => by
    subst e
    rcases hq b hb with h | h
    · exact hst.ny h
    · have := h.1; omega
  refine ⟨⟨p, c, q2, d2, ⟨by rw [h1, List.length_append]; simp, hst.ox.keep fun b hb => ?_, hown.keep fun b hb => hoth b (hn2 b hb), hst.nx, fun h => hn2 L h rfl, fun b hb hb2 => ?_⟩, fun b hb => ?_⟩, hfr⟩
  · exact (hoth b (fun e => hst.nx (e ▸ hb))).trans (hf.block b (hst.ox.lt hb) (hst.xy b hb))
  · rcases hq b hb2 with h | h
    · exact hst.xy b hb h
    · have := hst.ox.lt hb; have := h.1; omega
  · rcases hb with rfl | hb | hb
    · exact .inl (hT b (.inl rfl))
    · exact .inl (hT b (.inr (.inl hb)))
    · rcases hq b hb with h | h
      · exact .inl (hT b (.inr (.inr h)))
      · exact .inr ⟨Nat.le_trans hw.size h.1, by rw [hsz]; exact h.2⟩

set_option maxRecDepth 100000 in
set_option maxHeartbeats 2000000 in
theorem ask_any (T : Nat → Prop) (L : Nat) (xs ys : List Turn) (k : Int) (b : Bool) (w : World) (h : LOwn T w L xs ys) (hTw : ∀ b, T b → b < w.heap.size) (hn : xs.length + ys.length < 50000) :
    Calls Try.prog 25 #[.pointer (some ⟨L, 0, none⟩), .int .i64 k, .bool b] w fun e w' => e = .returned (.int .i64 (askS (xs, ys) k b).2) ∧ LOwn (grow T w w') w' L (askS (xs, ys) k b).1.1 (askS (xs, ys) k b).1.2 ∧ Frn T w w' := by
  obtain ⟨p, c, q, d, hst, hT⟩ := h
  obtain ⟨z, hz⟩ : ∃ z, askS (xs, ys) k b = z := ⟨_, rfl⟩
  have hask := asked_any L k true w p c xs q d ys hst.lat
  rw [askT_ask xs ys k b, hz] at hask
  rw [hz]
  have HASK := Lib.hid hask
  have HS := Lib.hid hst
  have HT := Lib.hid hT
  have HTW := Lib.hid hTw
  clear hask hst hT hTw
  by_cases hno : z.2 = 0
  · have hz1 : z.1 = givenT xs (ys ++ [(k, b)]) := by rw [← hz]; exact askS_go (by rw [hz]; exact hno)
    have HZ := Lib.hid hz1
    rw [hno] at HASK ⊢
    clear hz hz1 hno
    go_enter Try.func25, Try.ntmps25
    go_wp2_with fail
    refine HASK.out.mono ?_
    rintro e wA ⟨rfl, hbA⟩
    have HSA := Lib.hid (HS.out.below hbA)
    have HBA := Lib.hid hbA
    have m1 := HSA.out.c1
    have HLN := Lib.hid (show ys.length < 1000000 by omega)
    clear hbA
    go_wp2_with (
      at_builtin
      refine wpList_appT rfl (.tmp 18) (.tmp 22) _ rfl elem_turns q d ys (k, b) rfl (HSA.out.oy.below ((Below.refl _ _).alloc (Nat.le_refl _) _)) _ 1 rfl 53 (0, 0) (World.alloc_heap_new wA _) HLN.out ?_
      intro q2 d2 w2 hown hf hq
      have hf2 : Frn (inP q d) wA w2 := (Frn.alloc _ wA _).trans hf
      have hL2 := (hf2.block L HSA.out.lt HSA.out.ny).trans HSA.out.hp
      have l1 := lst_c1 hL2
      have l2 := lst_fr hL2 1
      have HO := Lib.hid hown
      have HF := Lib.hid hf2
      have HQ := Lib.hid (show ∀ b, inP q2 d2 b → inP q d b ∨ (wA.heap.size ≤ b ∧ b < w2.heap.size) from fun b hb => (hq b hb).imp id (fun h => ⟨by have := h.1; simp at this; omega, h.2⟩))
      clear hown hf hq hf2 hL2)
    obtain ⟨r1, r2⟩ := wait_step HSA.out HT.out HBA.out HTW.out (.inr HF.out) HF.out HO.out HQ.out
    have hgv := give_any _ L xs (ys ++ [(k, b)]) _ r1 (by simp; omega)
    have HGV := Lib.hid hgv
    have HR := Lib.hid r2
    clear hgv r1 r2 l1 l2 m1
    refine HGV.out.mono ?_
    rintro e w4 ⟨rfl, h4, f4⟩
    have H4 := Lib.hid (lown_then HR.out h4 f4)
    clear h4 f4
    go_wp2_with fail
    go_ret
    exact ⟨rfl, by rw [HZ.out]; exact H4.out.1, H4.out.2⟩
  · have hz1 : z.1 = (xs, ys) := by rw [← hz]; exact askS_stay (by rw [hz]; exact hno)
    have HZ := Lib.hid hz1
    obtain ⟨n, hn2⟩ : ∃ n, z.2 = n := ⟨_, rfl⟩
    rw [hn2] at HASK hno ⊢
    clear hz hz1 hn2
    go_enter Try.func25, Try.ntmps25
    go_wp2_with fail
    refine HASK.out.mono ?_
    rintro e wA ⟨rfl, hbA⟩
    have HBA := Lib.hid hbA
    clear hbA
    go_wp2_with fail
    go_ret
    exact ⟨rfl, by rw [HZ.out]; exact ⟨p, c, q, d, HS.out.below HBA.out, fun b hb => .inl (HT.out b hb)⟩, Frn.of_below HBA.out⟩

/-- Both lists are put into their places. -/
theorem free_step {T : Nat → Prop} {w wA w6 : World} {L : Nat} {p : Option Addr} {c : Nat} {xs zs : List Turn} {q : Option Addr} {d : Nat} {ys us : List Turn} {p4 : Option Addr} {c4 : Nat}
    (hst : LSt wA L p c xs q d ys) (hT : ∀ b, (b = L ∨ inP p c b ∨ inP q d b) → T b) (hw : Below w.heap.size w wA) (hf : Frn (inP p c) wA w6) (hown : OwnT w6 p c zs)
    (hown4 : OwnT w6 p4 c4 us) (hq : ∀ b, inP p4 c4 b → wA.heap.size ≤ b) :
    LOwn (grow T w ((w6.setCell ⟨L, 0, none⟩ (.slice p zs.length c)).setCell ⟨L, 1, none⟩ (.slice p4 us.length c4))) ((w6.setCell ⟨L, 0, none⟩ (.slice p zs.length c)).setCell ⟨L, 1, none⟩ (.slice p4 us.length c4)) L zs us ∧
    Frn T w ((w6.setCell ⟨L, 0, none⟩ (.slice p zs.length c)).setCell ⟨L, 1, none⟩ (.slice p4 us.length c4)) := by
  have hL := hst.lt
  have hL2 := (hf.block L hL hst.nx).trans hst.hp
  have h1 := lst_put (u' := .slice p zs.length c) (v' := .slice p4 us.length c4) hL2
  have hoth : ∀ b, b ≠ L → ((w6.setCell ⟨L, 0, none⟩ (.slice p zs.length c)).setCell ⟨L, 1, none⟩ (.slice p4 us.length c4)).heap[b]? = w6.heap[b]? := fun b hb => (heap_setCell_other _ ⟨L, 1, none⟩ b _ hb).trans (heap_setCell_other _ ⟨L, 0, none⟩ b _ hb)
  have hsz : ((w6.setCell ⟨L, 0, none⟩ (.slice p zs.length c)).setCell ⟨L, 1, none⟩ (.slice p4 us.length c4)).heap.size = w6.heap.size := by simp [World.setCell]
  have hfr : Frn T w ((w6.setCell ⟨L, 0, none⟩ (.slice p zs.length c)).setCell ⟨L, 1, none⟩ (.slice p4 us.length c4)) := ((((Frn.of_below hw : Frn T w wA).trans (hf.wide fun b hb => hT b (.inr (.inl hb)))).setCell ⟨L, 0, none⟩ (.inl (hT L (.inl rfl))) _).setCell ⟨L, 1, none⟩ (.inl (hT L (.inl rfl))) _)
  generalize ((w6.setCell ⟨L, 0, none⟩ (.slice p zs.length c)).setCell ⟨L, 1, none⟩ (.slice p4 us.length c4)) = w3 at *
  have hn4 : ∀ b, inP p4 c4 b → b ≠ L := fun b hb e => by have := hq b hb; omega
  refine ⟨⟨p, c, p4, c4, ⟨h1, hown.keep fun b hb => hoth b (fun e => hst.nx (e ▸ hb)), hown4.keep fun b hb => hoth b (hn4 b hb), hst.nx, fun h => hn4 L h rfl, fun b hb hb2 => ?_⟩, fun b hb => ?_⟩, hfr⟩
  · have := hst.ox.lt hb; have := hq b hb2; omega
  · rcases hb with rfl | hb | hb
    · exact .inl (hT b (.inl rfl))
    · exact .inl (hT b (.inr (.inl hb)))
    · exact .inr ⟨Nat.le_trans hw.size (hq b hb), by rw [hsz]; exact hown4.lt hb⟩

set_option maxRecDepth 100000 in
set_option maxHeartbeats 4000000 in
theorem free_any (T : Nat → Prop) (L : Nat) (xs ys : List Turn) (k : Int) (w : World) (h : LOwn T w L xs ys) (hTw : ∀ b, T b → b < w.heap.size) (hn : xs.length + ys.length < 50000) :
    Calls Try.prog 56 #[.pointer (some ⟨L, 0, none⟩), .int .i64 k] w fun e w' => e = .returned (.int .i64 (freeS (xs, ys) k).2) ∧ LOwn (grow T w w') w' L (freeS (xs, ys) k).1.1 (freeS (xs, ys) k).1.2 ∧ Frn T w w' := by
  obtain ⟨p, c, q, d, hst, hT⟩ := h
  obtain ⟨z, hz⟩ : ∃ z, freeS (xs, ys) k = z := ⟨_, rfl⟩
  have hask := asked_any L k false w p c xs q d ys hst.lat
  rw [askT_free xs ys k, hz] at hask
  rw [hz]
  have HASK := Lib.hid hask
  have HS := Lib.hid hst
  have HT := Lib.hid hT
  have HTW := Lib.hid hTw
  clear hask hst hT hTw
  by_cases hno : z.2 = 0
  · have hz1 : z.1 = givenT (withoutT xs k) (withoutT ys k) := by rw [← hz]; exact freeS_go (by rw [hz]; exact hno)
    have HZ := Lib.hid hz1
    rw [hno] at HASK ⊢
    clear hz hz1 hno
    go_enter Try.func56, Try.ntmps56
    go_wp2_with fail
    refine HASK.out.mono ?_
    rintro e wA ⟨rfl, hbA⟩
    have HSA := Lib.hid (HS.out.below hbA)
    have HBA := Lib.hid hbA
    clear hbA
    go_wp2_with fail
    have HSD := Lib.hid (HSA.out.below (Below.refl _ _).drew)
    have m0d := HSD.out.c0
    have m1d := HSD.out.c1
    refine wp_region_noPanic ?_
    refine wp_region_F 19 (fun w' => w'.cell? ⟨L, 0, none⟩ = some (.slice p xs.length c) ∧ w'.cell? ⟨L, 1, none⟩ = some (.slice q ys.length d)) (by kernel_rfl) ?_ (fun hHeld => ?_)
    · exact ⟨m0d, m1d⟩
    refine' wpAnyF_takeT (i := 0) (v := _) rfl (by kernel_rfl) (by kernel_rfl) (by kernel_rfl) (by rfl) (fun _ _ _ h => h) (Or.inl ⟨by rfl, ?hy⟩) (fun _ => hHeld) _
    case hy => (intro w0 hSw; (try dsimp only at hSw); simp only [List.getElem_toArray, List.getElem_cons_zero]; go_simp; first | done | with_reducible rfl)
    simp only [Act.put, List.getElem_toArray, List.getElem_cons_zero, List.setIfInBounds_toArray, List.set_cons_zero, List.set_cons_succ]
    refine' wpAnyF_takeT (i := 1) (v := _) rfl (by kernel_rfl) (by kernel_rfl) (by kernel_rfl) (by rfl) (fun _ _ _ h => h) (Or.inl ⟨by rfl, ?hy⟩) (fun _ => hHeld) _
    case hy => (intro w0 hSw; (try dsimp only at hSw); simp only [List.getElem_toArray, List.getElem_cons_zero, List.getElem_cons_succ]; go_simp; first | done | with_reducible rfl)
    simp only [Act.put, List.getElem_toArray, List.getElem_cons_zero, List.getElem_cons_succ, List.setIfInBounds_toArray, List.set_cons_zero, List.set_cons_succ]
    refine' wpAnyF_takeT (i := 2) (v := _) rfl (by kernel_rfl) (by kernel_rfl) (by kernel_rfl) (by rfl) (fun _ _ _ h => h) (Or.inl ⟨by rfl, ?hy⟩) (fun _ => hHeld) _
    case hy => (intro w0 hSw; (try dsimp only at hSw); simp only [List.getElem_toArray, List.getElem_cons_zero, List.getElem_cons_succ]; go_simp; first | done | with_reducible rfl)
    simp only [Act.put, List.getElem_toArray, List.getElem_cons_zero, List.getElem_cons_succ, List.setIfInBounds_toArray, List.set_cons_zero, List.set_cons_succ]
    refine' wpAnyF_takeT (i := 3) (v := _) rfl (by kernel_rfl) (by kernel_rfl) (by kernel_rfl) (by rfl) (fun _ _ _ h => h) (Or.inl ⟨by rfl, ?hy⟩) (fun _ => hHeld) _
    case hy => (intro w0 hSw; (try dsimp only at hSw); simp only [List.getElem_toArray, List.getElem_cons_zero, List.getElem_cons_succ]; go_simp; first | done | with_reducible rfl)
    simp only [Act.put, List.getElem_toArray, List.getElem_cons_zero, List.getElem_cons_succ, List.setIfInBounds_toArray, List.set_cons_zero, List.set_cons_succ]
    refine' wpAnyF_takeT (i := 4) (v := _) rfl (by kernel_rfl) (by kernel_rfl) (by kernel_rfl) (by rfl) (fun _ _ _ h => h) (Or.inl ⟨by rfl, ?hy⟩) (fun _ => hHeld) _
    case hy => (intro w0 hSw; (try dsimp only at hSw); simp only [List.getElem_toArray, List.getElem_cons_zero, List.getElem_cons_succ]; go_simp; first | done | with_reducible rfl)
    simp only [Act.put, List.getElem_toArray, List.getElem_cons_zero, List.getElem_cons_succ, List.setIfInBounds_toArray, List.set_cons_zero, List.set_cons_succ]
    refine' wpAnyF_take (i := 5) (v := _) rfl (by kernel_rfl) (by kernel_rfl) (by kernel_rfl) (by kernel_rfl) (by rfl) (by kernel_rfl) (fun _ _ _ h => h) (Or.inl ⟨by rfl, ?hy⟩) hHeld _
    case hy => (intro w0 hSw; (try dsimp only at hSw); simp only [List.getElem_toArray, List.getElem_cons_zero, List.getElem_cons_succ]; go_simp; first | done | with_reducible rfl)
    simp only [Act.put, List.getElem_toArray, List.getElem_cons_zero, List.getElem_cons_succ, List.setIfInBounds_toArray, List.set_cons_zero, List.set_cons_succ]
    refine' wpAnyF_takeT (i := 6) (v := _) rfl (by kernel_rfl) (by kernel_rfl) (by kernel_rfl) (by rfl) (fun _ _ _ h => h) (Or.inl ⟨by rfl, ?hy⟩) (fun _ => hHeld) _
    case hy => (intro w0 hSw; (try dsimp only at hSw); simp only [List.getElem_toArray, List.getElem_cons_zero, List.getElem_cons_succ]; go_simp; first | done | with_reducible rfl)
    simp only [Act.put, List.getElem_toArray, List.getElem_cons_zero, List.getElem_cons_succ, List.setIfInBounds_toArray, List.set_cons_zero, List.set_cons_succ]
    refine' wpAnyF_takeT (i := 9) (v := _) rfl (by kernel_rfl) (by kernel_rfl) (by kernel_rfl) (by rfl) (fun _ _ _ h => h) (Or.inl ⟨by rfl, ?hy⟩) (fun _ => hHeld) _
    case hy => (intro w0 hSw; (try dsimp only at hSw); simp only [List.getElem_toArray, List.getElem_cons_zero, List.getElem_cons_succ]; go_simp; first | done | with_reducible rfl)
    simp only [Act.put, List.getElem_toArray, List.getElem_cons_zero, List.getElem_cons_succ, List.setIfInBounds_toArray, List.set_cons_zero, List.set_cons_succ]
    refine' wpAnyF_takeT (i := 10) (v := _) rfl (by kernel_rfl) (by kernel_rfl) (by kernel_rfl) (by rfl) (fun _ _ _ h => h) (Or.inl ⟨by rfl, ?hy⟩) (fun _ => hHeld) _
    case hy => (intro w0 hSw; (try dsimp only at hSw); simp only [List.getElem_toArray, List.getElem_cons_zero, List.getElem_cons_succ]; go_simp; first | done | with_reducible rfl)
    simp only [Act.put, List.getElem_toArray, List.getElem_cons_zero, List.getElem_cons_succ, List.setIfInBounds_toArray, List.set_cons_zero, List.set_cons_succ]
    refine' wpAnyF_takeT (i := 11) (v := _) rfl (by kernel_rfl) (by kernel_rfl) (by kernel_rfl) (by rfl) (fun _ _ _ h => h) (Or.inl ⟨by rfl, ?hy⟩) (fun _ => hHeld) _
    case hy => (intro w0 hSw; (try dsimp only at hSw); simp only [List.getElem_toArray, List.getElem_cons_zero, List.getElem_cons_succ]; go_simp; first | done | with_reducible rfl)
    simp only [Act.put, List.getElem_toArray, List.getElem_cons_zero, List.getElem_cons_succ, List.setIfInBounds_toArray, List.set_cons_zero, List.set_cons_succ]
    refine' wpAnyF_take (i := 12) (v := _) rfl (by kernel_rfl) (by kernel_rfl) (by kernel_rfl) (by kernel_rfl) (by rfl) (by kernel_rfl) (fun _ _ _ h => h) (Or.inl ⟨by rfl, ?hy⟩) hHeld _
    case hy => (intro w0 hSw; (try dsimp only at hSw); simp only [List.getElem_toArray, List.getElem_cons_zero, List.getElem_cons_succ]; go_simp; first | done | with_reducible rfl)
    simp only [Act.put, List.getElem_toArray, List.getElem_cons_zero, List.getElem_cons_succ, List.setIfInBounds_toArray, List.set_cons_zero, List.set_cons_succ]
    refine' wpAnyF_takeT (i := 14) (v := _) rfl (by kernel_rfl) (by kernel_rfl) (by kernel_rfl) (by rfl) (fun _ _ _ h => h) (Or.inl ⟨by rfl, ?hy⟩) (fun _ => hHeld) _
    case hy => (intro w0 hSw; (try dsimp only at hSw); simp only [List.getElem_toArray, List.getElem_cons_zero, List.getElem_cons_succ]; go_simp; first | done | with_reducible rfl)
    simp only [Act.put, List.getElem_toArray, List.getElem_cons_zero, List.getElem_cons_succ, List.setIfInBounds_toArray, List.set_cons_zero, List.set_cons_succ]
    refine wpAnyF_one (i := 7) (by kernel_rfl) rfl (fun K hK => ?_)
    go_simp
    refine (of_any k wA.drew).mono ?_
    rintro e w2 ⟨rfl, h2⟩
    have hb2 : Below wA.drew.heap.size wA.drew w2 := by rw [← h2]; exact (Below.refl _ _).alloc (Nat.le_refl _) _
    have hc2 : w2.cell? ⟨wA.heap.size, 0, none⟩ = some (.int .i64 k) := by rw [← h2]; exact cell_new_l wA.drew (.int .i64 k) 3
    have hl2 : wA.heap.size < w2.heap.size := by rw [← h2]; simp
    have S2 := Lib.hid (HSD.out.below hb2)
    have N2 := Lib.hid S2.out.hp
    have B2 := Lib.hid hb2
    have C2 := Lib.hid (And.intro hc2 hl2)
    clear hb2 hc2 hl2 h2
    go_wp2_with fail
    refine hK.out _ _ (fun _ => ?_) ?_
    · exact ⟨lst_c0 (N2.out), lst_c1 (N2.out)⟩
    clear hK K
    try simp only [Act.put, List.getElem_toArray, List.getElem_cons_zero, List.getElem_cons_succ, List.setIfInBounds_toArray, List.set_cons_zero, List.set_cons_succ]
    refine wpAnyF_one (i := 8) (by kernel_rfl) rfl (fun K hK => ?_)
    go_simp
    refine (deleteT_any 127 #[.pointer (some ⟨wA.heap.size, 0, none⟩)] (fun t => decide (t.1 = k)) p c xs w2 S2.out.ox (by omega) of1_enters (fun t W hW => of1_any wA.heap.size k t W ((World.cell?_of_block (a := ⟨wA.heap.size, 0, none⟩) (hW.block _ C2.out.2 (fun hi => Nat.lt_irrefl _ (HSA.out.ox.lt hi)))).trans C2.out.1) (Nat.lt_of_lt_of_le C2.out.2 hW.size))).mono ?_
    rintro e w3 ⟨rfl, h3o, h3f⟩
    have N3 := Lib.hid ((h3f.block L S2.out.lt S2.out.nx).trans S2.out.hp)
    have O3 := Lib.hid (show OwnT w3 p c (withoutT xs k) from h3o)
    have F3 := Lib.hid (show Frn (inP p c) wA w3 from ((Frn.of_below (T := inP p c) ((Below.refl _ _).drew.trans B2.out)).trans h3f))
    have Y3 := Lib.hid (S2.out.oy.keep fun b hb => h3f.block b (S2.out.oy.lt hb) (fun hi => S2.out.xy b hi hb))
    clear h3o h3f
    go_wp2_with fail
    refine hK.out _ _ (fun _ => ?_) ?_
    · exact ⟨lst_c0 (N3.out), lst_c1 (N3.out)⟩
    clear hK K
    try simp only [Act.put, List.getElem_toArray, List.getElem_cons_zero, List.getElem_cons_succ, List.setIfInBounds_toArray, List.set_cons_zero, List.set_cons_succ]
    refine wpAnyF_one (i := 13) (by kernel_rfl) rfl (fun K hK => ?_)
    go_simp
    refine (cloneT_any q d ys w3 Y3.out.rds (by omega)).mono ?_
    rintro e w4 ⟨p4, c4, rfl, h4o, h4q, h4b⟩
    have N4 := Lib.hid ((h4b.block L (Nat.lt_of_lt_of_le HSA.out.lt F3.out.size)).trans N3.out)
    have O4 := Lib.hid (O3.out.below h4b)
    have F4 := Lib.hid (F3.out.trans (Frn.of_below h4b))
    have P4 := Lib.hid h4o
    have Q4 := Lib.hid (show ∀ b, inP p4 c4 b → w3.heap.size ≤ b from h4q)
    have Z4 := Lib.hid h4b.size
    clear h4o h4q h4b
    go_wp2_with fail
    refine hK.out _ _ (fun _ => ?_) ?_
    · exact ⟨lst_c0 (N4.out), lst_c1 (N4.out)⟩
    clear hK K
    try simp only [Act.put, List.getElem_toArray, List.getElem_cons_zero, List.getElem_cons_succ, List.setIfInBounds_toArray, List.set_cons_zero, List.set_cons_succ]
    refine wpAnyF_one (i := 15) (by kernel_rfl) rfl (fun K hK => ?_)
    go_simp
    refine (of_any k w4).mono ?_
    rintro e w5 ⟨rfl, h5⟩
    have hb5 : Below w4.heap.size w4 w5 := by rw [← h5]; exact (Below.refl _ _).alloc (Nat.le_refl _) _
    have hc5 : w5.cell? ⟨w4.heap.size, 0, none⟩ = some (.int .i64 k) := by rw [← h5]; exact cell_new_l w4 (.int .i64 k) 3
    have hl5 : w4.heap.size < w5.heap.size := by rw [← h5]; simp
    have N5 := Lib.hid ((hb5.block L (Nat.lt_of_lt_of_le HSA.out.lt F4.out.size)).trans N4.out)
    have O5 := Lib.hid (O4.out.below hb5)
    have F5 := Lib.hid (F4.out.trans (Frn.of_below hb5))
    have P5 := Lib.hid (P4.out.below hb5)
    have C5 := Lib.hid (And.intro hc5 hl5)
    clear hb5 hc5 hl5 h5
    go_wp2_with fail
    refine hK.out _ _ (fun _ => ?_) ?_
    · exact ⟨lst_c0 (N5.out), lst_c1 (N5.out)⟩
    clear hK K
    try simp only [Act.put, List.getElem_toArray, List.getElem_cons_zero, List.getElem_cons_succ, List.setIfInBounds_toArray, List.set_cons_zero, List.set_cons_succ]
    refine wpAnyF_one (i := 16) (by kernel_rfl) rfl (fun K hK => ?_)
    go_simp
    refine (deleteT_any 127 #[.pointer (some ⟨w4.heap.size, 0, none⟩)] (fun t => decide (t.1 = k)) p4 c4 ys w5 P5.out (by omega) of1_enters (fun t W hW => of1_any w4.heap.size k t W ((World.cell?_of_block (a := ⟨w4.heap.size, 0, none⟩) (hW.block _ C5.out.2 (fun hi => Nat.lt_irrefl _ (P4.out.lt hi)))).trans C5.out.1) (Nat.lt_of_lt_of_le C5.out.2 hW.size))).mono ?_
    rintro e w6 ⟨rfl, h6o, h6f⟩
    have h6b : ∀ b, b < w3.heap.size → w6.heap[b]? = w5.heap[b]? := fun b hb => h6f.block b (Nat.lt_of_lt_of_le (Nat.lt_of_lt_of_le hb Z4.out) (Nat.le_of_lt C5.out.2)) (fun hi => by have := Q4.out b hi; omega)
    have N6 := Lib.hid ((h6b L (Nat.lt_of_lt_of_le HSA.out.lt F3.out.size)).trans N5.out)
    have O6 := Lib.hid (O5.out.keep fun b hb => h6b b (O3.out.lt hb))
    have F6 := Lib.hid (show Frn (inP p c) wA w6 from ⟨h6f.os.trans F5.out.os, h6f.tape.trans F5.out.tape, h6f.output.trans F5.out.output, Nat.le_trans F5.out.size h6f.size, fun b hb hn => (h6b b (Nat.lt_of_lt_of_le hb F3.out.size)).trans (F5.out.block b hb hn)⟩)
    have P6 := Lib.hid (show OwnT w6 p4 c4 (withoutT ys k) from h6o)
    clear h6o h6f h6b
    go_wp2_with fail
    refine hK.out _ _ (fun _ => ?_) ?_
    · exact ⟨lst_c0 (N6.out), lst_c1 (N6.out)⟩
    clear hK K
    try simp only [Act.put, List.getElem_toArray, List.getElem_cons_zero, List.getElem_cons_succ, List.setIfInBounds_toArray, List.set_cons_zero, List.set_cons_succ]
    refine wpAnyF_one (i := 17) (by kernel_rfl) rfl (fun K hK => ?_)
    go_simp
    refine hK.out _ _ (fun _ => ?_) ?_
    · exact ⟨lst_c0 (N6.out), lst_c1 (N6.out)⟩
    clear hK K
    try simp only [Act.put, List.getElem_toArray, List.getElem_cons_zero, List.getElem_cons_succ, List.setIfInBounds_toArray, List.set_cons_zero, List.set_cons_succ]
    refine wpAnyF_one (i := 18) (by kernel_rfl) rfl (fun K hK => ?_)
    go_simp
    refine hK.out _ _ (fun _ => ?_) ?_
    · exact ⟨lst_c0 (N6.out), lst_c1 (N6.out)⟩
    clear hK K
    try simp only [Act.put, List.getElem_toArray, List.getElem_cons_zero, List.getElem_cons_succ, List.setIfInBounds_toArray, List.set_cons_zero, List.set_cons_succ]
    have l0 := lst_c0 N6.out
    have l1 := lst_c1 N6.out
    have l2 := lst_fr N6.out 0
    have l3 := lst_fr N6.out 1
    refine wpAnyF_one (i := 19) (by kernel_rfl) rfl (fun K hK => ?_)
    go_simp
    refine hK.out _ _ (fun h => Bool.noConfusion (h.symm.trans (by kernel_rfl : _ = true))) ?_
    clear hK K
    try simp only [Act.put, List.getElem_toArray, List.getElem_cons_zero, List.getElem_cons_succ, List.setIfInBounds_toArray, List.set_cons_zero, List.set_cons_succ]
    refine wpAnyF_one (i := 20) (by kernel_rfl) rfl (fun K hK => ?_)
    go_simp
    refine hK.out _ _ (fun h => Bool.noConfusion (h.symm.trans (by kernel_rfl : _ = true))) ?_
    clear hK K
    try simp only [Act.put, List.getElem_toArray, List.getElem_cons_zero, List.getElem_cons_succ, List.setIfInBounds_toArray, List.set_cons_zero, List.set_cons_succ]
    refine wpAnyF_one (i := 21) (by kernel_rfl) rfl (fun K hK => ?_)
    go_simp
    refine hK.out _ _ (fun h => Bool.noConfusion (h.symm.trans (by kernel_rfl : _ = true))) ?_
    clear hK K
    try simp only [Act.put, List.getElem_toArray, List.getElem_cons_zero, List.getElem_cons_succ, List.setIfInBounds_toArray, List.set_cons_zero, List.set_cons_succ]
    refine wpAnyF_one (i := 22) (by kernel_rfl) rfl (fun K hK => ?_)
    go_simp
    refine hK.out _ _ (fun h => Bool.noConfusion (h.symm.trans (by kernel_rfl : _ = true))) ?_
    clear hK K
    try simp only [Act.put, List.getElem_toArray, List.getElem_cons_zero, List.getElem_cons_succ, List.setIfInBounds_toArray, List.set_cons_zero, List.set_cons_succ]
    refine wpAnyF_done (by kernel_rfl) ?_ _
    refine NoPanic.normal ?_
    obtain ⟨r1, r2⟩ := free_step HSA.out HT.out HBA.out F6.out O6.out P6.out (fun b hb => Nat.le_trans F3.out.size (Q4.out b hb))
    have hwx : (withoutT xs k).length ≤ xs.length := List.length_filter_le _ _
    have hwy : (withoutT ys k).length ≤ ys.length := List.length_filter_le _ _
    have HGV := Lib.hid (give_any _ L (withoutT xs k) (withoutT ys k) _ r1 (by omega))
    have HR := Lib.hid r2
    clear r1 r2 l0 l1 l2 l3 m0d m1d hwx hwy
    go_wp2_with fail
    refine HGV.out.mono ?_
    rintro e w8 ⟨rfl, h8, f8⟩
    have H8 := Lib.hid (lown_then HR.out h8 f8)
    clear h8 f8
    go_wp2_with fail
    go_ret
    exact ⟨rfl, by rw [HZ.out]; exact H8.out.1, H8.out.2⟩
  · have hz1 : z.1 = (xs, ys) := by rw [← hz]; exact freeS_stay (by rw [hz]; exact hno)
    have HZ := Lib.hid hz1
    obtain ⟨n, hn2⟩ : ∃ n, z.2 = n := ⟨_, rfl⟩
    rw [hn2] at HASK hno ⊢
    clear hz hz1 hn2
    go_enter Try.func56, Try.ntmps56
    go_wp2_with fail
    refine HASK.out.mono ?_
    rintro e wA ⟨rfl, hbA⟩
    have HBA := Lib.hid hbA
    clear hbA
    go_wp2_with fail
    go_ret
    exact ⟨rfl, by rw [HZ.out]; exact ⟨p, c, q, d, HS.out.below HBA.out, fun b hb => .inl (HT.out b hb)⟩, Frn.of_below HBA.out⟩
end Go.Proofs.Ythhdipfadnihjaa
