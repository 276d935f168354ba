/- The walks of the reference's Ask and Free. -/
import Derived.Test.YthhdipfadnihjaaLatchI
namespace Go.Proofs.Ythhdipfadnihjaa
open Go Go.RowKit

def askS (z : List Turn × List Turn) (c : Int) (wr : Bool) : (List Turn × List Turn) × Int :=
  if ¬ (0 ≤ c ∧ c < 8) then (z, 2) else if inT z.1 z.2 c then (z, 191) else (givenT z.1 (z.2 ++ [(c, wr)]), 0)
def freeS (z : List Turn × List Turn) (c : Int) : (List Turn × List Turn) × Int :=
  if ¬ (0 ≤ c ∧ c < 8) then (z, 2) else if inT z.1 z.2 c then (givenT (withoutT z.1 c) (withoutT z.2 c), 0) else (z, 5)
/-- A pair of lists and an error that a call hands back. -/
def RetA (z : (List Turn × List Turn) × Int) (R : Nat → Prop) (w : World) (e : Ending) (w' : World) : Prop :=
  ∃ v, e = .returned (.tuple #[v, .int .i64 z.2]) ∧ RetL z.1 R w w' v ∧ Below w.heap.size w w'
theorem ginv_start (p : Option Addr) (c : Nat) (xs : List Turn) (q : Option Addr) (d : Nat) (ys : List Turn) (w : World) (hx : RdS w.heap.size w p c 2 tc xs) (hy : RdS w.heap.size w q d 2 tc ys) :
    GInv w p c q d ((w.alloc (.cells #[.slice p xs.length c, .slice q ys.length d] 62)).alloc (.cells #[.slice none 0 0, .slice none 0 0] 62)) p c xs q d ys := by
  have hb1 : Below w.heap.size w (w.alloc (.cells #[.slice p xs.length c, .slice q ys.length d] 62)) := (Below.refl _ _).alloc (Nat.le_refl _) _
  have hb2 : Below w.heap.size w ((w.alloc (.cells #[.slice p xs.length c, .slice q ys.length d] 62)).alloc (.cells #[.slice none 0 0, .slice none 0 0] 62)) := hb1.alloc (by simp) _
  refine ⟨⟨?_, (hx.kept hb2).wide hb2.size, (hy.kept hb2).wide hb2.size⟩, fun b hb => .inl hb, ?_, hb2, by simp⟩
  · rw [Below.heap_alloc _ _ _ (by simp)]; exact World.alloc_heap_new w _
  · have := World.alloc_heap_new (w.alloc (.cells #[.slice p xs.length c, .slice q ys.length d] 62)) (.cells #[.slice none 0 0, .slice none 0 0] 62)
    rw [World.size_alloc] at this
    exact this
section
variable {w wr w9 : World} {p q p' q' p9 : Option Addr} {c d c' d' c9 : Nat} {xs' ys' zs : List Turn}
theorem GInv.go {W : World} (h : GInv w p c q d wr p' c' xs' q' d' ys') (hb : Below wr.heap.size wr W) : GInv w p c q d W p' c' xs' q' d' ys' :=
  ⟨h.pr.below hb, h.src, (hb.block _ (by have := h.siz; omega)).trans h.res, h.bel.trans (hb.mono (by have := h.siz; omega)), Nat.le_trans h.siz hb.size⟩
theorem ginv_put1 (h : GInv w p c q d wr p' c' xs' q' d' ys') (r9 : RdS wr.heap.size wr p9 c9 2 tc zs) (Q9 : ∀ b, inP p9 c9 b → w.heap.size + 2 ≤ b) (hpq : ∀ b, inP p c b ∨ inP q d b → b < w.heap.size) :
    GInv w p c q d (wr.setCell ⟨w.heap.size, 1, none⟩ (.slice p9 zs.length c9)) p' c' xs' p9 c9 zs := by
  have hs := h.siz
  have hoth : ∀ b, b ≠ w.heap.size → (wr.setCell ⟨w.heap.size, 1, none⟩ (.slice p9 zs.length c9)).heap[b]? = wr.heap[b]? := fun b hb => heap_setCell_other _ ⟨w.heap.size, 1, none⟩ b _ hb
  have hsz : (wr.setCell ⟨w.heap.size, 1, none⟩ (.slice p9 zs.length c9)).heap.size = wr.heap.size := by simp [World.setCell]
  refine ⟨⟨pair_set1 h.pr.hp, ?_, ?_⟩, fun b hb => ?_, (hoth _ (by omega)).trans h.res, h.bel.setCell (Nat.le_refl _) _, by rw [hsz]; exact hs⟩
  · rw [hsz]
    refine h.pr.rx.keep fun b hb => hoth b ?_
    rcases h.src b (.inl hb) with hh | hh
    · have := hpq b hh; omega
    · omega
  · rw [hsz]; exact r9.keep fun b hb => hoth b (by have := Q9 b hb; omega)
  · rcases hb with hb | hb
    · exact h.src b (.inl hb)
    · exact .inr (Q9 b hb)
theorem ginv_put0 (h : GInv w p c q d wr p' c' xs' q' d' ys') (r9 : RdS wr.heap.size wr p9 c9 2 tc zs) (Q9 : ∀ b, inP p9 c9 b → w.heap.size + 2 ≤ b) (hpq : ∀ b, inP p c b ∨ inP q d b → b < w.heap.size) :
    GInv w p c q d (wr.setCell ⟨w.heap.size, 0, none⟩ (.slice p9 zs.length c9)) p9 c9 zs q' d' ys' := by
  have hs := h.siz
  have hoth : ∀ b, b ≠ w.heap.size → (wr.setCell ⟨w.heap.size, 0, none⟩ (.slice p9 zs.length c9)).heap[b]? = wr.heap[b]? := fun b hb => heap_setCell_other _ ⟨w.heap.size, 0, none⟩ b _ hb
  have hsz : (wr.setCell ⟨w.heap.size, 0, none⟩ (.slice p9 zs.length c9)).heap.size = wr.heap.size := by simp [World.setCell]
  refine ⟨⟨pair_set0 h.pr.hp, ?_, ?_⟩, fun b hb => ?_, (hoth _ (by omega)).trans h.res, h.bel.setCell (Nat.le_refl _) _, by rw [hsz]; exact hs⟩
  · rw [hsz]; exact r9.keep fun b hb => hoth b (by have := Q9 b hb; omega)
  · rw [hsz]
    refine h.pr.ry.keep fun b hb => hoth b ?_
    rcases h.src b (.inr hb) with hh | hh
    · have := hpq b hh; omega
    · omega
  · rcases hb with hb | hb
    · exact .inr (Q9 b hb)
    · exact h.src b (.inr hb)
/-- What given hands back is stored and handed back. -/
theorem ginv_ret {W1 : World} {z : List Turn × List Turn} {a b : Value} (h : GInv w p c q d wr p' c' xs' q' d' ys') (hW : Below wr.heap.size wr W1) (hpq : ∀ b, inP p c b ∨ inP q d b → b < w.heap.size)
    (r : RetL z (fun b => inP p' c' b ∨ inP q' d' b) wr W1 (.agg #[a, b])) :
    W1.cell? ⟨w.heap.size + 1, 0, none⟩ = some (.slice none 0 0) ∧ W1.cell? ⟨w.heap.size + 1, 1, none⟩ = some (.slice none 0 0) ∧ (∀ k, W1.frozen? ⟨w.heap.size + 1, k, none⟩ = false) ∧
    (W1.setCell ⟨w.heap.size + 1, 0, none⟩ a).cell? ⟨w.heap.size + 1, 0, none⟩ = some a ∧
    ((W1.setCell ⟨w.heap.size + 1, 0, none⟩ a).setCell ⟨w.heap.size + 1, 1, none⟩ b).cell? ⟨w.heap.size + 1, 1, none⟩ = some b ∧
    RetL z (fun b => inP p c b ∨ inP q d b) w ((W1.setCell ⟨w.heap.size + 1, 0, none⟩ a).setCell ⟨w.heap.size + 1, 1, none⟩ b) (.agg #[a, b]) ∧
    Below w.heap.size w ((W1.setCell ⟨w.heap.size + 1, 0, none⟩ a).setCell ⟨w.heap.size + 1, 1, none⟩ b) := by
  have hs := h.siz
  have hR := (hW.block (w.heap.size + 1) (by omega)).trans h.res
  have h0 := pair_set0 (u' := a) hR
  have h1 := pair_set1 (v' := b) h0
  have hsz : ((W1.setCell ⟨w.heap.size + 1, 0, none⟩ a).setCell ⟨w.heap.size + 1, 1, none⟩ b).heap.size = W1.heap.size := by simp [World.setCell]
  have hoth : ∀ k, k ≠ w.heap.size + 1 → ((W1.setCell ⟨w.heap.size + 1, 0, none⟩ a).setCell ⟨w.heap.size + 1, 1, none⟩ b).heap[k]? = W1.heap[k]? := fun k hk => (heap_setCell_other _ ⟨w.heap.size + 1, 1, none⟩ k _ hk).trans (heap_setCell_other _ ⟨w.heap.size + 1, 0, none⟩ k _ hk)
  obtain ⟨p6, c6, q6, d6, hv, r1, r2, r3⟩ := r
  have hsrc : ∀ k, inP p6 c6 k ∨ inP q6 d6 k → (inP p c k ∨ inP q d k) ∨ w.heap.size + 2 ≤ k := fun k hk => by
    rcases r3 k hk with hh | hh
    · exact h.src k hh
    · exact .inr (by omega)
  have hne : ∀ k, inP p6 c6 k ∨ inP q6 d6 k → k ≠ w.heap.size + 1 := fun k hk => by
    rcases hsrc k hk with hh | hh
    · have := hpq k hh; omega
    · omega
  refine ⟨pair_c0 hR, pair_c1 hR, fun k => pair_fr hR k, pair_c0 h0, pair_c1 h1, ⟨p6, c6, q6, d6, hv, ?_, ?_, fun k hk => (hsrc k hk).imp id (fun hh => by omega)⟩, ((h.bel.trans (hW.mono (by omega))).setCell (show w.heap.size ≤ w.heap.size + 1 by omega) _).setCell (show w.heap.size ≤ w.heap.size + 1 by omega) _⟩
  · rw [hsz]; exact r1.keep fun k hk => hoth k (hne k (.inl hk))
  · rw [hsz]; exact r2.keep fun k hk => hoth k (hne k (.inr hk))
end

set_option maxRecDepth 100000 in
set_option maxHeartbeats 2000000 in
theorem refAsk_any (p : Option Addr) (c : Nat) (xs : List Turn) (q : Option Addr) (d : Nat) (ys : List Turn) (k : Int) (b : Bool) (w : World) (hx : RdS w.heap.size w p c 2 tc xs) (hy : RdS w.heap.size w q d 2 tc ys) (hn : xs.length + ys.length < 50000) :
    Calls Try.prog 65 #[.agg #[.slice p xs.length c, .slice q ys.length d], .int .i64 k, .bool b] w (RetA (askS (xs, ys) k b) (fun b => inP p c b ∨ inP q d b) w) := by
  have HPQ := Lib.hid (show ∀ b, inP p c b ∨ inP q d b → b < w.heap.size from fun b hb => hb.elim hx.inlt hy.inlt)
  obtain ⟨wa, hwa⟩ : ∃ wa, (w.alloc (.cells #[.slice p xs.length c, .slice q ys.length d] 62)).alloc (.cells #[.slice none 0 0, .slice none 0 0] 62) = wa := ⟨_, rfl⟩
  have h0 : GInv w p c q d wa p c xs q d ys := by rw [← hwa]; exact ginv_start p c xs q d ys w hx hy
  have hlx := hx.len
  have hly := hy.len
  have m0 := h0.pr.c0
  have m1 := h0.pr.c1
  have r0 := pair_c0 h0.res
  have r1 := pair_c1 h0.res
  have rf := fun k => pair_fr h0.res k
  have H0 := Lib.hid h0
  have HWA := Lib.hid hwa
  have HXR := Lib.hid hx
  have HYR := Lib.hid hy
  clear hx hy h0 hwa
  obtain ⟨z, hz⟩ : ∃ z, askS (xs, ys) k b = z := ⟨_, rfl⟩
  rw [hz]
  by_cases hk : 0 ≤ k ∧ k < 8
  · obtain ⟨hk0, hk8⟩ := hk
    have hk7 : ¬ (7 < k) := by omega
    have hk1 : ¬ (k < 0) := by omega
    cases hhx : hasT xs k with
    | true =>
      have HZ := Lib.hid (show z = ((xs, ys), 191) by rw [← hz]; simp [askS, hk0, hk8, inT, hhx])
      have HX := Lib.hid hhx
      clear hz hhx
      go_enter Try.func65, Try.ntmps65
      go_wp2_with fail
      rw [HWA.out]
      go_wp2_with fail
      refine (refHas_any p c xs k wa H0.out.pr.rx).mono ?_
      rintro e w1 ⟨rfl, rfl⟩
      rw [HX.out]
      go_wp2_with fail
      obtain ⟨e0, e1, e2, e3⟩ := given_end H0.out (Below.refl _ _) HPQ.out
      refine bodyPost_ret (v := .tuple #[.agg #[.slice p xs.length c, .slice q ys.length d], .int .i64 191]) (by simp [results, Try.results65, go_sem, e0, e1]) rfl ?_
      exact ⟨_, by rw [HZ.out], by rw [HZ.out]; exact e2, e3⟩
    | false =>
    cases hhy : hasT ys k with
    | true =>
      have HZ := Lib.hid (show z = ((xs, ys), 191) by rw [← hz]; simp [askS, hk0, hk8, inT, hhy])
      have HX := Lib.hid hhx
      have HY := Lib.hid hhy
      clear hz hhx hhy
      go_enter Try.func65, Try.ntmps65
      go_wp2_with fail
      rw [HWA.out]
      go_wp2_with fail
      refine (refHas_any p c xs k wa H0.out.pr.rx).mono ?_
      rintro e w1 ⟨rfl, rfl⟩
      rw [HX.out]
      go_wp2_with fail
      refine (refHas_any q d ys k wa H0.out.pr.ry).mono ?_
      rintro e w1 ⟨rfl, rfl⟩
      rw [HY.out]
      go_wp2_with fail
      obtain ⟨e0, e1, e2, e3⟩ := given_end H0.out (Below.refl _ _) HPQ.out
      refine bodyPost_ret (v := .tuple #[.agg #[.slice p xs.length c, .slice q ys.length d], .int .i64 191]) (by simp [results, Try.results65, go_sem, e0, e1]) rfl ?_
      exact ⟨_, by rw [HZ.out], by rw [HZ.out]; exact e2, e3⟩
    | false =>
      have HZ := Lib.hid (show z = (givenT xs (ys ++ [(k, b)]), 0) by rw [← hz]; simp [askS, hk0, hk8, inT, hhx, hhy])
      have HX := Lib.hid hhx
      have HY := Lib.hid hhy
      have HLN := Lib.hid (show ys.length < 1000000 by omega)
      have HRY := Lib.hid (H0.out.pr.ry.kept ((Below.refl _ _).alloc (Nat.le_refl _) (.cells #[] 53)))
      have m1a : (wa.alloc (.cells #[] 53)).cell? ⟨w.heap.size, 1, none⟩ = some (.slice q ys.length d) := (((Below.refl _ _).alloc (Nat.le_refl _) (.cells #[] 53)).cell (p := ⟨w.heap.size, 1, none⟩) H0.out.pr.lt).trans m1
      clear hz hhx hhy
      go_enter Try.func65, Try.ntmps65
      go_wp2_with fail
      rw [HWA.out]
      go_wp2_with fail
      refine (refHas_any p c xs k wa H0.out.pr.rx).mono ?_
      rintro e w1 ⟨rfl, rfl⟩
      rw [HX.out]
      go_wp2_with fail
      refine (refHas_any q d ys k wa H0.out.pr.ry).mono ?_
      rintro e w1 ⟨rfl, rfl⟩
      rw [HY.out]
      go_wp2_with (first
        | (at_builtin
           refine wpList_appT0 rfl (.tmp 26) (.tmp 28) _ rfl elem_turn wa.heap.size _ rfl (own_empty wa _ _ _ (Nat.le_refl _)) _ _ ys _ rfl HRY.out HLN.out (by simp) ?_
           intro p8 c8 w8 hown hq hg
           have H8 := Lib.hid (show At wa.heap.size wa w8 from At.grown ((At.start wa).alloc _) hg (by intro b hb; cases hb; exact Nat.le_refl _))
           have P8 := Lib.hid hown
           have Q8 := Lib.hid hq
           clear hown hq hg)
        | (at_builtin
           refine wpList_appT rfl (.tmp 29) (.tmp 33) _ rfl elem_turn p8 c8 ys (k, b) rfl (P8.out.below ((Below.refl _ _).alloc (Nat.le_refl _) _)) _ 1 rfl 53 (0, 0) (World.alloc_heap_new w8 _) HLN.out ?_
           intro p9 c9 w9 hown hf hq
           have h9 : At wa.heap.size wa w9 := ⟨Below.trans (H8.out.alloc _).1 (hf.below (H8.out.alloc _).2 Q8.out), Nat.le_trans (H8.out.alloc _).2 hf.size⟩
           have l1 := (h9.1.cell (p := ⟨w.heap.size, 1, none⟩) H0.out.pr.lt).trans m1
           have l2 := pair_fr ((h9.1.block _ H0.out.pr.lt).trans H0.out.pr.hp) 1
           have l0 : (w9.setCell ⟨w.heap.size, 1, none⟩ (.slice p9 (ys.length + 1) c9)).cell? ⟨w.heap.size, 0, none⟩ = some (.slice p xs.length c) := pair_c0 (pair_set1 ((h9.1.block _ H0.out.pr.lt).trans H0.out.pr.hp))
           have l3 : (w9.setCell ⟨w.heap.size, 1, none⟩ (.slice p9 (ys.length + 1) c9)).cell? ⟨w.heap.size, 1, none⟩ = some (.slice p9 (ys.length + 1) c9) := pair_c1 (pair_set1 ((h9.1.block _ H0.out.pr.lt).trans H0.out.pr.hp))
           have H9 := Lib.hid h9
           have P9 := Lib.hid hown
           have Q9 := Lib.hid (show ∀ b, inP p9 c9 b → wa.heap.size ≤ b from fun b hb => (hq b hb).elim (Q8.out b) (fun h => Nat.le_trans (H8.out.alloc _).2 h.1))
           clear h9 hown hf hq))
      have hI := ginv_put1 (zs := ys ++ [(k, b)]) (H0.out.go H9.out.1) P9.out.rds (fun b hb => Nat.le_trans H0.out.siz (Q9.out b hb)) HPQ.out
      have hgv := given_any p c xs p9 c9 (ys ++ [(k, b)]) _ hI.pr.rx hI.pr.ry (by simp; omega)
      rw [List.length_append] at hI hgv
      obtain ⟨w5, hw5⟩ : ∃ w5, w9.setCell ⟨w.heap.size, 1, none⟩ (.slice p9 (ys.length + 1) c9) = w5 := ⟨_, rfl⟩
      have hI' : GInv w p c q d w5 p c xs p9 c9 (ys ++ [(k, b)]) := by rw [← hw5]; exact hI
      have hgv' : Calls Try.prog 102 #[.agg #[.slice p xs.length c, .slice p9 (ys.length + 1) c9]] w5 fun e w' => ∃ v, e = .returned v ∧ RetL (givenT xs (ys ++ [(k, b)])) (fun b => inP p c b ∨ inP p9 c9 b) w5 w' v ∧ Below w5.heap.size w5 w' := by rw [← hw5]; exact hgv
      rw [hw5]
      have HI := Lib.hid hI'
      have HGV := Lib.hid hgv'
      clear hI hgv hI' hgv' hw5 l0 l1 l2 l3 m0 m1 m1a r0 r1 rf
      refine HGV.out.mono ?_
      rintro e w6 ⟨v, rfl, hret, hb6⟩
      have HRET := Lib.hid hret
      obtain ⟨p6, c6, q6, d6, rfl, hret'⟩ := hret
      clear hret'
      obtain ⟨g0, g1, g2, e0, e1, e2, e3⟩ := ginv_ret HI.out hb6 HPQ.out HRET.out
      have HE := Lib.hid (And.intro e0 (And.intro e1 (And.intro e2 e3)))
      clear e0 e1 e2 e3 hb6
      go_wp2_with fail
      obtain ⟨e0, e1, e2, e3⟩ := HE.out
      refine bodyPost_ret (v := .tuple #[.agg #[.slice p6 (givenT xs (ys ++ [(k, b)])).1.length c6, .slice q6 (givenT xs (ys ++ [(k, b)])).2.length d6], .int .i64 0]) (by simp [results, Try.results65, go_sem, e0, e1]) rfl ?_
      exact ⟨_, by rw [HZ.out], by rw [HZ.out]; exact e2, e3⟩
  · have HZ := Lib.hid (show z = ((xs, ys), 2) by rw [← hz]; unfold askS; rw [if_pos hk])
    clear hz
    by_cases hk0 : k < 0
    · clear hk
      go_enter Try.func65, Try.ntmps65
      go_wp2_with fail
      have hbe : Below w.heap.size w ((w.alloc (.cells #[.slice p xs.length c, .slice q ys.length d] 62)).alloc (.cells #[.slice p xs.length c, .slice q ys.length d] 62)) := ((Below.refl _ _).alloc (Nat.le_refl _) _).alloc (by simp) _
      refine bodyPost_ret (v := .tuple #[.agg #[.slice p xs.length c, .slice q ys.length d], .int .i64 2]) (by simp [results, Try.results65, go_sem]) rfl ?_
      exact ⟨_, by rw [HZ.out], by rw [HZ.out]; exact ⟨p, c, q, d, rfl, (HXR.out.kept hbe).wide hbe.size, (HYR.out.kept hbe).wide hbe.size, fun b hb => .inl hb⟩, hbe⟩
    · have hk7 : 7 < k := by omega
      clear hk
      go_enter Try.func65, Try.ntmps65
      go_wp2_with fail
      have hbe : Below w.heap.size w ((w.alloc (.cells #[.slice p xs.length c, .slice q ys.length d] 62)).alloc (.cells #[.slice p xs.length c, .slice q ys.length d] 62)) := ((Below.refl _ _).alloc (Nat.le_refl _) _).alloc (by simp) _
      refine bodyPost_ret (v := .tuple #[.agg #[.slice p xs.length c, .slice q ys.length d], .int .i64 2]) (by simp [results, Try.results65, go_sem]) rfl ?_
      exact ⟨_, by rw [HZ.out], by rw [HZ.out]; exact ⟨p, c, q, d, rfl, (HXR.out.kept hbe).wide hbe.size, (HYR.out.kept hbe).wide hbe.size, fun b hb => .inl hb⟩, hbe⟩
set_option maxRecDepth 100000 in
set_option maxHeartbeats 2000000 in
theorem refFree_any2 (p : Option Addr) (c : Nat) (xs : List Turn) (q : Option Addr) (d : Nat) (ys : List Turn) (k : Int) (w : World) (hx : RdS w.heap.size w p c 2 tc xs) (hy : RdS w.heap.size w q d 2 tc ys) (hn : xs.length + ys.length < 50000) :
    Calls Try.prog 66 #[.agg #[.slice p xs.length c, .slice q ys.length d], .int .i64 k] w (RetA (freeS (xs, ys) k) (fun b => inP p c b ∨ inP q d b) w) := by
  have HPQ := Lib.hid (show ∀ b, inP p c b ∨ inP q d b → b < w.heap.size from fun b hb => hb.elim hx.inlt hy.inlt)
  obtain ⟨wa, hwa⟩ : ∃ wa, (w.alloc (.cells #[.slice p xs.length c, .slice q ys.length d] 62)).alloc (.cells #[.slice none 0 0, .slice none 0 0] 62) = wa := ⟨_, rfl⟩
  have h0 : GInv w p c q d wa p c xs q d ys := by rw [← hwa]; exact ginv_start p c xs q d ys w hx hy
  have hlx := hx.len
  have hly := hy.len
  have m0 := h0.pr.c0
  have m1 := h0.pr.c1
  have r0 := pair_c0 h0.res
  have r1 := pair_c1 h0.res
  have rf := fun k => pair_fr h0.res k
  have H0 := Lib.hid h0
  have HWA := Lib.hid hwa
  have HXR := Lib.hid hx
  have HYR := Lib.hid hy
  clear hx hy h0 hwa
  obtain ⟨z, hz⟩ : ∃ z, freeS (xs, ys) k = z := ⟨_, rfl⟩
  rw [hz]
  by_cases hk : 0 ≤ k ∧ k < 8
  · obtain ⟨hk0, hk8⟩ := hk
    have hk7 : ¬ (7 < k) := by omega
    have hk1 : ¬ (k < 0) := by omega
    by_cases hin : inT xs ys k = true
    · have HZ := Lib.hid (show z = (givenT (withoutT xs k) (withoutT ys k), 0) by rw [← hz]; simp [freeS, hk0, hk8, hin])
      clear hz
      cases hhx : hasT xs k with
      | true =>
        have HX := Lib.hid hhx
        clear hin hhx
        go_enter Try.func66, Try.ntmps66
        go_wp2_with fail
        rw [HWA.out]
        go_wp2_with fail
        refine (refHas_any p c xs k wa H0.out.pr.rx).mono ?_
        rintro e w1 ⟨rfl, rfl⟩
        rw [HX.out]
        go_wp2_with fail
        have m0d : wa.drew.cell? ⟨w.heap.size, 0, none⟩ = some (.slice p xs.length c) := m0
        have m1d : wa.drew.cell? ⟨w.heap.size, 1, none⟩ = some (.slice q ys.length d) := m1
        have HI0 := Lib.hid (show GInv w p c q d wa.drew p c xs q d ys from H0.out.go (Below.refl _ _).drew)
        refine wp_region_noPanic ?_
        refine wp_region_F 9 (fun w' => w'.cell? ⟨w.heap.size, 0, none⟩ = some (.slice p xs.length c) ∧ w'.cell? ⟨w.heap.size, 1, none⟩ = some (.slice q ys.length d)) (by kernel_rfl) ?_ (fun hHeld => ?_)
        · exact ⟨m0d, m1d⟩
        refine' wpAnyF_takeT (i := 0) (v := _) rfl (by kernel_rfl) (by kernel_rfl) (by kernel_rfl) (by rfl) (fun _ _ _ h => h) (Or.inl ⟨by rfl, ?hy⟩) (fun _ => hHeld) _
        case hy => (intro w0 hSw; (try dsimp only at hSw); simp only [List.getElem_toArray, List.getElem_cons_zero]; go_simp; first | done | with_reducible rfl)
        simp only [Act.put, List.getElem_toArray, List.getElem_cons_zero, List.setIfInBounds_toArray, List.set_cons_zero, List.set_cons_succ]
        refine' wpAnyF_take (i := 1) (v := _) rfl (by kernel_rfl) (by kernel_rfl) (by kernel_rfl) (by kernel_rfl) (by rfl) (by kernel_rfl) (fun _ _ _ h => h) (Or.inl ⟨by rfl, ?hy⟩) hHeld _
        case hy => (intro w0 hSw; (try dsimp only at hSw); simp only [List.getElem_toArray, List.getElem_cons_zero, List.getElem_cons_succ]; go_simp; first | done | with_reducible rfl)
        simp only [Act.put, List.getElem_toArray, List.getElem_cons_zero, List.getElem_cons_succ, List.setIfInBounds_toArray, List.set_cons_zero, List.set_cons_succ]
        refine' wpAnyF_takeT (i := 2) (v := _) rfl (by kernel_rfl) (by kernel_rfl) (by kernel_rfl) (by rfl) (fun _ _ _ h => h) (Or.inl ⟨by rfl, ?hy⟩) (fun _ => hHeld) _
        case hy => (intro w0 hSw; (try dsimp only at hSw); simp only [List.getElem_toArray, List.getElem_cons_zero, List.getElem_cons_succ]; go_simp; first | done | with_reducible rfl)
        simp only [Act.put, List.getElem_toArray, List.getElem_cons_zero, List.getElem_cons_succ, List.setIfInBounds_toArray, List.set_cons_zero, List.set_cons_succ]
        refine' wpAnyF_takeT (i := 4) (v := _) rfl (by kernel_rfl) (by kernel_rfl) (by kernel_rfl) (by rfl) (fun _ _ _ h => h) (Or.inl ⟨by rfl, ?hy⟩) (fun _ => hHeld) _
        case hy => (intro w0 hSw; (try dsimp only at hSw); simp only [List.getElem_toArray, List.getElem_cons_zero, List.getElem_cons_succ]; go_simp; first | done | with_reducible rfl)
        simp only [Act.put, List.getElem_toArray, List.getElem_cons_zero, List.getElem_cons_succ, List.setIfInBounds_toArray, List.set_cons_zero, List.set_cons_succ]
        refine' wpAnyF_take (i := 5) (v := _) rfl (by kernel_rfl) (by kernel_rfl) (by kernel_rfl) (by kernel_rfl) (by rfl) (by kernel_rfl) (fun _ _ _ h => h) (Or.inl ⟨by rfl, ?hy⟩) hHeld _
        case hy => (intro w0 hSw; (try dsimp only at hSw); simp only [List.getElem_toArray, List.getElem_cons_zero, List.getElem_cons_succ]; go_simp; first | done | with_reducible rfl)
        simp only [Act.put, List.getElem_toArray, List.getElem_cons_zero, List.getElem_cons_succ, List.setIfInBounds_toArray, List.set_cons_zero, List.set_cons_succ]
        refine' wpAnyF_takeT (i := 6) (v := _) rfl (by kernel_rfl) (by kernel_rfl) (by kernel_rfl) (by rfl) (fun _ _ _ h => h) (Or.inl ⟨by rfl, ?hy⟩) (fun _ => hHeld) _
        case hy => (intro w0 hSw; (try dsimp only at hSw); simp only [List.getElem_toArray, List.getElem_cons_zero, List.getElem_cons_succ]; go_simp; first | done | with_reducible rfl)
        simp only [Act.put, List.getElem_toArray, List.getElem_cons_zero, List.getElem_cons_succ, List.setIfInBounds_toArray, List.set_cons_zero, List.set_cons_succ]
        refine wpAnyF_one (i := 3) (by kernel_rfl) rfl (fun K hK => ?_)
        go_simp
        refine (without_any p c xs k wa.drew H0.out.pr.rx (by omega)).mono ?_
        rintro e w2 ⟨p2, c2, rfl, hown, hq, hb⟩
        have I2 := Lib.hid (HI0.out.go hb)
        have P2 := Lib.hid hown
        have Q2 := Lib.hid (show ∀ b, inP p2 c2 b → w.heap.size + 2 ≤ b from fun b h => Nat.le_trans HI0.out.siz (hq b h))
        clear hown hq hb
        go_wp2_with fail
        refine hK.out _ _ (fun _ => ?_) ?_
        · exact ⟨I2.out.pr.c0, I2.out.pr.c1⟩
        clear hK K
        try simp only [Act.put, List.getElem_toArray, List.getElem_cons_zero, List.getElem_cons_succ, List.setIfInBounds_toArray, List.set_cons_zero, List.set_cons_succ]
        refine' wpAnyF_takeT (i := 8) (v := _) rfl (by kernel_rfl) (by kernel_rfl) (by kernel_rfl) (by rfl) (fun _ _ _ h => h) (Or.inl ⟨by rfl, ?hy⟩) (fun _ => ⟨I2.out.pr.c0, I2.out.pr.c1⟩) _
        case hy => (intro w0 hSw; (try dsimp only at hSw); simp only [List.getElem_toArray, List.getElem_cons_zero, List.getElem_cons_succ]; go_simp; first | done | with_reducible rfl)
        simp only [Act.put, List.getElem_toArray, List.getElem_cons_zero, List.getElem_cons_succ, List.setIfInBounds_toArray, List.set_cons_zero, List.set_cons_succ]
        refine wpAnyF_one (i := 7) (by kernel_rfl) rfl (fun K hK => ?_)
        go_simp
        refine (without_any q d ys k w2 I2.out.pr.ry (by omega)).mono ?_
        rintro e w3 ⟨p3, c3, rfl, hown, hq, hb⟩
        have I3 := Lib.hid (I2.out.go hb)
        have P3 := Lib.hid hown
        have P2' := Lib.hid (P2.out.below hb)
        have Q3 := Lib.hid (show ∀ b, inP p3 c3 b → w.heap.size + 2 ≤ b from fun b h => Nat.le_trans I2.out.siz (hq b h))
        clear hown hq hb
        go_wp2_with fail
        refine hK.out _ _ (fun _ => ?_) ?_
        · exact ⟨I3.out.pr.c0, I3.out.pr.c1⟩
        clear hK K
        try simp only [Act.put, List.getElem_toArray, List.getElem_cons_zero, List.getElem_cons_succ, List.setIfInBounds_toArray, List.set_cons_zero, List.set_cons_succ]
        have l0 := I3.out.pr.c0
        have l1 := I3.out.pr.c1
        have l2 := pair_fr I3.out.pr.hp 0
        have l3 := pair_fr I3.out.pr.hp 1
        refine wpAnyF_one (i := 9) (by kernel_rfl) rfl (fun K hK => ?_)
        go_simp
        refine hK.out _ _ (fun h => Bool.noConfusion (h.symm.trans (by kernel_rfl : _ = true))) ?_
        clear hK K
        try simp only [Act.put, List.getElem_toArray, List.getElem_cons_zero, List.getElem_cons_succ, List.setIfInBounds_toArray, List.set_cons_zero, List.set_cons_succ]
        refine wpAnyF_one (i := 10) (by kernel_rfl) rfl (fun K hK => ?_)
        go_simp
        refine hK.out _ _ (fun h => Bool.noConfusion (h.symm.trans (by kernel_rfl : _ = true))) ?_
        clear hK K
        try simp only [Act.put, List.getElem_toArray, List.getElem_cons_zero, List.getElem_cons_succ, List.setIfInBounds_toArray, List.set_cons_zero, List.set_cons_succ]
        refine wpAnyF_one (i := 11) (by kernel_rfl) rfl (fun K hK => ?_)
        go_simp
        refine hK.out _ _ (fun h => Bool.noConfusion (h.symm.trans (by kernel_rfl : _ = true))) ?_
        clear hK K
        try simp only [Act.put, List.getElem_toArray, List.getElem_cons_zero, List.getElem_cons_succ, List.setIfInBounds_toArray, List.set_cons_zero, List.set_cons_succ]
        refine wpAnyF_done (by kernel_rfl) ?_ _
        refine NoPanic.normal ?_
        have hI4 := ginv_put0 (zs := withoutT xs k) I3.out P2'.out.rds Q2.out HPQ.out
        have hr3 : RdS (w3.setCell ⟨w.heap.size, 0, none⟩ (.slice p2 (withoutT xs k).length c2)).heap.size (w3.setCell ⟨w.heap.size, 0, none⟩ (.slice p2 (withoutT xs k).length c2)) p3 c3 2 tc (withoutT ys k) := by
          have h1 := P3.out.rds.keep (w' := w3.setCell ⟨w.heap.size, 0, none⟩ (.slice p2 (withoutT xs k).length c2)) fun b hb => heap_setCell_other _ ⟨w.heap.size, 0, none⟩ b _ (by have := Q3.out b hb; simp only; omega)
          exact h1.wide (by simp [World.setCell])
        have hI5 := ginv_put1 (zs := withoutT ys k) hI4 hr3 Q3.out HPQ.out
        have hwx : (withoutT xs k).length ≤ xs.length := List.length_filter_le _ _
        have hwy : (withoutT ys k).length ≤ ys.length := List.length_filter_le _ _
        have HGV := Lib.hid (given_any p2 c2 (withoutT xs k) p3 c3 (withoutT ys k) _ hI5.pr.rx hI5.pr.ry (by omega))
        have l4 := hI5.pr.c0
        have l5 := hI5.pr.c1
        have HI := Lib.hid hI5
        clear hI4 hr3 hI5 hwx hwy l0 l1 l2 l3 m0 m1 m0d m1d r0 r1 rf
        generalize (w3.setCell ⟨w.heap.size, 0, none⟩ (.slice p2 (withoutT xs k).length c2)).setCell ⟨w.heap.size, 1, none⟩ (.slice p3 (withoutT ys k).length c3) = w5 at *
        go_wp2_with fail
        refine HGV.out.mono ?_
        rintro e w6 ⟨v, rfl, hret, hb6⟩
        have HRET := Lib.hid hret
        obtain ⟨p6, c6, q6, d6, rfl, hret'⟩ := hret
        clear hret'
        obtain ⟨g0, g1, g2, e0, e1, e2, e3⟩ := ginv_ret HI.out hb6 HPQ.out HRET.out
        have HE := Lib.hid (And.intro e0 (And.intro e1 (And.intro e2 e3)))
        clear e0 e1 e2 e3 hb6
        go_wp2_with fail
        obtain ⟨e0, e1, e2, e3⟩ := HE.out
        refine bodyPost_ret (v := .tuple #[.agg #[.slice p6 (givenT (withoutT xs k) (withoutT ys k)).1.length c6, .slice q6 (givenT (withoutT xs k) (withoutT ys k)).2.length d6], .int .i64 0]) (by simp [results, Try.results66, go_sem, e0, e1]) rfl ?_
        exact ⟨_, by rw [HZ.out], by rw [HZ.out]; exact e2, e3⟩
      | false =>
        have HX := Lib.hid hhx
        have HY := Lib.hid (show hasT ys k = true by unfold inT at hin; rw [hhx] at hin; simpa using hin)
        clear hin hhx
        go_enter Try.func66, Try.ntmps66
        go_wp2_with fail
        rw [HWA.out]
        go_wp2_with fail
        refine (refHas_any p c xs k wa H0.out.pr.rx).mono ?_
        rintro e w1 ⟨rfl, rfl⟩
        rw [HX.out]
        go_wp2_with fail
        refine (refHas_any q d ys k wa H0.out.pr.ry).mono ?_
        rintro e w1 ⟨rfl, rfl⟩
        rw [HY.out]
        go_wp2_with fail
        have m0d : wa.drew.cell? ⟨w.heap.size, 0, none⟩ = some (.slice p xs.length c) := m0
        have m1d : wa.drew.cell? ⟨w.heap.size, 1, none⟩ = some (.slice q ys.length d) := m1
        have HI0 := Lib.hid (show GInv w p c q d wa.drew p c xs q d ys from H0.out.go (Below.refl _ _).drew)
        refine wp_region_noPanic ?_
        refine wp_region_F 9 (fun w' => w'.cell? ⟨w.heap.size, 0, none⟩ = some (.slice p xs.length c) ∧ w'.cell? ⟨w.heap.size, 1, none⟩ = some (.slice q ys.length d)) (by kernel_rfl) ?_ (fun hHeld => ?_)
        · exact ⟨m0d, m1d⟩
        refine' wpAnyF_takeT (i := 0) (v := _) rfl (by kernel_rfl) (by kernel_rfl) (by kernel_rfl) (by rfl) (fun _ _ _ h => h) (Or.inl ⟨by rfl, ?hy⟩) (fun _ => hHeld) _
        case hy => (intro w0 hSw; (try dsimp only at hSw); simp only [List.getElem_toArray, List.getElem_cons_zero]; go_simp; first | done | with_reducible rfl)
        simp only [Act.put, List.getElem_toArray, List.getElem_cons_zero, List.setIfInBounds_toArray, List.set_cons_zero, List.set_cons_succ]
        refine' wpAnyF_take (i := 1) (v := _) rfl (by kernel_rfl) (by kernel_rfl) (by kernel_rfl) (by kernel_rfl) (by rfl) (by kernel_rfl) (fun _ _ _ h => h) (Or.inl ⟨by rfl, ?hy⟩) hHeld _
        case hy => (intro w0 hSw; (try dsimp only at hSw); simp only [List.getElem_toArray, List.getElem_cons_zero, List.getElem_cons_succ]; go_simp; first | done | with_reducible rfl)
        simp only [Act.put, List.getElem_toArray, List.getElem_cons_zero, List.getElem_cons_succ, List.setIfInBounds_toArray, List.set_cons_zero, List.set_cons_succ]
        refine' wpAnyF_takeT (i := 2) (v := _) rfl (by kernel_rfl) (by kernel_rfl) (by kernel_rfl) (by rfl) (fun _ _ _ h => h) (Or.inl ⟨by rfl, ?hy⟩) (fun _ => hHeld) _
        case hy => (intro w0 hSw; (try dsimp only at hSw); simp only [List.getElem_toArray, List.getElem_cons_zero, List.getElem_cons_succ]; go_simp; first | done | with_reducible rfl)
        simp only [Act.put, List.getElem_toArray, List.getElem_cons_zero, List.getElem_cons_succ, List.setIfInBounds_toArray, List.set_cons_zero, List.set_cons_succ]
        refine' wpAnyF_takeT (i := 4) (v := _) rfl (by kernel_rfl) (by kernel_rfl) (by kernel_rfl) (by rfl) (fun _ _ _ h => h) (Or.inl ⟨by rfl, ?hy⟩) (fun _ => hHeld) _
        case hy => (intro w0 hSw; (try dsimp only at hSw); simp only [List.getElem_toArray, List.getElem_cons_zero, List.getElem_cons_succ]; go_simp; first | done | with_reducible rfl)
        simp only [Act.put, List.getElem_toArray, List.getElem_cons_zero, List.getElem_cons_succ, List.setIfInBounds_toArray, List.set_cons_zero, List.set_cons_succ]
        refine' wpAnyF_take (i := 5) (v := _) rfl (by kernel_rfl) (by kernel_rfl) (by kernel_rfl) (by kernel_rfl) (by rfl) (by kernel_rfl) (fun _ _ _ h => h) (Or.inl ⟨by rfl, ?hy⟩) hHeld _
        case hy => (intro w0 hSw; (try dsimp only at hSw); simp only [List.getElem_toArray, List.getElem_cons_zero, List.getElem_cons_succ]; go_simp; first | done | with_reducible rfl)
        simp only [Act.put, List.getElem_toArray, List.getElem_cons_zero, List.getElem_cons_succ, List.setIfInBounds_toArray, List.set_cons_zero, List.set_cons_succ]
        refine' wpAnyF_takeT (i := 6) (v := _) rfl (by kernel_rfl) (by kernel_rfl) (by kernel_rfl) (by rfl) (fun _ _ _ h => h) (Or.inl ⟨by rfl, ?hy⟩) (fun _ => hHeld) _
        case hy => (intro w0 hSw; (try dsimp only at hSw); simp only [List.getElem_toArray, List.getElem_cons_zero, List.getElem_cons_succ]; go_simp; first | done | with_reducible rfl)
        simp only [Act.put, List.getElem_toArray, List.getElem_cons_zero, List.getElem_cons_succ, List.setIfInBounds_toArray, List.set_cons_zero, List.set_cons_succ]
        refine wpAnyF_one (i := 3) (by kernel_rfl) rfl (fun K hK => ?_)
        go_simp
        refine (without_any p c xs k wa.drew H0.out.pr.rx (by omega)).mono ?_
        rintro e w2 ⟨p2, c2, rfl, hown, hq, hb⟩
        have I2 := Lib.hid (HI0.out.go hb)
        have P2 := Lib.hid hown
        have Q2 := Lib.hid (show ∀ b, inP p2 c2 b → w.heap.size + 2 ≤ b from fun b h => Nat.le_trans HI0.out.siz (hq b h))
        clear hown hq hb
        go_wp2_with fail
        refine hK.out _ _ (fun _ => ?_) ?_
        · exact ⟨I2.out.pr.c0, I2.out.pr.c1⟩
        clear hK K
        try simp only [Act.put, List.getElem_toArray, List.getElem_cons_zero, List.getElem_cons_succ, List.setIfInBounds_toArray, List.set_cons_zero, List.set_cons_succ]
        refine' wpAnyF_takeT (i := 8) (v := _) rfl (by kernel_rfl) (by kernel_rfl) (by kernel_rfl) (by rfl) (fun _ _ _ h => h) (Or.inl ⟨by rfl, ?hy⟩) (fun _ => ⟨I2.out.pr.c0, I2.out.pr.c1⟩) _
        case hy => (intro w0 hSw; (try dsimp only at hSw); simp only [List.getElem_toArray, List.getElem_cons_zero, List.getElem_cons_succ]; go_simp; first | done | with_reducible rfl)
        simp only [Act.put, List.getElem_toArray, List.getElem_cons_zero, List.getElem_cons_succ, List.setIfInBounds_toArray, List.set_cons_zero, List.set_cons_succ]
        refine wpAnyF_one (i := 7) (by kernel_rfl) rfl (fun K hK => ?_)
        go_simp
        refine (without_any q d ys k w2 I2.out.pr.ry (by omega)).mono ?_
        rintro e w3 ⟨p3, c3, rfl, hown, hq, hb⟩
        have I3 := Lib.hid (I2.out.go hb)
        have P3 := Lib.hid hown
        have P2' := Lib.hid (P2.out.below hb)
        have Q3 := Lib.hid (show ∀ b, inP p3 c3 b → w.heap.size + 2 ≤ b from fun b h => Nat.le_trans I2.out.siz (hq b h))
        clear hown hq hb
        go_wp2_with fail
        refine hK.out _ _ (fun _ => ?_) ?_
        · exact ⟨I3.out.pr.c0, I3.out.pr.c1⟩
        clear hK K
        try simp only [Act.put, List.getElem_toArray, List.getElem_cons_zero, List.getElem_cons_succ, List.setIfInBounds_toArray, List.set_cons_zero, List.set_cons_succ]
        have l0 := I3.out.pr.c0
        have l1 := I3.out.pr.c1
        have l2 := pair_fr I3.out.pr.hp 0
        have l3 := pair_fr I3.out.pr.hp 1
        refine wpAnyF_one (i := 9) (by kernel_rfl) rfl (fun K hK => ?_)
        go_simp
        refine hK.out _ _ (fun h => Bool.noConfusion (h.symm.trans (by kernel_rfl : _ = true))) ?_
        clear hK K
        try simp only [Act.put, List.getElem_toArray, List.getElem_cons_zero, List.getElem_cons_succ, List.setIfInBounds_toArray, List.set_cons_zero, List.set_cons_succ]
        refine wpAnyF_one (i := 10) (by kernel_rfl) rfl (fun K hK => ?_)
        go_simp
        refine hK.out _ _ (fun h => Bool.noConfusion (h.symm.trans (by kernel_rfl : _ = true))) ?_
        clear hK K
        try simp only [Act.put, List.getElem_toArray, List.getElem_cons_zero, List.getElem_cons_succ, List.setIfInBounds_toArray, List.set_cons_zero, List.set_cons_succ]
        refine wpAnyF_one (i := 11) (by kernel_rfl) rfl (fun K hK => ?_)
        go_simp
        refine hK.out _ _ (fun h => Bool.noConfusion (h.symm.trans (by kernel_rfl : _ = true))) ?_
        clear hK K
        try simp only [Act.put, List.getElem_toArray, List.getElem_cons_zero, List.getElem_cons_succ, List.setIfInBounds_toArray, List.set_cons_zero, List.set_cons_succ]
        refine wpAnyF_done (by kernel_rfl) ?_ _
        refine NoPanic.normal ?_
        have hI4 := ginv_put0 (zs := withoutT xs k) I3.out P2'.out.rds Q2.out HPQ.out
        have hr3 : RdS (w3.setCell ⟨w.heap.size, 0, none⟩ (.slice p2 (withoutT xs k).length c2)).heap.size (w3.setCell ⟨w.heap.size, 0, none⟩ (.slice p2 (withoutT xs k).length c2)) p3 c3 2 tc (withoutT ys k) := by
          have h1 := P3.out.rds.keep (w' := w3.setCell ⟨w.heap.size, 0, none⟩ (.slice p2 (withoutT xs k).length c2)) fun b hb => heap_setCell_other _ ⟨w.heap.size, 0, none⟩ b _ (by have := Q3.out b hb; simp only; omega)
          exact h1.wide (by simp [World.setCell])
        have hI5 := ginv_put1 (zs := withoutT ys k) hI4 hr3 Q3.out HPQ.out
        have hwx : (withoutT xs k).length ≤ xs.length := List.length_filter_le _ _
        have hwy : (withoutT ys k).length ≤ ys.length := List.length_filter_le _ _
        have HGV := Lib.hid (given_any p2 c2 (withoutT xs k) p3 c3 (withoutT ys k) _ hI5.pr.rx hI5.pr.ry (by omega))
        have l4 := hI5.pr.c0
        have l5 := hI5.pr.c1
        have HI := Lib.hid hI5
        clear hI4 hr3 hI5 hwx hwy l0 l1 l2 l3 m0 m1 m0d m1d r0 r1 rf
        generalize (w3.setCell ⟨w.heap.size, 0, none⟩ (.slice p2 (withoutT xs k).length c2)).setCell ⟨w.heap.size, 1, none⟩ (.slice p3 (withoutT ys k).length c3) = w5 at *
        go_wp2_with fail
        refine HGV.out.mono ?_
        rintro e w6 ⟨v, rfl, hret, hb6⟩
        have HRET := Lib.hid hret
        obtain ⟨p6, c6, q6, d6, rfl, hret'⟩ := hret
        clear hret'
        obtain ⟨g0, g1, g2, e0, e1, e2, e3⟩ := ginv_ret HI.out hb6 HPQ.out HRET.out
        have HE := Lib.hid (And.intro e0 (And.intro e1 (And.intro e2 e3)))
        clear e0 e1 e2 e3 hb6
        go_wp2_with fail
        obtain ⟨e0, e1, e2, e3⟩ := HE.out
        refine bodyPost_ret (v := .tuple #[.agg #[.slice p6 (givenT (withoutT xs k) (withoutT ys k)).1.length c6, .slice q6 (givenT (withoutT xs k) (withoutT ys k)).2.length d6], .int .i64 0]) (by simp [results, Try.results66, go_sem, e0, e1]) rfl ?_
        exact ⟨_, by rw [HZ.out], by rw [HZ.out]; exact e2, e3⟩
    · have hin' : inT xs ys k = false := by simpa using hin
      have HZ := Lib.hid (show z = ((xs, ys), 5) by rw [← hz]; simp [freeS, hk0, hk8, hin'])
      have HX := Lib.hid (show hasT xs k = false by unfold inT at hin'; simp at hin'; exact hin'.1)
      have HY := Lib.hid (show hasT ys k = false by unfold inT at hin'; simp at hin'; exact hin'.2)
      clear hz hin hin'
      go_enter Try.func66, Try.ntmps66
      go_wp2_with fail
      rw [HWA.out]
      go_wp2_with fail
      refine (refHas_any p c xs k wa H0.out.pr.rx).mono ?_
      rintro e w1 ⟨rfl, rfl⟩
      rw [HX.out]
      go_wp2_with fail
      refine (refHas_any q d ys k wa H0.out.pr.ry).mono ?_
      rintro e w1 ⟨rfl, rfl⟩
      rw [HY.out]
      go_wp2_with fail
      obtain ⟨e0, e1, e2, e3⟩ := given_end H0.out (Below.refl _ _) HPQ.out
      refine bodyPost_ret (v := .tuple #[.agg #[.slice p xs.length c, .slice q ys.length d], .int .i64 5]) (by simp [results, Try.results66, go_sem, e0, e1]) rfl ?_
      exact ⟨_, by rw [HZ.out], by rw [HZ.out]; exact e2, e3⟩
  · have HZ := Lib.hid (show z = ((xs, ys), 2) by rw [← hz]; unfold freeS; rw [if_pos hk])
    clear hz
    by_cases hk0 : k < 0
    · clear hk
      go_enter Try.func66, Try.ntmps66
      go_wp2_with fail
      have hbe : Below w.heap.size w ((w.alloc (.cells #[.slice p xs.length c, .slice q ys.length d] 62)).alloc (.cells #[.slice p xs.length c, .slice q ys.length d] 62)) := ((Below.refl _ _).alloc (Nat.le_refl _) _).alloc (by simp) _
      refine bodyPost_ret (v := .tuple #[.agg #[.slice p xs.length c, .slice q ys.length d], .int .i64 2]) (by simp [results, Try.results66, go_sem]) rfl ?_
      exact ⟨_, by rw [HZ.out], by rw [HZ.out]; exact ⟨p, c, q, d, rfl, (HXR.out.kept hbe).wide hbe.size, (HYR.out.kept hbe).wide hbe.size, fun b hb => .inl hb⟩, hbe⟩
    · have hk7 : 7 < k := by omega
      clear hk
      go_enter Try.func66, Try.ntmps66
      go_wp2_with fail
      have hbe : Below w.heap.size w ((w.alloc (.cells #[.slice p xs.length c, .slice q ys.length d] 62)).alloc (.cells #[.slice p xs.length c, .slice q ys.length d] 62)) := ((Below.refl _ _).alloc (Nat.le_refl _) _).alloc (by simp) _
      refine bodyPost_ret (v := .tuple #[.agg #[.slice p xs.length c, .slice q ys.length d], .int .i64 2]) (by simp [results, Try.results66, go_sem]) rfl ?_
      exact ⟨_, by rw [HZ.out], by rw [HZ.out]; exact ⟨p, c, q, d, rfl, (HXR.out.kept hbe).wide hbe.size, (HYR.out.kept hbe).wide hbe.size, fun b hb => .inl hb⟩, hbe⟩
end Go.Proofs.Ythhdipfadnihjaa
