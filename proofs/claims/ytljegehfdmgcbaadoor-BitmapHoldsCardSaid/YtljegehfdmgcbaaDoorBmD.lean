/- The walk of what a bitmap's gaps goes over. -/
import Derived.Test.YtljegehfdmgcbaaDoorBmC
import Derived.Test.YtljegehfdmgcbaaDoorHeldI
import Derived.Sort.CutIn
namespace Go.Proofs.YtljegehfdmgcbaaDoor
open Go Go.RowKit
attribute [local go_sem] Oper.semAt_some

theorem RoundIn.inR {F : Fence} {n : Nat} {P : Program} {l : Nat} {f : FuncId} {tmps : Array Value} {assign body : Code} {w : World} {R : Ending → World → Prop} (l' : Nat) (h : RoundIn F n P l f tmps assign body w R) : RoundIn (F.inRound l') n P l f tmps assign body w R := h
theorem wpIn_region_noPanic {F : Fence} {n : Nat} {P : Program} {id : Nat} {ops : Array Oper} {b : Bool} {Q : Exit → Act → World → Prop} {a : Act} {w : World} (h : (Code.region id ops b).wpIn F n P (NoPanic Q) a w) : (Code.region id ops b).wpIn F n P Q a w := wpIn_mono h NoPanic.imp
theorem Frn.mono {T T' : Nat → Prop} {A B : World} (h : Frn T A B) (ht : ∀ b, T b → T' b) : Frn T' A B := ⟨h.os, h.tape, h.output, h.size, fun b hb hn => h.block b hb (fun h' => hn (ht b h'))⟩
/-- A function's end behind one loop over a function. -/
theorem leave1n {F : Fence} {n : Nat} {P : Program} {fn : Func} {R : Ending → World → Prop} {a : Act} {W : World} {D : Nat} {v : Value} (hd : a.defers = [{ target := .collected D, args := #[] }])
    (h1 : W.heap[D]? = some (.deferred (some []))) (hr : (results fn a.tmps).run P (W.putObj D (.deferred none)) = .ok v (W.putObj D (.deferred none))) (hR : R (.returned v) (W.putObj D (.deferred none))) : bodyPostM F n P fn R .normal a W := by
  show LeavesInM F n P fn a.tmps R a.defers .returning W
  rw [hd]
  exact ⟨by simp, .inl ⟨_, _, rfl, run_takeDeferred h1, ⟨_, hr, hR⟩⟩⟩
set_option maxHeartbeats 1000000 in
theorem gaps_any (p : Option Addr) (w : World) : Calls Tryd.prog 33 #[.pointer p] w fun e w' => e = .returned (.func (.func 40) #[] #[.pointer (some ⟨w.heap.size, 0, none⟩)]) ∧ w.alloc (.cells #[.pointer p] 24) = w' := by
  go_enter Tryd.func33, Tryd.ntmps33
  go_wp2
  go_ret
  exact ⟨rfl, rfl⟩
theorem gapsF_get {f : Nat → Bool} {n k : Nat} (hk : k < (runsF f n).length) (h : endR ((runsF f n).take k) < (runsF f n)[k].1) :
    ∃ hl : (gapsR ((runsF f n).take k)).length < (gapsF f n).length, (gapsF f n)[(gapsR ((runsF f n).take k)).length] = (endR ((runsF f n).take k), (runsF f n)[k].1 - endR ((runsF f n).take k)) := by
  have hg : ∀ (qs ps : List Run2), ∃ t, gapsR (ps ++ qs) = gapsR ps ++ t := by
    intro qs
    induction qs with
    | nil => intro ps; exact ⟨[], by simp⟩
    | cons q qs ih =>
      intro ps
      obtain ⟨t, ht⟩ := ih (ps ++ [q])
      exact ⟨_, by rw [show ps ++ q :: qs = ps ++ [q] ++ qs by simp, ht, gapsR_snoc, List.append_assoc]⟩
  have e : (runsF f n).take k ++ (runsF f n)[k] :: (runsF f n).drop (k + 1) = runsF f n := by rw [← List.drop_eq_getElem_cons hk, List.take_append_drop]
  obtain ⟨t, ht⟩ := hg ((runsF f n).drop (k + 1)) ((runsF f n).take k ++ [(runsF f n)[k]])
  rw [List.append_assoc, List.singleton_append, e, gapsR_snoc, if_pos h] at ht
  have e2 : (gapsF f n)[(gapsR ((runsF f n).take k)).length]? = some (endR ((runsF f n).take k), (runsF f n)[k].1 - endR ((runsF f n).take k)) := by
    unfold gapsF
    rw [ht, List.append_assoc, List.append_assoc]
    simp
  exact List.getElem?_eq_some_iff.1 e2
theorem gapsF_len (f : Nat → Bool) (n : Nat) : (gapsF f n).length = (gapsR (runsF f n)).length + if endR (runsF f n) < n then 1 else 0 := by
  unfold gapsF
  rw [List.length_append]
  split <;> simp
theorem gapsF_last {f : Nat → Bool} {n : Nat} (h : endR (runsF f n) < n) : ∃ hl : (gapsR (runsF f n)).length < (gapsF f n).length, (gapsF f n)[(gapsR (runsF f n)).length] = (endR (runsF f n), n - endR (runsF f n)) := by
  have e2 : (gapsF f n)[(gapsR (runsF f n)).length]? = some (endR (runsF f n), n - endR (runsF f n)) := by
    unfold gapsF
    rw [if_pos h]
    simp
  exact List.getElem?_eq_some_iff.1 e2

/-- What gaps keeps between the runs. -/
def GS (J : Nat → (Nat → Prop) → World → Prop) (FP : Nat → Prop) (W W2 : World) (L Y E B3 : Nat) (x : Nat) (e : Nat) (Ti : Nat → Prop) (V : World) : Prop :=
  ∃ To : Nat → Prop, (∀ b, Ti b → To b) ∧ J x To V ∧ (∀ b, To b → b < V.heap.size) ∧ Kps FP W V ∧ Box V Y 63 (.func (.yield L) #[] #[]) ∧ Box V E 3 (.int .i64 e) ∧ To Y ∧ To E ∧ To B3 ∧ (∀ b, Ti b → W2.heap.size ≤ b) ∧ W2.heap.size ≤ V.heap.size
theorem GS.frn {J : Nat → (Nat → Prop) → World → Prop} {FP : Nat → Prop} {W W2 : World} {L Y E B3 x e : Nat} {Ti : Nat → Prop} {V V' : World} (hJ : Abd J) (hFP : ∀ b, FP b → b < W2.heap.size) (hY : Y < W2.heap.size) (hE : E < W2.heap.size) (h : GS J FP W W2 L Y E B3 x e Ti V) (hf : Frn Ti V V') :
    GS J FP W W2 L Y E B3 x e (grow Ti V V') V' := by
  obtain ⟨To, h1, h2, h3, h4, h5, h6, h7, h8, h9, h10, h11⟩ := h
  have hfo := hf.mono h1
  refine ⟨grow To V V', ?_, hJ _ _ _ _ h2 hfo, ?_, h4.trans (Kps.of_below (hf.below h11 h10) hFP), h5.kept (hf.block _ h5.lt (fun ht => by have := h10 _ ht; omega)), h6.kept (hf.block _ h6.lt (fun ht => by have := h10 _ ht; omega)), .inl h7, .inl h8, .inl h9, ?_, Nat.le_trans h11 hf.size⟩
  · rintro b (hb | hb)
    · exact .inl (h1 b hb)
    · exact .inr hb
  · rintro b (hb | hb)
    · exact Nat.lt_of_lt_of_le (h3 b hb) hf.size
    · exact hb.2
  · rintro b (hb | hb)
    · exact h10 b hb
    · omega
/-- The consumer has had enough. -/
def GX (Jx : Nat → (Nat → Prop) → World → Prop) (m : Nat) (Ti : Nat → Prop) (V : World) : Prop := ∃ (To : Nat → Prop) (x : Nat), (∀ b, Ti b → To b) ∧ Jx x To V ∧ (∀ b, To b → b < V.heap.size) ∧ x ≤ m ∧ 1 ≤ x
theorem GX.frn {Jx : Nat → (Nat → Prop) → World → Prop} {m : Nat} {Ti : Nat → Prop} {V V' : World} (hJ : Abd Jx) (h : GX Jx m Ti V) (hf : Frn Ti V V') : GX Jx m (grow Ti V V') V' := by
  obtain ⟨To, x, h1, h2, h3, h4, h5⟩ := h
  refine ⟨grow To V V', x, ?_, hJ _ _ _ _ h2 (hf.mono h1), ?_, h4, h5⟩
  · rintro b (hb | hb)
    · exact .inl (h1 b hb)
    · exact .inr hb
  · rintro b (hb | hb)
    · exact Nat.lt_of_lt_of_le (h3 b hb) hf.size
    · exact hb.2

set_option maxRecDepth 100000 in
set_option maxHeartbeats 8000000 in
theorem gaps1_iter {O g c : Nat} {ws : List (BitVec 64)} {n : Nat} (Bm : Nat) (w : World) (hm : Box w Bm 24 (.pointer (some ⟨O, 0, none⟩))) (h : BmAt w O g c ws n) :
    Iter Tryd.prog 40 #[.pointer (some ⟨Bm, 0, none⟩)] (encR (gapsF (bitW ws) n)) (fun b => b = Bm ∨ b = O ∨ b = g) w := by
  intro L J Jx W T hW hT hJ hJx hY h0
  have hmW : Box W Bm 24 (.pointer (some ⟨O, 0, none⟩)) := hm.kept (hW.block _ (.inl rfl) hm.lt)
  have hbW : BmAt W O g c ws n := h.keep (hW.block _ (.inr (.inl rfl)) h.ltO) (hW.block _ (.inr (.inr rfl)) h.ltg)
  have hn2 := h.n2
  rw [encR_len]
  obtain ⟨W1, hW1, hYb, hEb, hb1, hz1⟩ := box2 W 63 3 (.func (.yield L) #[] #[]) (.int .i64 0)
  obtain ⟨W2, hW2⟩ : ∃ W2, W1.alloc (.cells #[.pointer (some ⟨O, 0, none⟩)] 24) = W2 := ⟨_, rfl⟩
  have hb12 : Below W1.heap.size W1 W2 := by rw [← hW2]; exact (Below.refl _ _).alloc (Nat.le_refl _) _
  have hz2 : W2.heap.size = W.heap.size + 3 := by rw [← hW2]; simp [hz1]
  have hb2 : Below W.heap.size W W2 := hb1.trans (hb12.mono hb1.size)
  have hB3 : Box W2 W1.heap.size 24 (.pointer (some ⟨O, 0, none⟩)) := by rw [← hW2]; exact Box.new _ _ _
  have hbm2 := hbW.below hb2
  have hmb2 := hmW.below hb2 hmW.lt
  have hFPl : ∀ b, (b = Bm ∨ b = O ∨ b = g) → b < W.heap.size := fun b hb => hb.elim (fun e => e ▸ hmW.lt) (fun hb => hb.elim (fun e => e ▸ hbW.ltO) (fun e => e ▸ hbW.ltg))
  have hgr : ∀ b, W.heap.size ≤ b → b < W2.heap.size → grow T W W2 b := fun b h1 h2 => .inr ⟨h1, h2⟩
  have hgT : ∀ b, grow T W W2 b → b < W2.heap.size := by
    rintro b (hb | hb)
    · exact Nat.lt_of_lt_of_le (hT b hb) hb2.size
    · exact hb.2
  have HS : Hid (GS J (fun b => b = Bm ∨ b = O ∨ b = g) W W2 L W.heap.size (W.heap.size + 1) W1.heap.size 0 0 (fun _ => False) W2) := Lib.hid
    ⟨grow T W W2, fun _ h => h.elim, hJ 0 T W W2 h0 (Frn.of_below hb2), hgT, Kps.of_below hb2 hFPl, hYb.below hb12 hYb.lt, hEb.below hb12 hEb.lt, hgr _ (by omega) (by omega), hgr _ (by omega) (by omega), hgr _ (by omega) (by omega), fun _ h => h.elim, Nat.le_refl _⟩
  have HRI := Lib.hid (runs1_iter W1.heap.size W2 hB3 hbm2)
  have HY := Lib.hid hY
  have HJ := Lib.hid hJ
  have HJX := Lib.hid hJx
  have HFPL := Lib.hid hFPl
  have q0 : W1.cell? ⟨Bm, 0, none⟩ = some (.pointer (some ⟨O, 0, none⟩)) := (hmW.below hb1 hmW.lt).cell
  have H0 := Lib.hid (And.intro hmW hbW)
  have hz3 : W1.heap.size = W.heap.size + 2 := hz1
  clear hY hJ hJx hW hT hm h hmW hbW hb1 hz1 h0 hgr hgT hFPl hb12 hb2 hB3 hbm2 hmb2 hYb hEb
  have HW1 := Lib.hid hW1
  have HW2 := Lib.hid hW2
  clear hW1 hW2
  refine callsIn_of_wp_marks Tryd.func40 rfl trivial ?_ rfl
  simp only [Tryd.ntmps40, List.size_toArray, List.length_cons, List.length_nil, Nat.reduceAdd, Nat.reduceSub, Array.replicate_succ, Array.replicate_zero, List.push_toArray, List.append_toArray, List.nil_append, List.cons_append]
  have hq := q0
  rw [← HW1.out] at hq
  gi_wp2
  rw [HW1.out]
  refine wcall (runs05_any (some ⟨O, 0, none⟩) W1) ?_
  rintro e w' ⟨rfl, rfl⟩
  rw [HW2.out]
  clear hq q0
  gi_wp2
  obtain ⟨rs, hrs⟩ : ∃ rs, runsF (bitW ws) n = rs := ⟨_, rfl⟩
  rw [hz3] at HS HRI
  obtain ⟨B3, hBe⟩ : ∃ B3, W.heap.size + 2 = B3 := ⟨_, rfl⟩
  rw [hBe] at HS
  rw [hBe, hrs] at HRI
  rw [hBe]
  obtain ⟨Y, hYe⟩ : ∃ Y, W.heap.size = Y := ⟨_, rfl⟩
  rw [hYe] at HS
  rw [hYe]
  have hlY : Y < W2.heap.size := by omega
  have hlE : Y + 1 < W2.heap.size := by omega
  have hFPl2 : ∀ b, (b = Bm ∨ b = O ∨ b = g) → b < Y := fun b hb => by have := HFPL.out b hb; omega
  have hB3l : B3 = Y + 2 := by omega
  have hz22 : W2.heap.size = Y + 3 := by omega
  have HFP2 := Lib.hid hFPl2
  have HB3 := Lib.hid hB3l
  have HZ2 := Lib.hid hz22
  have HYE := Lib.hid hYe
  clear HW1 HW2 hz2 hz3 hFPl2 HFPL hYe hBe hlY hlE hz22
  refine rf_law (gf := 30) (lb := #[.pointer (some ⟨B3, 0, none⟩)]) rfl (enters_of Tryd.func30 (by kernel_rfl) rfl)
    HRI.out (by intro x hx; obtain ⟨y, _, rfl⟩ := List.mem_map.1 hx; rfl) ?hFP
    (fun k T V => GS J (fun b => b = Bm ∨ b = O ∨ b = g) W W2 L Y (Y + 1) B3 (gapsR (rs.take k)).length (endR (rs.take k)) T V)
    (fun cc k T V => cc = .ret ∧ GX Jx (encR (gapsF (bitW ws) n)).length T V) ?hJ ?hJx ?h0 ?hround ?hdone ?hstop
  case hFP =>
    rintro b (rfl | hb)
    · have := HZ2.out; omega
    · have := HFP2.out b (.inr hb); have := HZ2.out; omega
  case hJ =>
    intro k T V V' h hf
    exact h.frn HJ.out (fun b hb => by have := HFP2.out b hb; have := HZ2.out; omega) (by have := HZ2.out; omega) (by have := HZ2.out; omega) hf
  case hJx =>
    rintro cc k T V V' ⟨h1, h2⟩ hf
    exact ⟨h1, h2.frn HJX.out hf⟩
  case h0 => exact HS.out
  case hround =>
    clear HS HRI
    rintro l' k hk Ti W3 hGS hTl hTW hkW
    have hk' : k < rs.length := by simpa [encR] using hk
    rw [encR_get]
    obtain ⟨r, hr⟩ : ∃ r, rs[k] = r := ⟨_, rfl⟩
    have hts : rs.take (k + 1) = rs.take k ++ [r] := by rw [← hr]; exact List.take_succ_eq_append_getElem hk'
    obtain ⟨a, m⟩ := r
    obtain ⟨r1, r2, r3, _⟩ := runs_at (f := bitW ws) (n := n) (k := k) (by rw [hrs]; exact hk')
    have hGET : endR (rs.take k) < a → ∃ hl : (gapsR (rs.take k)).length < (gapsF (bitW ws) n).length, (gapsF (bitW ws) n)[(gapsR (rs.take k)).length] = (endR (rs.take k), a - endR (rs.take k)) := fun h => by
      have := gapsF_get (f := bitW ws) (n := n) (k := k) (by rw [hrs]; exact hk') (by simp only [hrs, hr]; exact h)
      simp only [hrs, hr] at this
      exact this
    simp only [hrs, hr] at r1 r2 r3
    have HG1 := Lib.hid (show gapsR (rs.take (k + 1)) = gapsR (rs.take k) ++ (if endR (rs.take k) < a then [(endR (rs.take k), a - endR (rs.take k))] else []) by rw [hts, gapsR_snoc])
    have HE1 := Lib.hid (show endR (rs.take (k + 1)) = a + m by rw [hts, endR_snoc])
    have HGET := Lib.hid hGET
    rw [hr]
    unfold rv2
    simp only
    obtain ⟨ee, hee⟩ : ∃ ee, endR (rs.take k) = ee := ⟨_, rfl⟩
    rw [hee] at hGS HG1 HGET r1
    obtain ⟨x, hx⟩ : ∃ x, (gapsR (rs.take k)).length = x := ⟨_, rfl⟩
    rw [hx] at hGS HGET
    have HX := Lib.hid hx
    clear hts hr hGET hee hk hx
    gi_wp2
    have hWa : Kps (fun b => (b = B3 ∨ b = O ∨ b = g) ∨ Ti b) W3 (W3.alloc (.cells #[.int .i64 a, .int .i64 m] 39)) := (Kps.refl _ _).alloc _
    refine ⟨hWa, fun W4 hf hsz hk2 _ => ?_⟩
    have hfa : Frn Ti W3 W4 := (Frn.alloc Ti W3 _).trans hf
    have hx4 : W4.heap[W3.heap.size]? = some (.cells #[.int .i64 a, .int .i64 m] 39 (0, 0)) := (hf.block _ (by simp) (fun ht => Nat.lt_irrefl _ (hTW _ ht))).trans (World.alloc_heap_new W3 _)
    have hz4 : W4.heap.size = W3.heap.size + 1 := by rw [hsz]; simp
    have hG4 := hGS.frn HJ.out (fun b hb => by have := HFP2.out b hb; have := HZ2.out; omega) (by have := HZ2.out; omega) (by have := HZ2.out; omega) hfa
    obtain ⟨To, t1, t2, t3, t4, t5, t6, t7, t8, t9, t10, t11⟩ := hG4
    have c0 : W4.cell? ⟨W3.heap.size, 0, none⟩ = some (.int .i64 a) := by simp [World.cell?, hx4]
    have c1 : W4.cell? ⟨W3.heap.size, 1, none⟩ = some (.int .i64 m) := by simp [World.cell?, hx4]
    have y0 := t5.cell
    have e0 := t6.cell
    have ef := t6.free
    have hTi : ∀ b, Ti b → To b := fun b hb => t1 b (.inl hb)
    have hTo2 : ∀ b, Ti b → W2.heap.size ≤ b := fun b hb => t10 b (.inl hb)
    have hE3 : W2.heap.size ≤ W3.heap.size := by obtain ⟨_, _, _, _, _, _, _, _, _, _, _, h⟩ := hGS; exact h
    have HT := Lib.hid (show (∀ b, Ti b → To b) ∧ J x To W4 ∧ (∀ b, To b → b < W4.heap.size) ∧ Kps (fun b => b = Bm ∨ b = O ∨ b = g) W W4 ∧ Box W4 Y 63 (.func (.yield L) #[] #[]) ∧ Box W4 (Y + 1) 3 (.int .i64 ee) ∧ To Y ∧ To (Y + 1) ∧ To B3 ∧ (∀ b, Ti b → W2.heap.size ≤ b) ∧ W2.heap.size ≤ W4.heap.size from ⟨hTi, t2, t3, t4, t5, t6, t7, t8, t9, hTo2, t11⟩)
    have hneE : W3.heap.size ≠ Y + 1 := by have := HZ2.out; omega
    have hneE2 : Y + 1 ≠ W3.heap.size := fun h => hneE h.symm
    have hr3 : (a : Int) + m ≤ n := by omega
    have hToR : To W3.heap.size := t1 _ (.inr ⟨Nat.le_refl _, by omega⟩)
    have HX4 := Lib.hid (And.intro hx4 hToR)
    -- behind all: the store of the end
    have FIN : Hid (∀ (V : World) (x' : Nat), J x' To V → (∀ b, To b → b < V.heap.size) → Kps (fun b => b = Bm ∨ b = O ∨ b = g) W V → Box V Y 63 (.func (.yield L) #[] #[]) → Box V (Y + 1) 3 (.int .i64 ee) → W2.heap.size ≤ V.heap.size → Kps (fun b => (b = B3 ∨ b = O ∨ b = g) ∨ Ti b) W4 V → (gapsR (rs.take (k + 1))).length = x' →
        GS J (fun b => b = Bm ∨ b = O ∨ b = g) W W2 L Y (Y + 1) B3 (gapsR (rs.take (k + 1))).length (endR (rs.take (k + 1))) Ti (V.setCell ⟨Y + 1, 0, none⟩ (.int .i64 ((a : Int) + m))) ∧ Kps (fun b => (b = B3 ∨ b = O ∨ b = g) ∨ Ti b) W4 (V.setCell ⟨Y + 1, 0, none⟩ (.int .i64 ((a : Int) + m)))) := Lib.hid (by
      intro V x' j1 j2 j3 j4 j5 j6 j7 j8
      obtain ⟨u1, u2, u3, u4, u5, u6, u7, u8, u9, u10, u11⟩ := HT.out
      have hnE : ¬ (Y + 1 = Bm ∨ Y + 1 = O ∨ Y + 1 = g) := fun h => by have := HFP2.out _ h; omega
      refine ⟨⟨To, u1, ?_, by simpa [World.setCell] using j2, j3.setCell ⟨Y + 1, 0, none⟩ hnE _, j4.other (by omega) _ _, ?_, u7, u8, u9, u10, by simpa [World.setCell] using j6⟩, ?_⟩
      · rw [j8]
        exact HJ.out.same (by simp [World.setCell]) j1 (Frn.setCell (T := To) (Frn.refl _ _) ⟨Y + 1, 0, none⟩ (.inl u8) _)
      · rw [HE1.out]
        have := j5.set (.int .i64 ((a : Int) + m))
        rwa [show ((a + m : Nat) : Int) = (a : Int) + m by omega]
      · refine j7.setCell ⟨Y + 1, 0, none⟩ ?_ _
        rintro ((h | h | h) | h)
        · have := HB3.out; have h' : Y + 1 = B3 := h; omega
        · exact hnE (.inr (.inl h))
        · exact hnE (.inr (.inr h))
        · have h2 := u10 _ h; have h3 := HZ2.out; have h4 : W2.heap.size ≤ Y + 1 := h2; omega)
    clear hGS hf hkW hk2 hWa hfa hsz hz4 hx4 t1 t2 t3 t4 t5 t6 t7 t8 t9 t10 t11 hTi hTo2 hE3 hTW hTl hToR
    by_cases hgap : ee < a
    · obtain ⟨hil, hig⟩ := HGET.out hgap
      have hyy := HY.out x (by rw [encR_len]; exact hil) To W4 HT.out.2.2.1 HT.out.2.1
      rw [encR_get, hig] at hyy
      obtain ⟨fn, tmps, assign, body, hy, hR2⟩ := hyy
      unfold rv2 at hy
      simp only at hy
      rw [show ((a - ee : Nat) : Int) = (a : Int) - ee by omega] at hy
      have HR2 := Lib.hid hR2
      have HIL := Lib.hid hil
      have hsub : IntKind.i64.wrap ((a : Int) - ee) = (a : Int) - ee := by rw [IntKind.wrap_i64]; omega
      have hgap' : (ee : Int) < a := by omega
      clear hR2 hil hig HY HGET
      gi_wp2
      refine ⟨rfl, RoundIn.inR l' (HR2.out.mono ?_)⟩
      clear hy HR2
      rintro e W5 (⟨rfl, hJ5, hk5⟩ | ⟨rfl, hJ5, hk5⟩)
      · have hx5 : W5.heap[W3.heap.size]? = some (.cells #[.int .i64 a, .int .i64 m] 39 (0, 0)) := (hk5.block _ (.inr HX4.out.2) (HT.out.2.2.1 _ HX4.out.2)).trans HX4.out.1
        have d0 : W5.cell? ⟨W3.heap.size, 0, none⟩ = some (.int .i64 a) := by simp [World.cell?, hx5]
        have d1 : W5.cell? ⟨W3.heap.size, 1, none⟩ = some (.int .i64 m) := by simp [World.cell?, hx5]
        have hY5 := HT.out.2.2.2.2.1.kept (hk5.block _ (.inr HT.out.2.2.2.2.2.2.1) HT.out.2.2.2.2.1.lt)
        have hE5 := HT.out.2.2.2.2.2.1.kept (hk5.block _ (.inr HT.out.2.2.2.2.2.2.2.1) HT.out.2.2.2.2.2.1.lt)
        have ef5 := hE5.free
        have ec5 := hE5.cell
        have HF := Lib.hid (FIN.out W5 (x + 1) hJ5 (fun b hb => Nat.lt_of_lt_of_le (HT.out.2.2.1 b hb) hk5.size) (HT.out.2.2.2.1.trans (hk5.mono fun b hb => .inl hb)) hY5 hE5 (Nat.le_trans HT.out.2.2.2.2.2.2.2.2.2.2 hk5.size)
          (hk5.mono (by
            rintro b ((rfl | h | h) | h)
            · exact .inr HT.out.2.2.2.2.2.2.2.2.1
            · exact .inl (.inr (.inl h))
            · exact .inl (.inr (.inr h))
            · exact .inr (HT.out.1 b h))) (by rw [HG1.out, if_pos hgap, List.length_append, HX.out]; rfl))
        clear hJ5 hk5 hx5 hY5 hE5 c0 c1 y0 e0 ef
        gi_wp2
        exact HF.out
      · have HF : Hid (GX Jx (encR (gapsF (bitW ws) n)).length Ti W5 ∧ Kps (fun b => (b = B3 ∨ b = O ∨ b = g) ∨ Ti b) W4 W5) := Lib.hid ⟨⟨To, x + 1, HT.out.1, hJ5, fun b hb => Nat.lt_of_lt_of_le (HT.out.2.2.1 b hb) hk5.size, by rw [encR_len]; exact HIL.out, by omega⟩, hk5.mono (by
            rintro b ((rfl | h | h) | h)
            · exact .inr HT.out.2.2.2.2.2.2.2.2.1
            · exact .inl (.inr (.inl h))
            · exact .inl (.inr (.inr h))
            · exact .inr (HT.out.1 b h))⟩
        clear hJ5 hk5 c0 c1 y0 e0 ef
        gi_wp2
        exact ⟨⟨rfl, HF.out.1⟩, HF.out.2⟩
    · have hgap' : (a : Int) ≤ ee := by omega
      have HF := Lib.hid (FIN.out W4 x HT.out.2.1 HT.out.2.2.1 HT.out.2.2.2.1 HT.out.2.2.2.2.1 HT.out.2.2.2.2.2.1 HT.out.2.2.2.2.2.2.2.2.2.2 (Kps.refl _ _) (by rw [HG1.out, if_neg hgap, List.append_nil, HX.out]))
      clear HY HGET
      gi_wp2
      refine ⟨fun _ h => (by cases h), ?_⟩
      gi_wp2
      exact HF.out
  case hdone =>
    rintro D Ti V hGS hTD hTW hkW hD hK
    rw [encR_len, List.take_length] at hGS
    obtain ⟨To, u1, u2, u3, u4, u5, u6, u7, u8, u9, u10, u11⟩ := hGS
    have hmV := H0.out.1.kept (u4.block _ (.inl rfl) H0.out.1.lt)
    have hbV := H0.out.2.keep (u4.block _ (.inr (.inl rfl)) H0.out.2.ltO) (u4.block _ (.inr (.inr rfl)) H0.out.2.ltg)
    have y0 := u5.cell
    have e0 := u6.cell
    have m0 := hmV.cell
    have n0 := hbV.c1
    have hend := (runs_end (bitW ws) n).1
    have hlen := gapsF_len (bitW ws) n
    rw [hrs] at hend hlen
    have hLAST : endR rs < n → ∃ hl : (gapsR rs).length < (gapsF (bitW ws) n).length, (gapsF (bitW ws) n)[(gapsR rs).length] = (endR rs, n - endR rs) := fun h => by
      have := gapsF_last (f := bitW ws) (n := n) (by rw [hrs]; exact h)
      simp only [hrs] at this
      exact this
    have HL := Lib.hid (And.intro hlen hLAST)
    obtain ⟨ee, hee⟩ : ∃ ee, endR rs = ee := ⟨_, rfl⟩
    rw [hee] at e0 hend HL u6
    have hDl : D < V.heap.size := (Array.getElem?_eq_some_iff.1 hK).1
    have HV := Lib.hid (show (∀ b, Ti b → To b) ∧ J (gapsR rs).length To V ∧ (∀ b, To b → b < V.heap.size) ∧ To D ∧ V.heap[D]? = some (.deferred (some [])) from ⟨u1, u2, u3, u1 D hTD, hK⟩)
    have HC := Lib.hid (And.intro u5 (And.intro u6 (And.intro u7 (And.intro u8 (And.intro hmV (And.intro hbV u4))))))
    clear hlen hLAST hee u1 u2 u3 u4 u5 u6 u7 u8 u9 u10 u11 hTD hTW hkW hD hK hmV hbV HS HRI hrs
    by_cases hgap : ee < n
    · have hgap' : (ee : Int) < n := by omega
      have hsub : IntKind.i64.wrap ((n : Int) - ee) = (n : Int) - ee := by rw [IntKind.wrap_i64]; omega
      obtain ⟨hil, hig⟩ := HL.out.2 hgap
      have hln := HL.out.1
      rw [if_pos hgap] at hln
      have HLN := Lib.hid hln
      have hFv : ∀ nq, Frn To V (V.drewN nq) := fun nq => (Frn.refl To V).drewN nq
      have hyy := fun nq => HY.out (gapsR rs).length (by rw [encR_len]; exact hil) To (V.drewN nq) HV.out.2.2.1 (HJ.out.same (W := V) (W' := V.drewN nq) rfl HV.out.2.1 (hFv nq))
      rw [encR_get, hig] at hyy
      unfold rv2 at hyy
      simp only at hyy
      rw [show ((n - ee : Nat) : Int) = (n : Int) - ee by omega] at hyy
      have HYY := Lib.hid hyy
      clear hyy hln hil hig hFv
      gi_wp2
      gi_quiet (fail)
      have y1 : (V.drewN nq).cell? ⟨Y, 0, none⟩ = _ := y0
      have e1 : (V.drewN nq).cell? ⟨Y + 1, 0, none⟩ = _ := e0
      have m1 : (V.drewN nq).cell? ⟨Bm, 0, none⟩ = _ := m0
      have n1 : (V.drewN nq).cell? ⟨O, 1, none⟩ = _ := n0
      clear y0 e0 m0 n0
      gi_wp2
      refine wpIn_region_noPanic ?_
      refine wpIn_region_HI (fun W' => W'.cell? ⟨Y, 0, none⟩ = some (.func (.yield L) #[] #[]) ∧ W'.cell? ⟨Y + 1, 0, none⟩ = some (.int .i64 ee) ∧ W'.cell? ⟨Bm, 0, none⟩ = some (.pointer (some ⟨O, 0, none⟩)) ∧ W'.cell? ⟨O, 1, none⟩ = some (.int .i64 n)) (by kernel_rfl) ⟨y1, e1, m1, n1⟩ ?_
      intro hSd
      refine wpAnyHI_take (i := 0) (v := (.func (.yield L) #[] #[])) (by kernel_rfl) rfl (by kernel_rfl) (by kernel_rfl) (by kernel_rfl) (fun _ _ _ h => h) ⟨Or.inl ⟨by rfl, ?hy0⟩, fun _ => rfl⟩ hSd ?_
      case hy0 =>
        rintro W' ⟨y9, e9, m9, n9⟩
        go_simp
      try simp only [Act.put, List.getElem_toArray, List.getElem_cons_zero, List.setIfInBounds_toArray, List.set_cons_zero, List.set_cons_succ]
      refine wpAnyHI_take (i := 1) (v := (.int .i64 ee)) (by kernel_rfl) rfl (by kernel_rfl) (by kernel_rfl) (by kernel_rfl) (fun _ _ _ h => h) ⟨Or.inl ⟨by rfl, ?hy1⟩, fun _ => rfl⟩ hSd ?_
      case hy1 =>
        rintro W' ⟨y9, e9, m9, n9⟩
        go_simp
      try simp only [Act.put, List.getElem_toArray, List.getElem_cons_zero, List.getElem_cons_succ, List.setIfInBounds_toArray, List.set_cons_zero, List.set_cons_succ]
      refine wpAnyHI_take (i := 2) (v := (.pointer (some ⟨O, 0, none⟩))) (by kernel_rfl) rfl (by kernel_rfl) (by kernel_rfl) (by kernel_rfl) (fun _ _ _ h => h) ⟨Or.inl ⟨by rfl, ?hy2⟩, fun _ => rfl⟩ hSd ?_
      case hy2 =>
        rintro W' ⟨y9, e9, m9, n9⟩
        go_simp
      try simp only [Act.put, List.getElem_toArray, List.getElem_cons_zero, List.getElem_cons_succ, List.setIfInBounds_toArray, List.set_cons_zero, List.set_cons_succ]
      refine wpAnyHI_take (i := 3) (v := (.pointer (some ⟨O, 0, none⟩))) (by kernel_rfl) rfl (by kernel_rfl) (by kernel_rfl) (by kernel_rfl) (fun _ _ _ h => h) ⟨Or.inl ⟨by rfl, ?hy3⟩, fun _ => rfl⟩ hSd ?_
      case hy3 =>
        rintro W' ⟨y9, e9, m9, n9⟩
        go_simp
      try simp only [Act.put, List.getElem_toArray, List.getElem_cons_zero, List.getElem_cons_succ, List.setIfInBounds_toArray, List.set_cons_zero, List.set_cons_succ]
      refine wpAnyHI_take (i := 4) (v := (.pointer (some ⟨O, 1, none⟩))) (by kernel_rfl) rfl (by kernel_rfl) (by kernel_rfl) (by kernel_rfl) (fun _ _ _ h => h) ⟨Or.inl ⟨by rfl, ?hy4⟩, fun _ => rfl⟩ hSd ?_
      case hy4 =>
        rintro W' ⟨y9, e9, m9, n9⟩
        go_simp
      try simp only [Act.put, List.getElem_toArray, List.getElem_cons_zero, List.getElem_cons_succ, List.setIfInBounds_toArray, List.set_cons_zero, List.set_cons_succ]
      refine wpAnyHI_take (i := 5) (v := (.int .i64 n)) (by kernel_rfl) rfl (by kernel_rfl) (by kernel_rfl) (by kernel_rfl) (fun _ _ _ h => h) ⟨Or.inl ⟨by rfl, ?hy5⟩, fun _ => rfl⟩ hSd ?_
      case hy5 =>
        rintro W' ⟨y9, e9, m9, n9⟩
        go_simp
      try simp only [Act.put, List.getElem_toArray, List.getElem_cons_zero, List.getElem_cons_succ, List.setIfInBounds_toArray, List.set_cons_zero, List.set_cons_succ]
      refine wpAnyHI_take (i := 6) (v := (.int .i64 ee)) (by kernel_rfl) rfl (by kernel_rfl) (by kernel_rfl) (by kernel_rfl) (fun _ _ _ h => h) ⟨Or.inl ⟨by rfl, ?hy6⟩, fun _ => rfl⟩ hSd ?_
      case hy6 =>
        rintro W' ⟨y9, e9, m9, n9⟩
        go_simp
      try simp only [Act.put, List.getElem_toArray, List.getElem_cons_zero, List.getElem_cons_succ, List.setIfInBounds_toArray, List.set_cons_zero, List.set_cons_succ]
      refine wpAnyHI_take (i := 7) (v := (.int .i64 ((n : Int) - ee))) (by kernel_rfl) rfl (by kernel_rfl) (by kernel_rfl) (by kernel_rfl) (fun _ _ _ h => h) ⟨Or.inl ⟨by rfl, ?hy7⟩, fun _ => rfl⟩ hSd ?_
      case hy7 =>
        rintro W' ⟨y9, e9, m9, n9⟩
        go_simp
      try simp only [Act.put, List.getElem_toArray, List.getElem_cons_zero, List.getElem_cons_succ, List.setIfInBounds_toArray, List.set_cons_zero, List.set_cons_succ]
      refine wpAnyHI_take (i := 8) (v := (.agg #[.int .i64 ee, .int .i64 ((n : Int) - ee)])) (by kernel_rfl) rfl (by kernel_rfl) (by kernel_rfl) (by kernel_rfl) (fun _ _ _ h => h) ⟨Or.inl ⟨by rfl, ?hy8⟩, fun _ => rfl⟩ hSd ?_
      case hy8 =>
        rintro W' ⟨y9, e9, m9, n9⟩
        go_simp
      try simp only [Act.put, List.getElem_toArray, List.getElem_cons_zero, List.getElem_cons_succ, List.setIfInBounds_toArray, List.set_cons_zero, List.set_cons_succ]
      refine wpAnyHI_one (i := 9) (by kernel_rfl) rfl ?_
      intro K' hK
      rw [if_pos (by kernel_rfl)]
      obtain ⟨fn, tmps, assign, body, hy, hR2⟩ := HYY.out (nq + 1)
      have HR2 := Lib.hid hR2
      clear hR2 HYY
      gi_wp2
      refine ⟨rfl, HR2.out.mono ?_⟩
      clear hy HR2
      rintro e w8 (⟨rfl, hJ8, hk8⟩ | ⟨rfl, hJ8, hk8⟩)
      · skip
        have hk9 : Kps (fun b => (b = Bm ∨ b = O ∨ b = g) ∨ To b) V w8 := ((Kps.refl _ V).drewN (nq + 1)).trans hk8
        have k1 := (HC.out.1.kept (hk9.block _ (.inr HC.out.2.2.1) HC.out.1.lt)).cell
        have k2 := (HC.out.2.1.kept (hk9.block _ (.inr HC.out.2.2.2.1) HC.out.2.1.lt)).cell
        have k3 := (HC.out.2.2.2.2.1.kept (hk9.block _ (.inl (.inl rfl)) HC.out.2.2.2.2.1.lt)).cell
        have k4 := (HC.out.2.2.2.2.2.1.keep (hk9.block _ (.inl (.inr (.inl rfl))) HC.out.2.2.2.2.2.1.ltO) (hk9.block _ (.inl (.inr (.inr rfl))) HC.out.2.2.2.2.2.1.ltg)).c1
        have kD : w8.heap[D]? = some (.deferred (some [])) := (hk9.block _ (.inr HV.out.2.2.2.1) hDl).trans HV.out.2.2.2.2
        have kT : ∀ b, To b → b < w8.heap.size := fun b hb => Nat.lt_of_lt_of_le (HV.out.2.2.1 b hb) hk9.size
        refine hK.out _ _ ⟨k1, k2, k3, k4⟩ ?_
        try simp only [Act.put, List.getElem_toArray, List.getElem_cons_zero, List.getElem_cons_succ, List.setIfInBounds_toArray, List.set_cons_zero, List.set_cons_succ]
        refine wpAnyHI_done (by kernel_rfl) ?_ _
        refine NoPanic.normal ?_
        clear hK K' k1 k2 k3 k4 hSd hk8
        gi_wp2
        refine leave1n rfl kD (results_none rfl _ _ _) ⟨⟨_, rfl⟩, .inl ⟨To, ?_, by simpa using kT⟩⟩
        rw [HLN.out]
        exact HJ.out.same (by simp) hJ8 (Frn.putObj _ HV.out.2.2.2.1 _)
      · skip
        have hk9 : Kps (fun b => (b = Bm ∨ b = O ∨ b = g) ∨ To b) V w8 := ((Kps.refl _ V).drewN (nq + 1)).trans hk8
        have k1 := (HC.out.1.kept (hk9.block _ (.inr HC.out.2.2.1) HC.out.1.lt)).cell
        have k2 := (HC.out.2.1.kept (hk9.block _ (.inr HC.out.2.2.2.1) HC.out.2.1.lt)).cell
        have k3 := (HC.out.2.2.2.2.1.kept (hk9.block _ (.inl (.inl rfl)) HC.out.2.2.2.2.1.lt)).cell
        have k4 := (HC.out.2.2.2.2.2.1.keep (hk9.block _ (.inl (.inr (.inl rfl))) HC.out.2.2.2.2.2.1.ltO) (hk9.block _ (.inl (.inr (.inr rfl))) HC.out.2.2.2.2.2.1.ltg)).c1
        have kD : w8.heap[D]? = some (.deferred (some [])) := (hk9.block _ (.inr HV.out.2.2.2.1) hDl).trans HV.out.2.2.2.2
        have kT : ∀ b, To b → b < w8.heap.size := fun b hb => Nat.lt_of_lt_of_le (HV.out.2.2.1 b hb) hk9.size
        refine hK.out _ _ ⟨k1, k2, k3, k4⟩ ?_
        try simp only [Act.put, List.getElem_toArray, List.getElem_cons_zero, List.getElem_cons_succ, List.setIfInBounds_toArray, List.set_cons_zero, List.set_cons_succ]
        refine wpAnyHI_done (by kernel_rfl) ?_ _
        refine NoPanic.normal ?_
        clear hK K' k1 k2 k3 k4 hSd hk8
        gi_wp2
        refine leave1n rfl kD (results_none rfl _ _ _) ⟨⟨_, rfl⟩, .inr ⟨(gapsR rs).length + 1, To, by rw [HLN.out]; omega, by omega, ?_, by simpa using kT⟩⟩
        exact HJX.out.same (by simp) hJ8 (Frn.putObj _ HV.out.2.2.2.1 _)
    · have hgap' : (n : Int) ≤ ee := by omega
      have hln := HL.out.1
      rw [if_neg hgap, Nat.add_zero] at hln
      have HLN := Lib.hid hln
      clear hln
      gi_wp2
      gi_quiet (fail)
      gi_wp2
      refine leave1n rfl HV.out.2.2.2.2 (results_none rfl _ _ _) ⟨⟨_, rfl⟩, .inl ⟨To, ?_, by simpa [World.drewN] using HV.out.2.2.1⟩⟩
      rw [HLN.out]
      exact HJ.out.same (by simp [World.drewN]) HV.out.2.1 (((Frn.refl To V).drewN nq).trans (Frn.putObj _ HV.out.2.2.2.1 _))
  case hstop =>
    rintro D cc k Ti V hk hk1 ⟨rfl, To, x, v1, v2, v3, v4, v5⟩ hTD hTW hkW hD hK
    have HV := Lib.hid (show To D ∧ Jx x To V ∧ (∀ b, To b → b < V.heap.size) ∧ x ≤ (gapsF (bitW ws) n).length ∧ 1 ≤ x from ⟨v1 D hTD, v2, v3, by rwa [encR_len] at v4, v5⟩)
    clear v1 v2 v3 v4 v5 hTD hTW hkW hD hk hk1
    gi_wp2
    refine leave1 rfl hK (results_none rfl _ _ _) ⟨⟨_, rfl⟩, .inr ⟨x, To, HV.out.2.2.2.1, HV.out.2.2.2.2, ?_, by simpa using HV.out.2.2.1⟩⟩
    exact HJX.out.same (by simp) HV.out.2.1 (Frn.putObj _ HV.out.1 _)
end Go.Proofs.YtljegehfdmgcbaaDoor
