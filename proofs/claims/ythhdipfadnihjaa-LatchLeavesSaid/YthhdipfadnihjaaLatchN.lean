/- The law's walk over those who wait. -/
import Derived.Test.YthhdipfadnihjaaLatchM
namespace Go.Proofs.Ythhdipfadnihjaa
open Go Go.RowKit
attribute [local go_sem] Oper.semAt_some

theorem wpListIn_appT {F : Fence} {nn : Nat} {w : World} {ops : Array Oper} {rest : List Oper} {o : Oper} {a : Act} {Q : Exit → Act → World → Prop} (hgd : o.guard = none) (s x : Operand) (t : TypeId)
    (hop : o.op = .call { callee := .builtin .append, args := #[s, x], argTypes := #[t, t] }) (he : ElemIs Try.prog t 53 (.agg #[.int .i64 0, .bool false]) 2 16)
    (p : Option Addr) (cap : Nat) (ys : List Turn) (y : Turn) (hs : a.eval s = .slice p ys.length cap) (hown : OwnT w p cap ys)
    (g c : Nat) (hx : a.eval x = .slice (some ⟨g, 0, none⟩) 1 c) (te : TypeId) (fr : Nat × Nat) (hg : w.heap[g]? = some (.cells #[.int .i64 y.1, .bool y.2] te fr)) (hn : ys.length < 1000000)
    (h : ∀ p' cap' w', OwnT w' p' cap' (ys ++ [y]) → Frn (inP p cap) w w' → (∀ b, inP p' cap' b → inP p cap b ∨ (w.heap.size ≤ b ∧ b < w'.heap.size)) → wpListIn F nn Try.prog ops Q rest (a.put o.dst (.slice p' (ys.length + 1) cap')) w') : wpListIn F nn Try.prog ops Q (o :: rest) a w := by
  refine wpListIn_append_ownO hgd s x t hop he p cap ys.length (ys.flatMap tc) hs hown ⟨g, 0, none⟩ 1 c (tc y) hx rfl (news_turn hg) (by have := tc_one [y]; simpa using this) (by decide) (by unfold maxLen; omega) (by omega) ?_
  intro p' cap' w' h2 h3 h4
  exact h p' cap' w' (by unfold OwnT; simpa using h2) h3 h4

/-- What the loop over those who wait has gathered, in a variable's block O. -/
def Gath (n : Nat) (T : Nat → Prop) (W : World) (O : Nat) (ys : List Turn) : Prop :=
  ∃ p cap, W.heap[O]? = some (.cells #[.slice p ys.length cap] 46 (0, 0)) ∧ OwnT W p cap ys ∧ (∀ b, inP p cap b → n ≤ b ∧ ¬ T b)
theorem Gath.go {n : Nat} {T : Nat → Prop} {W W' : World} {O : Nat} {ys : List Turn} (h : Gath n T W O ys) (hO : ¬ T O) (hf : Frn T W W') : Gath n (grow T W W') W' O ys := by
  obtain ⟨p, cap, h1, h2, h3⟩ := h
  refine ⟨p, cap, (hf.block O (Array.getElem?_eq_some_iff.1 h1).1 hO).trans h1, h2.keep fun b hb => hf.block b (h2.lt hb) (h3 b hb).2, fun b hb => ⟨(h3 b hb).1, ?_⟩⟩
  rintro (ht | ht)
  · exact (h3 b hb).2 ht
  · have := h2.lt hb; have := ht.1; omega
theorem func_nil (W : World) (k : Nat) : (binOp .eql 50 (.func (.func 60) #[] #[.pointer (some ⟨k, 0, none⟩)]) .nilFunc).run Try.prog W = .ok (.bool false) W := by kernel_rfl

set_option maxRecDepth 100000 in
set_option maxHeartbeats 4000000 in
theorem wt_any (T0 : Nat → Prop) (L : Nat) (xs ys : List Turn) (w : World) (h : LOwn T0 w L xs ys) (hn : ys.length ≤ 100000) :
    Calls Try.prog 21 #[.pointer (some ⟨L, 0, none⟩)] w fun e w' => ∃ p cap, e = .returned (.tuple #[.slice p ys.length cap, .bool true]) ∧ OwnT w' p cap ys ∧ (∀ b, inP p cap b → w.heap.size ≤ b) ∧ Below w.heap.size w w' := by
  have hfn := func_nil
  obtain ⟨wb, hwb⟩ : ∃ wb, ((w.alloc (.cells #[.slice none 0 0] 46)).alloc (.cells #[.bool false] 4)).alloc (.cells #[.slice none 0 0] 46) = wb := ⟨_, rfl⟩
  have hzb : wb.heap.size = w.heap.size + 3 := by rw [← hwb]; simp
  have hbb : Below w.heap.size w wb := by rw [← hwb]; exact (((Below.refl _ _).alloc (Nat.le_refl _) _).alloc (by simp) _).alloc (by simp only [World.size_alloc]; omega) _
  have hc0 : wb.heap[w.heap.size]? = some (.cells #[.slice none 0 0] 46 (0, 0)) := by
    rw [← hwb]; exact (Below.heap_alloc _ _ _ (by simp only [World.size_alloc]; omega)).trans ((Below.heap_alloc _ _ _ (by simp)).trans (World.alloc_heap_new w _))
  have hc1 : wb.heap[w.heap.size + 1]? = some (.cells #[.bool false] 4 (0, 0)) := by
    have := World.alloc_heap_new (w.alloc (.cells #[.slice none 0 0] 46)) (.cells #[.bool false] 4)
    rw [World.size_alloc] at this
    rw [← hwb]; exact (Below.heap_alloc _ _ _ (by simp only [World.size_alloc]; omega)).trans this
  have hc2 : wb.heap[w.heap.size + 2]? = some (.cells #[.slice none 0 0] 46 (0, 0)) := by
    have := World.alloc_heap_new ((w.alloc (.cells #[.slice none 0 0] 46)).alloc (.cells #[.bool false] 4)) (.cells #[.slice none 0 0] 46)
    rw [World.size_alloc, World.size_alloc] at this
    rw [← hwb]; exact this
  have hwt := waits_any T0 L xs ys wb (h.below hbb) (by omega)
  rw [hzb] at hwt
  have HWT := Lib.hid hwt
  have HWB := Lib.hid hwb
  have HBB := Lib.hid hbb
  have HC := Lib.hid (And.intro hc0 (And.intro hc1 hc2))
  clear h hwt hbb hc0 hc1 hc2 hwb
  refine (callsIn_wide (n := 0)).1 ?_
  refine callsIn_of_wp_marks Try.func21 rfl trivial ?_ rfl
  simp only [Try.ntmps21, List.size_toArray, List.length_cons, List.length_nil, Nat.reduceAdd, Nat.reduceSub, Array.replicate_succ, Array.replicate_zero, List.push_toArray, List.append_toArray, List.nil_append, List.cons_append]
  gi_wp2
  rw [HWB.out, show w.heap.size + 1 + 1 = w.heap.size + 2 from rfl]
  refine wcall HWT.out ?_
  rintro e W0 ⟨rfl, ⟨pw, cw, hbx⟩, hb0⟩
  have hs0 := hb0.size
  have hB1 : W0.cell? ⟨w.heap.size + 3, 0, none⟩ = some (.slice pw ys.length cw) := by simp [World.cell?, hbx.hp]
  have hlb : w.heap.size + 3 < W0.heap.size := (Array.getElem?_eq_some_iff.1 hbx.hp).1
  have hg0 : Gath W0.heap.size (fun _ => False) W0 (w.heap.size + 2) [] :=
    ⟨none, 0, (hb0.block _ (by omega)).trans HC.out.2.2, OwnT.nil _ _, by rintro b ⟨a, ha, _⟩; cases ha⟩
  have HBX := Lib.hid hbx
  have HB0 := Lib.hid hb0
  gi_wp2
  refine rf_law (gf := 60) (lb := #[.pointer (some ⟨w.heap.size + 3, 0, none⟩)]) rfl (enters_of Try.func60 (by kernel_rfl) rfl)
    (waits1_iter (w.heap.size + 3) pw cw ys W0 hB1 hbx.own.rds) (by intro x hx; obtain ⟨i, hi, rfl⟩ := List.mem_iff_getElem.1 hx; rw [encW_get]; rfl) ?hFP
    (fun k T W => Keep (fun b => b = w.heap.size + 2) W0 T W ∧ Gath W0.heap.size T W (w.heap.size + 2) (ys.take k))
    (fun _ _ _ _ => False) ?hJ (fun _ _ _ _ _ h _ => h) ?h0 ?hround ?hdone ?hstop
  case hFP =>
    rintro b (rfl | hb)
    · exact hlb
    · exact HBX.out.own.lt hb
  case hJ =>
    rintro k T W W' ⟨h1, h2⟩ hf
    exact ⟨h1.go hf, h2.go (h1.notT (by omega)) hf⟩
  case h0 => exact ⟨Keep.start _ _, hg0⟩
  case hround =>
    rintro l k hk T W ⟨hs, hgt⟩ hTl hTW hkW
    have hk' : k < ys.length := by simpa [encW] using hk
    have hts : ys.take (k + 1) = ys.take k ++ [ys[k]] := List.take_succ_eq_append_getElem hk'
    have htl : (ys.take k).length = k := by rw [List.length_take]; omega
    rw [encW_get]
    obtain ⟨y, hy⟩ : ∃ y, ys[k] = y := ⟨_, rfl⟩
    rw [hy] at hts ⊢
    obtain ⟨y1, y2⟩ := y
    unfold tv
    have HTS := Lib.hid hts
    have HTL := Lib.hid htl
    clear hts hy htl
    gi_wp2
    have hWa : Kps (fun b => (b = w.heap.size + 3 ∨ inP pw cw b) ∨ T b) W (W.alloc (.cells #[.int .i64 y1, .bool y2] 53)) := (Kps.refl _ _).alloc _
    refine ⟨hWa, fun W2 hf hsz hk2 _ => ?_⟩
    have hs1 := hs.alloc (.cells #[.int .i64 y1, .bool y2] 53)
    have hs2 := hs1.goSame hf hsz
    have hszW : W0.heap.size ≤ W.heap.size := hkW.size
    have hnT : ¬ T (w.heap.size + 2) := hs.notT (by omega)
    have hW2 : ∀ b, b ≤ W.heap.size → ¬ T b → W2.heap[b]? = (W.alloc (.cells #[.int .i64 y1, .bool y2] 53)).heap[b]? := fun b hb hn => hf.block b (by simp; omega) hn
    obtain ⟨p, cap, hgo, hgw, hgb⟩ := hgt
    have hgo2 : W2.heap[w.heap.size + 2]? = some (.cells #[.slice p (ys.take k).length cap] 46 (0, 0)) := (hW2 _ (by omega) hnT).trans ((Below.heap_alloc _ _ _ (by omega)).trans hgo)
    have hgw2 : OwnT W2 p cap (ys.take k) := hgw.keep fun b hb => (hW2 b (Nat.le_of_lt (hgw.lt hb)) (hgb b hb).2).trans (Below.heap_alloc _ _ _ (hgw.lt hb))
    have hx2 : W2.heap[W.heap.size]? = some (.cells #[.int .i64 y1, .bool y2] 53 (0, 0)) := (hW2 _ (Nat.le_refl _) (fun ht => Nat.lt_irrefl _ (hTW _ ht))).trans (World.alloc_heap_new W _)
    rw [HTL.out] at hgo2
    have hco : W2.cell? ⟨w.heap.size + 2, 0, none⟩ = some (.slice p k cap) := by simp [World.cell?, hgo2]
    have hfo : W2.frozen? ⟨w.heap.size + 2, 0, none⟩ = false := by simp [World.frozen?, hgo2]
    have hx0 := pair_c0 hx2
    have hx1 := pair_c1 hx2
    have HS2 := Lib.hid hs2
    have HGW := Lib.hid hgw2
    have HGO := Lib.hid hgo2
    have HGB := Lib.hid hgb
    have HNT := Lib.hid hnT
    have HLN := Lib.hid (show (ys.take k).length < 1000000 by rw [HTL.out]; omega)
    have hkk : k ≤ 100000 := by omega
    have hlW : W.heap.size < W2.heap.size := by rw [hsz]; simp
    clear hf hkW hk2 hs hs1 hs2 hgo hgw hgw2 hgb hgo2 hW2 hx2 hWa hg0 hB1 hbx hb0 hsz
    gi_wp2_with (
      gi_at_builtin
      refine wpListIn_appT rfl (.tmp 19) (.tmp 21) _ rfl elem_turn p cap (ys.take k) (y1, y2) (by rw [HTL.out]; rfl) (HGW.out.below ((Below.refl _ _).alloc (Nat.le_refl _) _)) _ 1 rfl 53 (0, 0) (World.alloc_heap_new W2 _) HLN.out ?_
      rw [HTL.out]
      intro p2 cap2 w3 hown hf3 hq3
      have hf4 : Frn (inP p cap) W2 w3 := (Frn.alloc _ W2 _).trans hf3
      have hlO : w.heap.size + 2 < W2.heap.size := (Array.getElem?_eq_some_iff.1 HGO.out).1
      have hO3 := (hf4.block (w.heap.size + 2) hlO (fun hi => by have := (HGB.out _ hi).1; omega)).trans HGO.out
      have l0 : w3.cell? ⟨w.heap.size + 2, 0, none⟩ = some (.slice p k cap) := by simp [World.cell?, hO3]
      have l1 : w3.frozen? ⟨w.heap.size + 2, 0, none⟩ = false := by simp [World.frozen?, hO3]
      have HO3 := Lib.hid hO3
      have HP3 := Lib.hid hown
      have HF3 := Lib.hid hf4
      have HQ3 := Lib.hid (show ∀ b, inP p2 cap2 b → inP p cap b ∨ (W2.heap.size ≤ b ∧ b < w3.heap.size) from fun b hb => (hq3 b hb).imp id (fun h => ⟨by have := h.1; simp at this; omega, h.2⟩))
      clear hown hf3 hq3 hf4 hlO hO3)
    have hsz3 : W0.heap.size ≤ W2.heap.size := HS2.out.frn.size
    have hb2 : ∀ b, inP p2 cap2 b → W0.heap.size ≤ b ∧ ¬ T b := fun b hb => by
      rcases HQ3.out b hb with h | h
      · exact HGB.out b h
      · exact ⟨by omega, fun ht => by have := hTW b ht; have := h.1; omega⟩
    refine ⟨⟨Keep.set ⟨⟨HF3.out.os.trans HS2.out.frn.os, HF3.out.tape.trans HS2.out.frn.tape, HF3.out.output.trans HS2.out.frn.output, Nat.le_trans HS2.out.frn.size HF3.out.size, fun b hb hn => (HF3.out.block b (Nat.lt_of_lt_of_le hb hsz3) (fun hi => by have := (HGB.out b hi).1; omega)).trans (HS2.out.frn.block b hb hn)⟩, HS2.out.old⟩ ⟨w.heap.size + 2, 0, none⟩ (.inl rfl) _, p2, cap2, ?_, ?_, hb2⟩, ?_⟩
    · have h1 := heap_setCell_same w3 (w.heap.size + 2) 0 _ _ (.slice p2 (k + 1) cap2) HO3.out
      rw [HTS.out, List.length_append, HTL.out]
      simpa using h1
    · rw [HTS.out]
      exact HP3.out.keep fun b hb => heap_setCell_other _ ⟨w.heap.size + 2, 0, none⟩ b _ (fun e => by have := (hb2 b hb).1; simp only at e; omega)
    · have hk1 : Kps (fun b => (b = w.heap.size + 3 ∨ inP pw cw b) ∨ T b) W2 w3 := ⟨HF3.out.os, HF3.out.tape, HF3.out.output, HF3.out.size, fun b hb hl => HF3.out.block b hl (fun hi => by
        rcases hb with (rfl | hb) | hb
        · have := (HGB.out _ hi).1; omega
        · have := HBX.out.own.lt hb; have := (HGB.out _ hi).1; omega
        · exact (HGB.out _ hi).2 hb)⟩
      refine hk1.setCell ⟨w.heap.size + 2, 0, none⟩ ?_ _
      rintro ((h | h) | h)
      · simp only at h; omega
      · have := HBX.out.src _ h; simp only at this; omega
      · exact HNT.out h
  case hdone =>
    rintro D T W ⟨hs, hgt⟩ hTD hTW hkW hD hK
    rw [encW_len, List.take_length] at hgt
    obtain ⟨p, cap, hgo, hgw, hgb⟩ := hgt
    have hco : W.cell? ⟨w.heap.size + 2, 0, none⟩ = some (.slice p ys.length cap) := by simp [World.cell?, hgo]
    have e1 := (hs.frn.block (w.heap.size) (by omega) (by omega)).trans ((HB0.out.block _ (by omega)).trans HC.out.1)
    have e2 := (hs.frn.block (w.heap.size + 1) (by omega) (by omega)).trans ((HB0.out.block _ (by omega)).trans HC.out.2.1)
    have c1 : W.cell? ⟨w.heap.size, 0, none⟩ = some (.slice none 0 0) := by simp [World.cell?, e1]
    have f1 : W.frozen? ⟨w.heap.size, 0, none⟩ = false := by simp [World.frozen?, e1]
    have c2 : W.cell? ⟨w.heap.size + 1, 0, none⟩ = some (.bool false) := by simp [World.cell?, e2]
    have f2 : W.frozen? ⟨w.heap.size + 1, 0, none⟩ = false := by simp [World.frozen?, e2]
    have HS := Lib.hid hs
    have HGW := Lib.hid hgw
    have HGB := Lib.hid hgb
    have E1 := Lib.hid e1
    have E2 := Lib.hid e2
    clear hkW hg0 hB1 hbx hb0 hs hgo hgw hgb e1 e2
    gi_wp2
    have hne1 : D ≠ w.heap.size := by omega
    have hne2 : D ≠ w.heap.size + 1 := by omega
    have d1 := heap_setCell_same W w.heap.size 0 _ _ (.slice p ys.length cap) E1.out
    have d1' := (heap_setCell_other (W.setCell ⟨w.heap.size, 0, none⟩ (.slice p ys.length cap)) ⟨w.heap.size + 1, 0, none⟩ w.heap.size (.bool true) (by simp)).trans d1
    have d2 := heap_setCell_same (W.setCell ⟨w.heap.size, 0, none⟩ (.slice p ys.length cap)) (w.heap.size + 1) 0 _ _ (.bool true) ((heap_setCell_other W ⟨w.heap.size, 0, none⟩ (w.heap.size + 1) (.slice p ys.length cap) (by simp)).trans E2.out)
    have hdd := (heap_setCell_other (W.setCell ⟨w.heap.size, 0, none⟩ (.slice p ys.length cap)) ⟨w.heap.size + 1, 0, none⟩ D (.bool true) hne2).trans ((heap_setCell_other W ⟨w.heap.size, 0, none⟩ D (.slice p ys.length cap) hne1).trans hK)
    have hbel : Below w.heap.size w ((W.setCell ⟨w.heap.size, 0, none⟩ (.slice p ys.length cap)).setCell ⟨w.heap.size + 1, 0, none⟩ (.bool true)) := by
      have hb1 : Below w.heap.size w W0 := HBB.out.trans (HB0.out.mono (by omega))
      have hb2 : Below w.heap.size w W := hb1.trans (HS.out.frn.below (by omega) (by rintro b rfl; omega))
      exact (hb2.setCell (p := ⟨w.heap.size, 0, none⟩) (Nat.le_refl _) _).setCell (p := ⟨w.heap.size + 1, 0, none⟩) (by simp) _
    have hoth : ∀ b, inP p cap b → ((W.setCell ⟨w.heap.size, 0, none⟩ (.slice p ys.length cap)).setCell ⟨w.heap.size + 1, 0, none⟩ (.bool true)).heap[b]? = W.heap[b]? := fun b hb => by
      have := (HGB.out b hb).1
      exact (heap_setCell_other _ ⟨w.heap.size + 1, 0, none⟩ b _ (by simp only; omega)).trans (heap_setCell_other _ ⟨w.heap.size, 0, none⟩ b _ (by simp only; omega))
    clear c1 f1 c2 f2 hco
    generalize (W.setCell ⟨w.heap.size, 0, none⟩ (.slice p ys.length cap)).setCell ⟨w.heap.size + 1, 0, none⟩ (.bool true) = WF at *
    have g1 : (WF.putObj D (.deferred none)).cell? ⟨w.heap.size, 0, none⟩ = some (.slice p ys.length cap) := by rw [cell_putObj hne1]; simp [World.cell?, d1']
    have g2 : (WF.putObj D (.deferred none)).cell? ⟨w.heap.size + 1, 0, none⟩ = some (.bool true) := by rw [cell_putObj hne2]; simp [World.cell?, d2]
    refine leave1 (v := .tuple #[.slice p ys.length cap, .bool true]) rfl hdd (by simp [results, Try.results21, go_sem, g1, g2]) ⟨p, cap, rfl, ?_, fun b hb => by have := (HGB.out b hb).1; omega, below_putObj hbel (by omega) _⟩
    exact HGW.out.keep fun b hb => (World.putObj_heap_other (fun e => (HGB.out b hb).2 (by first | (rw [← e]; exact hTD) | (rw [e]; exact hTD)))).trans (hoth b hb)
  case hstop =>
    intro D c k T W _ _ h
    exact h.elim
end Go.Proofs.Ythhdipfadnihjaa
