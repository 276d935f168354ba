/- The law's walk over the open lines. -/
import Derived.Test.YtaflbfmlajbjcaaPmemI
namespace Go.Proofs.Ytaflbfmlajbjcaa
open Go Go.RowKit
attribute [local go_sem] Oper.semAt_some

/-- What a loop has gathered, in a variable's block O. -/
def GathG {α : Type} (t e : TypeId) (c : Nat) (enc : α → List Value) (n : Nat) (T : Nat → Prop) (W : World) (O : Nat) (ys : List α) : Prop :=
  ∃ p cap, W.heap[O]? = some (.cells #[.slice p ys.length cap] t (0, 0)) ∧ OwnG e c enc W p cap ys ∧ (∀ b, inP p cap b → n ≤ b ∧ ¬ T b)
theorem GathG.go {α : Type} {t e : TypeId} {c : Nat} {enc : α → List Value} {n : Nat} {T : Nat → Prop} {W W' : World} {O : Nat} {ys : List α} (h : GathG t e c enc n T W O ys) (hO : ¬ T O) (hf : Frn T W W') : GathG t e c enc n (grow T W W') W' O ys := by
  obtain ⟨p, cap, h1, h2, h3⟩ := h
  refine ⟨p, cap, (hf.block O (Array.getElem?_eq_some_iff.1 h1).1 hO).trans h1, h2.keep fun b hb => hf.block b (h2.lt hb) (h3 b hb).2, fun b hb => ⟨(h3 b hb).1, ?_⟩⟩
  rintro (ht | ht)
  · exact (h3 b hb).2 ht
  · have := h2.lt hb; have := ht.1; omega
def ei (n : Nat) : List Value := [.int .i64 (n : Int)]
theorem ei_len (n : Nat) : (ei n).length = 1 := rfl
theorem ei_one (n : Nat) : ∀ u ∈ ei n, u.oneCell' = true := by
  intro u hu
  rw [ei, List.mem_singleton] at hu
  subst hu; rfl
theorem elem_ints : ElemIs Try.prog 39 3 (.int .i64 0) 1 8 := ⟨by kernel_rfl, by kernel_rfl, rfl, by decide⟩
theorem seq_nil (W : World) (k : Nat) : (binOp .eql 42 (.func (.func 52) #[] #[.pointer (some ⟨k, 0, none⟩)]) .nilFunc).run Try.prog W = .ok (.bool false) W := by kernel_rfl
theorem opens_lt (m : Mem) (k : Nat) : (opensT m k).length ≤ k := by
  have := List.length_filter_le (isOpen m) (List.range k)
  simpa [opensT] using this
set_option maxRecDepth 100000 in
set_option maxHeartbeats 4000000 in
theorem opens7_any {O : Nat} {m : Mem} {N : Nat → Prop} (w : World) (h : MAt w O m N) (hN : ∀ x, N x → x < w.heap.size) :
    Calls Try.prog 31 #[.pointer (some ⟨O, 0, none⟩)] w fun e w' => ∃ p cap, e = .returned (.slice p m.opens.length cap) ∧ OwnG 3 1 ei w' p cap m.opens ∧ (∀ b, inP p cap b → w.heap.size ≤ b) ∧ Below w.heap.size w w' := by
  have hfn := seq_nil
  have hol : m.opens.length ≤ 20000 := by
    obtain ⟨p1, c1, p2, c2, b, n, hr⟩ := h
    have := opens_lt m m.length
    rw [← opens_T] at this
    have := hr.len
    have := hr.le
    omega
  obtain ⟨wb, hwb⟩ : ∃ wb, w.alloc (.cells #[.slice none 0 0] 39) = wb := ⟨_, rfl⟩
  have hzb : wb.heap.size = w.heap.size + 1 := by rw [← hwb]; simp
  have hbb : Below w.heap.size w wb := by rw [← hwb]; exact (Below.refl _ _).alloc (Nat.le_refl _) _
  have hc0 : wb.heap[w.heap.size]? = some (.cells #[.slice none 0 0] 39 (0, 0)) := by rw [← hwb]; exact World.alloc_heap_new w _
  obtain ⟨W0, hW0⟩ : ∃ W0, wb.alloc (.cells #[.pointer (some ⟨O, 0, none⟩)] 26) = W0 := ⟨_, rfl⟩
  have hb0 : Below wb.heap.size wb W0 := by rw [← hW0]; exact (Below.refl _ _).alloc (Nat.le_refl _) _
  have hz0 : W0.heap.size = w.heap.size + 2 := by rw [← hW0]; simp [hzb]
  have hbx : Box W0 (w.heap.size + 1) 26 (.pointer (some ⟨O, 0, none⟩)) := by rw [← hW0, ← hzb]; exact Box.new _ _ _
  have hs : Calls Try.prog 18 #[.pointer (some ⟨O, 0, none⟩)] wb fun e w' => e = .returned (.func (.func 52) #[] #[.pointer (some ⟨w.heap.size + 1, 0, none⟩)]) ∧ W0 = w' := by
    have := openS_any (some ⟨O, 0, none⟩) wb
    rw [hzb, hW0] at this
    exact this
  have hbw : Below w.heap.size w W0 := hbb.trans (hb0.mono (by omega))
  have hm0 : MAt W0 O m N := h.below hbw
  have hN0 : ∀ x, N x → x < W0.heap.size := fun x hx => by have := hN x hx; omega
  have hg0 : GathG 39 3 1 ei W0.heap.size (fun _ => False) W0 w.heap.size [] :=
    ⟨none, 0, (hb0.block _ (by omega)).trans hc0, OwnG.nil _ _ _ _ _, by rintro b ⟨a, ha, _⟩; cases ha⟩
  have HS := Lib.hid hs
  have HWB := Lib.hid hwb
  have HB0 := Lib.hid (And.intro hbw hz0)
  have HN := Lib.hid hN
  have HM := Lib.hid (And.intro hbx (And.intro hm0 hN0))
  clear h hbb hc0 hwb hs hb0 hbx hm0 hN0 hW0 hbw hN
  refine (callsIn_wide (n := 0)).1 ?_
  refine callsIn_of_wp_marks Try.func31 rfl trivial ?_ rfl
  simp only [Try.ntmps31, List.size_toArray, List.length_cons, List.length_nil, Nat.reduceAdd, Nat.reduceSub, Array.replicate_succ, Array.replicate_zero, List.push_toArray, List.append_toArray, List.nil_append, List.cons_append]
  gi_wp2
  rw [HWB.out]
  refine wcall HS.out ?_
  rintro e w0 ⟨rfl, rfl⟩
  gi_wp2
  refine rf_law (gf := 52) (lb := #[.pointer (some ⟨w.heap.size + 1, 0, none⟩)]) rfl (enters_of Try.func52 (by kernel_rfl) rfl)
    (open1_iter (w.heap.size + 1) W0 HM.out.1 HM.out.2.1 HM.out.2.2) (by intro x hx; obtain ⟨i, hi, rfl⟩ := List.mem_iff_getElem.1 hx; rw [encI_get]; rfl) ?hFP
    (fun k T W => Keep (fun b => b = w.heap.size) W0 T W ∧ GathG 39 3 1 ei W0.heap.size T W w.heap.size (m.opens.take k))
    (fun _ _ _ _ => False) ?hJ (fun _ _ _ _ _ h _ => h) ?h0 ?hround ?hdone ?hstop
  case hFP =>
    rintro b (rfl | hb)
    · exact HM.out.1.lt
    · exact HM.out.2.2 b hb
  case hJ =>
    rintro k T W W' ⟨h1, h2⟩ hf
    exact ⟨h1.go hf, h2.go (h1.notT (by omega)) hf⟩
  case h0 => exact ⟨Keep.start _ _, hg0⟩
  case hround =>
    rintro l k hk T W ⟨hs, hgt⟩ hTl hTW hkW
    have hk' : k < m.opens.length := by simpa [encI] using hk
    have hts : m.opens.take (k + 1) = m.opens.take k ++ [m.opens[k]] := List.take_succ_eq_append_getElem hk'
    have htl : (m.opens.take k).length = k := by rw [List.length_take]; omega
    rw [encI_get]
    obtain ⟨y, hy⟩ : ∃ y, m.opens[k] = y := ⟨_, rfl⟩
    rw [hy] at hts ⊢
    have HTS := Lib.hid hts
    have HTL := Lib.hid htl
    clear hts hy htl
    gi_wp2
    refine ⟨Kps.refl _ _, fun W2 hf hsz hk2 _ => ?_⟩
    have hs2 := hs.goSame hf hsz
    have hszW : W0.heap.size ≤ W.heap.size := hkW.size
    have hnT : ¬ T w.heap.size := hs.notT (by omega)
    have hgt2 : GathG 39 3 1 ei W0.heap.size T W2 w.heap.size (m.opens.take k) := by
      have := hgt.go hnT hf
      rwa [grow_same hsz] at this
    obtain ⟨p, cap, hgo2, hgw2, hgb⟩ := hgt2
    rw [HTL.out] at hgo2
    have hco : W2.cell? ⟨w.heap.size, 0, none⟩ = some (.slice p k cap) := by simp [World.cell?, hgo2]
    have hfo : W2.frozen? ⟨w.heap.size, 0, none⟩ = false := by simp [World.frozen?, hgo2]
    have HS2 := Lib.hid hs2
    have HGW := Lib.hid hgw2
    have HGO := Lib.hid hgo2
    have HGB := Lib.hid hgb
    have HNT := Lib.hid hnT
    have hkk : k ≤ 100000 := by omega
    have hlW : W0.heap.size ≤ W2.heap.size := by rw [hsz]; exact hszW
    have HTW := Lib.hid (show ∀ b, T b → b < W2.heap.size from fun b hb => by rw [hsz]; exact hTW b hb)
    clear hf hkW hk2 hs hs2 hgt hgw2 hgb hgo2 hg0 hsz hTW
    gi_wp2_with (
      gi_at_builtin
      refine wpListIn_appG rfl (.tmp 13) (.tmp 15) _ rfl elem_ints (by decide) ei_len ei_one p cap (m.opens.take k) [y] (by rw [HTL.out]; rfl) (HGW.out.below ((Below.refl _ _).alloc (Nat.le_refl _) _)) _ 1 1 rfl rfl 3 (0, 0) (World.alloc_heap_new W2 _) (Nat.succ_pos _) ⟨by rw [HTL.out]; omega, by simp⟩ ?_
      rw [HTL.out]
      intro p2 cap2 w3 happ
      obtain ⟨hown, hf3, hq3⟩ := happ
      have hf4 : Frn (inP p cap) W2 w3 := (Frn.alloc _ W2 _).trans hf3
      have hlO : w.heap.size < W2.heap.size := (Array.getElem?_eq_some_iff.1 HGO.out).1
      have hO3 := (hf4.block w.heap.size hlO (fun hi => by have := (HGB.out _ hi).1; omega)).trans HGO.out
      have l0 : w3.cell? ⟨w.heap.size, 0, none⟩ = some (.slice p k cap) := by simp [World.cell?, hO3]
      have l1 : w3.frozen? ⟨w.heap.size, 0, none⟩ = false := by simp [World.frozen?, hO3]
      have HO3 := Lib.hid hO3
      have HP3 := Lib.hid hown
      have HF3 := Lib.hid hf4
      have HQ3 := Lib.hid (show ∀ b, inP p2 cap2 b → inP p cap b ∨ (W2.heap.size ≤ b ∧ b < w3.heap.size) from fun b hb => (hq3 b hb).imp id (fun h => ⟨by have := h.1; simp at this; omega, h.2⟩))
      clear hown hf3 hq3 hf4 hlO hO3)
    have hb2 : ∀ b, inP p2 cap2 b → W0.heap.size ≤ b ∧ ¬ T b := fun b hb => by
      rcases HQ3.out b hb with h | h
      · exact HGB.out b h
      · exact ⟨by omega, fun ht => by have := HTW.out b ht; have := h.1; omega⟩
    refine ⟨⟨Keep.set ⟨⟨HF3.out.os.trans HS2.out.frn.os, HF3.out.tape.trans HS2.out.frn.tape, HF3.out.output.trans HS2.out.frn.output, Nat.le_trans HS2.out.frn.size HF3.out.size, fun b hb hn => (HF3.out.block b (Nat.lt_of_lt_of_le hb hlW) (fun hi => by have := (HGB.out b hi).1; omega)).trans (HS2.out.frn.block b hb hn)⟩, HS2.out.old⟩ ⟨w.heap.size, 0, none⟩ (.inl rfl) _, p2, cap2, ?_, ?_, hb2⟩, ?_⟩
    · have h1 := heap_setCell_same w3 w.heap.size 0 _ _ (.slice p2 (k + 1) cap2) HO3.out
      rw [HTS.out, List.length_append, HTL.out]
      simpa using h1
    · rw [HTS.out]
      exact HP3.out.keep fun b hb => heap_setCell_other _ ⟨w.heap.size, 0, none⟩ b _ (fun e => by have := (hb2 b hb).1; simp only at e; omega)
    · have hk1 : Kps (fun b => (b = w.heap.size + 1 ∨ N b) ∨ T b) W2 w3 := ⟨HF3.out.os, HF3.out.tape, HF3.out.output, HF3.out.size, fun b hb hl => HF3.out.block b hl (fun hi => by
        rcases hb with (rfl | hb) | hb
        · have := (HGB.out _ hi).1; omega
        · have := HM.out.2.2 b hb; have := (HGB.out _ hi).1; omega
        · exact (HGB.out _ hi).2 hb)⟩
      refine hk1.setCell ⟨w.heap.size, 0, none⟩ ?_ _
      rintro ((h | h) | h)
      · simp only at h; omega
      · have := HN.out _ h; simp only at this; omega
      · exact HNT.out h
  case hdone =>
    rintro D T W ⟨hs, hgt⟩ hTD hTW hkW hD hK
    rw [encI_len, List.take_length] at hgt
    obtain ⟨p, cap, hgo, hgw, hgb⟩ := hgt
    have hco : W.cell? ⟨w.heap.size, 0, none⟩ = some (.slice p m.opens.length cap) := by simp [World.cell?, hgo]
    have HSS := Lib.hid hs
    have HGW := Lib.hid hgw
    have HGB := Lib.hid hgb
    have HTD := Lib.hid hTD
    clear hkW hg0 hs hgo hgw hgb
    gi_wp2
    refine leave1 (v := .slice p m.opens.length cap) rfl hK (by simp [results, Try.results31, go_sem]) ⟨p, cap, rfl, ?_, fun b hb => by have := (HGB.out b hb).1; omega, below_putObj ?_ (by omega) _⟩
    · exact HGW.out.keep fun b hb => World.putObj_heap_other (fun e => (HGB.out b hb).2 (by first | (rw [← e]; exact HTD.out) | (rw [e]; exact HTD.out)))
    · exact HB0.out.1.trans (HSS.out.frn.below (by omega) (by rintro b rfl; exact Nat.le_refl _))
  case hstop =>
    intro D c k T W _ _ h
    exact h.elim
end Go.Proofs.Ytaflbfmlajbjcaa
