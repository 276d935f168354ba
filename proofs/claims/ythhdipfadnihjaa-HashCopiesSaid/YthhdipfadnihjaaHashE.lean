/- The walks of a hash state: Write, Len, Sum, Copy. -/
import Derived.Test.YthhdipfadnihjaaHashD
namespace Go.Proofs.Ythhdipfadnihjaa
open Go Go.RowKit
attribute [local go_sem] Oper.semAt_some

theorem Frn.kps {X T : Nat → Prop} {A B : World} (h : Frn X A B) (hT : ∀ b, T b → ¬ X b) : Kps T A B :=
  ⟨h.os, h.tape, h.output, h.size, fun b hb hl => h.block b hl (hT b hb)⟩
theorem Hd.setRest {W : World} {B : Nat} {t : TypeId} {vs : List (BitVec 64)} {rest : List Value} (h : Hd W B t vs rest) (i j : Nat) (hj : j = vs.length + i) (u : Value) : Hd (W.setCell ⟨B, j, none⟩ u) B t vs (rest.set i u) := by
  subst hj
  unfold Hd at *
  show (W.heap.modify B _)[B]? = _
  rw [Array.getElem?_modify, if_pos rfl, h]
  simp [List.set_append_right]

theorem Frn.putObjR {T : Nat → Prop} {A B : World} (h : Frn T A B) {l : Nat} (hl : T l ∨ A.heap.size ≤ l) (o : Obj) : Frn T A (B.putObj l o) :=
  ⟨h.os, h.tape, h.output, by simpa using h.size, fun b hb hn => (World.putObj_heap_other (fun e => by rcases hl with hl | hl; exact hn (e ▸ hl); omega)).trans (h.block b hb hn)⟩

def foldV (vs : List (BitVec 64)) (ws : List (BitVec 64)) : List (BitVec 64) := ws.foldl takeV vs
theorem foldV_len (vs ws : List (BitVec 64)) : (foldV vs ws).length = vs.length := by
  unfold foldV
  induction ws generalizing vs with
  | nil => rfl
  | cons m ws ih => simp [ih, takeV_len]
theorem foldV_take (vs ws : List (BitVec 64)) (k : Nat) (h : k < ws.length) : foldV vs (ws.take (k + 1)) = takeV (foldV vs (ws.take k)) ws[k] := by
  simp only [foldV, List.take_succ_eq_append_getElem h, List.foldl_append, List.foldl_cons, List.foldl_nil]
def leftB (bs : List (BitVec 8)) : List (BitVec 8) := bs.drop (8 * (bs.length / 8))
theorem leftB_len (bs : List (BitVec 8)) : (leftB bs).length = bs.length % 8 := by simp [leftB]; omega

/-- Behind Write. -/
def Wrote (B : Nat) (vs : List (BitVec 64)) (left : List (BitVec 8)) (many : Nat) (xs : List (BitVec 8)) (w : World) (e : Ending) (w' : World) : Prop :=
  e = .returned (.int .i64 0) ∧ (∃ p cap, HSt w' B (foldV vs (wholeW (left ++ xs))) (leftB (left ++ xs)) (many + xs.length) p cap ∧ ∀ b, inP p cap b → w.heap.size ≤ b) ∧ Frn (fun b => b = B) w w'

set_option maxRecDepth 100000 in
set_option maxHeartbeats 2000000 in
theorem write_any (B : Nat) (vs : List (BitVec 64)) (left : List (BitVec 8)) (many : Nat) (p : Option Addr) (cap : Nat) (q : Option Addr) (capq : Nat) (xs : List (BitVec 8)) (w : World)
    (h : HSt w B vs left many p cap) (hx : RdL w.heap.size w q capq vb xs) (hq : ∀ b, inP q capq b → b ≠ B) (hl : left.length ≤ 100) (hxl : xs.length ≤ 100000) (hm : many ≤ 10000000) :
    Calls Try.prog 34 #[.pointer (some ⟨B, 0, none⟩), .slice q xs.length capq] w (Wrote B vs left many xs w) := by
  have hBl := h.hd.lt
  have bx : Box (w.alloc (.cells #[.pointer (some ⟨B, 0, none⟩)] 71)) w.heap.size 71 (.pointer (some ⟨B, 0, none⟩)) := Box.new _ _ _
  have h1 : HSt (w.alloc (.cells #[.pointer (some ⟨B, 0, none⟩)] 71)) B vs left many p cap := h.below ((Below.refl _ _).alloc (Nat.le_refl _) _)
  have c6 := h1.c6
  have c5 := h1.c5
  have f5 := h1.hd.free 5
  have HH := Lib.hid h1
  have HX := Lib.hid hx
  have HBX := Lib.hid bx
  have HW := Lib.hid h
  clear h h1 hx bx
  refine (callsIn_wide (n := 0)).1 ?_
  refine callsIn_of_wp_marks Try.func34 rfl trivial ?_ rfl
  simp only [Try.ntmps34, List.size_toArray, List.length_cons, List.length_nil, Nat.reduceAdd, Nat.reduceSub, Array.replicate_succ, Array.replicate_zero, List.push_toArray, List.append_toArray, List.nil_append, List.cons_append]
  gi_wp2
  refine wcall (none_made B _ c6) ?_
  rintro e w1 ⟨rfl, rfl⟩
  obtain ⟨wa, hwa⟩ : ∃ wa, w.alloc (Obj.cells #[Value.pointer (some { block := B, off := 0 })] 71) = wa := ⟨_, rfl⟩
  have hA : At w.heap.size w wa := by rw [← hwa]; exact (At.start w).alloc _
  rw [hwa] at HH HBX c5 c6 f5
  rw [hwa]
  have hsz : wa.heap.size = w.heap.size + 1 := by rw [← hwa]; simp
  have cb := HBX.out.cell
  have c4 := HH.out.c4
  have hnb : B ≠ w.heap.size := by omega
  have HA := Lib.hid hA
  clear hwa hA
  gi_wp2
  obtain ⟨wb, hwb⟩ : ∃ wb, (wa.setCell ⟨B, 5, none⟩ (Value.int IntKind.i64 ((many : Int) + (xs.length : Int)))).alloc (Obj.cells #[Value.slice p left.length cap, Value.slice q xs.length capq] 70) = wb := ⟨_, rfl⟩
  have hfb : Frn (fun b => b = B) w wb := by
    rw [← hwb]; exact (((Frn.of_below HA.out.1).trans (Frn.refl (fun b => b = B) wa)).setCell ⟨B, 5, none⟩ (.inl rfl) _).allocR _
  have hab : Frn (fun b => b = B) wa wb := by
    rw [← hwb]; exact ((Frn.refl (fun b => b = B) wa).setCell ⟨B, 5, none⟩ (.inl rfl) _).allocR _
  have hdb : Hd wb B 128 vs [.slice p left.length cap, .int .i64 ((many + xs.length : Nat) : Int), .bool true] := by
    rw [← hwb]
    have := HH.out.hd.setRest 1 5 (by rw [HH.out.len]) (Value.int IntKind.i64 ((many : Int) + (xs.length : Int)))
    exact this.kept (Below.heap_alloc _ _ _ (by simp only [World.size_setCell]; omega))
  have hzb : wb.heap.size = w.heap.size + 2 := by rw [← hwb]; simp; omega
  have hgb : wb.heap[w.heap.size + 1]? = some (.cells #[Value.slice p left.length cap, Value.slice q xs.length capq] 70 (0, 0)) := by
    rw [← hwb]
    have := World.alloc_heap_new (wa.setCell ⟨B, 5, none⟩ (Value.int IntKind.i64 ((many : Int) + (xs.length : Int)))) (Obj.cells #[Value.slice p left.length cap, Value.slice q xs.length capq] 70)
    simpa [hsz] using this
  have hbb : Box wb w.heap.size 71 (.pointer (some ⟨B, 0, none⟩)) := HBX.out.kept (hab.block _ (by omega) (Ne.symm hnb))
  have hlB : RdL wb.heap.size wb p cap vb left := (HH.out.rd.keep (fun a ha h0 => hab.block _ (HH.out.rd.lt ha h0) (HH.out.ne _ ⟨a, ha, rfl, h0⟩))).wide hab.size
  have hxB : RdL wb.heap.size wb q capq vb xs := (HX.out.keep (fun a ha h0 => hfb.block _ (HX.out.lt ha h0) (hq _ ⟨a, ha, rfl, h0⟩))).wide hfb.size
  rw [hwb]
  have hcc := concat2_any (w.heap.size + 1) 2 p q cap capq left xs wb (by simp [World.cell?, hgb]) (by simp [World.cell?, hgb]) hlB hxB (by omega) (by omega)
  obtain ⟨all, hall⟩ : ∃ all, left ++ xs = all := ⟨_, rfl⟩
  have hal : all.length ≤ 200000 := by rw [← hall]; simp; omega
  rw [hall] at hcc
  have HAL := Lib.hid hall
  have HCC := Lib.hid hcc
  have HDB := Lib.hid hdb
  have HFB := Lib.hid hfb
  have HBB := Lib.hid hbb
  clear hcc hdb hfb hab hgb hbb hlB hxB hwb c4 c5 c6 f5 cb
  refine wcall HCC.out ?_
  rintro e w2 ⟨v, rfl, hown, hb2⟩
  have hb2s := hb2.size
  have hd2 : Hd w2 B 128 vs [.slice p left.length cap, .int .i64 ((many + xs.length : Nat) : Int), .bool true] := HDB.out.kept (hb2.block B (by omega))
  have hf2 : Frn (fun b => b = B) w w2 := HFB.out.trans (Frn.of_below hb2)
  have hbx2 := HBB.out.below hb2 HBB.out.lt
  obtain ⟨pa, ca, rfl, hra, hpa⟩ := rdl_of_owns hown
  have HD2 := Lib.hid hd2
  have HF2 := Lib.hid hf2
  have HB2 := Lib.hid hbx2
  have HRA := Lib.hid hra
  clear hd2 hf2 hbx2 hra hown hb2 hall HCC HDB HFB HBB HH HX
  gi_wp2
  refine wcall (wholes_any _ _ _ _) ?_
  rintro e w3 ⟨rfl, rfl⟩
  gi_wp2
  obtain ⟨W0, hW0⟩ : ∃ W0, w2.alloc (Obj.cells #[Value.slice pa all.length ca] 70) = W0 := ⟨_, rfl⟩
  have hb0 : Below w2.heap.size w2 W0 := by rw [← hW0]; exact (Below.refl _ _).alloc (Nat.le_refl _) _
  have hz0 : W0.heap.size = w2.heap.size + 1 := by rw [← hW0]; simp
  have bA : Box W0 w2.heap.size 70 (.slice pa all.length ca) := by rw [← hW0]; exact Box.new _ _ _
  have hd0 : Hd W0 B 128 vs [.slice p left.length cap, .int .i64 ((many + xs.length : Nat) : Int), .bool true] := HD2.out.kept (hb0.block B HD2.out.lt)
  have hbx0 : Box W0 w.heap.size 71 (.pointer (some ⟨B, 0, none⟩)) := HB2.out.below hb0 HB2.out.lt
  have hr0 : RdL W0.heap.size W0 pa ca vb all := HRA.out.on hb0
  have hFPr : ∀ b, (b = w2.heap.size ∨ inP pa ca b) → b < W0.heap.size ∧ b ≠ B := by
    rintro b (rfl | hb)
    · omega
    · refine ⟨hr0.inlt hb, ?_⟩
      obtain ⟨a, ha, rfl, _⟩ := hb
      have := hpa a ha
      omega
  have hwl := wholeW_len all
  have HWL := Lib.hid hwl
  have HD0 := Lib.hid hd0
  have HX0 := Lib.hid hbx0
  have HR0 := Lib.hid hr0
  have HB0 := Lib.hid hb0
  have HVL := Lib.hid HW.out.len
  have hB0 : B < W0.heap.size := by omega
  have hx0 : w.heap.size < W0.heap.size := hbx0.lt
  rw [hW0]
  clear hW0 hwl hd0 hbx0 hr0 hb0 HA HBX HB2 HD2
  refine rf_law (gf := 106) (lb := #[.pointer (some ⟨w2.heap.size, 0, none⟩)]) rfl (enters_of Try.func106 (by kernel_rfl) rfl)
    (wholes1_iter w2.heap.size pa ca all W0 bA.cell HR0.out (by omega)) (by simp) ?hFP
    (fun k T W => Keep (fun b => b = B) W0 T W ∧ Hd W B 128 (foldV vs ((wholeW all).take k)) [.slice p left.length cap, .int .i64 ((many + xs.length : Nat) : Int), .bool true])
    (fun _ _ _ _ => False) ?hJ (fun _ _ _ _ _ h _ => h) ?h0 ?hround ?hdone ?hstop
  case hFP => exact fun b hb => (hFPr b hb).1
  case hJ =>
    rintro k T W W' ⟨h1, h2⟩ hf
    exact ⟨h1.go hf, h2.kept (h1.own hf hB0)⟩
  case h0 => exact ⟨Keep.start _ _, HD0.out⟩
  case hround =>
    rintro l k hk T W ⟨hs, hd⟩ hTl hTW hkW
    have hk' : k < (wholeW all).length := by simpa using hk
    gi_wp2
    refine ⟨Kps.refl _ _, fun W2 hf hsz2 hk2 _ => ?_⟩
    have hs2 := hs.goSame hf hsz2
    have hd2 := hd.kept (hs.own hf hB0)
    have hbx := hs2.box HX0.out (by omega)
    have cb := hbx.cell
    have htk := takes_any B 128 _ _ (wholeW all)[k] W2 hd2 (by rw [foldV_len]; exact HVL.out)
    have HTK := Lib.hid htk
    have HS2 := Lib.hid hs2
    clear hf hkW hk2 hs hd hs2 hd2 hbx htk bA
    gi_wp2
    refine rcall HTK.out ?_
    rintro e W3 ⟨rfl, hd3, hf3⟩
    have HD3 := Lib.hid hd3
    have HF3 := Lib.hid hf3
    clear hd3 hf3 HTK cb
    gi_wp2
    refine ⟨⟨⟨HS2.out.frn.trans HF3.out, HS2.out.old⟩, ?_⟩, HF3.out.kps ?_⟩
    · rw [foldV_take vs _ k hk']; exact HD3.out
    · rintro b (hb | hb) rfl
      · exact (hFPr _ hb).2 rfl
      · exact HS2.out.notT hB0 hb
  case hdone =>
    rintro D T W ⟨hs, hd⟩ hTD hTW hkW hD hK
    rw [List.length_map, List.take_length] at hd
    have hbx := hs.box HX0.out (by omega)
    have cb := hbx.cell
    have HS := Lib.hid hs
    have HD := Lib.hid hd
    have HK := Lib.hid hK
    have hra : RdL W0.heap.size W pa ca vb all := HR0.out.keep (fun a ha h0 => hs.frn.block _ (HR0.out.lt ha h0) (hFPr _ (.inr ⟨a, ha, rfl, h0⟩)).2)
    have HRA2 := Lib.hid hra
    clear hkW hs hd hbx hK hra bA
    have he : IntKind.i64.wrap ((all.length : Int) - (all.length : Int).tmod 8) = ((8 * (all.length / 8) : Nat) : Int) := by
      rw [Int.tmod_eq_emod_of_nonneg (Int.natCast_nonneg _), IntWalk.i64_in _ (by omega)]; omega
    obtain ⟨m, hm⟩ : ∃ m, 8 * (all.length / 8) = m := ⟨_, rfl⟩
    have hle : m ≤ all.length := by omega
    rw [hm] at he
    have HM := Lib.hid hm
    clear hm
    have hcap := HRA2.out.1
    have hcm := HRA2.out.2.1
    unfold maxLen at hcm
    have hm0 : (0 : Int) ≤ (m : Int) := by omega
    have hmc : m ≤ ca := by omega
    have hml : (m : Int) ≤ (all.length : Int) := by omega
    have f4 := HD.out.free 4
    have hfl : (foldV vs (wholeW all)).length = 4 := by rw [foldV_len]; exact HVL.out
    have HFL := Lib.hid hfl
    have c4 : W.cell? ⟨B, 4, none⟩ = some (.slice p left.length cap) := by have := HD.out.rest 0; rw [hfl] at this; exact this
    clear hfl
    by_cases hc : ca = m
    · have hmm := HM.out
      subst hc
      clear hmm
      gi_wp2
      refine wpIn_wide.2 ?_
      go_still_tail 11, (by kernel_rfl)
      go_wp2_with fail
      gi_wp2
      have hDB : D ≠ B := by omega
      have hK2 : (W.setCell ⟨B, 4, none⟩ (Value.slice pa 0 0)).drew.heap[D]? = some (.deferred (some [])) := (Below.heap_setCell W ⟨B, 4, none⟩ _ D hDB).trans HK.out
      have hd2 := (HD.out.setRest 0 4 (by rw [HFL.out]) (Value.slice pa 0 0))
      have hf2 : Frn (fun b => b = B) w ((W.setCell ⟨B, 4, none⟩ (Value.slice pa 0 0)).drew.putObj D (.deferred none)) :=
        ((((HF2.out.trans (Frn.of_below HB0.out)).trans HS.out.frn).setCell ⟨B, 4, none⟩ (.inl rfl) _).drew).putObjR (.inr (by have := HF2.out.size; omega)) _
      refine leave1 rfl hK2 (results_tmp rfl _ _ _) ⟨rfl, ⟨pa, 0, ?_, fun b hb => ?_⟩, hf2⟩
      · rw [HAL.out]
        have hl0 : leftB all = [] := by
          apply List.eq_nil_of_length_eq_zero
          unfold leftB; rw [HM.out]; simp; omega
        rw [hl0]
        refine ⟨?_, HFL.out, ⟨by simp, by simp [maxLen], .inl rfl⟩, fun b hb => ?_⟩
        · exact hd2.kept (World.putObj_heap_other (Ne.symm hDB))
        · obtain ⟨_, _, _, h0⟩ := hb; omega
      · obtain ⟨_, _, _, h0⟩ := hb; omega
    · have hlt : m < ca := by omega
      obtain ⟨g, off, rfl, hg, hcell⟩ := HRA2.out.2.2.resolve_left (by omega)
      have HCE := Lib.hid hcell
      clear hcell
      gi_wp2
      refine wpIn_wide.2 ?_
      go_still_tail 11, (by kernel_rfl)
      go_wp2_with fail
      gi_wp2
      have hDB : D ≠ B := by omega
      have hK2 : (W.setCell ⟨B, 4, none⟩ (Value.slice (some ⟨g, off + m, none⟩) (all.length - m) (ca - m))).drew.heap[D]? = some (.deferred (some [])) := (Below.heap_setCell W ⟨B, 4, none⟩ _ D hDB).trans HK.out
      have hd2 := (HD.out.setRest 0 4 (by rw [HFL.out]) (Value.slice (some ⟨g, off + m, none⟩) (all.length - m) (ca - m)))
      have hf2 : Frn (fun b => b = B) w ((W.setCell ⟨B, 4, none⟩ (Value.slice (some ⟨g, off + m, none⟩) (all.length - m) (ca - m))).drew.putObj D (.deferred none)) :=
        ((((HF2.out.trans (Frn.of_below HB0.out)).trans HS.out.frn).setCell ⟨B, 4, none⟩ (.inl rfl) _).drew).putObjR (.inr (by have := HF2.out.size; omega)) _
      have hgB : g ≠ B := (hFPr g (.inr ⟨_, rfl, rfl, by omega⟩)).2
      refine leave1 rfl hK2 (results_tmp rfl _ _ _) ⟨rfl, ⟨some ⟨g, off + m, none⟩, ca - m, ?_, fun b hb => ?_⟩, hf2⟩
      · rw [HAL.out]
        have hll : (leftB all).length = all.length - m := by unfold leftB; rw [HM.out]; simp
        have hrt := HRA2.out.tail m hle
        refine ⟨?_, HFL.out, ?_, fun b hb => ?_⟩
        · rw [hll]; exact hd2.kept (World.putObj_heap_other (Ne.symm hDB))
        · have e1 : leftB all = all.drop m := by unfold leftB; rw [HM.out]
          rw [e1]
          refine (hrt.keep (fun a ha h0 => ?_)).wide ?_
          · cases ha
            have hgD : g ≠ D := by omega
            exact (World.putObj_heap_other hgD).trans (Below.heap_setCell W ⟨B, 4, none⟩ _ g hgB)
          · have := HS.out.frn.size; simpa using this
        · obtain ⟨a, ha, rfl, _⟩ := hb
          cases ha
          exact hgB
      · obtain ⟨a, ha, rfl, _⟩ := hb
        cases ha
        have : wb.heap.size ≤ g := hpa _ rfl
        show w.heap.size ≤ g
        omega
  case hstop =>
    intro D c k T W _ _ h
    exact h.elim

end Go.Proofs.Ythhdipfadnihjaa
