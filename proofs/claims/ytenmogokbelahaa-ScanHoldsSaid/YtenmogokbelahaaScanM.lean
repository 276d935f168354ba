/- The walks of the statements' own functions: loads, works. -/
import Derived.Test.YtenmogokbelahaaScanL
import Derived.Test.YtenmogokbelahaaQuietR
namespace Go.Proofs.Ytenmogokbelahaa
open Go Go.RowKit
attribute [local go_sem] Oper.semAt_some

def vi (i : Int) : Value := .int .i64 i
theorem seq_nil (k : Nat) (lb : Array Value) (w : World) : (binOp .eql 34 (.func (.func k) #[] lb) .nilFunc).run Try.prog w = .ok (.bool false) w := by
  have e : ∀ d, (Op.equalIn (d + 1) 34 (.func (.func k) #[] lb) .nilFunc).run Try.prog w = .ok false w := fun d => by
    simp [Op.equalIn, run_underlying Try.underlying34]
  have e2 : (Op.equal 34 (.func (.func k) #[] lb) .nilFunc).run Try.prog w = .ok false w := e 9999
  simp [binOp, e2]
set_option maxRecDepth 100000 in
set_option maxHeartbeats 8000000 in
theorem loads10_any (way : Int) (wants : List Int) (p : Option Addr) (cap : Nat) (w : World) (hrd : RdL w.heap.size w p cap vi wants) (hw : (trI way 9#64 rowL 3#64).map (·.1) = wants) (hl : wants.length ≤ 1000) :
    Calls Try.prog 55 #[.int .i64 way, .slice p wants.length cap] w fun e w' => e = .returned (.bool true) ∧ Below w.heap.size w w' := by
  have hit : ∀ k (h : k < (trI way 9#64 rowL 3#64).length), ∃ h2 : k < wants.length, (trI way 9#64 rowL 3#64)[k].1 = wants[k] := by
    intro k h
    subst hw
    exact ⟨by simpa using h, by simp⟩
  have hlen : (trI way 9#64 rowL 3#64).length = wants.length := by rw [← hw]; simp
  have hval : ∀ k (h : k < (trI way 9#64 rowL 3#64).length), (trI way 9#64 rowL 3#64)[k].2 = atW 9#64 rowL (trI way 9#64 rowL 3#64)[k].1 ∧ (trI way 9#64 rowL 3#64)[k].1 < 8 := by
    intro k h
    by_cases hf : FineR way 9#64 rowL
    · have e : trI way 9#64 rowL 3#64 = itemsA 9#64 rowL (ofR way rowL 3#64) := by unfold trI; rw [if_pos hf]
      have h' : k < (itemsA 9#64 rowL (ofR way rowL 3#64)).length := by rw [← e]; exact h
      have e2 : (trI way 9#64 rowL 3#64)[k] = (itemsA 9#64 rowL (ofR way rowL 3#64))[k] := by simp only [e]
      rw [e2, itemsA_get]
      refine ⟨rfl, ?_⟩
      have hok := ofR_ok hf 3#64
      rw [itemsA_len] at h'
      have hd := (stA_lt (left := 9#64) (s := rowL) hok rfl k).2 h'
      have := (wants_in (stA_ok 9#64 rowL hok k).1 hd).2
      rw [(stA_ok 9#64 rowL hok k).2.2.1] at this
      exact this
    · have e : trI way 9#64 rowL 3#64 = [] := by unfold trI; rw [if_neg hf]
      rw [e] at h
      exact absurd h (Nat.not_lt_zero _)
  have HIT := Lib.hid (And.intro hit (And.intro hlen hval))
  have HTI := Lib.hid (fun b1 b2 b3 b4 q c W hh => trace1_iter b1 b2 b3 b4 way 9#64 q c rowL 3#64 W hh (by decide))
  have HTR := Lib.hid (fun q W => trace_any way 9#64 (.slice q rowL.length 8) ⟨_, _, _, rfl⟩ 3#64 W)
  obtain ⟨wa, hwa⟩ : ∃ wa, w.alloc (.cells #[.slice p wants.length cap] 43) = wa := ⟨_, rfl⟩
  have hba : Below w.heap.size w wa := by rw [← hwa]; exact (Below.refl _ _).alloc (Nat.le_refl _) _
  have hxa : Box wa w.heap.size 43 (.slice p wants.length cap) := by rw [← hwa]; exact Box.new _ _ _
  have hza : wa.heap.size = w.heap.size + 1 := by rw [← hwa]; simp
  obtain ⟨wb, hwb⟩ : ∃ wb, wa.alloc (.cells #[.bool false] 4) = wb := ⟨_, rfl⟩
  have hbb : Below wa.heap.size wa wb := by rw [← hwb]; exact (Below.refl _ _).alloc (Nat.le_refl _) _
  have hxb : Box wb wa.heap.size 4 (.bool false) := by rw [← hwb]; exact Box.new _ _ _
  have hzb : wb.heap.size = w.heap.size + 2 := by rw [← hwb]; simp [hza]
  have HB : Hid (Below w.heap.size w wb ∧ Box wb w.heap.size 43 (.slice p wants.length cap) ∧ Box wb (w.heap.size + 1) 4 (.bool false) ∧ RdL w.heap.size wb p cap vi wants ∧ wb.heap.size = w.heap.size + 2) :=
    Lib.hid ⟨hba.trans (hbb.mono (by omega)), hxa.below hbb (by omega), by rw [← hza]; exact hxb, hrd.below (hba.trans (hbb.mono (by omega))), hzb⟩
  have HW := Lib.hid (And.intro hwa hwb)
  clear hrd hw hit hlen hval hba hxa hbb hxb hwa hwb hza hzb
  refine (callsIn_wide (n := 0)).1 ?_
  refine callsIn_of_wp_marks Try.func55 rfl trivial ?_ rfl
  simp only [Try.ntmps55, List.size_toArray, List.length_cons, List.length_nil, Nat.reduceAdd, Nat.reduceSub, Array.replicate_succ, Array.replicate_zero, List.push_toArray, List.append_toArray, List.nil_append, List.cons_append]
  refine wpIn_wide.2 ?_
  go_wp2_with fail
  rw [HW.out.1, HW.out.2]
  refine (row_any wb).mono ?_
  rintro e w1 ⟨rfl, hrd1, hb1, hz1⟩
  have HR1 := Lib.hid (And.intro hrd1 (And.intro hb1 hz1))
  clear hrd1 hb1 hz1
  have hnil := seq_nil
  go_wp2_with fail
  refine (HTR.out _ w1).mono ?_
  rintro e w3 ⟨rfl, hw3⟩
  obtain ⟨hT3, hz3, hb3⟩ := trace_box way 9#64 _ 8 rowL 3#64 w1 w3 hw3 HR1.out.1
  obtain ⟨W0, hW0⟩ : ∃ W0, w3.alloc (.cells #[.int .i64 0] 3) = W0 := ⟨_, rfl⟩
  have hb0 : Below w3.heap.size w3 W0 := by rw [← hW0]; exact (Below.refl _ _).alloc (Nat.le_refl _) _
  have hx0 : Box W0 w3.heap.size 3 (.int .i64 0) := by rw [← hW0]; exact Box.new _ _ _
  have hz0 : W0.heap.size = w3.heap.size + 1 := by rw [← hW0]; simp
  have hT0 := hT3.keep (Kps.of_below hb0 hT3.lt)
  have hB0 : Below wb.heap.size wb W0 := HR1.out.2.1.trans ((hb3.mono (by have := HR1.out.2.2; omega)).trans (hb0.mono (by have := HR1.out.2.2; omega)))
  have HI0 := Lib.hid (HTI.out _ _ _ _ _ _ W0 hT0)
  have HZ := Lib.hid (show w3.heap.size = w.heap.size + 7 ∧ w1.heap.size = w.heap.size + 3 ∧ W0.heap.size = w.heap.size + 8 by have := HR1.out.2.2; have := HB.out.2.2.2.2; omega)
  have H0 : Hid (Below w.heap.size w W0 ∧ Box W0 w.heap.size 43 (.slice p wants.length cap) ∧ Box W0 (w.heap.size + 1) 4 (.bool false) ∧ RdL w.heap.size W0 p cap vi wants ∧ Box W0 w3.heap.size 3 (.int .i64 0) ∧ TrBox W0 w1.heap.size (w1.heap.size + 1) (w1.heap.size + 2) (w1.heap.size + 3) way 9#64 (some ⟨wb.heap.size, 0, none⟩) 8 rowL 3#64) :=
    Lib.hid ⟨HB.out.1.trans (hB0.mono (by have := HB.out.2.2.2.2; omega)), HB.out.2.1.below hB0 (by have := HB.out.2.2.2.2; omega), HB.out.2.2.1.below hB0 (by have := HB.out.2.2.2.2; omega), HB.out.2.2.2.1.keep (fun a ha h0 => hB0.block _ (by have := HB.out.2.2.2.1.lt ha h0; have := HB.out.2.2.2.2; omega)), hx0, hT0⟩
  have HW0 := Lib.hid hW0
  clear hw3 hT3 hz3 hb3 hW0 hb0 hx0 hz0 hT0 hB0
  go_wp2_with fail
  rw [HW0.out]
  clear hnil
  have HFP : Hid (∀ b, TrFP w1.heap.size (w1.heap.size + 1) (w1.heap.size + 2) (w1.heap.size + 3) (some ⟨wb.heap.size, 0, none⟩) 8 b → b ≠ w3.heap.size ∧ b < W0.heap.size) := Lib.hid fun b hb => ⟨by
      have h1 := HZ.out
      have h2 := HR1.out.2.2
      rcases hb with rfl | rfl | rfl | rfl | ⟨a, ha, hb, -⟩
      · omega
      · omega
      · omega
      · omega
      · cases ha
        simp only at hb
        omega, H0.out.2.2.2.2.2.lt b hb⟩
  refine (wpIn_wide (n := 0)).1 ?_
  refine rf_law (gf := 58) (lb := #[.pointer (some ⟨w1.heap.size, 0, none⟩), .pointer (some ⟨w1.heap.size + 1, 0, none⟩), .pointer (some ⟨w1.heap.size + 2, 0, none⟩), .pointer (some ⟨w1.heap.size + 3, 0, none⟩)]) rfl (enters_of Try.func58 (by kernel_rfl) rfl)
    HI0.out (by intro x hx; obtain ⟨y, _, rfl⟩ := List.mem_map.1 hx; rfl) ?hFP
    (fun k T V => Keep (fun b => b = w3.heap.size) W0 T V ∧ Box V w3.heap.size 3 (vi k)) (fun _ _ _ _ => False) ?hJ ?hJx ?h0 ?hround ?hdone ?hstop
  case hFP => exact fun b hb => (HFP.out b hb).2
  case hJ =>
    rintro k T V V' ⟨h1, h2⟩ hf
    exact ⟨h1.go hf, h2.kept (h1.own hf (by have := HZ.out; omega))⟩
  case hJx =>
    intro cc' k T V V' h hf
    exact h
  case h0 => exact ⟨Keep.start _ _, H0.out.2.2.2.2.1⟩
  case hround =>
    rintro l' k hk T V ⟨hs, hbox⟩ hTl hTW hkW
    rw [encT_len] at hk
    obtain ⟨hk2, hx1⟩ := HIT.out.1 k hk
    obtain ⟨hx2, hx3⟩ := HIT.out.2.2 k hk
    rw [encT_get]
    obtain ⟨it, hit⟩ : ∃ it, (trI way 9#64 rowL 3#64)[k] = it := ⟨_, rfl⟩
    rw [hit] at hx1 hx2 hx3 ⊢
    obtain ⟨x, v⟩ := it
    simp only at hx1 hx2 hx3 ⊢
    have HK := Lib.hid (And.intro hs (And.intro hbox (And.intro hTW (And.intro hx1 (And.intro hx2 hx3)))))
    clear hs hbox hTl hTW hkW hx1 hx2 hx3 hit
    gi_wp2
    refine ⟨Kps.refl _ _, fun W2 hf hsz2 hkk2 _ => ?_⟩
    have hs2 := HK.out.1.goSame hf hsz2
    have hbox2 := HK.out.2.1.kept (HK.out.1.own hf (by have := HZ.out; omega))
    have hcw := (hs2.box H0.out.2.1 (by show ¬ (w.heap.size = w3.heap.size); have := HZ.out; omega)).cell
    have hcn : W2.cell? ⟨w3.heap.size, 0, none⟩ = some (.int .i64 (k : Int)) := hbox2.cell
    have hfz := hbox2.free
    obtain ⟨ob, off, hpo, hob, hcx⟩ := (H0.out.2.2.2.1.keep (w' := W2) (fun a ha h0 => hs2.frn.block _ (by have := H0.out.2.2.2.1.lt ha h0; have := HZ.out; omega) (by have := H0.out.2.2.2.1.lt ha h0; have := HZ.out; show ¬ (a.block = w3.heap.size); omega))).at k hk2
    rw [hpo] at hcw
    rw [← HK.out.2.2.2.1] at hcx
    unfold vi at hcx
    have hk3 : (k : Int) < (wants.length : Int) := by omega
    have hk4 : (k : Int) ≤ 1000 := by omega
    have hle5 : decide (wants.length ≤ k) = false := decide_eq_false (by omega)
    have HATT := Lib.hid (fun q W (hrd : RdL W.heap.size W q 8 vw rowL) => refAt_any 9#64 q 8 rowL x W hrd HK.out.2.2.2.2.2)
    rw [← HK.out.2.2.2.2.1] at HATT
    have hnf : Hid (¬ TrFP w1.heap.size (w1.heap.size + 1) (w1.heap.size + 2) (w1.heap.size + 3) (some ⟨wb.heap.size, 0, none⟩) 8 w3.heap.size ∧ ¬ T w3.heap.size) := Lib.hid ⟨fun h => (HFP.out _ h).1 rfl, hs2.notT (by have := HZ.out; omega)⟩
    have HS2 := Lib.hid (And.intro hs2 (And.intro hbox2 (show ∀ b, T b → b < W2.heap.size from fun b hb => by rw [hsz2]; exact HK.out.2.2.1 b hb)))
    have hobl : ob < W2.heap.size := by have := hs2.frn.size; have := HZ.out; omega
    clear hf hsz2 hkk2 hs2 hbox2 hpo
    gi_wp2
    refine rcall (row_any W2) ?_
    rintro e w5 ⟨rfl, hrd5, hb5, -⟩
    have hcn5 := (hb5.cell (p := ⟨w3.heap.size, 0, none⟩) HS2.out.2.1.lt).trans hcn
    have hfz5 : w5.frozen? ⟨w3.heap.size, 0, none⟩ = false := (HS2.out.2.1.below hb5 HS2.out.2.1.lt).free
    have H5 := Lib.hid (And.intro hrd5 hb5)
    clear hrd5 hb5 hcn hcw hcx hfz hobl hob
    gi_wp2
    refine rcall (HATT.out _ w5 H5.out.1) ?_
    rintro e w6 ⟨rfl, rfl⟩
    gi_wp2
    refine ⟨⟨(HS2.out.1.below H5.out.2).set ⟨w3.heap.size, 0, none⟩ (.inl rfl) _, ?_⟩, ?_⟩
    · have := (HS2.out.2.1.below H5.out.2 HS2.out.2.1.lt).set (vi ((k + 1 : Nat) : Int))
      exact this
    · exact (Kps.of_below H5.out.2 (fun b hb => hb.elim (fun hb => Nat.lt_of_lt_of_le (HFP.out b hb).2 HS2.out.1.frn.size) (HS2.out.2.2 b))).trans (kps_set ⟨w3.heap.size, 0, none⟩ hnf.out.1 hnf.out.2 _)
  case hdone =>
    rintro D T V ⟨hs, hbox⟩ hTD hTW hkW hD hK
    rw [encT_len, HIT.out.2.1] at hbox
    have hcn : V.cell? ⟨w3.heap.size, 0, none⟩ = some (.int .i64 (wants.length : Int)) := hbox.cell
    have hcw := (hs.box H0.out.2.1 (by show ¬ (w.heap.size = w3.heap.size); have := HZ.out; omega)).cell
    have hrb := hs.box H0.out.2.2.1 (by show ¬ (w.heap.size + 1 = w3.heap.size); have := HZ.out; omega)
    have a3 := hrb.cell
    have a4 := hrb.free
    have hbel : Below w.heap.size w V := H0.out.1.trans (hs.frn.below (by have := HZ.out; omega) (by rintro b rfl; have := HZ.out; omega))
    have HV := Lib.hid (And.intro hrb (And.intro hbel (And.intro hK (show w.heap.size + 1 < D by have := HZ.out; omega))))
    clear hs hbox hTD hTW hkW hD hK hrb hbel HI0
    gi_wp2
    go_wp2_with fail
    obtain ⟨hrb, hbel, hK, hD⟩ := HV.out
    have hb9 := hrb.set (.bool true)
    have hc9 := (hb9.kept (World.putObj_heap_other (o := .deferred none) (show w.heap.size + 1 ≠ D by omega))).cell
    refine leave1 rfl ((Below.heap_setCell V ⟨w.heap.size + 1, 0, none⟩ _ D (by show D ≠ w.heap.size + 1; omega)).trans hK) (results_cell1 rfl _ _ rfl (v := .bool true) (by simp [go_sem, hc9])) ⟨rfl, ?_⟩
    exact below_putObj (hbel.setCell (p := ⟨w.heap.size + 1, 0, none⟩) (Nat.le_succ _) _) (by omega) _
  case hstop =>
    intro D c' k T V _ _ h
    exact h.elim
end Go.Proofs.Ytenmogokbelahaa
