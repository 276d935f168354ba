/- The walk of plan.Order. -/
import Derived.Test.YtaflbfmlajbjcaaPlanD
import Derived.Sort.CutIn
namespace Go.Proofs.Ytaflbfmlajbjcaa
open Go Go.RowKit
attribute [local go_sem] Oper.semAt_some

theorem order_fin {n D : Nat} {w V : World} {q : Option Addr} {d : Nat} {zs : List Act3} {u0 u1 : Value} (h0 : Box V n 75 u0) (h1 : Box V (n + 1) 27 u1) (hK : V.heap[D]? = some (.deferred (some []))) (hD : n + 2 ≤ D)
    (ho : OwnA V q d zs) (hq : ∀ b, inP q d b → n + 2 ≤ b ∧ b ≠ D) (hb : Below n w V) (s v : Value) :
    ((V.setCell ⟨n, 0, none⟩ s).setCell ⟨n + 1, 0, none⟩ v).heap[D]? = some (.deferred (some [])) ∧
    (((V.setCell ⟨n, 0, none⟩ s).setCell ⟨n + 1, 0, none⟩ v).putObj D (.deferred none)).cell? ⟨n, 0, none⟩ = some s ∧
    (((V.setCell ⟨n, 0, none⟩ s).setCell ⟨n + 1, 0, none⟩ v).putObj D (.deferred none)).cell? ⟨n + 1, 0, none⟩ = some v ∧
    OwnA (((V.setCell ⟨n, 0, none⟩ s).setCell ⟨n + 1, 0, none⟩ v).putObj D (.deferred none)) q d zs ∧
    Below n w (((V.setCell ⟨n, 0, none⟩ s).setCell ⟨n + 1, 0, none⟩ v).putObj D (.deferred none)) := by
  have g0 : Box ((V.setCell ⟨n, 0, none⟩ s).setCell ⟨n + 1, 0, none⟩ v) n 75 s := (h0.set s).kept (heap_setCell_other _ ⟨n + 1, 0, none⟩ _ _ (by simp))
  have g1 : Box ((V.setCell ⟨n, 0, none⟩ s).setCell ⟨n + 1, 0, none⟩ v) (n + 1) 27 v := (h1.kept (heap_setCell_other _ ⟨n, 0, none⟩ _ _ (by simp))).set v
  have hoth : ∀ b, b ≠ n → b ≠ n + 1 → ((V.setCell ⟨n, 0, none⟩ s).setCell ⟨n + 1, 0, none⟩ v).heap[b]? = V.heap[b]? := fun b e0 e1 => (heap_setCell_other _ ⟨n + 1, 0, none⟩ _ _ e1).trans (heap_setCell_other _ ⟨n, 0, none⟩ _ _ e0)
  refine ⟨(hoth D (by omega) (by omega)).trans hK, (cell_putObj (by omega) 0).trans g0.cell, (cell_putObj (by omega) 0).trans g1.cell, ?_, ?_⟩
  · exact ho.keep fun b hi => by
      have := hq b hi
      exact (World.putObj_heap_other (by omega)).trans (hoth b (by omega) (by omega))
  · exact below_putObj (Below.setCell (p := ⟨n + 1, 0, none⟩) (Below.setCell (p := ⟨n, 0, none⟩) hb (Nat.le_refl _) _) (Nat.le_succ _) _) (by omega) _

set_option maxRecDepth 100000 in
set_option maxHeartbeats 8000000 in
theorem order_any (p : Option Addr) (cap : Nat) (ys : List Put2) (w : World) (hrd : RdS w.heap.size w p cap 2 pc2 ys) (hn : ys.length ≤ 100000) (hx : ∀ x ∈ ys, x.1 ≤ 9223372036854775807) :
    Calls Try.prog 41 #[.slice p ys.length cap] w (RetO ys w) := by
  obtain ⟨wa, hwa⟩ : ∃ wa, ((w.alloc (.cells #[.slice none 0 0] 75)).alloc (.cells #[.int .i64 0] 27)).alloc (.cells #[.slice none 0 0, .int .i64 (-1)] 124) = wa := ⟨_, rfl⟩
  have hza : wa.heap.size = w.heap.size + 3 := by rw [← hwa]; simp
  have hba : Below w.heap.size w wa := by rw [← hwa]; exact (((Below.refl _ _).alloc (Nat.le_refl _) _).alloc (by simp) _).alloc (by simp only [World.size_alloc]; omega) _
  have hc0 : Box wa w.heap.size 75 (.slice none 0 0) := by
    rw [← hwa]; exact ((Box.new _ _ _).alloc _).alloc _
  have hc1 : Box wa (w.heap.size + 1) 27 (.int .i64 0) := by
    have := Box.new (w.alloc (.cells #[.slice none 0 0] 75)) 27 (.int .i64 0)
    rw [World.size_alloc] at this
    rw [← hwa]; exact this.alloc _
  have hc2 : wa.heap[w.heap.size + 2]? = some (.cells #[.slice none 0 0, .int .i64 (-1)] 124 (0, 0)) := by
    have := World.alloc_heap_new ((w.alloc (.cells #[.slice none 0 0] 75)).alloc (.cells #[.int .i64 0] 27)) (.cells #[.slice none 0 0, .int .i64 (-1)] 124)
    rw [World.size_alloc, World.size_alloc] at this
    rw [← hwa]; exact this
  obtain ⟨W0, hW0⟩ : ∃ W0, wa.alloc (.cells #[.slice p ys.length cap] 83) = W0 := ⟨_, rfl⟩
  have hal : Below wa.heap.size wa W0 := by rw [← hW0]; exact (Below.refl _ _).alloc (Nat.le_refl _) _
  have hz0 : W0.heap.size = w.heap.size + 4 := by rw [← hW0]; simp [hza]
  have hB1 : W0.cell? ⟨w.heap.size + 3, 0, none⟩ = some (.slice p ys.length cap) := by
    rw [← hW0, ← hza]; exact cell_new_l _ _ _
  have hrd0 : RdS W0.heap.size W0 p cap 2 pc2 ys := (hrd.kept (hba.trans (hal.mono (by omega)))).wide (by omega)
  have hpl : ∀ b, inP p cap b → b < w.heap.size := fun b hb => hrd.inlt hb
  have hg0 : GU W0.heap.size (fun _ => False) W0 (w.heap.size + 2) none 0 (goA (ys.take 0)).1 (goA (ys.take 0)).2 :=
    ⟨(hal.block _ (by omega)).trans hc2, OwnG.nil _ _ _ _ _, by rintro b ⟨a, ha, _⟩; cases ha⟩
  have HBA := Lib.hid (hba.trans (hal.mono (by omega)))
  have HC0 := Lib.hid (hc0.below hal hc0.lt)
  have HC1 := Lib.hid (hc1.below hal hc1.lt)
  have HG0 := Lib.hid hg0
  have HX := Lib.hid hx
  have HPL := Lib.hid hpl
  have HWA := Lib.hid hwa
  have HW0 := Lib.hid hW0
  clear hrd hx hwa hba hc0 hc1 hc2 hW0 hal hpl hg0
  refine (callsIn_wide (n := 0)).1 ?_
  refine callsIn_of_wp_marks Try.func41 rfl trivial ?_ rfl
  simp only [Try.ntmps41, List.size_toArray, List.length_cons, List.length_nil, Nat.reduceAdd, Nat.reduceSub, Array.replicate_succ, Array.replicate_zero, List.push_toArray, List.append_toArray, List.nil_append, List.cons_append]
  gi_wp2
  rw [HWA.out, show w.heap.size + 1 + 1 = w.heap.size + 2 from rfl]
  refine wcall (valuesP_any _ _ _ _) ?_
  rintro e w' ⟨rfl, hw'⟩
  rw [HW0.out] at hw'
  subst hw'
  rw [hza]
  gi_wp2
  refine rf_law (gf := 90) (lb := #[.pointer (some ⟨w.heap.size + 3, 0, none⟩)]) rfl (enters_of Try.func90 (by kernel_rfl) rfl)
    (valuesP1_iter (w.heap.size + 3) p cap ys W0 hB1 hrd0) (by intro x hx; obtain ⟨y, _, rfl⟩ := List.mem_map.1 hx; rfl) ?hFP
    (fun k T W => Keep (fun b => b = w.heap.size + 2) W0 T W ∧ (∃ q d, GU W0.heap.size T W (w.heap.size + 2) q d (goA (ys.take k)).1 (goA (ys.take k)).2) ∧ badP (ys.take k) = false)
    (fun c k T W => c = .ret ∧ Keep (fun b => b = w.heap.size + 2 ∨ b = w.heap.size ∨ b = w.heap.size + 1) W0 T W ∧ Box W w.heap.size 75 (.slice none 0 0) ∧ Box W (w.heap.size + 1) 27 (.int .i64 2) ∧ badP ys = true)
    ?hJ ?hJx ?h0 ?hround ?hdone ?hstop
  case hFP =>
    rintro b (rfl | hb)
    · omega
    · have := HPL.out b hb; omega
  case hJ =>
    rintro k T W W' ⟨h1, ⟨q, d, h2⟩, h3⟩ hf
    exact ⟨h1.go hf, ⟨q, d, h2.go (h1.notT (by omega)) hf⟩, h3⟩
  case hJx =>
    rintro c k T W W' ⟨h0, h1, h2, h3, h4⟩ hf
    exact ⟨h0, h1.go hf, h2.kept (h1.own hf (by omega)), h3.kept (h1.own hf (by omega)), h4⟩
  case h0 => exact ⟨Keep.start _ _, ⟨none, 0, HG0.out⟩, rfl⟩
  case hround =>
    rintro l k hk T W ⟨hs, ⟨q, d, hgu⟩, hbad⟩ hTl hTW hkW
    have hk' : k < ys.length := by simpa using hk
    have hget : (ys.map fun y => #[pv2 y])[k] = #[.agg #[.int .i64 ys[k].1, vw ys[k].2]] := by simp [pv2]
    rw [hget]
    have hmax := HX.out ys[k] (List.getElem_mem hk')
    have hstep : goA (ys.take (k + 1)) = stepA (goA (ys.take k)) ys[k] := by rw [List.take_succ_eq_append_getElem hk', goA_snoc]
    have hbn : ys[k].1 < 0 → badP ys = true := badP_at hk'
    have hbs : 0 ≤ ys[k].1 → badP (ys.take (k + 1)) = false := badP_step hk' hbad
    have hgl := goA_len (ys.take k)
    rw [List.length_take] at hgl
    obtain ⟨s, hs0⟩ : ∃ s, goA (ys.take k) = s := ⟨_, rfl⟩
    obtain ⟨y, hy⟩ : ∃ y, ys[k] = y := ⟨_, rfl⟩
    rw [hs0] at hgu hstep hgl
    rw [hy] at hmax hstep hbn hbs ⊢
    obtain ⟨G, ln⟩ := s
    obtain ⟨x1, x2⟩ := y
    simp only at hgu hmax hbn hbs hgl
    have HST := Lib.hid hstep
    have HBN := Lib.hid hbn
    have HBS := Lib.hid hbs
    clear hstep hbn hbs hget hs0 hy hbad
    gi_wp2
    have hWa : Kps (fun b => (b = w.heap.size + 3 ∨ inP p cap b) ∨ T b) W (W.alloc (.cells #[.int .i64 x1, vw x2] 85)) := (Kps.refl _ _).alloc _
    refine ⟨hWa, fun W2 hf hsz hk2 _ => ?_⟩
    have hs2 := (hs.alloc (.cells #[.int .i64 x1, vw x2] 85)).goSame hf hsz
    have hszW : W0.heap.size ≤ W.heap.size := hkW.size
    have hW2 : ∀ b, b ≤ W.heap.size → ¬ T b → W2.heap[b]? = (W.alloc (.cells #[.int .i64 x1, vw x2] 85)).heap[b]? := fun b hb hn => hf.block b (by simp; omega) hn
    have hnT : ¬ T (w.heap.size + 2) := hs.notT (by omega)
    have hx2 : W2.heap[W.heap.size]? = some (.cells #[.int .i64 x1, vw x2] 85 (0, 0)) := (hW2 _ (Nat.le_refl _) (fun ht => Nat.lt_irrefl _ (hTW _ ht))).trans (World.alloc_heap_new W _)
    have hgs : GS W2 (w.heap.size + 2) W.heap.size (.cells #[.int .i64 x1, vw x2] 85 (0, 0)) q d W2 q d G ln := by
      refine ⟨(hW2 _ (by omega) hnT).trans ((Below.heap_alloc _ _ _ (by omega)).trans hgu.hp), hgu.own.keep fun b hb => (hW2 b (Nat.le_of_lt (hgu.own.lt hb)) (hgu.hb b hb).2).trans (Below.heap_alloc _ _ _ (hgu.own.lt hb)), Frn.refl _ _, fun b hb => .inl hb, hx2, by rw [hsz]; simp; omega, by rw [hsz]; simp, by omega, fun hi => by have := (hgu.hb _ hi).1; omega, fun hi => by have := hgu.own.lt hi; omega⟩
    have hTW2 : ∀ b, T b → b < W2.heap.size := fun b hb => by rw [hsz]; have := hTW b hb; simp; omega
    have fin : ∀ (V : World) (q' : Option Addr) (d' : Nat) (G' : List Act3) (ln' : Int), GS W2 (w.heap.size + 2) W.heap.size (.cells #[.int .i64 x1, vw x2] 85 (0, 0)) q d V q' d' G' ln' → stepA (G, ln) (x1, x2) = (G', ln') → 0 ≤ x1 →
        (Keep (fun b => b = w.heap.size + 2) W0 T V ∧ (∃ q d, GU W0.heap.size T V (w.heap.size + 2) q d (goA (ys.take (k + 1))).1 (goA (ys.take (k + 1))).2) ∧ badP (ys.take (k + 1)) = false) ∧ Kps (fun b => (b = w.heap.size + 3 ∨ inP p cap b) ∨ T b) W2 V := by
      intro V q' d' G' ln' h hst hx0
      obtain ⟨e1, e2, e3⟩ := h.end hs2 rfl hTW2 hgu.hb (fun b => b = w.heap.size + 3 ∨ inP p cap b) (by
        rintro b (rfl | hb)
        · omega
        · have := HPL.out b hb; omega) hnT
      rw [HST.out, hst]
      exact ⟨⟨e1, ⟨q', d', e2⟩, by have := HBS.out hx0; exact this⟩, e3⟩
    have hkps : ∀ b, b = w.heap.size ∨ b = w.heap.size + 1 → ¬ ((b = w.heap.size + 3 ∨ inP p cap b) ∨ T b) := by
      rintro b hb ((h | h) | h)
      · omega
      · have := HPL.out b h; omega
      · have := hs.old b h; omega
    have hr0 : Box W2 w.heap.size 75 (.slice none 0 0) := hs2.box HC0.out (by omega)
    have hr1 : Box W2 (w.heap.size + 1) 27 (.int .i64 0) := hs2.box HC1.out (by omega)
    have HS2 := Lib.hid hs2
    have HGS := Lib.hid hgs
    have HKP := Lib.hid hkps
    have FIN := Lib.hid fin
    have HR := Lib.hid (And.intro hr0 hr1)
    have m0 := pair_c0 hx2
    have m1 := pair_c1 hx2
    have u0 := pair_c0 hgs.hp
    have u1 := pair_c1 hgs.hp
    have uf := pair_fr hgs.hp
    have rc0 := hr0.cell
    have rc1 := hr1.cell
    have rf0 := hr0.free
    have rf1 := hr1.free
    have HLN := Lib.hid (show G.length < 900000 by omega)
    clear hf hkW hk2 hs hs2 hgu hW2 hx2 hWa hgs hkps fin hsz hr0 hr1 hgl
    by_cases hneg : x1 < 0
    · gi_wp2
      refine ⟨⟨rfl, ?_, ?_, ?_, HBN.out hneg⟩, ?_⟩
      · exact Keep.set (Keep.set ⟨⟨HS2.out.frn.os, HS2.out.frn.tape, HS2.out.frn.output, HS2.out.frn.size, fun b hb hn => HS2.out.frn.block b hb (fun e => hn (.inl e))⟩, HS2.out.old⟩ ⟨w.heap.size, 0, none⟩ (.inl (.inr (.inl rfl))) _) ⟨w.heap.size + 1, 0, none⟩ (.inl (.inr (.inr rfl))) _
      · exact (HR.out.1.set (.slice none 0 0)).kept (heap_setCell_other _ ⟨w.heap.size + 1, 0, none⟩ _ _ (by simp))
      · exact (HR.out.2.kept (heap_setCell_other _ ⟨w.heap.size, 0, none⟩ _ _ (by simp))).set (.int .i64 2)
      · exact Kps.setCell (Kps.setCell (Kps.refl _ _) ⟨w.heap.size, 0, none⟩ (HKP.out _ (.inl rfl)) _) ⟨w.heap.size + 1, 0, none⟩ (HKP.out _ (.inr rfl)) _
    · have hnn : 0 ≤ x1 := by omega
      clear HBN HKP HR rc0 rc1 rf0 rf1 hneg
      by_cases heq : x1 / 8 = ln
      · subst heq
        have heb : (x1 / 8 != x1 / 8) = false := by simp
        gi_wp2_with (
            gi_at_builtin
            refine wpListIn_appG rfl (.tmp 33) (.tmp 39) _ rfl elem_acts (by decide) ac3_len ac3_one q d G [(1, x1, x2)] rfl (HGS.out.own.below ((Below.refl _ _).alloc (Nat.le_refl _) _)) _ 1 1 rfl rfl 79 (0, 0) (World.alloc_heap_new W2 _) (by simp) ⟨by have := HLN.out; omega, by simp⟩ ?_
            intro p9 c9 w9 happ
            have HE := Lib.hid (HGS.out.app ((Below.refl _ W2).alloc (Nat.le_refl _) _) happ)
            have hat9 := HGS.out.at ((Below.refl _ W2).alloc (Nat.le_refl _) _) happ
            have l0 := pair_c0 hat9.1
            have l1 := pair_c1 hat9.1
            have lf := pair_fr hat9.1
            rw [show (G ++ [((1 : Int), x1, x2)]).length = G.length + 1 from by simp [shutA]] at HE
            skip
            clear happ hat9)
        exact FIN.out _ _ _ _ _ HE.out (by simp [stepA, lnP]) hnn
      · have heb : (x1 / 8 != ln) = true := by simp [heq]
        by_cases hl : 0 ≤ ln
        · have HCL := Lib.hid (closed_any q d G ln W2 HGS.out.own (by have := HLN.out; omega))
          gi_wp2_with fail
          refine rcall HCL.out ?_
          rintro e w3 ⟨q3, d3, rfl, happ3⟩
          have hat3 := HGS.out.at (Below.refl _ _) happ3
          have HG3 := Lib.hid ((HGS.out.app (Below.refl _ _) happ3).line (x1 / 8))
          have a0 := pair_c0 hat3.1
          have a1 := pair_c1 hat3.1
          have af := pair_fr hat3.1
          have b0 := pair_c0 hat3.2
          have b1 := pair_c1 hat3.2
          have hlen3 : (G ++ shutA ln).length = G.length + 2 := by simp [shutA]
          rw [hlen3] at HG3
          obtain ⟨W3, hW3⟩ : ∃ W3, (w3.setCell ⟨w.heap.size + 2, 0, none⟩ (.slice q3 (G.length + 2) d3)).setCell ⟨w.heap.size + 2, 1, none⟩ (.int .i64 (x1 / 8)) = W3 := ⟨_, rfl⟩
          rw [hW3] at HG3
          have HW3 := Lib.hid hW3
          clear happ3 hat3 u0 u1 uf m0 m1 hW3
          gi_upto_region 11 with fail
          rw [HW3.out]
          have u0 := pair_c0 HG3.out.hp
          have u1 := pair_c1 HG3.out.hp
          have uf := pair_fr HG3.out.hp
          have m0 := pair_c0 HG3.out.hx
          have m1 := pair_c1 HG3.out.hx
          rw [hlen3] at u0
          clear a0 a1 af b0 b1
          gi_wp2_with (
              gi_at_builtin
              refine wpListIn_appG rfl (.tmp 33) (.tmp 39) _ rfl elem_acts (by decide) ac3_len ac3_one q3 d3 (G ++ shutA ln) [(1, x1, x2)] (by rw [hlen3]; rfl) (HG3.out.own.below ((Below.refl _ _).alloc (Nat.le_refl _) _)) _ 1 1 rfl rfl 79 (0, 0) (World.alloc_heap_new W3 _) (by simp) ⟨by have := HLN.out; rw [hlen3]; omega, by simp⟩ ?_
              intro p9 c9 w9 happ
              have HE := Lib.hid (HG3.out.app ((Below.refl _ W3).alloc (Nat.le_refl _) _) happ)
              have hat9 := HG3.out.at ((Below.refl _ W3).alloc (Nat.le_refl _) _) happ
              have l0 := pair_c0 hat9.1
              have l1 := pair_c1 hat9.1
              have lf := pair_fr hat9.1
              rw [show ((G ++ shutA ln) ++ [((1 : Int), x1, x2)]).length = (G.length + 2) + 1 from by simp [shutA]] at HE
              rw [hlen3] at l0
              clear happ hat9)
          exact FIN.out _ _ _ _ _ HE.out (by simp [stepA, lnP, heq, hl]) hnn
        · have HG3 := Lib.hid (HGS.out.line (x1 / 8))
          obtain ⟨W3, hW3⟩ : ∃ W3, W2.setCell ⟨w.heap.size + 2, 1, none⟩ (.int .i64 (x1 / 8)) = W3 := ⟨_, rfl⟩
          rw [hW3] at HG3
          have HW3 := Lib.hid hW3
          clear hW3
          gi_upto_region 11 with fail
          rw [HW3.out]
          clear u0 u1 uf m0 m1
          have u0 := pair_c0 HG3.out.hp
          have u1 := pair_c1 HG3.out.hp
          have uf := pair_fr HG3.out.hp
          have m0 := pair_c0 HG3.out.hx
          have m1 := pair_c1 HG3.out.hx
          gi_wp2_with (
              gi_at_builtin
              refine wpListIn_appG rfl (.tmp 33) (.tmp 39) _ rfl elem_acts (by decide) ac3_len ac3_one q d G [(1, x1, x2)] rfl (HG3.out.own.below ((Below.refl _ _).alloc (Nat.le_refl _) _)) _ 1 1 rfl rfl 79 (0, 0) (World.alloc_heap_new W3 _) (by simp) ⟨by have := HLN.out; omega, by simp⟩ ?_
              intro p9 c9 w9 happ
              have HE := Lib.hid (HG3.out.app ((Below.refl _ W3).alloc (Nat.le_refl _) _) happ)
              have hat9 := HG3.out.at ((Below.refl _ W3).alloc (Nat.le_refl _) _) happ
              have l0 := pair_c0 hat9.1
              have l1 := pair_c1 hat9.1
              have lf := pair_fr hat9.1
              rw [show (G ++ [((1 : Int), x1, x2)]).length = G.length + 1 from by simp [shutA]] at HE
              skip
              clear happ hat9)
          have hfin := FIN.out _ _ _ _ _ HE.out (by unfold stepA lnP; simp only; rw [if_neg (fun h => by have := h.2; omega)]) hnn
          rw [hz0] at hfin
          exact hfin
  case hdone =>
    rintro D T W ⟨hs, ⟨q, d, hgu⟩, hbad⟩ hTD hTW hkW hD hK
    rw [List.length_map, List.take_length] at hgu hbad
    have hline := goA_line hbad
    have hgl := goA_len ys
    have hD0 : w.heap.size + 4 ≤ D := by omega
    have HORD := Lib.hid (show ordA ys = endA (goA ys) ∧ noA ys = 0 from ⟨by unfold ordA; rw [hbad]; rfl, by unfold noA; rw [hbad]; rfl⟩)
    obtain ⟨s, hs0⟩ : ∃ s, goA ys = s := ⟨_, rfl⟩
    rw [hs0] at hgu hline hgl HORD
    obtain ⟨G, ln⟩ := s
    simp only at hgu hline hgl
    have hr0 : Box W w.heap.size 75 (.slice none 0 0) := hs.box HC0.out (by omega)
    have hr1 : Box W (w.heap.size + 1) 27 (.int .i64 0) := hs.box HC1.out (by omega)
    have HWB := Lib.hid (show Below w.heap.size w W from HBA.out.trans (hs.frn.below (by omega) (by rintro b rfl; omega)))
    have hszW : W0.heap.size ≤ W.heap.size := hkW.size
    have HGU := Lib.hid hgu
    have u0 := pair_c0 hgu.hp
    have u1 := pair_c1 hgu.hp
    have uf := pair_fr hgu.hp
    have HQ := Lib.hid (show ∀ b, inP q d b → W0.heap.size ≤ b ∧ b ≠ D from fun b hb => ⟨(hgu.hb b hb).1, fun e => (hgu.hb b hb).2 (e ▸ hTD)⟩)
    have HDD := Lib.hid hD0
    by_cases hl : 0 ≤ ln
    · have HCL := Lib.hid (closed_any q d G ln W hgu.own (by omega))
      have hE : endA (G, ln) = G ++ shutA ln := by unfold endA; rw [if_pos hl]
      rw [hE] at HORD
      have HK := Lib.hid hK
      have HR := Lib.hid (And.intro hr0 hr1)
      clear hs hgu hbad hTD hTW hkW hD hK hr0 hr1 hs0 hE hgl hline
      gi_wp2_with fail
      refine wcall HCL.out ?_
      rintro e w3 ⟨q3, d3, rfl, happ3⟩
      have hn3 : ∀ b, b < W0.heap.size → b < W.heap.size → w3.heap[b]? = W.heap[b]? := fun b hb hl => happ3.2.1.block b hl (fun hi => by have := (HQ.out b hi).1; omega)
      have hU3 := (hn3 (w.heap.size + 2) (by omega) (by omega)).trans HGU.out.hp
      have g0 : Box w3 w.heap.size 75 (.slice none 0 0) := HR.out.1.kept (hn3 _ (by omega) (by omega))
      have g1 : Box w3 (w.heap.size + 1) 27 (.int .i64 0) := HR.out.2.kept (hn3 _ (by omega) (by omega))
      have hDl := (Array.getElem?_eq_some_iff.1 HK.out).1
      have gK := (happ3.2.1.block D hDl (fun hi => (HQ.out D hi).2 rfl)).trans HK.out
      have gq : ∀ b, inP q3 d3 b → w.heap.size + 3 ≤ b ∧ b ≠ D := fun b hi => by
        rcases happ3.2.2 b hi with h' | h'
        · have := HQ.out b h'; exact ⟨by omega, this.2⟩
        · exact ⟨by omega, by omega⟩
      have gB : Below w.heap.size w w3 := HWB.out.trans (happ3.2.1.below (by omega) (fun b hi => by have := (HQ.out b hi).1; omega))
      have a0 := pair_c0 hU3
      have a1 := pair_c1 hU3
      have af := pair_fr hU3
      have b0 := g0.cell
      have b1 := g1.cell
      have bf0 := g0.free
      have bf1 := g1.free
      have FN := Lib.hid (order_fin (n := w.heap.size) (w := w) (V := w3.setCell ⟨w.heap.size + 2, 0, none⟩ (.slice q3 (G.length + 2) d3)) (q := q3) (d := d3) (zs := G ++ shutA ln)
        (g0.kept (heap_setCell_other _ ⟨w.heap.size + 2, 0, none⟩ _ _ (by simp))) (g1.kept (heap_setCell_other _ ⟨w.heap.size + 2, 0, none⟩ _ _ (by simp))) ((heap_setCell_other _ ⟨w.heap.size + 2, 0, none⟩ _ _ (by simp only; omega)).trans gK) (by omega)
        (happ3.1.keep fun b hi => heap_setCell_other _ ⟨w.heap.size + 2, 0, none⟩ _ _ (by have := (gq b hi).1; simp only; omega)) (fun b hi => ⟨by have := (gq b hi).1; omega, (gq b hi).2⟩) (Below.setCell (p := ⟨w.heap.size + 2, 0, none⟩) gB (by simp only; omega) _) (.slice q3 (G.length + 2) d3) (.int .i64 0))
      have GQ := Lib.hid gq
      clear happ3 hn3 hU3 g0 g1 gK gq gB u0 u1 uf
      gi_wp2
      obtain ⟨f1, f2, f3, f4, f5⟩ := FN.out
      refine leave1 (v := .tuple #[.slice q3 (G.length + 2) d3, .int .i64 0]) rfl f1 (by simp [results, Try.results41, go_sem, f2, f3]) ?_
      refine ⟨q3, d3, ?_, ?_, fun b hi => by have := (GQ.out b hi).1; omega, f5⟩
      · rw [HORD.out.1, HORD.out.2]; simp [shutA]
      · rw [HORD.out.1]; exact f4
    · have hE : endA (G, ln) = G := by unfold endA; rw [if_neg hl]
      rw [hE] at HORD
      have FN := Lib.hid (order_fin (n := w.heap.size) (w := w) (V := W) (q := q) (d := d) (zs := G) hr0 hr1 hK (by omega) hgu.own (fun b hi => ⟨by have := (HQ.out b hi).1; omega, (HQ.out b hi).2⟩) HWB.out (.slice q G.length d) (.int .i64 0))
      have b0 := hr0.cell
      have b1 := hr1.cell
      have bf0 := hr0.free
      have bf1 := hr1.free
      clear hs hgu hbad hTD hTW hkW hD hK hr0 hr1 hs0 hE hgl hline
      gi_wp2
      obtain ⟨f1, f2, f3, f4, f5⟩ := FN.out
      refine leave1 (v := .tuple #[.slice q G.length d, .int .i64 0]) rfl f1 (by simp [results, Try.results41, go_sem, f2, f3]) ?_
      refine ⟨q, d, ?_, ?_, fun b hi => by have := (HQ.out b hi).1; omega, f5⟩
      · rw [HORD.out.1, HORD.out.2]
      · rw [HORD.out.1]; exact f4
  case hstop =>
    rintro D c k T W hk hk1 ⟨rfl, hs, hr0, hr1, hbd⟩ hTD hTW hkW hD hK
    have hb := HBA.out.trans (hs.frn.below (by omega) (by rintro b (rfl | rfl | rfl) <;> omega))
    have e0 : D ≠ w.heap.size := by omega
    have e1 : D ≠ w.heap.size + 1 := by omega
    have c0 := (cell_putObj (W := W) (o := .deferred none) e0 0).trans hr0.cell
    have c1 := (cell_putObj (W := W) (o := .deferred none) e1 0).trans hr1.cell
    have HS := Lib.hid hs
    have HBD := Lib.hid hbd
    have HB := Lib.hid hb
    clear hs hbd hb hr0 hr1
    gi_wp2
    refine leave1 (v := .tuple #[.slice none 0 0, .int .i64 2]) rfl hK (by simp [results, Try.results41, go_sem, c0, c1]) ?_
    refine ⟨none, 0, ?_, ?_, (by rintro b ⟨a, ha, _⟩; cases ha), ?_⟩
    · unfold ordA noA; rw [HBD.out]; rfl
    · unfold ordA; rw [HBD.out]; exact OwnG.nil _ _ _ _ _
    · exact below_putObj HB.out (by omega) _
end Go.Proofs.Ytaflbfmlajbjcaa
