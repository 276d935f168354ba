/- The walks of the memory: maps.Clone, Copy. -/
import Derived.Test.YtaflbfmlajbjcaaPmemM
import Derived.Shelf.SlMaps.Clone
namespace Go.Proofs.Ytaflbfmlajbjcaa
open Go Go.RowKit

set_option maxRecDepth 100000 in
set_option maxHeartbeats 2000000 in
theorem cloneQ_any {b : Nat} {f : Nat → Option V8} (w : World) (h : QAt w b f) :
    Calls Try.prog 65 #[.map (some b)] w fun e w' => e = .returned (.map (some w.heap.size)) ∧ QAt w' w.heap.size f ∧ Below w.heap.size w w' ∧ w'.heap.size = w.heap.size + 1 := by
  obtain ⟨es, clk, ⟨hb, hok⟩, hf⟩ := h
  have hq := fun w => Go.Proofs.run_eql_map_nil_sl (P := Try.prog) w 62 3 96 (some b) (by kernel_rfl)
  have hx : ∀ W, W = w → (callFunc 85 #[.iface 62 (.map (some b))]).run Try.prog W = .ok (.value (.iface 62 (.map (some w.heap.size)))) (w.alloc (.map (enr es) clk)) := by
    rintro W rfl
    have hfn : (Try.prog.funcs[85]?).isSome = true := by kernel_rfl
    obtain ⟨fn, hfn⟩ := Option.isSome_iff_exists.1 hfn
    have hname : (Try.prog.funcs[85]?).map (fun fn => fn.name == "runtime.NumGoroutine") = some false := by kernel_rfl
    have hbody : (Try.prog.funcs[85]?).map (fun fn => fn.body.isNone) = some true := by kernel_rfl
    have hnx : (Try.prog.funcs[85]?).map (fun fn => (Extern.findNext fn).isNone) = some true := by kernel_rfl
    rw [hfn] at hname hbody hnx
    simp only [Option.map_some, Option.some.injEq] at hname hbody hnx
    have he : Extern.find fn = some Extern.MapsClone.clone := by
      have h2 : (Try.prog.funcs[85]?).map (fun fn => Extern.find fn) = some (some Extern.MapsClone.clone) := by kernel_rfl
      rw [hfn] at h2
      simpa using h2
    rw [run_callFunc_extern hfn hname hbody (Option.isNone_iff_eq_none.1 hnx) he, Go.Proofs.run_maps_clone_sl W 62 hb]
    rfl
  have hta : ∀ W, (Instr.typeAssert (.iface 62 (.map (some w.heap.size))) 20 62 false).run Try.prog W = .ok (.map (some w.heap.size)) W := fun W =>
    Go.Proofs.run_typeAssert_map_sl W 62 20 3 96 _ (by kernel_rfl)
  have hx := hx w rfl
  have HF := Lib.hid (show QAt (w.alloc (.map (enr es) clk)) w.heap.size f from ⟨es, clk, ⟨World.alloc_heap_new _ _, hok⟩, hf⟩)
  clear hb hok hf
  go_enter Try.func65, Try.ntmps65
  go_wp2_with fail
  go_ret
  exact ⟨rfl, HF.out, (Below.refl _ _).alloc (Nat.le_refl _) _, by simp⟩
/-- A memory of its own. -/
theorem MAt.madeM {V : World} {m : Mem} {pa pc : Option Addr} {ca cc b n base O : Nat} (hn : m.length = n) (h0 : 0 < n) (hm : n ≤ 20000) (hO : V.heap[O]? = some (.cells #[.slice pa n ca, .slice pc n cc, .map (some b)] 64 (0, 0)))
    (h1 : OwnL V pa ca m.nows) (h2 : OwnL V pc cc m.lst) (hq : QAt V b m.qf) (d1 : ∀ x, inP pa ca x → base ≤ x ∧ x ≠ O ∧ x ≠ b ∧ ¬ inP pc cc x) (d2 : ∀ x, inP pc cc x → base ≤ x ∧ x ≠ O ∧ x ≠ b) (d3 : base ≤ b ∧ b ≠ O) (d4 : base ≤ O) :
    MAt V O m (fun x => base ≤ x ∧ x < V.heap.size) := by
  have hOl : O < V.heap.size := (Array.getElem?_eq_some_iff.1 hO).1
  refine ⟨pa, ca, pc, cc, b, n, hn, h0, hm, hO, h1, h2, hq, ⟨d4, hOl⟩, ⟨d3.1, hq.lt⟩, fun x hx => ?_, fun x hx => ?_, Ne.symm d3.2⟩
  · exact ⟨⟨(d1 x hx).1, OwnG.lt h1 hx⟩, (d1 x hx).2⟩
  · exact ⟨⟨(d2 x hx).1, OwnG.lt h2 hx⟩, (d2 x hx).2⟩
set_option maxRecDepth 100000 in
set_option maxHeartbeats 4000000 in
theorem copyM_any {O : Nat} {m : Mem} {N : Nat → Prop} (w : World) (h : MAt w O m N) :
    Calls Try.prog 26 #[.pointer (some ⟨O, 0, none⟩)] w fun e w' => ∃ O', e = .returned (.pointer (some ⟨O', 0, none⟩)) ∧ MAt w' O' m (fun x => w.heap.size ≤ x ∧ x < w'.heap.size) ∧ Below w.heap.size w w' := by
  obtain ⟨p1, c1, p2, c2, b, n, hr⟩ := h
  have hln := hr.len
  have hn0 := hr.pos
  have hnx := hr.le
  have HNN := Lib.hid (noneM_any w hr.cells.1 hn0)
  have HC1 := Lib.hid (show ∀ V, Below w.heap.size w V → Calls Try.prog 46 #[.slice p1 n c1] V fun e w' => ∃ p' c', e = .returned (.slice p' n c') ∧ OwnL w' p' c' m.nows ∧ (∀ b, inP p' c' b → V.heap.size ≤ b) ∧ Below V.heap.size V w' from fun V hV => by
    have hh := cloneL_any p1 c1 m.nows V ((OwnG.below hr.ls hV).rds ec_len) (by rw [nows_len, hln]; exact hn0) (by rw [nows_len, hln]; omega)
    rw [nows_len, hln] at hh
    exact hh)
  have HC2 := Lib.hid (show ∀ V, Below w.heap.size w V → Calls Try.prog 46 #[.slice p2 n c2] V fun e w' => ∃ p' c', e = .returned (.slice p' n c') ∧ OwnL w' p' c' m.lst ∧ (∀ b, inP p' c' b → V.heap.size ≤ b) ∧ Below V.heap.size V w' from fun V hV => by
    have hh := cloneL_any p2 c2 m.lst V ((OwnG.below hr.ll hV).rds ec_len) (by rw [lst_len, hln]; exact hn0) (by rw [lst_len, hln]; omega)
    rw [lst_len, hln] at hh
    exact hh)
  have HC3 := Lib.hid (show ∀ V, Below w.heap.size w V → Calls Try.prog 65 #[.map (some b)] V fun e w' => e = .returned (.map (some V.heap.size)) ∧ QAt w' V.heap.size m.qf ∧ Below V.heap.size V w' ∧ w'.heap.size = V.heap.size + 1 from fun V hV => cloneQ_any V (hr.q.keep (hV.block b hr.q.lt)))
  have hcs : w.drew.cell? ⟨O, 0, none⟩ = some (.slice p1 n c1) ∧ w.drew.cell? ⟨O, 1, none⟩ = some (.slice p2 n c2) ∧ w.drew.cell? ⟨O, 2, none⟩ = some (.map (some b)) := hr.cells
  have HO := Lib.hid hr.lt
  have HL := Lib.hid hln
  clear hr hln
  go_enter Try.func26, Try.ntmps26
  go_wp2_with fail
  refine HNN.out.mono ?_
  rintro e w' ⟨rfl, rfl⟩
  go_wp2_with fail
  refine wp_region_noPanic ?_
  refine wp_region_F 17 (fun w' => w'.cell? ⟨O, 0, none⟩ = some (.slice p1 n c1) ∧ w'.cell? ⟨O, 1, none⟩ = some (.slice p2 n c2) ∧ w'.cell? ⟨O, 2, none⟩ = some (.map (some b))) (by kernel_rfl) ?_ (fun hHeld => ?_)
  · exact hcs
  refine' wpAnyF_takeT (i := 0) (v := _) rfl (by kernel_rfl) (by kernel_rfl) (by kernel_rfl) (by rfl) (fun _ _ _ h => h) (Or.inl ⟨by rfl, ?hy⟩) (fun _ => hHeld) _
  case hy => (intro w0 hSw; (try dsimp only at hSw); simp only [List.getElem_toArray, List.getElem_cons_zero]; go_simp; first | done | with_reducible rfl)
  simp only [Act.put, List.getElem_toArray, List.getElem_cons_zero, List.setIfInBounds_toArray, List.set_cons_zero, List.set_cons_succ]
  refine' wpAnyF_takeT (i := 1) (v := _) rfl (by kernel_rfl) (by kernel_rfl) (by kernel_rfl) (by rfl) (fun _ _ _ h => h) (Or.inl ⟨by rfl, ?hy⟩) (fun _ => hHeld) _
  case hy => (intro w0 hSw; (try dsimp only at hSw); simp only [List.getElem_toArray, List.getElem_cons_zero, List.getElem_cons_succ]; go_simp; first | done | with_reducible rfl)
  simp only [Act.put, List.getElem_toArray, List.getElem_cons_zero, List.getElem_cons_succ, List.setIfInBounds_toArray, List.set_cons_zero, List.set_cons_succ]
  refine' wpAnyF_takeT (i := 2) (v := _) rfl (by kernel_rfl) (by kernel_rfl) (by kernel_rfl) (by rfl) (fun _ _ _ h => h) (Or.inl ⟨by rfl, ?hy⟩) (fun _ => hHeld) _
  case hy => (intro w0 hSw; (try dsimp only at hSw); simp only [List.getElem_toArray, List.getElem_cons_zero, List.getElem_cons_succ]; go_simp; first | done | with_reducible rfl)
  simp only [Act.put, List.getElem_toArray, List.getElem_cons_zero, List.getElem_cons_succ, List.setIfInBounds_toArray, List.set_cons_zero, List.set_cons_succ]
  refine' wpAnyF_take (i := 3) (v := _) rfl (by kernel_rfl) (by kernel_rfl) (by kernel_rfl) (by kernel_rfl) (by rfl) (by kernel_rfl) (fun _ _ _ h => h) (Or.inl ⟨by rfl, ?hy⟩) hHeld _
  case hy => (intro w0 hSw; (try dsimp only at hSw); simp only [List.getElem_toArray, List.getElem_cons_zero, List.getElem_cons_succ]; go_simp; first | done | with_reducible rfl)
  simp only [Act.put, List.getElem_toArray, List.getElem_cons_zero, List.getElem_cons_succ, List.setIfInBounds_toArray, List.set_cons_zero, List.set_cons_succ]
  refine' wpAnyF_takeT (i := 5) (v := _) rfl (by kernel_rfl) (by kernel_rfl) (by kernel_rfl) (by rfl) (fun _ _ _ h => h) (Or.inl ⟨by rfl, ?hy⟩) (fun _ => hHeld) _
  case hy => (intro w0 hSw; (try dsimp only at hSw); simp only [List.getElem_toArray, List.getElem_cons_zero, List.getElem_cons_succ]; go_simp; first | done | with_reducible rfl)
  simp only [Act.put, List.getElem_toArray, List.getElem_cons_zero, List.getElem_cons_succ, List.setIfInBounds_toArray, List.set_cons_zero, List.set_cons_succ]
  refine' wpAnyF_takeT (i := 6) (v := _) rfl (by kernel_rfl) (by kernel_rfl) (by kernel_rfl) (by rfl) (fun _ _ _ h => h) (Or.inl ⟨by rfl, ?hy⟩) (fun _ => hHeld) _
  case hy => (intro w0 hSw; (try dsimp only at hSw); simp only [List.getElem_toArray, List.getElem_cons_zero, List.getElem_cons_succ]; go_simp; first | done | with_reducible rfl)
  simp only [Act.put, List.getElem_toArray, List.getElem_cons_zero, List.getElem_cons_succ, List.setIfInBounds_toArray, List.set_cons_zero, List.set_cons_succ]
  refine' wpAnyF_takeT (i := 7) (v := _) rfl (by kernel_rfl) (by kernel_rfl) (by kernel_rfl) (by rfl) (fun _ _ _ h => h) (Or.inl ⟨by rfl, ?hy⟩) (fun _ => hHeld) _
  case hy => (intro w0 hSw; (try dsimp only at hSw); simp only [List.getElem_toArray, List.getElem_cons_zero, List.getElem_cons_succ]; go_simp; first | done | with_reducible rfl)
  simp only [Act.put, List.getElem_toArray, List.getElem_cons_zero, List.getElem_cons_succ, List.setIfInBounds_toArray, List.set_cons_zero, List.set_cons_succ]
  refine' wpAnyF_take (i := 8) (v := _) rfl (by kernel_rfl) (by kernel_rfl) (by kernel_rfl) (by kernel_rfl) (by rfl) (by kernel_rfl) (fun _ _ _ h => h) (Or.inl ⟨by rfl, ?hy⟩) hHeld _
  case hy => (intro w0 hSw; (try dsimp only at hSw); simp only [List.getElem_toArray, List.getElem_cons_zero, List.getElem_cons_succ]; go_simp; first | done | with_reducible rfl)
  simp only [Act.put, List.getElem_toArray, List.getElem_cons_zero, List.getElem_cons_succ, List.setIfInBounds_toArray, List.set_cons_zero, List.set_cons_succ]
  refine' wpAnyF_takeT (i := 10) (v := _) rfl (by kernel_rfl) (by kernel_rfl) (by kernel_rfl) (by rfl) (fun _ _ _ h => h) (Or.inl ⟨by rfl, ?hy⟩) (fun _ => hHeld) _
  case hy => (intro w0 hSw; (try dsimp only at hSw); simp only [List.getElem_toArray, List.getElem_cons_zero, List.getElem_cons_succ]; go_simp; first | done | with_reducible rfl)
  simp only [Act.put, List.getElem_toArray, List.getElem_cons_zero, List.getElem_cons_succ, List.setIfInBounds_toArray, List.set_cons_zero, List.set_cons_succ]
  refine' wpAnyF_takeT (i := 11) (v := _) rfl (by kernel_rfl) (by kernel_rfl) (by kernel_rfl) (by rfl) (fun _ _ _ h => h) (Or.inl ⟨by rfl, ?hy⟩) (fun _ => hHeld) _
  case hy => (intro w0 hSw; (try dsimp only at hSw); simp only [List.getElem_toArray, List.getElem_cons_zero, List.getElem_cons_succ]; go_simp; first | done | with_reducible rfl)
  simp only [Act.put, List.getElem_toArray, List.getElem_cons_zero, List.getElem_cons_succ, List.setIfInBounds_toArray, List.set_cons_zero, List.set_cons_succ]
  refine' wpAnyF_takeT (i := 12) (v := _) rfl (by kernel_rfl) (by kernel_rfl) (by kernel_rfl) (by rfl) (fun _ _ _ h => h) (Or.inl ⟨by rfl, ?hy⟩) (fun _ => hHeld) _
  case hy => (intro w0 hSw; (try dsimp only at hSw); simp only [List.getElem_toArray, List.getElem_cons_zero, List.getElem_cons_succ]; go_simp; first | done | with_reducible rfl)
  simp only [Act.put, List.getElem_toArray, List.getElem_cons_zero, List.getElem_cons_succ, List.setIfInBounds_toArray, List.set_cons_zero, List.set_cons_succ]
  refine' wpAnyF_take (i := 13) (v := _) rfl (by kernel_rfl) (by kernel_rfl) (by kernel_rfl) (by kernel_rfl) (by rfl) (by kernel_rfl) (fun _ _ _ h => h) (Or.inl ⟨by rfl, ?hy⟩) hHeld _
  case hy => (intro w0 hSw; (try dsimp only at hSw); simp only [List.getElem_toArray, List.getElem_cons_zero, List.getElem_cons_succ]; go_simp; first | done | with_reducible rfl)
  simp only [Act.put, List.getElem_toArray, List.getElem_cons_zero, List.getElem_cons_succ, List.setIfInBounds_toArray, List.set_cons_zero, List.set_cons_succ]
  refine wpAnyF_one (i := 4) (by kernel_rfl) rfl (fun K hK => ?_)
  go_simp
  refine (HC1.out w.drew (Below.refl _ _).drew).mono ?_
  rintro e w1 ⟨pa, ca, rfl, ho1, hp1, hb1⟩
  have H1 := Lib.hid (And.intro ho1 (And.intro hp1 hb1))
  clear ho1 hp1 hb1
  refine hK.out _ _ (fun _ => ?_) ?_
  · exact ⟨(H1.out.2.2.cell (p := ⟨O, 0, none⟩) HO.out).trans hcs.1, (H1.out.2.2.cell (p := ⟨O, 1, none⟩) HO.out).trans hcs.2.1, (H1.out.2.2.cell (p := ⟨O, 2, none⟩) HO.out).trans hcs.2.2⟩
  clear hK K
  try simp only [Act.put, List.getElem_toArray, List.getElem_cons_zero, List.getElem_cons_succ, List.setIfInBounds_toArray, List.set_cons_zero, List.set_cons_succ]
  refine wpAnyF_one (i := 9) (by kernel_rfl) rfl (fun K hK => ?_)
  go_simp
  refine (HC2.out w1 ((Below.refl w.heap.size w).drew.trans H1.out.2.2)).mono ?_
  rintro e w2 ⟨pc, cc, rfl, ho2, hp2, hb2⟩
  have H2 := Lib.hid (And.intro ho2 (And.intro hp2 (And.intro hb2 (H1.out.2.2.trans (hb2.mono H1.out.2.2.size)))))
  clear ho2 hp2 hb2
  refine hK.out _ _ (fun _ => ?_) ?_
  · exact ⟨(H2.out.2.2.2.cell (p := ⟨O, 0, none⟩) HO.out).trans hcs.1, (H2.out.2.2.2.cell (p := ⟨O, 1, none⟩) HO.out).trans hcs.2.1, (H2.out.2.2.2.cell (p := ⟨O, 2, none⟩) HO.out).trans hcs.2.2⟩
  clear hK K
  try simp only [Act.put, List.getElem_toArray, List.getElem_cons_zero, List.getElem_cons_succ, List.setIfInBounds_toArray, List.set_cons_zero, List.set_cons_succ]
  refine wpAnyF_one (i := 14) (by kernel_rfl) rfl (fun K hK => ?_)
  go_simp
  refine (HC3.out w2 ((Below.refl w.heap.size w).drew.trans H2.out.2.2.2)).mono ?_
  rintro e w3 ⟨rfl, ho3, hb3, hz3⟩
  have H3 := Lib.hid (And.intro ho3 (And.intro hb3 (And.intro hz3 (H2.out.2.2.2.trans (hb3.mono H2.out.2.2.2.size)))))
  clear ho3 hb3 hz3
  refine hK.out _ _ (fun _ => ?_) ?_
  · exact ⟨(H3.out.2.2.2.cell (p := ⟨O, 0, none⟩) HO.out).trans hcs.1, (H3.out.2.2.2.cell (p := ⟨O, 1, none⟩) HO.out).trans hcs.2.1, (H3.out.2.2.2.cell (p := ⟨O, 2, none⟩) HO.out).trans hcs.2.2⟩
  clear hK K
  try simp only [Act.put, List.getElem_toArray, List.getElem_cons_zero, List.getElem_cons_succ, List.setIfInBounds_toArray, List.set_cons_zero, List.set_cons_succ]
  refine wpAnyF_one (i := 15) (by kernel_rfl) rfl (fun K hK => ?_)
  go_simp
  refine hK.out _ _ (fun _ => ?_) ?_
  · exact ⟨(H3.out.2.2.2.cell (p := ⟨O, 0, none⟩) HO.out).trans hcs.1, (H3.out.2.2.2.cell (p := ⟨O, 1, none⟩) HO.out).trans hcs.2.1, (H3.out.2.2.2.cell (p := ⟨O, 2, none⟩) HO.out).trans hcs.2.2⟩
  clear hK K
  try simp only [Act.put, List.getElem_toArray, List.getElem_cons_zero, List.getElem_cons_succ, List.setIfInBounds_toArray, List.set_cons_zero, List.set_cons_succ]
  refine wpAnyF_one (i := 16) (by kernel_rfl) rfl (fun K hK => ?_)
  go_simp
  refine hK.out _ _ (fun _ => ?_) ?_
  · exact ⟨((H3.out.2.2.2.alloc H3.out.2.2.2.size _).cell (p := ⟨O, 0, none⟩) HO.out).trans hcs.1, ((H3.out.2.2.2.alloc H3.out.2.2.2.size _).cell (p := ⟨O, 1, none⟩) HO.out).trans hcs.2.1, ((H3.out.2.2.2.alloc H3.out.2.2.2.size _).cell (p := ⟨O, 2, none⟩) HO.out).trans hcs.2.2⟩
  clear hK K
  try simp only [Act.put, List.getElem_toArray, List.getElem_cons_zero, List.getElem_cons_succ, List.setIfInBounds_toArray, List.set_cons_zero, List.set_cons_succ]
  refine wpAnyF_one (i := 17) (by kernel_rfl) rfl (fun K hK => ?_)
  go_simp
  refine hK.out _ _ (fun h => Bool.noConfusion (h.symm.trans (by kernel_rfl : _ = true))) ?_
  clear hK K
  try simp only [Act.put, List.getElem_toArray, List.getElem_cons_zero, List.getElem_cons_succ, List.setIfInBounds_toArray, List.set_cons_zero, List.set_cons_succ]
  refine wpAnyF_done (by kernel_rfl) ?_ _
  refine NoPanic.normal ?_
  go_wp2_with fail
  go_ret
  have hs1 := H1.out.2.2.size
  have hs2 := H2.out.2.2.1.size
  have hs3 := H3.out.2.2.1
  have hwd : w.drew.heap.size = w.heap.size := rfl
  have hbf : Below w3.heap.size w3 (w3.alloc (.cells #[.slice pa n ca, .slice pc n cc, .map (some w2.heap.size)] 64)) := (Below.refl _ _).alloc (Nat.le_refl _) _
  have hb23 := H3.out.2.1
  have hm := MAt.madeM (base := w.heap.size) HL.out hn0 hnx (World.alloc_heap_new w3 (.cells #[.slice pa n ca, .slice pc n cc, .map (some w2.heap.size)] 64))
    (((H1.out.1.below H2.out.2.2.1).keep (fun x hx => hb23.block x (by have := H1.out.1.lt hx; omega))).below hbf) ((H2.out.1.below hb23).below hbf) (H3.out.1.keep (hbf.block _ (by omega)))
    (fun x hx => ⟨H1.out.2.1 x hx, by have := H1.out.1.lt hx; omega, by have := H1.out.1.lt hx; omega, fun h => by have := H2.out.2.1 x h; have := H1.out.1.lt hx; omega⟩)
    (fun x hx => ⟨by have := H2.out.2.1 x hx; omega, by have := H2.out.1.lt hx; omega, by have := H2.out.1.lt hx; omega⟩) ⟨by omega, by omega⟩ (by omega)
  exact ⟨_, rfl, hm, (Below.refl w.heap.size w).drew.trans (H3.out.2.2.2.trans (hbf.mono (by omega)))⟩
end Go.Proofs.Ytaflbfmlajbjcaa
