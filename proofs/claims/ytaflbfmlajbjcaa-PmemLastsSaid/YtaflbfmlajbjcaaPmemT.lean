/- The walks of the reference's memory: Store, Flush, Evict. -/
import Derived.Test.YtaflbfmlajbjcaaPmemS
namespace Go.Proofs.Ytaflbfmlajbjcaa
open Go Go.RowKit

theorem store_set (m : Mem) (i : Nat) (v : BitVec 64) (h : i / 8 < m.length) : m.store i v = m.set (i / 8) { m[i / 8] with now := m[i / 8].now.setIfInBounds (i % 8) v } := by
  unfold Mem.store
  apply List.ext_getElem?
  intro n
  simp only [List.getElem?_modify, List.getElem?_set]
  by_cases hn : i / 8 = n
  · subst hn; simp [h]
  · simp [hn]
theorem flush_set (m : Mem) (i : Nat) (h : i < m.length) : m.flush i = m.set i { m[i] with q := some m[i].now } := by
  unfold Mem.flush
  apply List.ext_getElem?
  intro n
  simp only [List.getElem?_modify, List.getElem?_set]
  by_cases hn : i = n
  · subst hn; simp [h]
  · simp [hn]
theorem evict_set (m : Mem) (i : Nat) (h : i < m.length) : m.evict i = m.set i ⟨m[i].now, m[i].now, none⟩ := by
  unfold Mem.evict
  apply List.ext_getElem?
  intro n
  simp only [List.getElem?_modify, List.getElem?_set]
  by_cases hn : i = n
  · subst hn; simp [h]
  · simp [hn]
theorem ec_set (v : V8) (j : Nat) (x : BitVec 64) : ec (v.setIfInBounds j x) = (ec v).set j (vw x) := by
  simp [ec, List.map_set]
theorem lc_now (x : Ln) (j : Nat) (hj : j < 8) (v : BitVec 64) : lc { x with now := x.now.setIfInBounds j v } = (lc x).set j (vw v) := by
  unfold lc
  simp only [ec_set]
  rw [List.set_append_left _ _ (by rw [ec_len]; exact hj)]
theorem rangeAt_set {w : World} {g : Nat} {cs : List Value} (h : w.rangeAt g 0 cs) (j : Nat) (hj : j < cs.length) (v : Value) : (w.setCell ⟨g, j, none⟩ v).rangeAt g 0 (cs.set j v) := fun k u hu => by
  rw [Nat.zero_add]
  rw [List.getElem?_set] at hu
  by_cases hk : j = k
  · subst hk
    rw [if_pos rfl, if_pos hj] at hu
    cases hu
    have h0 := h j _ (List.getElem?_eq_getElem hj)
    rw [Nat.zero_add] at h0
    exact World.cell?_setCell_same _ _ _ h0
  · rw [if_neg hk] at hu
    have h0 := h k u hu
    rw [Nat.zero_add] at h0
    rw [World.cell?_setCell_other _ _ _ _ (fun e => hk (by injection e))]
    exact h0
theorem RdS.wideP {α : Type} {B B' : Nat} {w : World} {p : Option Addr} {cap c : Nat} {enc : α → List Value} {ys : List α} (h : RdS B w p cap c enc ys) (hB : B ≤ B') : RdS B' w p cap c enc ys := by
  obtain ⟨h1, h2, h3⟩ := h
  refine ⟨h1, h2, h3.imp id ?_⟩
  rintro ⟨b, off, hp, hb, hc⟩
  exact ⟨b, off, hp, Nat.lt_of_lt_of_le hb hB, hc⟩
theorem own_ptr {W : World} {p : Option Addr} {c : Nat} {B : Nat} {m : Mem} (h : RdS B W p c 25 lc m) (h0 : 0 < m.length) : ∃ g o, p = some ⟨g, o, none⟩ := by
  rcases h.2.2 with h1 | ⟨g, o, h1, -⟩
  · have := h.1; omega
  · exact ⟨g, o, h1⟩
set_option maxRecDepth 100000 in
set_option maxHeartbeats 4000000 in
theorem store7_any (p : Option Addr) (cap : Nat) (m : Mem) (i : Nat) (v : BitVec 64) (w : World) (hrd : RdS w.heap.size w p cap 25 lc m) (hi : i < 8 * m.length) (hn : m.length ≤ 100000) :
    Calls Try.prog 49 #[.slice p m.length cap, .int .i64 i, vw v] w fun e w' => ∃ p' c', e = .returned (.slice p' m.length c') ∧ OwnR w' p' c' (m.store i v) ∧ (∀ b, inP p' c' b → w.heap.size ≤ b) ∧ Below w.heap.size w w' := by
  obtain ⟨g, o, rfl⟩ := own_ptr hrd (by omega)
  have hi8 : i / 8 < m.length := by omega
  obtain ⟨q1, q2, q3, q4⟩ := quo8 i (by omega)
  obtain ⟨hr, hg⟩ := rds_ln hrd (i / 8) hi8
  obtain ⟨WA, hWA, hbA, hzA, htA⟩ := new_lnvar w
  obtain ⟨WB, hWB⟩ : ∃ WB, WA.setCells w.heap.size 0 (lc m[i / 8]) = WB := ⟨_, rfl⟩
  have hrB : WB.rangeAt w.heap.size 0 (lc m[i / 8]) := by rw [← hWB]; exact World.rangeAt_setCells_same _ _ _ _ (by rw [lc_len]; exact htA)
  have htB : WB.there w.heap.size 0 25 := by rw [← hWB]; exact World.there_setCells htA _ _ _
  have hbB : Below w.heap.size w WB := by rw [← hWB]; exact below_setCells hbA (Nat.le_refl _)
  obtain ⟨J, hJ⟩ : ∃ J, i % 8 = J := ⟨_, rfl⟩
  have hJ8 : J < 8 := by omega
  have hcB : WB.cell? ⟨w.heap.size, J, none⟩ = some (vw (m[i / 8].now[J])) := by
    have := (range_ln.1 hrB).1 J (vw (m[i / 8].now[J])) (by simp [ec, hJ8])
    rwa [Nat.zero_add] at this
  have hfB : WB.frozen? ⟨w.heap.size, J, none⟩ = false := by
    have := (htB J (by omega)).2
    rwa [Nat.zero_add] at this
  have hrC := rangeAt_set hrB J (by rw [lc_len]; omega) (vw v)
  rw [← lc_now _ J hJ8] at hrC
  have hbC : Below w.heap.size w (WB.setCell ⟨w.heap.size, J, none⟩ (vw v)) := hbB.setCell (p := ⟨w.heap.size, J, none⟩) (Nat.le_refl _) _
  have hst := store_set m i v hi8
  rw [hJ] at hst
  rw [hJ] at q3 q4
  have hw := fun V (hV : V = WB.setCell ⟨w.heap.size, J, none⟩ (vw v)) => with7_any (some ⟨g, o, none⟩) cap m (i / 8) { m[i / 8] with now := m[i / 8].now.setIfInBounds J v } V (by rw [hV]; exact (hrd.keep (fun b hb => hbC.block b (hrd.inlt hb))).wideP hbC.size) hi8 hn
  have HW := Lib.hid (hw _ rfl)
  have HR := Lib.hid (And.intro hr (And.intro htA (And.intro hrC hbC)))
  have HWB := Lib.hid hWB
  rw [hst]
  obtain ⟨x, hx⟩ : ∃ x, m[i / 8] = x := ⟨_, rfl⟩
  rw [hx] at HR HW HWB hcB
  rw [hx]
  have hI : ((i / 8 : Nat) : Int) < (m.length : Int) := by omega
  have hJI : (J : Int) < 8 := by omega
  have hJm : (i : Int) % 8 = (J : Int) := by omega
  have hJt : (i : Int).tmod 8 = (J : Int) := by rw [Int.tmod_eq_emod_of_nonneg (by omega)]; exact hJm
  obtain ⟨I, hII⟩ : ∃ I, i / 8 = I := ⟨_, rfl⟩
  rw [hII] at HR HW hI q1 q2
  rw [hII]
  obtain ⟨u, hu⟩ : ∃ u, x.now[J] = u := ⟨_, rfl⟩
  rw [hu] at hcB
  clear hrd hi8 hr hg hbA hzA htA hrB htB hbB hrC hbC hst hx hw hu hWB hJ hJ8 hi hII
  go_enter Try.func49, Try.ntmps49
  go_wp2_with (first
    | (refine list_load_row rowLn rfl (.tmp 11) rfl rfl (lc_len x) HR.out.1 ?_)
    | (refine list_store_row rowLn rfl (.tmp 7) (.tmp 12) rfl rfl (lc_len x) rfl (lc_one x) HR.out.2.1 ?_; rw [HWB.out])
    | (refine list_load_row rowLn rfl (.tmp 7) rfl rfl (lc_len _) HR.out.2.2.1 ?_))
  refine HW.out.mono ?_
  rintro e w2 ⟨p', c', rfl, h1, h2, h3⟩
  have H2 := Lib.hid (And.intro h1 (And.intro h2 h3))
  clear h1 h2 h3
  go_wp2_with fail
  go_ret
  exact ⟨p', c', rfl, H2.out.1, fun b hb => Nat.le_trans HR.out.2.2.2.size (H2.out.2.1 b hb), HR.out.2.2.2.trans (H2.out.2.2.mono HR.out.2.2.2.size)⟩
theorem there_part {w : World} {g o n : Nat} (h : w.there g 0 n) (m : Nat) (hm : o + m ≤ n) : w.there g o m := fun j hj => by
  have := h (o + j) (by omega)
  rwa [Nat.zero_add] at this
theorem ln_flush {WB : World} {g : Nat} {x : Ln} (hr : WB.rangeAt g 0 (lc x)) (ht : WB.there g 0 25) :
    (WB.setCells g 16 (ec x.now)).cell? ⟨g, 24, none⟩ = some (.bool x.q.isSome) ∧ (WB.setCells g 16 (ec x.now)).frozen? ⟨g, 24, none⟩ = false ∧ ((WB.setCells g 16 (ec x.now)).setCell ⟨g, 24, none⟩ (.bool true)).rangeAt g 0 (lc { x with q := some x.now }) := by
  obtain ⟨r1, r2, r3, r4⟩ := range_ln.1 hr
  rw [Nat.zero_add] at r2 r3 r4
  have hf : (WB.setCells g 16 (ec x.now)).frozen? ⟨g, 24, none⟩ = false := by
    rw [World.frozen?_setCells]
    have := (ht 24 (by decide)).2
    rwa [Nat.zero_add] at this
  have hc : (WB.setCells g 16 (ec x.now)).cell? ⟨g, 24, none⟩ = some (.bool x.q.isSome) := by
    rw [World.cell?_setCells_out g (ec x.now) 16 WB ⟨g, 24, none⟩ (fun _ _ => .inr (by rw [ec_len]; exact Nat.le_refl _))]
    exact r4
  refine ⟨hc, hf, ?_⟩
  have a1 := World.rangeAt_setCells_apart r1 g 16 (ec x.now) (.inr (.inl (by rw [ec_len]; decide)))
  have a2 := World.rangeAt_setCells_apart r2 g 16 (ec x.now) (.inr (.inl (by rw [ec_len]; decide)))
  have a3 := World.rangeAt_setCells_same WB g 16 (ec x.now) (by rw [ec_len]; exact there_part ht 8 (by decide))
  have hs : ∀ {o : Nat} {cs : List Value}, (WB.setCells g 16 (ec x.now)).rangeAt g o cs → o + cs.length ≤ 24 → ((WB.setCells g 16 (ec x.now)).setCell ⟨g, 24, none⟩ (.bool true)).rangeAt g o cs := by
    intro o cs h hl j u hu
    have hj := (List.getElem?_eq_some_iff.1 hu).1
    rw [World.cell?_setCell_other _ _ _ _ (fun e => by injection e with e1 e2; omega)]
    exact h j u hu
  refine range_ln.2 ⟨hs a1 (by rw [ec_len]; decide), ?_, ?_, ?_⟩
  · rw [Nat.zero_add]; exact hs a2 (by rw [ec_len]; decide)
  · rw [Nat.zero_add]; exact hs a3 (by rw [ec_len]; decide)
  · rw [Nat.zero_add]; exact World.cell?_setCell_same _ _ _ hc
set_option maxRecDepth 100000 in
set_option maxHeartbeats 4000000 in
theorem flush7_any (p : Option Addr) (cap : Nat) (m : Mem) (i : Nat) (w : World) (hrd : RdS w.heap.size w p cap 25 lc m) (hi : i < m.length) (hn : m.length ≤ 100000) :
    Calls Try.prog 35 #[.slice p m.length cap, .int .i64 i] w fun e w' => ∃ p' c', e = .returned (.slice p' m.length c') ∧ OwnR w' p' c' (m.flush i) ∧ (∀ b, inP p' c' b → w.heap.size ≤ b) ∧ Below w.heap.size w w' := by
  obtain ⟨g, o, rfl⟩ := own_ptr hrd (by omega)
  obtain ⟨hr, hg⟩ := rds_ln hrd i hi
  obtain ⟨WA, hWA, hbA, hzA, htA⟩ := new_lnvar w
  obtain ⟨WB, hWB⟩ : ∃ WB, WA.setCells w.heap.size 0 (lc m[i]) = WB := ⟨_, rfl⟩
  have hrB : WB.rangeAt w.heap.size 0 (lc m[i]) := by rw [← hWB]; exact World.rangeAt_setCells_same _ _ _ _ (by rw [lc_len]; exact htA)
  have htB : WB.there w.heap.size 0 25 := by rw [← hWB]; exact World.there_setCells htA _ _ _
  have hbB : Below w.heap.size w WB := by rw [← hWB]; exact below_setCells hbA (Nat.le_refl _)
  obtain ⟨f1, f2, f3⟩ := ln_flush hrB htB
  obtain ⟨WC, hWC⟩ : ∃ WC, WB.setCells w.heap.size 16 (ec m[i].now) = WC := ⟨_, rfl⟩
  rw [hWC] at f1 f2 f3
  have hbD : Below w.heap.size w (WC.setCell ⟨w.heap.size, 24, none⟩ (.bool true)) := by
    refine Below.setCell (p := ⟨w.heap.size, 24, none⟩) ?_ (Nat.le_refl _) _
    rw [← hWC]; exact below_setCells hbB (Nat.le_refl _)
  have hst := flush_set m i hi
  have hw := fun V (hV : V = WC.setCell ⟨w.heap.size, 24, none⟩ (.bool true)) => with7_any (some ⟨g, o, none⟩) cap m i { m[i] with q := some m[i].now } V (by rw [hV]; exact (hrd.keep (fun b hb => hbD.block b (hrd.inlt hb))).wideP hbD.size) hi hn
  have HW := Lib.hid (hw _ rfl)
  have HR := Lib.hid (And.intro hr (And.intro htA (And.intro (range_ln.1 hrB).1 (And.intro (there_part (o := 16) htB 8 (by decide)) (And.intro f3 hbD)))))
  have HWB := Lib.hid (And.intro hWB hWC)
  rw [hst]
  obtain ⟨x, hx⟩ : ∃ x, m[i] = x := ⟨_, rfl⟩
  rw [hx] at HR HW HWB f1
  rw [hx]
  have hI : (i : Int) < (m.length : Int) := by omega
  obtain ⟨u, hu⟩ : ∃ u, x.q.isSome = u := ⟨_, rfl⟩
  rw [hu] at f1
  clear hrd hr hg hbA hzA htA hrB htB hbB f3 hbD hst hx hw hu hWB hWC hi
  go_enter Try.func35, Try.ntmps35
  go_wp2_with (first
    | (refine list_load_row rowLn rfl (.tmp 8) rfl rfl (lc_len x) HR.out.1 ?_)
    | (refine list_store_row rowLn rfl (.tmp 5) (.tmp 9) rfl rfl (lc_len x) rfl (lc_one x) HR.out.2.1 ?_; rw [HWB.out.1])
    | (refine list_load_row rowV8 rfl (.tmp 10) rfl rfl (ec_len _) HR.out.2.2.1 ?_)
    | (refine list_store_row rowV8 rfl (.tmp 12) (.tmp 11) rfl rfl (ec_len _) rfl (ec_one _) HR.out.2.2.2.1 ?_; rw [HWB.out.2])
    | (refine list_load_row rowLn rfl (.tmp 5) rfl rfl (lc_len _) HR.out.2.2.2.2.1 ?_))
  refine HW.out.mono ?_
  rintro e w2 ⟨p', c', rfl, h1, h2, h3⟩
  have H2 := Lib.hid (And.intro h1 (And.intro h2 h3))
  clear h1 h2 h3
  go_wp2_with fail
  go_ret
  exact ⟨p', c', rfl, H2.out.1, fun b hb => Nat.le_trans HR.out.2.2.2.2.2.size (H2.out.2.1 b hb), HR.out.2.2.2.2.2.trans (H2.out.2.2.mono HR.out.2.2.2.2.2.size)⟩
theorem build_evict (v : V8) (W : World) : (Instr.build 72 #[(0, .agg (ec v).toArray), (1, .agg (ec v).toArray)]).run Try.prog W = .ok (lnV ⟨v, v, none⟩) W := by
  refine run_build W 72 _ _ ?_
  simp only [lc, ec_lit]
  kernel_rfl
theorem list_build_evict {w : World} {ops : Array Oper} {rest : List Oper} {op : Oper} {a : Act} {Q : Exit → Act → World → Prop} (hgd : op.guard = none) (x y : Operand) (ho : op.op = .build 72 #[(0, x), (1, y)]) {v : V8}
    (hx : a.eval x = .agg (ec v).toArray) (hy : a.eval y = .agg (ec v).toArray) (h : wpList Try.prog ops Q rest (a.put op.dst (lnV ⟨v, v, none⟩)) w) : wpList Try.prog ops Q (op :: rest) a w :=
  wpList_plain hgd fun _ hK => by
    have hl := build_evict v w
    unfold Oper.wp execOp
    have e : (#[(0, x), (1, y)] : Array (Nat × Operand)).map (fun (i, x) => (i, a.eval x)) = #[(0, .agg (ec v).toArray), (1, .agg (ec v).toArray)] := by simp [hx, hy]
    simp only [ho, e, Sem.run_bind, hl, Sem.run_pure, Result.andThen_ok]
    exact hK _ _ h
set_option maxRecDepth 100000 in
set_option maxHeartbeats 4000000 in
theorem evict7_any (p : Option Addr) (cap : Nat) (m : Mem) (i : Nat) (w : World) (hrd : RdS w.heap.size w p cap 25 lc m) (hi : i < m.length) (hn : m.length ≤ 100000) :
    Calls Try.prog 51 #[.slice p m.length cap, .int .i64 i] w fun e w' => ∃ p' c', e = .returned (.slice p' m.length c') ∧ OwnR w' p' c' (m.evict i) ∧ (∀ b, inP p' c' b → w.heap.size ≤ b) ∧ Below w.heap.size w w' := by
  obtain ⟨g, o, rfl⟩ := own_ptr hrd (by omega)
  obtain ⟨hr, hg⟩ := rds_ln hrd i hi
  obtain ⟨WA, hWA, hbA, hzA, htA⟩ := new_lnvar w
  obtain ⟨WB, hWB⟩ : ∃ WB, WA.setCells w.heap.size 0 (lc m[i]) = WB := ⟨_, rfl⟩
  have hrB : WB.rangeAt w.heap.size 0 (lc m[i]) := by rw [← hWB]; exact World.rangeAt_setCells_same _ _ _ _ (by rw [lc_len]; exact htA)
  have hbB : Below w.heap.size w WB := by rw [← hWB]; exact below_setCells hbA (Nat.le_refl _)
  have hst := evict_set m i hi
  have HW := Lib.hid (with7_any (some ⟨g, o, none⟩) cap m i ⟨m[i].now, m[i].now, none⟩ WB ((hrd.keep (fun b hb => hbB.block b (hrd.inlt hb))).wideP hbB.size) hi hn)
  have HR := Lib.hid (And.intro hr (And.intro htA (And.intro (range_ln.1 hrB).1 hbB)))
  have HWB := Lib.hid hWB
  rw [hst]
  obtain ⟨x, hx⟩ : ∃ x, m[i] = x := ⟨_, rfl⟩
  rw [hx] at HR HW HWB
  rw [hx]
  have hI : (i : Int) < (m.length : Int) := by omega
  clear hrd hr hg hbA hzA htA hrB hbB hst hx hWB hi
  go_enter Try.func51, Try.ntmps51
  go_wp2_with (first
    | (refine list_load_row rowLn rfl (.tmp 8) rfl rfl (lc_len x) HR.out.1 ?_)
    | (refine list_store_row rowLn rfl (.tmp 5) (.tmp 9) rfl rfl (lc_len x) rfl (lc_one x) HR.out.2.1 ?_; rw [HWB.out])
    | (refine list_load_row rowV8 rfl (.tmp 12) rfl rfl (ec_len _) HR.out.2.2.1 ?_)
    | (refine list_load_row rowV8 rfl (.tmp 14) rfl rfl (ec_len _) HR.out.2.2.1 ?_)
    | (refine list_build_evict rfl (.tmp 13) (.tmp 15) rfl rfl rfl ?_))
  refine HW.out.mono ?_
  rintro e w2 ⟨p', c', rfl, h1, h2, h3⟩
  have H2 := Lib.hid (And.intro h1 (And.intro h2 h3))
  clear h1 h2 h3
  go_wp2_with fail
  go_ret
  exact ⟨p', c', rfl, H2.out.1, fun b hb => Nat.le_trans HR.out.2.2.2.size (H2.out.2.1 b hb), HR.out.2.2.2.trans (H2.out.2.2.mono HR.out.2.2.2.size)⟩
end Go.Proofs.Ytaflbfmlajbjcaa
