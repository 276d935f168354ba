/- The walk of a bitmap's Find. -/
import Derived.Test.YtljegehfdmgcbaaDoorBmD
import Derived.Deep.QuietTactic
import Derived.BigQuiet
namespace Go.Proofs.YtljegehfdmgcbaaDoor
open Go Go.RowKit
attribute [local go_sem] Oper.semAt_some

def anyO (gs : List Run2) (many : Int) (k : Nat) : Option Run2 := (gs.take k).find? (anyG many)
theorem anyO_succ {gs : List Run2} {many : Int} {k : Nat} (hk : k < gs.length) : anyO gs many (k + 1) = (anyO gs many k).or (if anyG many gs[k] then some gs[k] else none) := by
  unfold anyO
  rw [List.take_succ_eq_append_getElem hk, List.find?_append]
  congr 1
  cases h : anyG many gs[k] <;> simp [h]
theorem fit_hit {gs : List Run2} {many fromB : Int} {k : Nat} (hk : k < gs.length) (h0 : (gs.take k).find? (fitG many fromB) = none) (h1 : fitG many fromB gs[k] = true) : findL gs many fromB = (max (gs[k].1 : Int) fromB, 0) := by
  have e : gs.take k ++ gs[k] :: gs.drop (k + 1) = gs := by rw [← List.drop_eq_getElem_cons hk, List.take_append_drop]
  have h : gs.find? (fitG many fromB) = some gs[k] := by
    have h2 := List.find?_append (p := fitG many fromB) (xs := gs.take k) (ys := gs[k] :: gs.drop (k + 1))
    rw [e, h0] at h2
    rw [h2, Option.none_or, List.find?_cons_of_pos h1]
  unfold findL
  rw [h]
theorem fit_miss {gs : List Run2} {many fromB : Int} {k : Nat} (hk : k < gs.length) (h0 : (gs.take k).find? (fitG many fromB) = none) (h1 : fitG many fromB gs[k] = false) : (gs.take (k + 1)).find? (fitG many fromB) = none := by
  rw [List.take_succ_eq_append_getElem hk, List.find?_append, h0]
  simp [h1]
/-- What Find tells. -/
def findR (ws : List (BitVec 64)) (n : Nat) (many fromB : Int) : Int × Int := if many < 1 then (0, 2) else if ¬ (0 ≤ fromB ∧ fromB < n) then (0, 4) else findL (gapsF (bitW ws) n) many fromB
/-- The boxes of a call of Find. -/
theorem box4 (w : World) (many fromB : Int) : ∃ wa, (((w.alloc (.cells #[.int .i64 many] 3)).alloc (.cells #[.int .i64 fromB] 3)).alloc (.cells #[.int .i64 0] 3)).alloc (.cells #[.int .i64 0] 25) = wa ∧
    Box wa w.heap.size 3 (.int .i64 many) ∧ Box wa (w.heap.size + 1) 3 (.int .i64 fromB) ∧ Box wa (w.heap.size + 2) 3 (.int .i64 0) ∧ Box wa (w.heap.size + 3) 25 (.int .i64 0) ∧ Below w.heap.size w wa ∧ wa.heap.size = w.heap.size + 4 := by
  obtain ⟨wb, hwb, h1, h2, hb, hz⟩ := box2 w 3 3 (.int .i64 many) (.int .i64 fromB)
  obtain ⟨wc, hwc, h3, h4, hb2, hz2⟩ := box2 wb 3 25 (.int .i64 0) (.int .i64 0)
  rw [hz] at h3 h4 hz2
  exact ⟨_, rfl, by rw [hwb, hwc]; exact h1.below hb2 h1.lt, by rw [hwb, hwc]; exact h2.below hb2 h2.lt, by rw [hwb, hwc]; exact h3, by rw [hwb, hwc]; exact h4, by rw [hwb, hwc]; exact hb.trans (hb2.mono hb.size), by rw [hwb, hwc]; omega⟩
/-- Two results that stand in cells. -/
theorem results_cells2 {P : Program} {fn : Func} {p q : Tmp} {ty tz : TypeId} (h : fn.results = #[.cell p ty, .cell q tz]) (tmps : Array Value) (w : World) {g k : Nat} {v u : Value}
    (hp : tmps.getD p undef = .pointer (some ⟨g, 0, none⟩)) (hq : tmps.getD q undef = .pointer (some ⟨k, 0, none⟩)) (hl : (loadVar ty ⟨g, 0, none⟩).run P w = .ok v w) (hm : (loadVar tz ⟨k, 0, none⟩).run P w = .ok u w) : (results fn tmps).run P w = .ok (.tuple #[v, u]) w := by
  have hp' : tmps[p]?.getD undef = .pointer (some ⟨g, 0, none⟩) := by simpa using hp
  have hq' : tmps[q]?.getD undef = .pointer (some ⟨k, 0, none⟩) := by simpa using hq
  simp [results, h, hp', hq', asAddr, hl, hm]

/-- The results of Find are stored. -/
theorem find_boxes {V : World} {n0 : Nat} {u v : Value} (h3 : Box V (n0 + 2) 3 u) (h4 : Box V (n0 + 3) 25 v) (a b : Int) :
    Box ((V.setCell ⟨n0 + 2, 0, none⟩ (.int .i64 a)).setCell ⟨n0 + 3, 0, none⟩ (.int .i64 b)) (n0 + 2) 3 (.int .i64 a) ∧ Box ((V.setCell ⟨n0 + 2, 0, none⟩ (.int .i64 a)).setCell ⟨n0 + 3, 0, none⟩ (.int .i64 b)) (n0 + 3) 25 (.int .i64 b) :=
  ⟨(h3.set (.int .i64 a)).other (by omega) _ _, (h4.other (by omega) _ _).set _⟩
theorem find_ret {V : World} {n0 : Nat} {a b : Int} {tmps : Array Value} (h3 : Box V (n0 + 2) 3 (.int .i64 a)) (h4 : Box V (n0 + 3) 25 (.int .i64 b))
    (hp : tmps.getD 6 undef = .pointer (some ⟨n0 + 2, 0, none⟩)) (hq : tmps.getD 7 undef = .pointer (some ⟨n0 + 3, 0, none⟩)) : (results Tryd.f15 tmps).run Tryd.prog V = .ok (.tuple #[.int .i64 a, .int .i64 b]) V := by
  have c3 := h3.cell
  have c4 := h4.cell
  exact results_cells2 rfl _ _ hp hq (by simp [go_sem, c3]) (by simp [go_sem, c4])

set_option maxRecDepth 100000 in
set_option maxHeartbeats 4000000 in
theorem find_no (v : Value) (many fromB : Int) (w : World) (h : NoBm w v) : Calls Tryd.prog 15 #[v, .int .i64 many, .int .i64 fromB] w fun e w' => e = .returned (.tuple #[.int .i64 0, .int .i64 1]) ∧ Below w.heap.size w w' := by
  obtain ⟨wa, hwa, h1, h2, h3, h4, hb, hz⟩ := box4 w many fromB
  have HN := Lib.hid (none_no v wa (h.below hb))
  have H := Lib.hid (And.intro h1 (And.intro h2 (And.intro h3 (And.intro h4 (And.intro hb hz)))))
  have r0 := h3.cell
  have r1 := h3.free
  have r2 := h4.cell
  have r3 := h4.free
  clear h h1 h2 h3 h4 hb hz
  go_enter Tryd.func15, Tryd.ntmps15
  go_wp2_with fail
  refine HN.out.mono ?_
  rintro e w' ⟨rfl, rfl⟩
  go_wp2_with fail
  obtain ⟨h1, h2, h3, h4, hb, hz⟩ := H.out
  obtain ⟨g1, g2⟩ := find_boxes h3 h4 0 1
  refine bodyPost_ret (v := .tuple #[.int .i64 0, .int .i64 1]) (find_ret g1 g2 rfl rfl) rfl ⟨rfl, ?_⟩
  exact (hb.setCell (p := ⟨w.heap.size + 2, 0, none⟩) (by simp) _).setCell (p := ⟨w.heap.size + 3, 0, none⟩) (by simp) _

def fstV (o : Option Run2) : Int := match o with | none => 0 | some x => (x.1 : Int)
/-- What Find keeps between the gaps; what it leaves with. -/
def FJ (gs : List Run2) (many fromB : Int) (n0 : Nat) (W6 : World) (k : Nat) (T : Nat → Prop) (V : World) : Prop :=
  Keep (fun b => b = n0 + 2 ∨ b = n0 + 3 ∨ b = n0 + 4 ∨ b = n0 + 5) W6 T V ∧ Box V (n0 + 4) 3 (.int .i64 (fstV (anyO gs many k))) ∧ Box V (n0 + 5) 4 (.bool (anyO gs many k).isSome) ∧
      Box V (n0 + 2) 3 (.int .i64 0) ∧ Box V (n0 + 3) 25 (.int .i64 0) ∧ (gs.take k).find? (fitG many fromB) = none
def FX (gs : List Run2) (many fromB : Int) (n0 : Nat) (W6 : World) (T : Nat → Prop) (V : World) : Prop :=
  Keep (fun b => b = n0 + 2 ∨ b = n0 + 3 ∨ b = n0 + 4 ∨ b = n0 + 5) W6 T V ∧ Box V (n0 + 2) 3 (.int .i64 (findL gs many fromB).1) ∧ Box V (n0 + 3) 25 (.int .i64 (findL gs many fromB).2)

set_option maxRecDepth 100000 in
set_option maxHeartbeats 8000000 in
theorem find_bm {O g c : Nat} {ws : List (BitVec 64)} {n : Nat} (many fromB : Int) (w : World) (h : BmAt w O g c ws n) (hi : -9223372036854775808 ≤ many ∧ many ≤ 9223372036854775807) :
    Calls Tryd.prog 15 #[.pointer (some ⟨O, 0, none⟩), .int .i64 many, .int .i64 fromB] w fun e w' => e = .returned (.tuple #[.int .i64 (findR ws n many fromB).1, .int .i64 (findR ws n many fromB).2]) ∧ Below w.heap.size w w' := by
  obtain ⟨wa, hwa, h1, h2, h3, h4, hb, hz⟩ := box4 w many fromB
  have hba := h.below hb
  have hn2 := h.n2
  have hlO := h.ltO
  have hlg := h.ltg
  have HN := Lib.hid (none_bm wa hba)
  have H := Lib.hid (And.intro h1 (And.intro h2 (And.intro h3 (And.intro h4 (And.intro hb (And.intro hz hba))))))
  have r0 := h3.cell
  have r1 := h3.free
  have r2 := h4.cell
  have r3 := h4.free
  have c1 := h1.cell
  have c2 := h2.cell
  have n0 := hba.c1
  clear h h1 h2 h3 h4 hb hz hba
  unfold findR
  by_cases hm : many < 1
  · rw [if_pos hm]
    go_enter Tryd.func15, Tryd.ntmps15
    go_wp2_with fail
    refine HN.out.mono ?_
    rintro e w' ⟨rfl, rfl⟩
    go_wp2_with fail
    obtain ⟨h1, h2, h3, h4, hb, hz, _⟩ := H.out
    obtain ⟨g1, g2⟩ := find_boxes h3 h4 0 2
    refine bodyPost_ret (v := .tuple #[.int .i64 0, .int .i64 2]) (find_ret g1 g2 rfl rfl) rfl ⟨rfl, ?_⟩
    exact (hb.setCell (p := ⟨w.heap.size + 2, 0, none⟩) (by simp) _).setCell (p := ⟨w.heap.size + 3, 0, none⟩) (by simp) _
  rw [if_neg hm]
  have hm' : 1 ≤ many := by omega
  by_cases hf0 : fromB < 0
  · rw [if_pos (by omega)]
    go_enter Tryd.func15, Tryd.ntmps15
    go_wp2_with fail
    refine HN.out.mono ?_
    rintro e w' ⟨rfl, rfl⟩
    go_wp2_with fail
    go_quiet (fail)
    go_wp2_with fail
    obtain ⟨h1, h2, h3, h4, hb, hz, _⟩ := H.out
    obtain ⟨g1, g2⟩ := find_boxes (V := wa.drewN nq) h3 h4 0 4
    refine bodyPost_ret (v := .tuple #[.int .i64 0, .int .i64 4]) (find_ret g1 g2 rfl rfl) rfl ⟨rfl, ?_⟩
    exact ((below_drewN hb nq).setCell (p := ⟨w.heap.size + 2, 0, none⟩) (by simp) _).setCell (p := ⟨w.heap.size + 3, 0, none⟩) (by simp) _
  by_cases hf1 : (n : Int) ≤ fromB
  · rw [if_pos (by omega)]
    go_enter Tryd.func15, Tryd.ntmps15
    go_wp2_with fail
    refine HN.out.mono ?_
    rintro e w' ⟨rfl, rfl⟩
    go_wp2_with fail
    go_quiet (fail)
    go_wp2_with fail
    obtain ⟨h1, h2, h3, h4, hb, hz, _⟩ := H.out
    obtain ⟨g1, g2⟩ := find_boxes (V := wa.drewN nq) h3 h4 0 4
    refine bodyPost_ret (v := .tuple #[.int .i64 0, .int .i64 4]) (find_ret g1 g2 rfl rfl) rfl ⟨rfl, ?_⟩
    exact ((below_drewN hb nq).setCell (p := ⟨w.heap.size + 2, 0, none⟩) (by simp) _).setCell (p := ⟨w.heap.size + 3, 0, none⟩) (by simp) _
  rw [if_neg (by omega)]
  obtain ⟨gs, hgs⟩ : ∃ gs, gapsF (bitW ws) n = gs := ⟨_, rfl⟩
  have hfr : ∀ x ∈ gs, x.1 + x.2 ≤ n := by intro x hx; rw [← hgs] at hx; exact (gaps_free x hx).1
  have HFR := Lib.hid hfr
  have HGS := Lib.hid hgs
  rw [hgs]
  clear hgs hfr
  refine (callsIn_wide (n := 0)).1 ?_
  refine callsIn_of_wp_marks Tryd.func15 rfl trivial ?_ rfl
  simp only [Tryd.ntmps15, List.size_toArray, List.length_cons, List.length_nil, Nat.reduceAdd, Nat.reduceSub, Array.replicate_succ, Array.replicate_zero, List.push_toArray, List.append_toArray, List.nil_append, List.cons_append]
  refine wpIn_wide.2 ?_
  go_wp2_with fail
  refine HN.out.mono ?_
  rintro e w' ⟨rfl, rfl⟩
  go_wp2_with fail
  go_quiet (fail)
  obtain ⟨wd, hwd⟩ : ∃ wd, wa.drewN nq = wd := ⟨_, rfl⟩
  rw [hwd]
  have hbd : Below wa.heap.size wa wd := by rw [← hwd]; exact below_drewN (Below.refl _ _) nq
  have hzd : wd.heap.size = wa.heap.size := by rw [← hwd]; rfl
  obtain ⟨We, hWe, hF1, hF2, hbe, hze⟩ := box2 wd 3 4 (.int .i64 0) (.bool false)
  obtain ⟨W6, hW6⟩ : ∃ W6, We.alloc (.cells #[.pointer (some ⟨O, 0, none⟩)] 24) = W6 := ⟨_, rfl⟩
  have hb6 : Below We.heap.size We W6 := by rw [← hW6]; exact (Below.refl _ _).alloc (Nat.le_refl _) _
  have hB3 : Box W6 We.heap.size 24 (.pointer (some ⟨O, 0, none⟩)) := by rw [← hW6]; exact Box.new _ _ _
  have hz6 : W6.heap.size = w.heap.size + 7 := by rw [← hW6, World.size_alloc, hze, hzd, H.out.2.2.2.2.2.1]
  have hbW : Below wa.heap.size wa W6 := (hbd.trans (hbe.mono (by omega))).trans (hb6.mono (by omega))
  have HG := Lib.hid (gaps1_iter We.heap.size W6 hB3 (H.out.2.2.2.2.2.2.below hbW))
  have hz0 := H.out.2.2.2.2.2.1
  have HS : Hid (Box W6 w.heap.size 3 (.int .i64 many) ∧ Box W6 (w.heap.size + 1) 3 (.int .i64 fromB) ∧ Box W6 (w.heap.size + 2) 3 (.int .i64 0) ∧ Box W6 (w.heap.size + 3) 25 (.int .i64 0) ∧
      Box W6 (w.heap.size + 4) 3 (.int .i64 0) ∧ Box W6 (w.heap.size + 5) 4 (.bool false) ∧ Below w.heap.size w W6 ∧ We.heap.size = w.heap.size + 6 ∧ W6.heap.size = w.heap.size + 7) := by
    obtain ⟨h1, h2, h3, h4, hb, hz, hba⟩ := H.out
    rw [hzd, hz] at hF1 hF2
    exact Lib.hid ⟨h1.below hbW h1.lt, h2.below hbW h2.lt, h3.below hbW h3.lt, h4.below hbW h4.lt, hF1.below hb6 hF1.lt, hF2.below hb6 hF2.lt, hb.trans (hbW.mono (by omega)), by omega, hz6⟩
  have HWE := Lib.hid (And.intro hWe hW6)
  have hzz : wd.heap.size = w.heap.size + 4 := by omega
  clear hwa r0 r1 r2 r3 c1 c2 n0 hwd hbd hzd hF1 hF2 hbe hze hWe hW6 hb6 hB3 hz6 hbW hz0
  go_wp2_with fail
  rw [HWE.out.1]
  refine (gaps_any (some ⟨O, 0, none⟩) We).mono ?_
  rintro e w' ⟨rfl, rfl⟩
  rw [HWE.out.2, HS.out.2.2.2.2.2.2.2.1]
  rw [HS.out.2.2.2.2.2.2.2.1, HGS.out] at HG
  clear H HN HWE hzz
  go_wp2_with fail
  refine (wpIn_wide (n := 0)).1 ?_
  refine rf_law (gf := 40) (lb := #[.pointer (some ⟨w.heap.size + 6, 0, none⟩)]) rfl (enters_of Tryd.func40 (by kernel_rfl) rfl)
    HG.out (by intro x hx; obtain ⟨y, _, rfl⟩ := List.mem_map.1 hx; rfl) ?hFP
    (fun k T V => FJ gs many fromB w.heap.size W6 k T V) (fun cc _ T V => cc = .ret ∧ FX gs many fromB w.heap.size W6 T V) ?hJ ?hJx ?h0 ?hround ?hdone ?hstop
  case hFP =>
    have := HS.out.2.2.2.2.2.2.2.2
    rintro b (rfl | rfl | rfl) <;> omega
  case hJ =>
    rintro k T V V' ⟨h1, h2, h3, h4, h5, h6⟩ hf
    have hz := HS.out.2.2.2.2.2.2.2.2
    exact ⟨h1.go hf, h2.kept (h1.own hf (by omega)), h3.kept (h1.own hf (by omega)), h4.kept (h1.own hf (by omega)), h5.kept (h1.own hf (by omega)), h6⟩
  case hJx =>
    rintro cc k T V V' ⟨h0, h1, h2, h3⟩ hf
    have hz := HS.out.2.2.2.2.2.2.2.2
    exact ⟨h0, h1.go hf, h2.kept (h1.own hf (by omega)), h3.kept (h1.own hf (by omega))⟩
  case h0 =>
    obtain ⟨h1, h2, h3, h4, h5, h6, h7, h8, h9⟩ := HS.out
    exact ⟨Keep.start _ _, by simpa [anyO, fstV] using h5, by simpa [anyO] using h6, h3, h4, by simp⟩
  case hround =>
    rintro l' k hk Ti W3 ⟨hs, hb1, hb2, hb3, hb4, hfit⟩ hTl hTW hkW
    have hk' : k < gs.length := by simpa [encR] using hk
    rw [encR_get]
    have hmem := HFR.out gs[k] (List.getElem_mem hk')
    have hsucc := anyO_succ (many := many) hk'
    have hhit := fit_hit (many := many) (fromB := fromB) hk' hfit
    have hmiss := fit_miss (many := many) (fromB := fromB) hk' hfit
    obtain ⟨r, hr⟩ : ∃ r, gs[k] = r := ⟨_, rfl⟩
    rw [hr] at hmem hsucc hhit hmiss
    rw [hr]
    obtain ⟨a, m⟩ := r
    unfold rv2
    simp only at hmem ⊢
    have HHIT := Lib.hid (And.intro hhit (And.intro hmiss hsucc))
    clear hhit hmiss hsucc hr hk hfit
    gi_wp2
    have hWa : Kps (fun b => (b = w.heap.size + 6 ∨ b = O ∨ b = g) ∨ Ti b) W3 (W3.alloc (.cells #[.int .i64 a, .int .i64 m] 39)) := (Kps.refl _ _).alloc _
    refine ⟨hWa, fun W4 hf hsz hk2 _ _ => ?_⟩
    have hz := HS.out.2.2.2.2.2.2.2.2
    have hs1 := hs.alloc (.cells #[.int .i64 a, .int .i64 m] 39)
    have hs2 := hs1.goSame hf (by rw [hsz]; simp)
    have hx4 : W4.heap[W3.heap.size]? = some (.cells #[.int .i64 a, .int .i64 m] 39 (0, 0)) := (hf.block _ (by simp) (fun ht => Nat.lt_irrefl _ (hTW _ ht))).trans (World.alloc_heap_new W3 _)
    have hz3 : w.heap.size + 7 ≤ W3.heap.size := by have := hs.frn.size; omega
    have g1 := (hb1.alloc (.cells #[.int .i64 a, .int .i64 m] 39)).kept (hs1.own hf (by omega))
    have g2 := (hb2.alloc (.cells #[.int .i64 a, .int .i64 m] 39)).kept (hs1.own hf (by omega))
    have g3 := (hb3.alloc (.cells #[.int .i64 a, .int .i64 m] 39)).kept (hs1.own hf (by omega))
    have g4 := (hb4.alloc (.cells #[.int .i64 a, .int .i64 m] 39)).kept (hs1.own hf (by omega))
    have gM := hs2.box HS.out.1 (by omega)
    have gF := hs2.box HS.out.2.1 (by omega)
    have c0 : W4.cell? ⟨W3.heap.size, 0, none⟩ = some (.int .i64 a) := by simp [World.cell?, hx4]
    have c1 : W4.cell? ⟨W3.heap.size, 1, none⟩ = some (.int .i64 m) := by simp [World.cell?, hx4]
    have mc := gM.cell
    have fc := gF.cell
    have a1 := g1.cell
    have a2 := g2.cell
    have a3 := g3.cell
    have a4 := g4.cell
    have f1 := g1.free
    have f2 := g2.free
    have f3 := g3.free
    have f4 := g4.free
    have HG4 := Lib.hid (And.intro hs2 (And.intro g1 (And.intro g2 (And.intro g3 g4))))
    have hks : ∀ b, w.heap.size + 2 ≤ b → b ≤ w.heap.size + 5 → ¬ (b = w.heap.size + 6 ∨ b = O ∨ b = g) ∧ ¬ Ti b := fun b h1 h2 => ⟨by omega, hs2.notT (by omega)⟩
    have HKS := Lib.hid hks
    have hne3 : W3.heap.size ≠ w.heap.size + 4 := by omega
    have hne3' : W3.heap.size ≠ w.heap.size + 5 := by omega
    have hmi : (a : Int) + m ≤ n := by omega
    have hn3 : (n : Int) ≤ 65536 := by omega
    clear hs hb1 hb2 hb3 hb4 hTl hTW hkW hWa hf hsz hk2 hs1 hs2 hx4 g1 g2 g3 g4 gM gF hks hmem hz hz3 hn2
    by_cases hax : fromB ≤ (a : Int)
    · skip
      have hmx : max (a : Int) fromB = (a : Int) := by omega
      by_cases hhit : many ≤ (a : Int) + m - (a : Int)
      · have hF := Lib.hid (HHIT.out.1 (by unfold fitG; simp only [decide_eq_true_eq]; rw [hmx]; exact hhit))
        clear hmx
        gi_wp2
        refine ⟨⟨rfl, (HG4.out.1.set ⟨w.heap.size + 2, 0, none⟩ (.inl (.inl rfl)) _).set ⟨w.heap.size + 3, 0, none⟩ (.inl (.inr (.inl rfl))) _, ?_, ?_⟩, ?_⟩
        · rw [hF.out]
          have := (find_boxes HG4.out.2.2.2.1 HG4.out.2.2.2.2 (a : Int) 0).1
          rwa [show max (a : Int) fromB = (a : Int) by omega]
        · rw [hF.out]
          exact (find_boxes HG4.out.2.2.2.1 HG4.out.2.2.2.2 (a : Int) 0).2
        · have k2 := HKS.out (w.heap.size + 2) (by omega) (by omega)
          have k3 := HKS.out (w.heap.size + 3) (by omega) (by omega)
          exact (kps_set ⟨w.heap.size + 2, 0, none⟩ k2.1 k2.2 _).trans (kps_set ⟨w.heap.size + 3, 0, none⟩ k3.1 k3.2 _)
      · have hM := Lib.hid (HHIT.out.2.1 (by unfold fitG; simp only [decide_eq_false_iff_not]; rw [hmx]; exact hhit))
        have hhit' : (a : Int) + m - (a : Int) < many := by omega
        clear hmx hhit
        have HSU := Lib.hid HHIT.out.2.2
        clear HHIT
        cases ho : anyO gs many k with
        | some x =>
          rw [ho] at a1 a2
          rw [ho, Option.some_or] at HSU
          simp only [fstV, Option.isSome_some] at a1 a2
          have HO := Lib.hid ho
          clear ho
          gi_wp2
          exact ⟨⟨HG4.out.1, by rw [HSU.out, ← HO.out]; exact HG4.out.2.1, by rw [HSU.out, ← HO.out]; exact HG4.out.2.2.1, HG4.out.2.2.2.1, HG4.out.2.2.2.2, hM.out⟩, Kps.refl _ _⟩
        | none =>
          rw [ho] at a1 a2
          rw [ho, Option.none_or] at HSU
          simp only [fstV, Option.isSome_none] at a1 a2
          have HO := Lib.hid ho
          clear ho
          by_cases hany : many ≤ (m : Int)
          · exfalso; omega
          · rw [if_neg (by unfold anyG; simpa using hany)] at HSU
            have hany' : (m : Int) < many := by omega
            clear hany
            gi_wp2
            exact ⟨⟨HG4.out.1, by rw [HSU.out, ← HO.out]; exact HG4.out.2.1, by rw [HSU.out, ← HO.out]; exact HG4.out.2.2.1, HG4.out.2.2.2.1, HG4.out.2.2.2.2, hM.out⟩, Kps.refl _ _⟩
    · have hax' : (a : Int) < fromB := by omega
      have hmx : max (a : Int) fromB = fromB := by omega
      by_cases hhit : many ≤ (a : Int) + m - fromB
      · have hF := Lib.hid (HHIT.out.1 (by unfold fitG; simp only [decide_eq_true_eq]; rw [hmx]; exact hhit))
        clear hmx
        gi_wp2
        refine ⟨⟨rfl, (HG4.out.1.set ⟨w.heap.size + 2, 0, none⟩ (.inl (.inl rfl)) _).set ⟨w.heap.size + 3, 0, none⟩ (.inl (.inr (.inl rfl))) _, ?_, ?_⟩, ?_⟩
        · rw [hF.out]
          have := (find_boxes HG4.out.2.2.2.1 HG4.out.2.2.2.2 fromB 0).1
          rwa [show max (a : Int) fromB = fromB by omega]
        · rw [hF.out]
          exact (find_boxes HG4.out.2.2.2.1 HG4.out.2.2.2.2 fromB 0).2
        · have k2 := HKS.out (w.heap.size + 2) (by omega) (by omega)
          have k3 := HKS.out (w.heap.size + 3) (by omega) (by omega)
          exact (kps_set ⟨w.heap.size + 2, 0, none⟩ k2.1 k2.2 _).trans (kps_set ⟨w.heap.size + 3, 0, none⟩ k3.1 k3.2 _)
      · have hM := Lib.hid (HHIT.out.2.1 (by unfold fitG; simp only [decide_eq_false_iff_not]; rw [hmx]; exact hhit))
        have hhit' : (a : Int) + m - fromB < many := by omega
        clear hmx hhit
        have HSU := Lib.hid HHIT.out.2.2
        clear HHIT
        cases ho : anyO gs many k with
        | some x =>
          rw [ho] at a1 a2
          rw [ho, Option.some_or] at HSU
          simp only [fstV, Option.isSome_some] at a1 a2
          have HO := Lib.hid ho
          clear ho
          gi_wp2
          exact ⟨⟨HG4.out.1, by rw [HSU.out, ← HO.out]; exact HG4.out.2.1, by rw [HSU.out, ← HO.out]; exact HG4.out.2.2.1, HG4.out.2.2.2.1, HG4.out.2.2.2.2, hM.out⟩, Kps.refl _ _⟩
        | none =>
          rw [ho] at a1 a2
          rw [ho, Option.none_or] at HSU
          simp only [fstV, Option.isSome_none] at a1 a2
          have HO := Lib.hid ho
          clear ho
          by_cases hany : many ≤ (m : Int)
          · rw [if_pos (by unfold anyG; simpa using hany)] at HSU
            gi_wp2
            refine ⟨⟨(HG4.out.1.set ⟨w.heap.size + 4, 0, none⟩ (.inl (.inr (.inr (.inl rfl)))) _).set ⟨w.heap.size + 5, 0, none⟩ (.inl (.inr (.inr (.inr rfl)))) _, ?_, ?_, ?_, ?_, hM.out⟩, ?_⟩
            · rw [HSU.out]
              exact (HG4.out.2.1.set _).other (by omega) _ _
            · rw [HSU.out]
              exact (HG4.out.2.2.1.other (by omega) _ _).set _
            · exact (HG4.out.2.2.2.1.other (by omega) _ _).other (by omega) _ _
            · exact (HG4.out.2.2.2.2.other (by omega) _ _).other (by omega) _ _
            · have k2 := HKS.out (w.heap.size + 4) (by omega) (by omega)
              have k3 := HKS.out (w.heap.size + 5) (by omega) (by omega)
              exact (kps_set ⟨w.heap.size + 4, 0, none⟩ k2.1 k2.2 _).trans (kps_set ⟨w.heap.size + 5, 0, none⟩ k3.1 k3.2 _)
          · rw [if_neg (by unfold anyG; simpa using hany)] at HSU
            have hany' : (m : Int) < many := by omega
            clear hany
            gi_wp2
            exact ⟨⟨HG4.out.1, by rw [HSU.out, ← HO.out]; exact HG4.out.2.1, by rw [HSU.out, ← HO.out]; exact HG4.out.2.2.1, HG4.out.2.2.2.1, HG4.out.2.2.2.2, hM.out⟩, Kps.refl _ _⟩
  case hdone =>
    rintro D T V ⟨hs, hb1, hb2, hb3, hb4, hfit⟩ hTD hTW hkW hD hK
    rw [encR_len] at hb1 hb2 hfit
    rw [List.take_length] at hfit
    have hall : findL gs many fromB = match anyO gs many gs.length with | none => (0, 5) | some x => ((x.1 : Int), 0) := by
      unfold findL anyO
      rw [hfit, List.take_length]
      cases gs.find? (anyG many) <;> rfl
    have hz := HS.out.2.2.2.2.2.2.2.2
    have a1 := hb1.cell
    have a2 := hb2.cell
    have a3 := hb3.cell
    have a4 := hb4.cell
    have f3 := hb3.free
    have f4 := hb4.free
    have hbel : Below w.heap.size w V := HS.out.2.2.2.2.2.2.1.trans (hs.frn.below (by omega) (by rintro b (h | h | h | h) <;> omega))
    have HK := Lib.hid (And.intro hK (And.intro hD (And.intro hz hbel)))
    have HB := Lib.hid (And.intro hb3 hb4)
    clear hs hb1 hb2 hb3 hb4 hfit hTD hTW hkW hD hK hz hbel HG
    cases ho : anyO gs many gs.length with
    | none =>
      rw [ho] at hall a1 a2
      simp only [fstV, Option.isSome_none] at a1 a2
      have HALL := Lib.hid hall
      clear hall ho
      gi_wp2
      go_wp2_with fail
      obtain ⟨g3, g4⟩ := find_boxes HB.out.1 HB.out.2 0 5
      obtain ⟨V', hV'⟩ : ∃ V', (V.setCell ⟨w.heap.size + 2, 0, none⟩ (.int .i64 0)).setCell ⟨w.heap.size + 3, 0, none⟩ (.int .i64 5) = V' := ⟨_, rfl⟩
      have hD' : V'.heap[D]? = some (.deferred (some [])) := by
        rw [← hV']
        exact (Below.heap_setCell _ ⟨w.heap.size + 3, 0, none⟩ _ D (by have := HK.out.2.1; have := HK.out.2.2.1; show D ≠ w.heap.size + 3; omega)).trans ((Below.heap_setCell _ ⟨w.heap.size + 2, 0, none⟩ _ D (by have := HK.out.2.1; have := HK.out.2.2.1; show D ≠ w.heap.size + 2; omega)).trans HK.out.1)
      have hbV : Below w.heap.size w V' := by
        rw [← hV']
        exact (HK.out.2.2.2.setCell (p := ⟨w.heap.size + 2, 0, none⟩) (by simp) _).setCell (p := ⟨w.heap.size + 3, 0, none⟩) (by simp) _
      rw [hV'] at g3 g4
      have hne : D ≠ w.heap.size + 2 := by have := HK.out.2.1; have := HK.out.2.2.1; omega
      have hne' : D ≠ w.heap.size + 3 := by have := HK.out.2.1; have := HK.out.2.2.1; omega
      rw [hV']
      refine leave1 rfl hD' (find_ret (g3.kept (World.putObj_heap_other (Ne.symm hne))) (g4.kept (World.putObj_heap_other (Ne.symm hne'))) rfl rfl) ⟨by rw [HALL.out], below_putObj hbV (by have := HK.out.2.1; have := HK.out.2.2.1; omega) _⟩
    | some x =>
      obtain ⟨x1, x2⟩ := x
      rw [ho] at hall a1 a2
      simp only [fstV, Option.isSome_some] at a1 a2 hall
      have HALL := Lib.hid hall
      clear hall ho
      gi_wp2
      go_wp2_with fail
      obtain ⟨g3, g4⟩ := find_boxes HB.out.1 HB.out.2 x1 0
      obtain ⟨V', hV'⟩ : ∃ V', (V.setCell ⟨w.heap.size + 2, 0, none⟩ (.int .i64 x1)).setCell ⟨w.heap.size + 3, 0, none⟩ (.int .i64 0) = V' := ⟨_, rfl⟩
      have hD' : V'.heap[D]? = some (.deferred (some [])) := by
        rw [← hV']
        exact (Below.heap_setCell _ ⟨w.heap.size + 3, 0, none⟩ _ D (by have := HK.out.2.1; have := HK.out.2.2.1; show D ≠ w.heap.size + 3; omega)).trans ((Below.heap_setCell _ ⟨w.heap.size + 2, 0, none⟩ _ D (by have := HK.out.2.1; have := HK.out.2.2.1; show D ≠ w.heap.size + 2; omega)).trans HK.out.1)
      have hbV : Below w.heap.size w V' := by
        rw [← hV']
        exact (HK.out.2.2.2.setCell (p := ⟨w.heap.size + 2, 0, none⟩) (by simp) _).setCell (p := ⟨w.heap.size + 3, 0, none⟩) (by simp) _
      rw [hV'] at g3 g4
      have hne : D ≠ w.heap.size + 2 := by have := HK.out.2.1; have := HK.out.2.2.1; omega
      have hne' : D ≠ w.heap.size + 3 := by have := HK.out.2.1; have := HK.out.2.2.1; omega
      rw [hV']
      refine leave1 rfl hD' (find_ret (g3.kept (World.putObj_heap_other (Ne.symm hne))) (g4.kept (World.putObj_heap_other (Ne.symm hne'))) rfl rfl) ⟨by rw [HALL.out], below_putObj hbV (by have := HK.out.2.1; have := HK.out.2.2.1; omega) _⟩
  case hstop =>
    rintro D cc k T V hk hk1 ⟨rfl, hs, hb3, hb4⟩ hTD hTW hkW hD hK
    have hz := HS.out.2.2.2.2.2.2.2.2
    have hbel : Below w.heap.size w V := HS.out.2.2.2.2.2.2.1.trans (hs.frn.below (by omega) (by rintro b (h | h | h | h) <;> omega))
    gi_wp2
    have hne : D ≠ w.heap.size + 2 := by omega
    have hne' : D ≠ w.heap.size + 3 := by omega
    refine leave1 rfl hK (find_ret (hb3.kept (World.putObj_heap_other (Ne.symm hne))) (hb4.kept (World.putObj_heap_other (Ne.symm hne'))) rfl rfl) ⟨rfl, below_putObj hbel (by omega) _⟩
end Go.Proofs.YtljegehfdmgcbaaDoor
