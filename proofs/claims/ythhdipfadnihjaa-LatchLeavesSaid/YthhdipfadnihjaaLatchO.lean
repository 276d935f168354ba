/- The walks of the law's act and is. -/
import Derived.Test.YthhdipfadnihjaaLatchN
namespace Go.Proofs.Ythhdipfadnihjaa
open Go Go.RowKit

theorem LOwn.keepT {T : Nat → Prop} {W W' : World} {L : Nat} {xs ys : List Turn} (h : LOwn T W L xs ys) (hb : ∀ b, T b → W'.heap[b]? = W.heap[b]?) : LOwn T W' L xs ys := by
  obtain ⟨p, c, q, d, hs, hT⟩ := h
  exact ⟨p, c, q, d, hs.keep fun b hi => hb b (hT b hi), hT⟩
def actS (s : List Turn × List Turn) (what client : Int) : (List Turn × List Turn) × Int :=
  if what = 0 then askS s client false else if what = 1 then askS s client true else if what = 2 then freeS s client else (s, 0)
/-- What an act leaves: the latch in its new state, the document's lists handed back, their blocks apart. -/
def ActPost (T : Nat → Prop) (L : Nat) (s : List Turn × List Turn) (z : List Turn × List Turn) (fine : Bool) (R : Nat → Prop) (w : World) (e : Ending) (w' : World) : Prop :=
  ∃ T' p c q d, e = .returned (.tuple #[.agg #[.slice p z.1.length c, .slice q z.2.length d], .bool fine]) ∧ LOwn T' w' L s.1 s.2 ∧ (∀ b, T' b → b < w'.heap.size) ∧ (∀ b, T' b → T b ∨ w.heap.size ≤ b) ∧ Frn T w w' ∧
    RdS w'.heap.size w' p c 2 tc z.1 ∧ RdS w'.heap.size w' q d 2 tc z.2 ∧ (∀ b, inP p c b ∨ inP q d b → ¬ T' b ∧ (R b ∨ w.heap.size ≤ b))

set_option maxHeartbeats 400000 in
theorem num25_any (x : Int) (w : World) : Calls Try.prog 24 #[.int .i64 x] w fun e w' => e = .returned (.int .i64 x) ∧ w = w' := by
  go_enter Try.func24, Try.ntmps24
  go_wp2
  go_ret
  exact ⟨rfl, rfl⟩

/-- The world behind both calls; the result's block is written. -/
theorem act_end {T : Nat → Prop} {L : Nat} {s z : List Turn × List Turn} {fine : Bool} {R0 : Nat → Prop} {w w1 wX w2 : World} {p6 q6 : Option Addr} {c6 d6 : Nat} {B : Nat} {u v : Value}
    (hTw : ∀ b, T b → b < w.heap.size) (hRT : ∀ b, R0 b → ¬ T b) (hw1 : Below w.heap.size w w1) (hB : w.heap.size ≤ B) (hBl : B < w1.heap.size) (hBc : w1.heap[B]? = some (.cells #[u, v] 62 (0, 0)))
    (hwX : Below w1.heap.size w1 wX) (hl : LOwn (grow T wX w2) w2 L s.1 s.2) (hf : Frn T wX w2)
    (r1 : RdS wX.heap.size wX p6 c6 2 tc z.1) (r2 : RdS wX.heap.size wX q6 d6 2 tc z.2) (hsrc : ∀ b, inP p6 c6 b ∨ inP q6 d6 b → b ≠ B ∧ (R0 b ∨ w.heap.size ≤ b)) :
    w2.cell? ⟨B, 0, none⟩ = some u ∧ w2.cell? ⟨B, 1, none⟩ = some v ∧ (∀ k, w2.frozen? ⟨B, k, none⟩ = false) ∧
    (w2.setCell ⟨B, 0, none⟩ (.slice p6 z.1.length c6)).cell? ⟨B, 0, none⟩ = some (.slice p6 z.1.length c6) ∧
    ((w2.setCell ⟨B, 0, none⟩ (.slice p6 z.1.length c6)).setCell ⟨B, 1, none⟩ (.slice q6 z.2.length d6)).cell? ⟨B, 1, none⟩ = some (.slice q6 z.2.length d6) ∧
    ActPost T L s z fine R0 w (.returned (.tuple #[.agg #[.slice p6 z.1.length c6, .slice q6 z.2.length d6], .bool fine])) ((w2.setCell ⟨B, 0, none⟩ (.slice p6 z.1.length c6)).setCell ⟨B, 1, none⟩ (.slice q6 z.2.length d6)) := by
  have hsz1 : w.heap.size ≤ w1.heap.size := hw1.size
  have hszX : w1.heap.size ≤ wX.heap.size := hwX.size
  have hsz2 : wX.heap.size ≤ w2.heap.size := hf.size
  have hnT : ¬ T B := fun h => by have := hTw B h; omega
  have hB2 := (hf.block B (by omega) hnT).trans ((hwX.block B hBl).trans hBc)
  have h0 := pair_set0 (u' := .slice p6 z.1.length c6) hB2
  have h1 := pair_set1 (v' := .slice q6 z.2.length d6) h0
  have hsz : ((w2.setCell ⟨B, 0, none⟩ (.slice p6 z.1.length c6)).setCell ⟨B, 1, none⟩ (.slice q6 z.2.length d6)).heap.size = w2.heap.size := by simp [World.setCell]
  have hoth : ∀ b, b ≠ B → ((w2.setCell ⟨B, 0, none⟩ (.slice p6 z.1.length c6)).setCell ⟨B, 1, none⟩ (.slice q6 z.2.length d6)).heap[b]? = w2.heap[b]? := fun b hb => (heap_setCell_other _ ⟨B, 1, none⟩ b _ hb).trans (heap_setCell_other _ ⟨B, 0, none⟩ b _ hb)
  have hnR : ∀ b, inP p6 c6 b ∨ inP q6 d6 b → b < wX.heap.size := fun b hb => hb.elim r1.inlt r2.inlt
  have hnT2 : ∀ b, inP p6 c6 b ∨ inP q6 d6 b → ¬ T b := fun b hb ht => by
    rcases (hsrc b hb).2 with h | h
    · exact hRT b h ht
    · have := hTw b ht; omega
  have hfr : Frn T w w2 := (Frn.of_below (hw1.trans (hwX.mono hsz1)) : Frn T w wX).trans hf
  refine ⟨pair_c0 hB2, pair_c1 hB2, fun k => pair_fr hB2 k, pair_c0 h0, pair_c1 h1, grow T wX w2, p6, c6, q6, d6, rfl, hl.keepT fun b hb => hoth b ?_, fun b hb => ?_, fun b hb => hb.imp id (fun h => by have := h.1; omega),
    (hfr.setCell ⟨B, 0, none⟩ (.inr hB) _).setCell ⟨B, 1, none⟩ (.inr hB) _, ?_, ?_, fun b hb => ⟨fun h => ?_, (hsrc b hb).2⟩⟩
  · rintro rfl
    rcases hb with h | h
    · exact hnT h
    · have := h.1; omega
  · rw [hsz]
    rcases hb with h | h
    · have := hTw b h; omega
    · exact h.2
  · rw [hsz]
    exact (r1.keep fun b hb => (hoth b (hsrc b (.inl hb)).1).trans (hf.block b (hnR b (.inl hb)) (hnT2 b (.inl hb)))).wide hf.size
  · rw [hsz]
    exact (r2.keep fun b hb => (hoth b (hsrc b (.inr hb)).1).trans (hf.block b (hnR b (.inr hb)) (hnT2 b (.inr hb)))).wide hf.size
  · rcases h with h | h
    · exact hnT2 b hb h
    · have := hnR b hb; have := h.1; omega

/-- The three variables at the beginning of an act. -/
theorem act_start (p : Option Addr) (c : Nat) (xs' : List Turn) (q : Option Addr) (d : Nat) (ys' : List Turn) (what k : Int) (w wa : World) (hwa : ((w.alloc (.cells #[.slice p xs'.length c, .slice q ys'.length d] 62)).alloc (.cells #[.int .i64 what, .int .i64 k] 60)).alloc (.cells #[.slice none 0 0, .slice none 0 0] 62) = wa) :
    Below w.heap.size w wa ∧ wa.heap.size = w.heap.size + 3 ∧ wa.heap[w.heap.size]? = some (.cells #[.slice p xs'.length c, .slice q ys'.length d] 62 (0, 0)) ∧ wa.heap[w.heap.size + 1]? = some (.cells #[.int .i64 what, .int .i64 k] 60 (0, 0)) ∧
    wa.heap[w.heap.size + 2]? = some (.cells #[.slice none 0 0, .slice none 0 0] 62 (0, 0)) := by
  subst hwa
  refine ⟨(((Below.refl _ _).alloc (Nat.le_refl _) _).alloc (by simp) _).alloc (by simp only [World.size_alloc]; omega) _, by simp, ?_, ?_, ?_⟩
  · exact (Below.heap_alloc _ _ _ (by simp only [World.size_alloc]; omega)).trans ((Below.heap_alloc _ _ _ (by simp)).trans (World.alloc_heap_new w _))
  · have := World.alloc_heap_new (w.alloc (.cells #[.slice p xs'.length c, .slice q ys'.length d] 62)) (.cells #[.int .i64 what, .int .i64 k] 60)
    rw [World.size_alloc] at this
    exact (Below.heap_alloc _ _ _ (by simp only [World.size_alloc]; omega)).trans this
  · have := World.alloc_heap_new ((w.alloc (.cells #[.slice p xs'.length c, .slice q ys'.length d] 62)).alloc (.cells #[.int .i64 what, .int .i64 k] 60)) (.cells #[.slice none 0 0, .slice none 0 0] 62)
    rw [World.size_alloc, World.size_alloc] at this
    exact this

set_option maxRecDepth 100000 in
set_option maxHeartbeats 4000000 in
theorem act_ask0 (T : Nat → Prop) (L : Nat) (xs ys : List Turn) (p : Option Addr) (c : Nat) (xs' : List Turn) (q : Option Addr) (d : Nat) (ys' : List Turn) (k : Int) (w : World) (h : LOwn T w L xs ys) (hTw : ∀ b, T b → b < w.heap.size) (hn : xs.length + ys.length < 50000)
    (hx : RdS w.heap.size w p c 2 tc xs') (hy : RdS w.heap.size w q d 2 tc ys') (hn' : xs'.length + ys'.length < 50000) (hsep : ∀ b, inP p c b ∨ inP q d b → ¬ T b) :
    Calls Try.prog 28 #[.pointer (some ⟨L, 0, none⟩), .agg #[.slice p xs'.length c, .slice q ys'.length d], .agg #[.int .i64 0, .int .i64 k]] w
      (ActPost T L (askS (xs, ys) k false).1 (askS (xs', ys') k false).1 ((askS (xs, ys) k false).2 == (askS (xs', ys') k false).2) (fun b => inP p c b ∨ inP q d b) w) := by
  obtain ⟨wa, hwa⟩ : ∃ wa, ((w.alloc (.cells #[.slice p xs'.length c, .slice q ys'.length d] 62)).alloc (.cells #[.int .i64 0, .int .i64 k] 60)).alloc (.cells #[.slice none 0 0, .slice none 0 0] 62) = wa := ⟨_, rfl⟩
  obtain ⟨hba, hza, ha0, ha1, ha2⟩ := act_start p c xs' q d ys' 0 k w wa hwa
  have hpq : ∀ b, inP p c b ∨ inP q d b → b < w.heap.size := fun b hb => hb.elim hx.inlt hy.inlt
  have href := refAsk_any p c xs' q d ys' k false wa ((hx.kept hba).wide hba.size) ((hy.kept hba).wide hba.size) hn'
  have m0 := pair_c0 ha0
  have m1 := pair_c1 ha0
  have x0 := pair_c0 ha1
  have x1 := pair_c1 ha1
  have HREF := Lib.hid href
  have HBA := Lib.hid hba
  have HA := Lib.hid (And.intro ha0 (And.intro ha1 ha2))
  have HWA := Lib.hid hwa
  have HL := Lib.hid h
  have HTW := Lib.hid hTw
  have HSEP := Lib.hid hsep
  have HPQ := Lib.hid hpq
  have HZA := Lib.hid hza
  obtain ⟨z, hz⟩ : ∃ z, askS (xs', ys') k false = z := ⟨_, rfl⟩
  obtain ⟨s, hs⟩ : ∃ s, askS (xs, ys) k false = s := ⟨_, rfl⟩
  rw [hz] at HREF ⊢
  rw [hs]
  clear h hTw hx hy hsep hpq hba ha0 ha1 ha2 hwa href hza hz
  go_enter Try.func28, Try.ntmps28
  go_wp2_with fail
  rw [HWA.out]
  go_wp2_with fail
  refine HREF.out.mono ?_
  rintro e w1 ⟨v, rfl, hret, hb1⟩
  obtain ⟨p6, c6, q6, d6, rfl, r1, r2, r3⟩ := hret
  have hw1 : Below w.heap.size w w1 := HBA.out.trans (hb1.mono HBA.out.size)
  obtain ⟨wX, hwX⟩ : ∃ wX, w1.alloc (.cells #[.slice p6 z.1.1.length c6, .slice q6 z.1.2.length d6] 62) = wX := ⟨_, rfl⟩
  have hbX : Below w1.heap.size w1 wX := by rw [← hwX]; exact (Below.refl _ _).alloc (Nat.le_refl _) _
  have hN : wX.heap[w1.heap.size]? = some (.cells #[.slice p6 z.1.1.length c6, .slice q6 z.1.2.length d6] 62 (0, 0)) := by rw [← hwX]; exact World.alloc_heap_new w1 _
  have hX1 : wX.heap[w.heap.size + 1]? = some (.cells #[.int .i64 0, .int .i64 k] 60 (0, 0)) := (hbX.block _ (by have := HZA.out; have := hb1.size; omega)).trans ((hb1.block _ (by have := HZA.out; omega)).trans HA.out.2.1)
  have hl := ask_any T L xs ys k false wX.drew (((HL.out.below hw1).below hbX).below (Below.refl _ _).drew) (fun b hb => Nat.lt_of_lt_of_le (HTW.out b hb) (Nat.le_trans hw1.size hbX.size)) hn
  rw [hs] at hl
  have d0 : wX.drew.cell? ⟨w1.heap.size, 0, none⟩ = some (.slice p6 z.1.1.length c6) := pair_c0 hN
  have d1 : wX.drew.cell? ⟨w1.heap.size, 1, none⟩ = some (.slice q6 z.1.2.length d6) := pair_c1 hN
  have d2 : wX.drew.cell? ⟨w.heap.size + 1, 0, none⟩ = some (.int .i64 0) := pair_c0 hX1
  have d3 : wX.drew.cell? ⟨w.heap.size + 1, 1, none⟩ = some (.int .i64 k) := pair_c1 hX1
  have HLX := Lib.hid hl
  have HN := Lib.hid hN
  have HX1 := Lib.hid hX1
  have HWX := Lib.hid hwX
  have HW1 := Lib.hid hw1
  have HBX := Lib.hid hbX
  have HB1 := Lib.hid hb1
  have HR := Lib.hid (And.intro r1 (And.intro r2 r3))
  clear hl hN hX1 hwX hw1 hbX r1 r2 r3 hb1 hs m0 m1 x0 x1
  go_wp2_with fail
  rw [HWX.out]
  go_region_held3 (fun w' => w'.cell? ⟨w1.heap.size, 0, none⟩ = some (.slice p6 z.1.1.length c6) ∧ w'.cell? ⟨w1.heap.size, 1, none⟩ = some (.slice q6 z.1.2.length d6) ∧ w'.cell? ⟨w.heap.size + 1, 0, none⟩ = some (.int .i64 0) ∧ w'.cell? ⟨w.heap.size + 1, 1, none⟩ = some (.int .i64 k))
    (first | exact ⟨d0, d1, d2, d3⟩ | exact ⟨e0, e1, e2, e3⟩ | exact ⟨i0, i1, i2, i3⟩)
    (first
    | (go_at_call 25
       refine HLX.out.mono ?_
       rintro e w2 ⟨rfl, hl2, hf2⟩
       have hnw : ∀ b, w.heap.size ≤ b → b < wX.heap.size → w2.heap[b]? = wX.heap[b]? := fun b h1 h2 => hf2.block b h2 (fun ht => by have := HTW.out b ht; omega)
       have hs1 := HB1.out.size
       have hsA := HZA.out
       have hszX : w1.heap.size < wX.heap.size := (Array.getElem?_eq_some_iff.1 HN.out).1
       have hN2 := (hnw w1.heap.size (by omega) hszX).trans HN.out
       have hX2 := (hnw (w.heap.size + 1) (by omega) (by omega)).trans HX1.out
       have e0 := pair_c0 hN2
       have e1 := pair_c1 hN2
       have e2 := pair_c0 hX2
       have e3 := pair_c1 hX2
       obtain ⟨g0, g1, g2, g3, g4, g5⟩ := act_end (fine := (s.2 == z.2)) (R0 := fun b => inP p c b ∨ inP q d b) (B := w.heap.size + 2) (z := z.1) (s := s.1) HTW.out HSEP.out HW1.out (by omega) (by omega) ((HB1.out.block _ (by omega)).trans HA.out.2.2) (HBX.out.drew) hl2 hf2 ((HR.out.1.kept HBX.out).wide HBX.out.size) ((HR.out.2.1.kept HBX.out).wide HBX.out.size)
         (fun b hb => by
           rcases HR.out.2.2 b hb with hh | hh
           · exact ⟨by have := HPQ.out b hh; omega, .inl hh⟩
           · exact ⟨by omega, .inr (by omega)⟩)
       have i0 : ((w2.setCell ⟨w.heap.size + 2, 0, none⟩ (.slice p6 z.1.1.length c6)).setCell ⟨w.heap.size + 2, 1, none⟩ (.slice q6 z.1.2.length d6)).cell? ⟨w1.heap.size, 0, none⟩ = some (.slice p6 z.1.1.length c6) := by
         refine (World.cell?_of_block (w := w2) (a := ⟨w1.heap.size, 0, none⟩) ((heap_setCell_other _ ⟨w.heap.size + 2, 1, none⟩ _ _ (by simp only; omega)).trans (heap_setCell_other _ ⟨w.heap.size + 2, 0, none⟩ _ _ (by simp only; omega)))).trans e0
       have i1 : ((w2.setCell ⟨w.heap.size + 2, 0, none⟩ (.slice p6 z.1.1.length c6)).setCell ⟨w.heap.size + 2, 1, none⟩ (.slice q6 z.1.2.length d6)).cell? ⟨w1.heap.size, 1, none⟩ = some (.slice q6 z.1.2.length d6) := by
         refine (World.cell?_of_block (w := w2) (a := ⟨w1.heap.size, 1, none⟩) ((heap_setCell_other _ ⟨w.heap.size + 2, 1, none⟩ _ _ (by simp only; omega)).trans (heap_setCell_other _ ⟨w.heap.size + 2, 0, none⟩ _ _ (by simp only; omega)))).trans e1
       have i2 : ((w2.setCell ⟨w.heap.size + 2, 0, none⟩ (.slice p6 z.1.1.length c6)).setCell ⟨w.heap.size + 2, 1, none⟩ (.slice q6 z.1.2.length d6)).cell? ⟨w.heap.size + 1, 0, none⟩ = some (.int .i64 0) := by
         refine (World.cell?_of_block (w := w2) (a := ⟨w.heap.size + 1, 0, none⟩) ((heap_setCell_other _ ⟨w.heap.size + 2, 1, none⟩ _ _ (by simp)).trans (heap_setCell_other _ ⟨w.heap.size + 2, 0, none⟩ _ _ (by simp)))).trans e2
       have i3 : ((w2.setCell ⟨w.heap.size + 2, 0, none⟩ (.slice p6 z.1.1.length c6)).setCell ⟨w.heap.size + 2, 1, none⟩ (.slice q6 z.1.2.length d6)).cell? ⟨w.heap.size + 1, 1, none⟩ = some (.int .i64 k) := by
         refine (World.cell?_of_block (w := w2) (a := ⟨w.heap.size + 1, 1, none⟩) ((heap_setCell_other _ ⟨w.heap.size + 2, 1, none⟩ _ _ (by simp)).trans (heap_setCell_other _ ⟨w.heap.size + 2, 0, none⟩ _ _ (by simp)))).trans e3
       have HE := Lib.hid (And.intro g3 (And.intro g4 g5))
       clear hl2 hf2 hnw hs1 hsA hszX hN2 hX2 g3 g4 g5)
    | (go_at_call 24
       refine (num25_any _ _).mono ?_
       rintro e w3 ⟨rfl, rfl⟩))
  all_goals
    obtain ⟨g3, g4, g5⟩ := HE.out
    go_wp2_with fail
    refine bodyPost_ret (v := .tuple #[.agg #[.slice p6 z.1.1.length c6, .slice q6 z.1.2.length d6], .bool (s.2 == z.2)]) (by simp [results, Try.results28, go_sem, g3, g4]) rfl ?_
    exact g5

set_option maxRecDepth 100000 in
set_option maxHeartbeats 4000000 in
theorem act_ask1 (T : Nat → Prop) (L : Nat) (xs ys : List Turn) (p : Option Addr) (c : Nat) (xs' : List Turn) (q : Option Addr) (d : Nat) (ys' : List Turn) (k : Int) (w : World) (h : LOwn T w L xs ys) (hTw : ∀ b, T b → b < w.heap.size) (hn : xs.length + ys.length < 50000)
    (hx : RdS w.heap.size w p c 2 tc xs') (hy : RdS w.heap.size w q d 2 tc ys') (hn' : xs'.length + ys'.length < 50000) (hsep : ∀ b, inP p c b ∨ inP q d b → ¬ T b) :
    Calls Try.prog 28 #[.pointer (some ⟨L, 0, none⟩), .agg #[.slice p xs'.length c, .slice q ys'.length d], .agg #[.int .i64 1, .int .i64 k]] w
      (ActPost T L (askS (xs, ys) k true).1 (askS (xs', ys') k true).1 ((askS (xs, ys) k true).2 == (askS (xs', ys') k true).2) (fun b => inP p c b ∨ inP q d b) w) := by
  obtain ⟨wa, hwa⟩ : ∃ wa, ((w.alloc (.cells #[.slice p xs'.length c, .slice q ys'.length d] 62)).alloc (.cells #[.int .i64 1, .int .i64 k] 60)).alloc (.cells #[.slice none 0 0, .slice none 0 0] 62) = wa := ⟨_, rfl⟩
  obtain ⟨hba, hza, ha0, ha1, ha2⟩ := act_start p c xs' q d ys' 1 k w wa hwa
  have hpq : ∀ b, inP p c b ∨ inP q d b → b < w.heap.size := fun b hb => hb.elim hx.inlt hy.inlt
  have href := refAsk_any p c xs' q d ys' k true wa ((hx.kept hba).wide hba.size) ((hy.kept hba).wide hba.size) hn'
  have m0 := pair_c0 ha0
  have m1 := pair_c1 ha0
  have x0 := pair_c0 ha1
  have x1 := pair_c1 ha1
  have HREF := Lib.hid href
  have HBA := Lib.hid hba
  have HA := Lib.hid (And.intro ha0 (And.intro ha1 ha2))
  have HWA := Lib.hid hwa
  have HL := Lib.hid h
  have HTW := Lib.hid hTw
  have HSEP := Lib.hid hsep
  have HPQ := Lib.hid hpq
  have HZA := Lib.hid hza
  obtain ⟨z, hz⟩ : ∃ z, askS (xs', ys') k true = z := ⟨_, rfl⟩
  obtain ⟨s, hs⟩ : ∃ s, askS (xs, ys) k true = s := ⟨_, rfl⟩
  rw [hz] at HREF ⊢
  rw [hs]
  clear h hTw hx hy hsep hpq hba ha0 ha1 ha2 hwa href hza hz
  go_enter Try.func28, Try.ntmps28
  go_wp2_with fail
  rw [HWA.out]
  go_wp2_with fail
  refine HREF.out.mono ?_
  rintro e w1 ⟨v, rfl, hret, hb1⟩
  obtain ⟨p6, c6, q6, d6, rfl, r1, r2, r3⟩ := hret
  have hw1 : Below w.heap.size w w1 := HBA.out.trans (hb1.mono HBA.out.size)
  obtain ⟨wX, hwX⟩ : ∃ wX, w1.alloc (.cells #[.slice p6 z.1.1.length c6, .slice q6 z.1.2.length d6] 62) = wX := ⟨_, rfl⟩
  have hbX : Below w1.heap.size w1 wX := by rw [← hwX]; exact (Below.refl _ _).alloc (Nat.le_refl _) _
  have hN : wX.heap[w1.heap.size]? = some (.cells #[.slice p6 z.1.1.length c6, .slice q6 z.1.2.length d6] 62 (0, 0)) := by rw [← hwX]; exact World.alloc_heap_new w1 _
  have hX1 : wX.heap[w.heap.size + 1]? = some (.cells #[.int .i64 1, .int .i64 k] 60 (0, 0)) := (hbX.block _ (by have := HZA.out; have := hb1.size; omega)).trans ((hb1.block _ (by have := HZA.out; omega)).trans HA.out.2.1)
  have hl := ask_any T L xs ys k true wX.drew (((HL.out.below hw1).below hbX).below (Below.refl _ _).drew) (fun b hb => Nat.lt_of_lt_of_le (HTW.out b hb) (Nat.le_trans hw1.size hbX.size)) hn
  rw [hs] at hl
  have d0 : wX.drew.cell? ⟨w1.heap.size, 0, none⟩ = some (.slice p6 z.1.1.length c6) := pair_c0 hN
  have d1 : wX.drew.cell? ⟨w1.heap.size, 1, none⟩ = some (.slice q6 z.1.2.length d6) := pair_c1 hN
  have d2 : wX.drew.cell? ⟨w.heap.size + 1, 0, none⟩ = some (.int .i64 1) := pair_c0 hX1
  have d3 : wX.drew.cell? ⟨w.heap.size + 1, 1, none⟩ = some (.int .i64 k) := pair_c1 hX1
  have HLX := Lib.hid hl
  have HN := Lib.hid hN
  have HX1 := Lib.hid hX1
  have HWX := Lib.hid hwX
  have HW1 := Lib.hid hw1
  have HBX := Lib.hid hbX
  have HB1 := Lib.hid hb1
  have HR := Lib.hid (And.intro r1 (And.intro r2 r3))
  clear hl hN hX1 hwX hw1 hbX r1 r2 r3 hb1 hs m0 m1 x0 x1
  go_wp2_with fail
  rw [HWX.out]
  go_region_held3 (fun w' => w'.cell? ⟨w1.heap.size, 0, none⟩ = some (.slice p6 z.1.1.length c6) ∧ w'.cell? ⟨w1.heap.size, 1, none⟩ = some (.slice q6 z.1.2.length d6) ∧ w'.cell? ⟨w.heap.size + 1, 0, none⟩ = some (.int .i64 1) ∧ w'.cell? ⟨w.heap.size + 1, 1, none⟩ = some (.int .i64 k))
    (first | exact ⟨d0, d1, d2, d3⟩ | exact ⟨e0, e1, e2, e3⟩ | exact ⟨i0, i1, i2, i3⟩)
    (first
    | (go_at_call 25
       refine HLX.out.mono ?_
       rintro e w2 ⟨rfl, hl2, hf2⟩
       have hnw : ∀ b, w.heap.size ≤ b → b < wX.heap.size → w2.heap[b]? = wX.heap[b]? := fun b h1 h2 => hf2.block b h2 (fun ht => by have := HTW.out b ht; omega)
       have hs1 := HB1.out.size
       have hsA := HZA.out
       have hszX : w1.heap.size < wX.heap.size := (Array.getElem?_eq_some_iff.1 HN.out).1
       have hN2 := (hnw w1.heap.size (by omega) hszX).trans HN.out
       have hX2 := (hnw (w.heap.size + 1) (by omega) (by omega)).trans HX1.out
       have e0 := pair_c0 hN2
       have e1 := pair_c1 hN2
       have e2 := pair_c0 hX2
       have e3 := pair_c1 hX2
       obtain ⟨g0, g1, g2, g3, g4, g5⟩ := act_end (fine := (s.2 == z.2)) (R0 := fun b => inP p c b ∨ inP q d b) (B := w.heap.size + 2) (z := z.1) (s := s.1) HTW.out HSEP.out HW1.out (by omega) (by omega) ((HB1.out.block _ (by omega)).trans HA.out.2.2) (HBX.out.drew) hl2 hf2 ((HR.out.1.kept HBX.out).wide HBX.out.size) ((HR.out.2.1.kept HBX.out).wide HBX.out.size)
         (fun b hb => by
           rcases HR.out.2.2 b hb with hh | hh
           · exact ⟨by have := HPQ.out b hh; omega, .inl hh⟩
           · exact ⟨by omega, .inr (by omega)⟩)
       have i0 : ((w2.setCell ⟨w.heap.size + 2, 0, none⟩ (.slice p6 z.1.1.length c6)).setCell ⟨w.heap.size + 2, 1, none⟩ (.slice q6 z.1.2.length d6)).cell? ⟨w1.heap.size, 0, none⟩ = some (.slice p6 z.1.1.length c6) := by
         refine (World.cell?_of_block (w := w2) (a := ⟨w1.heap.size, 0, none⟩) ((heap_setCell_other _ ⟨w.heap.size + 2, 1, none⟩ _ _ (by simp only; omega)).trans (heap_setCell_other _ ⟨w.heap.size + 2, 0, none⟩ _ _ (by simp only; omega)))).trans e0
       have i1 : ((w2.setCell ⟨w.heap.size + 2, 0, none⟩ (.slice p6 z.1.1.length c6)).setCell ⟨w.heap.size + 2, 1, none⟩ (.slice q6 z.1.2.length d6)).cell? ⟨w1.heap.size, 1, none⟩ = some (.slice q6 z.1.2.length d6) := by
         refine (World.cell?_of_block (w := w2) (a := ⟨w1.heap.size, 1, none⟩) ((heap_setCell_other _ ⟨w.heap.size + 2, 1, none⟩ _ _ (by simp only; omega)).trans (heap_setCell_other _ ⟨w.heap.size + 2, 0, none⟩ _ _ (by simp only; omega)))).trans e1
       have i2 : ((w2.setCell ⟨w.heap.size + 2, 0, none⟩ (.slice p6 z.1.1.length c6)).setCell ⟨w.heap.size + 2, 1, none⟩ (.slice q6 z.1.2.length d6)).cell? ⟨w.heap.size + 1, 0, none⟩ = some (.int .i64 1) := by
         refine (World.cell?_of_block (w := w2) (a := ⟨w.heap.size + 1, 0, none⟩) ((heap_setCell_other _ ⟨w.heap.size + 2, 1, none⟩ _ _ (by simp)).trans (heap_setCell_other _ ⟨w.heap.size + 2, 0, none⟩ _ _ (by simp)))).trans e2
       have i3 : ((w2.setCell ⟨w.heap.size + 2, 0, none⟩ (.slice p6 z.1.1.length c6)).setCell ⟨w.heap.size + 2, 1, none⟩ (.slice q6 z.1.2.length d6)).cell? ⟨w.heap.size + 1, 1, none⟩ = some (.int .i64 k) := by
         refine (World.cell?_of_block (w := w2) (a := ⟨w.heap.size + 1, 1, none⟩) ((heap_setCell_other _ ⟨w.heap.size + 2, 1, none⟩ _ _ (by simp)).trans (heap_setCell_other _ ⟨w.heap.size + 2, 0, none⟩ _ _ (by simp)))).trans e3
       have HE := Lib.hid (And.intro g3 (And.intro g4 g5))
       clear hl2 hf2 hnw hs1 hsA hszX hN2 hX2 g3 g4 g5)
    | (go_at_call 24
       refine (num25_any _ _).mono ?_
       rintro e w3 ⟨rfl, rfl⟩))
  all_goals
    obtain ⟨g3, g4, g5⟩ := HE.out
    go_wp2_with fail
    refine bodyPost_ret (v := .tuple #[.agg #[.slice p6 z.1.1.length c6, .slice q6 z.1.2.length d6], .bool (s.2 == z.2)]) (by simp [results, Try.results28, go_sem, g3, g4]) rfl ?_
    exact g5

set_option maxRecDepth 100000 in
set_option maxHeartbeats 4000000 in
theorem act_free (T : Nat → Prop) (L : Nat) (xs ys : List Turn) (p : Option Addr) (c : Nat) (xs' : List Turn) (q : Option Addr) (d : Nat) (ys' : List Turn) (k : Int) (w : World) (h : LOwn T w L xs ys) (hTw : ∀ b, T b → b < w.heap.size) (hn : xs.length + ys.length < 50000)
    (hx : RdS w.heap.size w p c 2 tc xs') (hy : RdS w.heap.size w q d 2 tc ys') (hn' : xs'.length + ys'.length < 50000) (hsep : ∀ b, inP p c b ∨ inP q d b → ¬ T b) :
    Calls Try.prog 28 #[.pointer (some ⟨L, 0, none⟩), .agg #[.slice p xs'.length c, .slice q ys'.length d], .agg #[.int .i64 2, .int .i64 k]] w
      (ActPost T L (freeS (xs, ys) k).1 (freeS (xs', ys') k).1 ((freeS (xs, ys) k).2 == (freeS (xs', ys') k).2) (fun b => inP p c b ∨ inP q d b) w) := by
  obtain ⟨wa, hwa⟩ : ∃ wa, ((w.alloc (.cells #[.slice p xs'.length c, .slice q ys'.length d] 62)).alloc (.cells #[.int .i64 2, .int .i64 k] 60)).alloc (.cells #[.slice none 0 0, .slice none 0 0] 62) = wa := ⟨_, rfl⟩
  obtain ⟨hba, hza, ha0, ha1, ha2⟩ := act_start p c xs' q d ys' 2 k w wa hwa
  have hpq : ∀ b, inP p c b ∨ inP q d b → b < w.heap.size := fun b hb => hb.elim hx.inlt hy.inlt
  have href := refFree_any2 p c xs' q d ys' k  wa ((hx.kept hba).wide hba.size) ((hy.kept hba).wide hba.size) hn'
  have m0 := pair_c0 ha0
  have m1 := pair_c1 ha0
  have x0 := pair_c0 ha1
  have x1 := pair_c1 ha1
  have HREF := Lib.hid href
  have HBA := Lib.hid hba
  have HA := Lib.hid (And.intro ha0 (And.intro ha1 ha2))
  have HWA := Lib.hid hwa
  have HL := Lib.hid h
  have HTW := Lib.hid hTw
  have HSEP := Lib.hid hsep
  have HPQ := Lib.hid hpq
  have HZA := Lib.hid hza
  obtain ⟨z, hz⟩ : ∃ z, freeS (xs', ys') k = z := ⟨_, rfl⟩
  obtain ⟨s, hs⟩ : ∃ s, freeS (xs, ys) k = s := ⟨_, rfl⟩
  rw [hz] at HREF ⊢
  rw [hs]
  clear h hTw hx hy hsep hpq hba ha0 ha1 ha2 hwa href hza hz
  go_enter Try.func28, Try.ntmps28
  go_wp2_with fail
  rw [HWA.out]
  go_wp2_with fail
  refine HREF.out.mono ?_
  rintro e w1 ⟨v, rfl, hret, hb1⟩
  obtain ⟨p6, c6, q6, d6, rfl, r1, r2, r3⟩ := hret
  have hw1 : Below w.heap.size w w1 := HBA.out.trans (hb1.mono HBA.out.size)
  obtain ⟨wX, hwX⟩ : ∃ wX, w1.alloc (.cells #[.slice p6 z.1.1.length c6, .slice q6 z.1.2.length d6] 62) = wX := ⟨_, rfl⟩
  have hbX : Below w1.heap.size w1 wX := by rw [← hwX]; exact (Below.refl _ _).alloc (Nat.le_refl _) _
  have hN : wX.heap[w1.heap.size]? = some (.cells #[.slice p6 z.1.1.length c6, .slice q6 z.1.2.length d6] 62 (0, 0)) := by rw [← hwX]; exact World.alloc_heap_new w1 _
  have hX1 : wX.heap[w.heap.size + 1]? = some (.cells #[.int .i64 2, .int .i64 k] 60 (0, 0)) := (hbX.block _ (by have := HZA.out; have := hb1.size; omega)).trans ((hb1.block _ (by have := HZA.out; omega)).trans HA.out.2.1)
  have hl := free_any T L xs ys k  wX.drew (((HL.out.below hw1).below hbX).below (Below.refl _ _).drew) (fun b hb => Nat.lt_of_lt_of_le (HTW.out b hb) (Nat.le_trans hw1.size hbX.size)) hn
  rw [hs] at hl
  have d0 : wX.drew.cell? ⟨w1.heap.size, 0, none⟩ = some (.slice p6 z.1.1.length c6) := pair_c0 hN
  have d1 : wX.drew.cell? ⟨w1.heap.size, 1, none⟩ = some (.slice q6 z.1.2.length d6) := pair_c1 hN
  have d2 : wX.drew.cell? ⟨w.heap.size + 1, 0, none⟩ = some (.int .i64 2) := pair_c0 hX1
  have d3 : wX.drew.cell? ⟨w.heap.size + 1, 1, none⟩ = some (.int .i64 k) := pair_c1 hX1
  have HLX := Lib.hid hl
  have HN := Lib.hid hN
  have HX1 := Lib.hid hX1
  have HWX := Lib.hid hwX
  have HW1 := Lib.hid hw1
  have HBX := Lib.hid hbX
  have HB1 := Lib.hid hb1
  have HR := Lib.hid (And.intro r1 (And.intro r2 r3))
  clear hl hN hX1 hwX hw1 hbX r1 r2 r3 hb1 hs m0 m1 x0 x1
  go_wp2_with fail
  rw [HWX.out]
  go_region_held3 (fun w' => w'.cell? ⟨w1.heap.size, 0, none⟩ = some (.slice p6 z.1.1.length c6) ∧ w'.cell? ⟨w1.heap.size, 1, none⟩ = some (.slice q6 z.1.2.length d6) ∧ w'.cell? ⟨w.heap.size + 1, 0, none⟩ = some (.int .i64 2) ∧ w'.cell? ⟨w.heap.size + 1, 1, none⟩ = some (.int .i64 k))
    (first | exact ⟨d0, d1, d2, d3⟩ | exact ⟨e0, e1, e2, e3⟩ | exact ⟨i0, i1, i2, i3⟩)
    (first
    | (go_at_call 56
       refine HLX.out.mono ?_
       rintro e w2 ⟨rfl, hl2, hf2⟩
       have hnw : ∀ b, w.heap.size ≤ b → b < wX.heap.size → w2.heap[b]? = wX.heap[b]? := fun b h1 h2 => hf2.block b h2 (fun ht => by have := HTW.out b ht; omega)
       have hs1 := HB1.out.size
       have hsA := HZA.out
       have hszX : w1.heap.size < wX.heap.size := (Array.getElem?_eq_some_iff.1 HN.out).1
       have hN2 := (hnw w1.heap.size (by omega) hszX).trans HN.out
       have hX2 := (hnw (w.heap.size + 1) (by omega) (by omega)).trans HX1.out
       have e0 := pair_c0 hN2
       have e1 := pair_c1 hN2
       have e2 := pair_c0 hX2
       have e3 := pair_c1 hX2
       obtain ⟨g0, g1, g2, g3, g4, g5⟩ := act_end (fine := (s.2 == z.2)) (R0 := fun b => inP p c b ∨ inP q d b) (B := w.heap.size + 2) (z := z.1) (s := s.1) HTW.out HSEP.out HW1.out (by omega) (by omega) ((HB1.out.block _ (by omega)).trans HA.out.2.2) (HBX.out.drew) hl2 hf2 ((HR.out.1.kept HBX.out).wide HBX.out.size) ((HR.out.2.1.kept HBX.out).wide HBX.out.size)
         (fun b hb => by
           rcases HR.out.2.2 b hb with hh | hh
           · exact ⟨by have := HPQ.out b hh; omega, .inl hh⟩
           · exact ⟨by omega, .inr (by omega)⟩)
       have i0 : ((w2.setCell ⟨w.heap.size + 2, 0, none⟩ (.slice p6 z.1.1.length c6)).setCell ⟨w.heap.size + 2, 1, none⟩ (.slice q6 z.1.2.length d6)).cell? ⟨w1.heap.size, 0, none⟩ = some (.slice p6 z.1.1.length c6) := by
         refine (World.cell?_of_block (w := w2) (a := ⟨w1.heap.size, 0, none⟩) ((heap_setCell_other _ ⟨w.heap.size + 2, 1, none⟩ _ _ (by simp only; omega)).trans (heap_setCell_other _ ⟨w.heap.size + 2, 0, none⟩ _ _ (by simp only; omega)))).trans e0
       have i1 : ((w2.setCell ⟨w.heap.size + 2, 0, none⟩ (.slice p6 z.1.1.length c6)).setCell ⟨w.heap.size + 2, 1, none⟩ (.slice q6 z.1.2.length d6)).cell? ⟨w1.heap.size, 1, none⟩ = some (.slice q6 z.1.2.length d6) := by
         refine (World.cell?_of_block (w := w2) (a := ⟨w1.heap.size, 1, none⟩) ((heap_setCell_other _ ⟨w.heap.size + 2, 1, none⟩ _ _ (by simp only; omega)).trans (heap_setCell_other _ ⟨w.heap.size + 2, 0, none⟩ _ _ (by simp only; omega)))).trans e1
       have i2 : ((w2.setCell ⟨w.heap.size + 2, 0, none⟩ (.slice p6 z.1.1.length c6)).setCell ⟨w.heap.size + 2, 1, none⟩ (.slice q6 z.1.2.length d6)).cell? ⟨w.heap.size + 1, 0, none⟩ = some (.int .i64 2) := by
         refine (World.cell?_of_block (w := w2) (a := ⟨w.heap.size + 1, 0, none⟩) ((heap_setCell_other _ ⟨w.heap.size + 2, 1, none⟩ _ _ (by simp)).trans (heap_setCell_other _ ⟨w.heap.size + 2, 0, none⟩ _ _ (by simp)))).trans e2
       have i3 : ((w2.setCell ⟨w.heap.size + 2, 0, none⟩ (.slice p6 z.1.1.length c6)).setCell ⟨w.heap.size + 2, 1, none⟩ (.slice q6 z.1.2.length d6)).cell? ⟨w.heap.size + 1, 1, none⟩ = some (.int .i64 k) := by
         refine (World.cell?_of_block (w := w2) (a := ⟨w.heap.size + 1, 1, none⟩) ((heap_setCell_other _ ⟨w.heap.size + 2, 1, none⟩ _ _ (by simp)).trans (heap_setCell_other _ ⟨w.heap.size + 2, 0, none⟩ _ _ (by simp)))).trans e3
       have HE := Lib.hid (And.intro g3 (And.intro g4 g5))
       clear hl2 hf2 hnw hs1 hsA hszX hN2 hX2 g3 g4 g5)
    | (go_at_call 24
       refine (num25_any _ _).mono ?_
       rintro e w3 ⟨rfl, rfl⟩))
  all_goals
    obtain ⟨g3, g4, g5⟩ := HE.out
    go_wp2_with fail
    refine bodyPost_ret (v := .tuple #[.agg #[.slice p6 z.1.1.length c6, .slice q6 z.1.2.length d6], .bool (s.2 == z.2)]) (by simp [results, Try.results28, go_sem, g3, g4]) rfl ?_
    exact g5

set_option maxRecDepth 100000 in
set_option maxHeartbeats 4000000 in
theorem act_other (T : Nat → Prop) (L : Nat) (xs ys : List Turn) (p : Option Addr) (c : Nat) (xs' : List Turn) (q : Option Addr) (d : Nat) (ys' : List Turn) (what k : Int) (w : World) (h : LOwn T w L xs ys) (hTw : ∀ b, T b → b < w.heap.size)
    (hx : RdS w.heap.size w p c 2 tc xs') (hy : RdS w.heap.size w q d 2 tc ys') (hsep : ∀ b, inP p c b ∨ inP q d b → ¬ T b) (h0 : what ≠ 0) (h1 : what ≠ 1) (h2 : what ≠ 2) :
    Calls Try.prog 28 #[.pointer (some ⟨L, 0, none⟩), .agg #[.slice p xs'.length c, .slice q ys'.length d], .agg #[.int .i64 what, .int .i64 k]] w
      (ActPost T L (xs, ys) (xs', ys') true (fun b => inP p c b ∨ inP q d b) w) := by
  have hx0 : (what == 0) = false := by simpa using h0
  have hx1 : (what == 1) = false := by simpa using h1
  have hx2 : (what == 2) = false := by simpa using h2
  obtain ⟨wF, hwF⟩ : ∃ wF, ((w.alloc (.cells #[.slice p xs'.length c, .slice q ys'.length d] 62)).alloc (.cells #[.int .i64 what, .int .i64 k] 60)).alloc (.cells #[.slice p xs'.length c, .slice q ys'.length d] 62) = wF := ⟨_, rfl⟩
  have hbF : Below w.heap.size w wF := by rw [← hwF]; exact (((Below.refl _ _).alloc (Nat.le_refl _) _).alloc (by simp) _).alloc (by simp only [World.size_alloc]; omega) _
  have hH := Lib.hid (show ActPost T L (xs, ys) (xs', ys') true (fun b => inP p c b ∨ inP q d b) w (.returned (.tuple #[.agg #[.slice p xs'.length c, .slice q ys'.length d], .bool true])) wF from
    ⟨T, p, c, q, d, rfl, h.below hbF, fun b hb => Nat.lt_of_lt_of_le (hTw b hb) hbF.size, fun b hb => .inl hb, Frn.of_below hbF, (hx.kept hbF).wide hbF.size, (hy.kept hbF).wide hbF.size, fun b hb => ⟨hsep b hb, .inl hb⟩⟩)
  have HWF := Lib.hid hwF
  clear h hTw hx hy hsep hwF hbF h0 h1 h2
  go_enter Try.func28, Try.ntmps28
  go_wp2_with fail
  refine bodyPost_ret (v := .tuple #[.agg #[.slice p xs'.length c, .slice q ys'.length d], .bool true]) (by simp [results, Try.results28, go_sem]) rfl ?_
  rw [HWF.out]
  exact hH.out
theorem ActPost.to {T : Nat → Prop} {L : Nat} {s s' z z' : List Turn × List Turn} {f f' : Bool} {R : Nat → Prop} {w : World} {e : Ending} {w' : World} (h : ActPost T L s z f R w e w') (hs : s = s') (hz : z = z') (hf : f = f') : ActPost T L s' z' f' R w e w' := by
  subst hs; subst hz; subst hf; exact h
theorem act_any (T : Nat → Prop) (L : Nat) (xs ys : List Turn) (p : Option Addr) (c : Nat) (xs' : List Turn) (q : Option Addr) (d : Nat) (ys' : List Turn) (what k : Int) (w : World) (h : LOwn T w L xs ys) (hTw : ∀ b, T b → b < w.heap.size) (hn : xs.length + ys.length < 50000)
    (hx : RdS w.heap.size w p c 2 tc xs') (hy : RdS w.heap.size w q d 2 tc ys') (hn' : xs'.length + ys'.length < 50000) (hsep : ∀ b, inP p c b ∨ inP q d b → ¬ T b) :
    Calls Try.prog 28 #[.pointer (some ⟨L, 0, none⟩), .agg #[.slice p xs'.length c, .slice q ys'.length d], .agg #[.int .i64 what, .int .i64 k]] w
      (ActPost T L (actS (xs, ys) what k).1 (actS (xs', ys') what k).1 ((actS (xs, ys) what k).2 == (actS (xs', ys') what k).2) (fun b => inP p c b ∨ inP q d b) w) := by
  by_cases h0 : what = 0
  · subst h0
    exact act_ask0 T L xs ys p c xs' q d ys' k w h hTw hn hx hy hn' hsep
  by_cases h1 : what = 1
  · subst h1
    exact act_ask1 T L xs ys p c xs' q d ys' k w h hTw hn hx hy hn' hsep
  by_cases h2 : what = 2
  · subst h2
    exact act_free T L xs ys p c xs' q d ys' k w h hTw hn hx hy hn' hsep
  refine (act_other T L xs ys p c xs' q d ys' what k w h hTw hx hy hsep h0 h1 h2).mono ?_
  rintro e w' ha
  have e1 : ∀ s : List Turn × List Turn, actS s what k = (s, 0) := fun s => by unfold actS; rw [if_neg h0, if_neg h1, if_neg h2]
  exact ha.to (by rw [e1]) (by rw [e1]) (by rw [e1, e1]; rfl)
end Go.Proofs.Ythhdipfadnihjaa
