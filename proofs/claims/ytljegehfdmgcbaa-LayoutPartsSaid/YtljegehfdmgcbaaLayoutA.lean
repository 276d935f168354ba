/- The walks of layout.Of, right, the reference's Of and Right, the parts' questions. -/
import Derived.Test.YtljegehfdmgcbaaLayoutLaw
import Derived.Test.YtljegehfdmgcbaaApp
import Derived.Test.YtljegehfdmgcbaaOpen
import Derived.Test.YtljegehfdmgcbaaRows
import Derived.Deep.QuietTactic
import Derived.BigQuiet
import Derived.Deep.RegionHeld3
import Derived.ScopeJumps
namespace Go.Proofs.Ytljegehfdmgcbaa
open Go Go.RowKit

def inb (n lo hi : Int) : Bool := decide (lo ≤ n) && decide (n ≤ hi)
theorem inb_true {n lo hi : Int} (h : inb n lo hi = true) : lo ≤ n ∧ n ≤ hi := by simpa [inb] using h
theorem inb_false {n lo hi : Int} (h : inb n lo hi = false) : ¬ (lo ≤ n ∧ n ≤ hi) := by
  intro h'
  simp [inb, h'.1, h'.2] at h
set_option maxHeartbeats 1000000 in
theorem in_any (n lo hi : Int) (w : World) : Calls Try.prog 27 #[.int .i64 n, .int .i64 lo, .int .i64 hi] w fun e w' => e = .returned (.bool (inb n lo hi)) ∧ w' = w := by
  unfold inb
  by_cases h : lo ≤ n
  · go_enter Try.func27, Try.ntmps27
    go_wp2
    go_ret
    simp [h]
  · go_enter Try.func27, Try.ntmps27
    go_wp2
    go_ret
    simp
    intro h'
    omega

theorem setCell_id {w : World} {g i : Nat} {cs : Array Value} {t : TypeId} {v : Value} (hg : w.heap[g]? = some (.cells cs t (0, 0))) (hi : cs[i]? = some v) : w.setCell ⟨g, i, none⟩ v = w := by
  have hc : cs.setIfInBounds i v = cs := by
    apply Array.ext_getElem?
    intro j
    rw [Array.getElem?_setIfInBounds]
    split
    · rename_i h; subst h; split
      · exact hi.symm
      · rename_i h2; rw [Array.getElem?_eq_none (by omega)]
    · rfl
  have hh : (w.setCell ⟨g, i, none⟩ v).heap = w.heap := by
    apply Array.ext_getElem?
    intro j
    by_cases hj : j = g
    · subst hj
      rw [heap_setCell_same w j i cs t v hg, hg, hc]
    · exact heap_setCell_other _ ⟨g, i, none⟩ j _ hj
  show { w with heap := (w.setCell ⟨g, i, none⟩ v).heap } = w
  rw [hh]
theorem lay_sets {V : World} {O : Nat} {t : TypeId} {c0 c1 c2 c3 c4 c5 c6 c7 c8 c9 : Value} (h : V.heap[O]? = some (.cells #[c0, c1, c2, c3, c4, c5, c6, c7, c8, c9] t (0, 0))) (x0 x1 x2 x3 x4 x5 x6 x7 x8 x9 : Value) :
    ∃ W, ((((((((((V.setCell ⟨O, 0, none⟩ x0).setCell ⟨O, 1, none⟩ x1).setCell ⟨O, 2, none⟩ x2).setCell ⟨O, 3, none⟩ x3).setCell ⟨O, 4, none⟩ x4).setCell ⟨O, 5, none⟩ x5).setCell ⟨O, 6, none⟩ x6).setCell ⟨O, 7, none⟩ x7).setCell ⟨O, 8, none⟩ x8).setCell ⟨O, 9, none⟩ x9) = W ∧ W.heap[O]? = some (.cells #[x0, x1, x2, x3, x4, x5, x6, x7, x8, x9] t (0, 0)) ∧ (∀ b, b ≠ O → W.heap[b]? = V.heap[b]?) ∧ (∀ n w, n ≤ O → Below n w V → Below n w W) := by
  have step : ∀ (V : World) (i : Nat) (cs ds : Array Value) (u : Value), V.heap[O]? = some (.cells cs t (0, 0)) → cs.setIfInBounds i u = ds →
      (V.setCell ⟨O, i, none⟩ u).heap[O]? = some (.cells ds t (0, 0)) ∧ (∀ b, b ≠ O → (V.setCell ⟨O, i, none⟩ u).heap[b]? = V.heap[b]?) ∧ (∀ n w, n ≤ O → Below n w V → Below n w (V.setCell ⟨O, i, none⟩ u)) := by
    rintro V i cs ds u h rfl
    exact ⟨heap_setCell_same V O i _ _ u h, fun b hb => heap_setCell_other _ ⟨O, i, none⟩ b _ hb, fun n w hn hb => hb.setCell hn _⟩
  obtain ⟨a0, b0, e0⟩ := step _ 0 _ #[x0, c1, c2, c3, c4, c5, c6, c7, c8, c9] x0 h rfl
  obtain ⟨a1, b1, e1⟩ := step _ 1 _ #[x0, x1, c2, c3, c4, c5, c6, c7, c8, c9] x1 a0 rfl
  obtain ⟨a2, b2, e2⟩ := step _ 2 _ #[x0, x1, x2, c3, c4, c5, c6, c7, c8, c9] x2 a1 rfl
  obtain ⟨a3, b3, e3⟩ := step _ 3 _ #[x0, x1, x2, x3, c4, c5, c6, c7, c8, c9] x3 a2 rfl
  obtain ⟨a4, b4, e4⟩ := step _ 4 _ #[x0, x1, x2, x3, x4, c5, c6, c7, c8, c9] x4 a3 rfl
  obtain ⟨a5, b5, e5⟩ := step _ 5 _ #[x0, x1, x2, x3, x4, x5, c6, c7, c8, c9] x5 a4 rfl
  obtain ⟨a6, b6, e6⟩ := step _ 6 _ #[x0, x1, x2, x3, x4, x5, x6, c7, c8, c9] x6 a5 rfl
  obtain ⟨a7, b7, e7⟩ := step _ 7 _ #[x0, x1, x2, x3, x4, x5, x6, x7, c8, c9] x7 a6 rfl
  obtain ⟨a8, b8, e8⟩ := step _ 8 _ #[x0, x1, x2, x3, x4, x5, x6, x7, x8, c9] x8 a7 rfl
  obtain ⟨a9, b9, e9⟩ := step _ 9 _ #[x0, x1, x2, x3, x4, x5, x6, x7, x8, x9] x9 a8 rfl
  exact ⟨_, rfl, a9, fun b hb => (b9 b hb).trans ((b8 b hb).trans ((b7 b hb).trans ((b6 b hb).trans ((b5 b hb).trans ((b4 b hb).trans ((b3 b hb).trans ((b2 b hb).trans ((b1 b hb).trans (b0 b hb))))))))), fun n w hn hb => e9 n w hn (e8 n w hn (e7 n w hn (e6 n w hn (e5 n w hn (e4 n w hn (e3 n w hn (e2 n w hn (e1 n w hn (e0 n w hn hb)))))))))⟩
theorem lay_cells {V : World} {O : Nat} {t : TypeId} {c0 c1 c2 c3 c4 c5 c6 c7 c8 c9 : Value} (h : V.heap[O]? = some (.cells #[c0, c1, c2, c3, c4, c5, c6, c7, c8, c9] t (0, 0))) :
    V.cell? ⟨O, 0, none⟩ = some c0 ∧ V.cell? ⟨O, 1, none⟩ = some c1 ∧ V.cell? ⟨O, 2, none⟩ = some c2 ∧ V.cell? ⟨O, 3, none⟩ = some c3 ∧ V.cell? ⟨O, 4, none⟩ = some c4 ∧ V.cell? ⟨O, 5, none⟩ = some c5 ∧ V.cell? ⟨O, 6, none⟩ = some c6 ∧ V.cell? ⟨O, 7, none⟩ = some c7 ∧ V.cell? ⟨O, 8, none⟩ = some c8 ∧ V.cell? ⟨O, 9, none⟩ = some c9 ∧ ∀ k, V.frozen? ⟨O, k, none⟩ = false := by
  refine ⟨?_, ?_, ?_, ?_, ?_, ?_, ?_, ?_, ?_, ?_, fun k => ?_⟩ <;> simp [World.cell?, World.frozen?, h]

set_option maxRecDepth 100000 in
set_option maxHeartbeats 8000000 in
theorem of_any (B I R T : Int) (k0 k1 : BitVec 64) (w : World) : Calls Try.prog 9 #[.agg #[.int .i64 B, .int .i64 I, .int .i64 R, .int .i64 T], .agg #[vw k0, vw k1]] w fun e w' =>
    e = .returned (.tuple #[lv (ofL B I R T k0 k1), .int .i64 (ofNo B I R T)]) ∧ Below w.heap.size w w' := by
  obtain ⟨wa, hwa⟩ : ∃ wa, ((w.alloc (.cells #[.int .i64 B, .int .i64 I, .int .i64 R, .int .i64 T] 23)).alloc (.cells #[vw k0, vw k1] 25)).alloc (.cells #[.int .i64 0, .int .i64 0, .int .i64 0, .int .i64 0, .int .u64 0, .int .u64 0, .int .i64 0, .int .i64 0, .int .i64 0, .int .i64 0] 27) = wa := ⟨_, rfl⟩
  have hba : Below w.heap.size w wa := by
    rw [← hwa]; exact (((Below.refl _ _).alloc (Nat.le_refl _) _).alloc (by simp) _).alloc (by simp only [World.size_alloc]; omega) _
  have hza : wa.heap.size = w.heap.size + 3 := by rw [← hwa]; simp
  have hf : wa.heap[w.heap.size]? = some (.cells #[.int .i64 B, .int .i64 I, .int .i64 R, .int .i64 T] 23 (0, 0)) := by
    rw [← hwa]; exact (Below.heap_alloc _ _ _ (by simp only [World.size_alloc]; omega)).trans ((Below.heap_alloc _ _ _ (by simp)).trans (World.alloc_heap_new w _))
  have hk : wa.heap[w.heap.size + 1]? = some (.cells #[vw k0, vw k1] 25 (0, 0)) := by
    have := World.alloc_heap_new (w.alloc (.cells #[.int .i64 B, .int .i64 I, .int .i64 R, .int .i64 T] 23)) (.cells #[vw k0, vw k1] 25)
    rw [World.size_alloc] at this
    rw [← hwa]; exact (Below.heap_alloc _ _ _ (by simp only [World.size_alloc]; omega)).trans this
  have hz : wa.heap[w.heap.size + 2]? = some (.cells #[.int .i64 0, .int .i64 0, .int .i64 0, .int .i64 0, .int .u64 0, .int .u64 0, .int .i64 0, .int .i64 0, .int .i64 0, .int .i64 0] 27 (0, 0)) := by
    have := World.alloc_heap_new ((w.alloc (.cells #[.int .i64 B, .int .i64 I, .int .i64 R, .int .i64 T] 23)).alloc (.cells #[vw k0, vw k1] 25)) (.cells #[.int .i64 0, .int .i64 0, .int .i64 0, .int .i64 0, .int .u64 0, .int .u64 0, .int .i64 0, .int .i64 0, .int .i64 0, .int .i64 0] 27)
    rw [World.size_alloc, World.size_alloc] at this
    rw [← hwa]; exact this
  have HWA := Lib.hid hwa
  have HBA := Lib.hid hba
  have HZ := Lib.hid hz
  have HZA := Lib.hid hza
  have f0 : wa.cell? ⟨w.heap.size, 0, none⟩ = some (.int .i64 B) := by simp [World.cell?, hf]
  have f1 : wa.cell? ⟨w.heap.size, 1, none⟩ = some (.int .i64 I) := by simp [World.cell?, hf]
  have f2 : wa.cell? ⟨w.heap.size, 2, none⟩ = some (.int .i64 R) := by simp [World.cell?, hf]
  have f3 : wa.cell? ⟨w.heap.size, 3, none⟩ = some (.int .i64 T) := by simp [World.cell?, hf]
  have g0 : wa.cell? ⟨w.heap.size + 1, 0, none⟩ = some (vw k0) := by simp [World.cell?, hk]
  have g1 : wa.cell? ⟨w.heap.size + 1, 1, none⟩ = some (vw k1) := by simp [World.cell?, hk]
  obtain ⟨wl, hwl⟩ : ∃ wl, wa.alloc (.cells #[.int .i64 B, .int .i64 I, .int .i64 R, .int .i64 T, .int .u64 (k0.toNat : Int), .int .u64 (k1.toNat : Int), .int .i64 9, .int .i64 0, .int .i64 0, .int .i64 0] 27) = wl := ⟨_, rfl⟩
  have hold : ∀ b, b < wa.heap.size → wl.heap[b]? = wa.heap[b]? := fun b hb => by rw [← hwl]; exact Below.heap_alloc _ _ _ hb
  have l0 : wl.cell? ⟨w.heap.size, 0, none⟩ = some (.int .i64 B) := by simp [World.cell?, hold _ (show w.heap.size < _ by omega), hf]
  have l1 : wl.cell? ⟨w.heap.size, 1, none⟩ = some (.int .i64 I) := by simp [World.cell?, hold _ (show w.heap.size < _ by omega), hf]
  have l2 : wl.cell? ⟨w.heap.size, 2, none⟩ = some (.int .i64 R) := by simp [World.cell?, hold _ (show w.heap.size < _ by omega), hf]
  have l3 : wl.cell? ⟨w.heap.size, 3, none⟩ = some (.int .i64 T) := by simp [World.cell?, hold _ (show w.heap.size < _ by omega), hf]
  have hzl : wl.heap[w.heap.size + 2]? = _ := (hold _ (by omega)).trans hz
  have hnl : wl.heap[wa.heap.size]? = some (.cells #[.int .i64 B, .int .i64 I, .int .i64 R, .int .i64 T, .int .u64 (k0.toNat : Int), .int .u64 (k1.toNat : Int), .int .i64 9, .int .i64 0, .int .i64 0, .int .i64 0] 27 (0, 0)) := by rw [← hwl]; exact World.alloc_heap_new _ _
  have hbl : Below w.heap.size w wl := by rw [← hwl]; exact hba.alloc (by omega) _
  obtain ⟨L0, L1, L2, L3, L4, L5, L6, L7, L8, L9, Lf⟩ := lay_cells hnl
  obtain ⟨d0, d1, d2, d3, d4, d5, d6, d7, d8, d9, df⟩ := lay_cells hzl
  have hs7 : wl.setCell ⟨wa.heap.size, 7, none⟩ (.int .i64 0) = wl := setCell_id hnl rfl
  have hs8 : wl.setCell ⟨wa.heap.size, 8, none⟩ (.int .i64 0) = wl := setCell_id hnl rfl
  have hs9 : wl.setCell ⟨wa.heap.size, 9, none⟩ (.int .i64 0) = wl := setCell_id hnl rfl
  have hne0 : w.heap.size ≠ wa.heap.size := by omega
  have hne1 : w.heap.size + 1 ≠ wa.heap.size := by omega
  have hne2 : w.heap.size + 2 ≠ wa.heap.size := by omega
  have hne0' : wa.heap.size ≠ w.heap.size := by omega
  have hne1' : wa.heap.size ≠ w.heap.size + 1 := by omega
  have hne2' : wa.heap.size ≠ w.heap.size + 2 := by omega
  have HBL := Lib.hid hbl
  have HZL := Lib.hid hzl
  have HNL := Lib.hid hnl
  clear hold hzl hnl hbl
  clear hwa hba hf hk hz hza
  go_enter Try.func9, Try.ntmps9
  go_wp2_with fail
  rw [HWA.out, show w.heap.size + 1 + 1 = w.heap.size + 2 from rfl]
  refine wp_scope_jumps 0 (fun a' w' => (∃ u0 u1 u2 u3 u5 u6 u7 u8 u9 u10 u11 u12 u13 u14 u15 u16 u17 u18 u19 u20 u21 u22 u23 u24 u25 u26 u27 u28 u29 u30 u31 u32 u33 u34 u35 u36 u37 u38 u39 u40 u41 u42 u43 u44 u45 u46 u47 u48 u49 u50 u51 u52 u53 u54 u55 u56 u57 u58 u59 u60 u61 u62 u63 u64 u65 u66 u67 : Value, a' = { tmps := #[u0, u1, u2, u3, (.pointer (some ⟨w.heap.size + 2, 0, none⟩)), u5, u6, u7, u8, u9, u10, u11, u12, u13, u14, u15, u16, u17, u18, u19, u20, u21, u22, u23, u24, u25, u26, u27, u28, u29, u30, u31, u32, u33, u34, u35, u36, u37, u38, u39, u40, u41, u42, u43, u44, u45, u46, u47, u48, u49, u50, u51, u52, u53, u54, u55, u56, u57, u58, u59, u60, u61, u62, u63, u64, u65, u66, u67], defers := [] }) ∧ ¬ OfOk B I R T ∧ Below w.heap.size w w' ∧ w'.heap[w.heap.size + 2]? = some (.cells #[.int .i64 0, .int .i64 0, .int .i64 0, .int .i64 0, .int .u64 0, .int .u64 0, .int .i64 0, .int .i64 0, .int .i64 0, .int .i64 0] 27 (0, 0))) (fun _ _ => 0) rfl ?first ?pass
  case pass =>
    rintro a' w' ⟨⟨u0, u1, u2, u3, u5, u6, u7, u8, u9, u10, u11, u12, u13, u14, u15, u16, u17, u18, u19, u20, u21, u22, u23, u24, u25, u26, u27, u28, u29, u30, u31, u32, u33, u34, u35, u36, u37, u38, u39, u40, u41, u42, u43, u44, u45, u46, u47, u48, u49, u50, u51, u52, u53, u54, u55, u56, u57, u58, u59, u60, u61, u62, u63, u64, u65, u66, u67, rfl⟩, ho, hb, hz⟩
    obtain ⟨c0, c1, c2, c3, c4, c5, c6, c7, c8, c9, hfz⟩ := lay_cells hz
    have HB := Lib.hid hb
    have HZ := Lib.hid hz
    clear hz hb f0 f1 f2 f3 g0 g1 hs7 hs8 hs9 hne0 hne1 hne2 hne0' hne1' hne2' hwl l0 l1 l2 l3 L0 L1 L2 L3 L4 L5 L6 L7 L8 L9 Lf d0 d1 d2 d3 d4 d5 d6 d7 d8 d9 df
    go_wp2
    simp only [Exit.jump]
    obtain ⟨W, hW, h1, h2, h3⟩ := lay_sets HZ.out (.int .i64 0) (.int .i64 0) (.int .i64 0) (.int .i64 0) (.int .u64 0) (.int .u64 0) (.int .i64 0) (.int .i64 0) (.int .i64 0) (.int .i64 0)
    rw [hW]
    obtain ⟨c0, c1, c2, c3, c4, c5, c6, c7, c8, c9, hfz⟩ := lay_cells h1
    refine bodyPost_ret (v := .tuple #[lv lay0, .int .i64 2]) (by simp [results, Try.results9, go_sem, lv, lay0, c0, c1, c2, c3, c4, c5, c6, c7, c8, c9]) rfl ?_
    refine ⟨by unfold ofL ofNo; rw [if_neg ho, if_neg ho], h3 _ _ (by omega) HB.out⟩
  case first =>
    cases h1 : inb B 32 2048
    · clear d0 d1 d2 d3 d4 d5 d6 d7 d8 d9 df
      go_wp2_with (go_at_call 27; refine (in_any _ _ _ _).mono ?_; rintro e w' ⟨rfl, rfl⟩)
      apply wp_goto
      go_wp2
      simp only [Exit.jump]
      exact ⟨trivial, ⟨_, _, _, _, _, _, _, _, _, _, _, _, _, _, _, _, _, _, _, _, _, _, _, _, _, _, _, _, _, _, _, _, _, _, _, _, _, _, _, _, _, _, _, _, _, _, _, _, _, _, _, _, _, _, _, _, _, _, _, _, _, _, _, _, _, _, _, rfl⟩, fun h => inb_false h1 h.1, HBL.out, HZL.out⟩
    cases h2 : inb T 1 40
    · clear d0 d1 d2 d3 d4 d5 d6 d7 d8 d9 df
      go_wp2_with (go_at_call 27; refine (in_any _ _ _ _).mono ?_; rintro e w' ⟨rfl, rfl⟩)
      apply wp_goto
      go_wp2
      simp only [Exit.jump]
      exact ⟨trivial, ⟨_, _, _, _, _, _, _, _, _, _, _, _, _, _, _, _, _, _, _, _, _, _, _, _, _, _, _, _, _, _, _, _, _, _, _, _, _, _, _, _, _, _, _, _, _, _, _, _, _, _, _, _, _, _, _, _, _, _, _, _, _, _, _, _, _, _, _, rfl⟩, fun h => inb_false h2 h.2.1, HBL.out, HZL.out⟩
    cases h3 : inb I 4 256
    · clear d0 d1 d2 d3 d4 d5 d6 d7 d8 d9 df
      go_wp2_with (go_at_call 27; refine (in_any _ _ _ _).mono ?_; rintro e w' ⟨rfl, rfl⟩)
      apply wp_goto
      go_wp2
      simp only [Exit.jump]
      exact ⟨trivial, ⟨_, _, _, _, _, _, _, _, _, _, _, _, _, _, _, _, _, _, _, _, _, _, _, _, _, _, _, _, _, _, _, _, _, _, _, _, _, _, _, _, _, _, _, _, _, _, _, _, _, _, _, _, _, _, _, _, _, _, _, _, _, _, _, _, _, _, _, rfl⟩, fun h => inb_false h3 ⟨h.2.2.1.1, h.2.2.1.2.1⟩, HBL.out, HZL.out⟩
    have b1 := inb_true h1
    have b2 := inb_true h2
    have b3 := inb_true h3
    have hmI : I.tmod 4 = I % 4 := Int.tmod_eq_emod_of_nonneg (by omega)
    have hdI : I.tdiv 4 = I / 4 := Int.tdiv_eq_ediv_of_nonneg (by omega)
    by_cases h4 : I % 4 = 0
    case neg =>
      · clear d0 d1 d2 d3 d4 d5 d6 d7 d8 d9 df
        go_wp2_with (go_at_call 27; refine (in_any _ _ _ _).mono ?_; rintro e w' ⟨rfl, rfl⟩)
        apply wp_goto
        go_wp2
        simp only [Exit.jump]
        exact ⟨trivial, ⟨_, _, _, _, _, _, _, _, _, _, _, _, _, _, _, _, _, _, _, _, _, _, _, _, _, _, _, _, _, _, _, _, _, _, _, _, _, _, _, _, _, _, _, _, _, _, _, _, _, _, _, _, _, _, _, _, _, _, _, _, _, _, _, _, _, _, _, rfl⟩, fun h => h4 h.2.2.1.2.2, HBL.out, HZL.out⟩
    cases h5 : inb R 4 1024
    · clear d0 d1 d2 d3 d4 d5 d6 d7 d8 d9 df
      go_wp2_with (go_at_call 27; refine (in_any _ _ _ _).mono ?_; rintro e w' ⟨rfl, rfl⟩)
      apply wp_goto
      go_wp2
      simp only [Exit.jump]
      exact ⟨trivial, ⟨_, _, _, _, _, _, _, _, _, _, _, _, _, _, _, _, _, _, _, _, _, _, _, _, _, _, _, _, _, _, _, _, _, _, _, _, _, _, _, _, _, _, _, _, _, _, _, _, _, _, _, _, _, _, _, _, _, _, _, _, _, _, _, _, _, _, _, rfl⟩, fun h => inb_false h5 ⟨h.2.2.2.1.1, h.2.2.2.1.2.1⟩, HBL.out, HZL.out⟩
    have b5 := inb_true h5
    have hmR : R.tmod 4 = R % 4 := Int.tmod_eq_emod_of_nonneg (by omega)
    have hdR : R.tdiv 4 = R / 4 := Int.tdiv_eq_ediv_of_nonneg (by omega)
    by_cases h6 : R % 4 = 0
    case neg =>
      · clear d0 d1 d2 d3 d4 d5 d6 d7 d8 d9 df
        go_wp2_with (go_at_call 27; refine (in_any _ _ _ _).mono ?_; rintro e w' ⟨rfl, rfl⟩)
        apply wp_goto
        go_wp2
        simp only [Exit.jump]
        exact ⟨trivial, ⟨_, _, _, _, _, _, _, _, _, _, _, _, _, _, _, _, _, _, _, _, _, _, _, _, _, _, _, _, _, _, _, _, _, _, _, _, _, _, _, _, _, _, _, _, _, _, _, _, _, _, _, _, _, _, _, _, _, _, _, _, _, _, _, _, _, _, _, rfl⟩, fun h => h6 h.2.2.2.1.2.2, HBL.out, HZL.out⟩
    by_cases h7 : B - (9 + I / 4 + R / 4 + 1) < 4
    · clear d0 d1 d2 d3 d4 d5 d6 d7 d8 d9 df
      go_wp2_with (go_at_call 27; refine (in_any _ _ _ _).mono ?_; rintro e w' ⟨rfl, rfl⟩)
      have hsz : wa.heap.size = w.heap.size + 3 := HZA.out
      have hb3 : Below w.heap.size w (((w'.setCell ⟨wa.heap.size, 7, none⟩ (Value.int .i64 (9 + I / 4))).setCell ⟨wa.heap.size, 8, none⟩ (Value.int .i64 (9 + I / 4 + R / 4))).setCell ⟨wa.heap.size, 9, none⟩ (Value.int .i64 (9 + I / 4 + R / 4 + 1))) := ((HBL.out.setCell (by simp only []; omega) _).setCell (by simp only []; omega) _).setCell (by simp only []; omega) _
      have hz3 : (((w'.setCell ⟨wa.heap.size, 7, none⟩ (Value.int .i64 (9 + I / 4))).setCell ⟨wa.heap.size, 8, none⟩ (Value.int .i64 (9 + I / 4 + R / 4))).setCell ⟨wa.heap.size, 9, none⟩ (Value.int .i64 (9 + I / 4 + R / 4 + 1))).heap[w.heap.size + 2]? = _ :=
        (heap_setCell_other _ ⟨wa.heap.size, 9, none⟩ (w.heap.size + 2) (Value.int .i64 (9 + I / 4 + R / 4 + 1)) (by simp only []; omega)).trans ((heap_setCell_other _ ⟨wa.heap.size, 8, none⟩ (w.heap.size + 2) (Value.int .i64 (9 + I / 4 + R / 4)) (by simp only []; omega)).trans ((heap_setCell_other _ ⟨wa.heap.size, 7, none⟩ (w.heap.size + 2) (Value.int .i64 (9 + I / 4)) (by simp only []; omega)).trans HZL.out))
      clear hsz
      apply wp_goto
      go_wp2
      simp only [Exit.jump]
      exact ⟨trivial, ⟨_, _, _, _, _, _, _, _, _, _, _, _, _, _, _, _, _, _, _, _, _, _, _, _, _, _, _, _, _, _, _, _, _, _, _, _, _, _, _, _, _, _, _, _, _, _, _, _, _, _, _, _, _, _, _, _, _, _, _, _, _, _, _, _, _, _, _, rfl⟩, fun h => absurd h.2.2.2.2 (by omega), hb3, hz3⟩
    · go_wp2_with (go_at_call 27; refine (in_any _ _ _ _).mono ?_; rintro e w' ⟨rfl, rfl⟩)
      have hsz : wa.heap.size = w.heap.size + 3 := HZA.out
      have hb3 : Below w.heap.size w (((w'.setCell ⟨wa.heap.size, 7, none⟩ (Value.int .i64 (9 + I / 4))).setCell ⟨wa.heap.size, 8, none⟩ (Value.int .i64 (9 + I / 4 + R / 4))).setCell ⟨wa.heap.size, 9, none⟩ (Value.int .i64 (9 + I / 4 + R / 4 + 1))) := ((HBL.out.setCell (by simp only []; omega) _).setCell (by simp only []; omega) _).setCell (by simp only []; omega) _
      have hz3 : (((w'.setCell ⟨wa.heap.size, 7, none⟩ (Value.int .i64 (9 + I / 4))).setCell ⟨wa.heap.size, 8, none⟩ (Value.int .i64 (9 + I / 4 + R / 4))).setCell ⟨wa.heap.size, 9, none⟩ (Value.int .i64 (9 + I / 4 + R / 4 + 1))).heap[w.heap.size + 2]? = _ :=
        (heap_setCell_other _ ⟨wa.heap.size, 9, none⟩ (w.heap.size + 2) (Value.int .i64 (9 + I / 4 + R / 4 + 1)) (by simp only []; omega)).trans ((heap_setCell_other _ ⟨wa.heap.size, 8, none⟩ (w.heap.size + 2) (Value.int .i64 (9 + I / 4 + R / 4)) (by simp only []; omega)).trans ((heap_setCell_other _ ⟨wa.heap.size, 7, none⟩ (w.heap.size + 2) (Value.int .i64 (9 + I / 4)) (by simp only []; omega)).trans HZL.out))
      clear hsz
      simp only [Exit.jump]
      have hok : OfOk B I R T := ⟨b1, b2, ⟨b3.1, b3.2, h4⟩, ⟨b5.1, b5.2, h6⟩, by omega⟩
      obtain ⟨W, hW, h1, h2, h3⟩ := lay_sets hz3 (.int .i64 B) (.int .i64 I) (.int .i64 R) (.int .i64 T) (.int .u64 (k0.toNat : Int)) (.int .u64 (k1.toNat : Int)) (.int .i64 9) (.int .i64 (9 + I / 4)) (.int .i64 (9 + I / 4 + R / 4)) (.int .i64 (9 + I / 4 + R / 4 + 1))
      rw [hW]
      obtain ⟨c0, c1, c2, c3, c4, c5, c6, c7, c8, c9, hfz⟩ := lay_cells h1
      refine bodyPost_ret (v := .tuple #[lv ⟨B, I, R, T, k0, k1, 9, 9 + I / 4, 9 + I / 4 + R / 4, 9 + I / 4 + R / 4 + 1⟩, .int .i64 0]) (by simp [results, Try.results9, go_sem, lv, vw, c0, c1, c2, c3, c4, c5, c6, c7, c8, c9]) rfl ?_
      refine ⟨by unfold ofL ofNo; rw [if_pos hok, if_pos hok], h3 _ _ (by omega) hb3⟩
end Go.Proofs.Ytljegehfdmgcbaa
