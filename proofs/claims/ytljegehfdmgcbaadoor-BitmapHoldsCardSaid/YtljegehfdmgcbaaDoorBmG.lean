/- The walk of bitmap.Of. -/
import Derived.Test.YtljegehfdmgcbaaDoorBmF
import Derived.ScopeJumps
namespace Go.Proofs.YtljegehfdmgcbaaDoor
open Go Go.RowKit

/-- Are so many bits a map's, as words? -/
def OfOkB (many : Int) (l : List (BitVec 64)) : Prop := ∃ n : Nat, many = n ∧ 1 ≤ n ∧ n ≤ 65536 ∧ RightW n l

set_option maxRecDepth 100000 in
set_option maxHeartbeats 8000000 in
theorem ofBm_any (many : Int) (p : Option Addr) (cap : Nat) (l : List (BitVec 64)) (w : World) (hrd : RdL w.heap.size w p cap vw l) (hll : l.length ≤ 100000) :
    Calls Tryd.prog 9 #[.int .i64 many, .slice p l.length cap] w fun e w' =>
      (∃ q n, e = .returned (.tuple #[q, .int .i64 0]) ∧ many = (n : Nat) ∧ RightW n l ∧ NewBm l n w q w') ∨ (e = .returned (.tuple #[.pointer none, .int .i64 2]) ∧ ¬ OfOkB many l ∧ Below w.heap.size w w') := by
  have HR := Lib.hid hrd
  clear hrd
  go_enter Tryd.func9, Tryd.ntmps9
  go_wp2
  refine wp_scope_jumps 0 (fun a' w' => (∃ u0 u1 u2 u3 u4 u5 u6 u7 u8 u9 u10 u11 u12 u13 u14 u15 u16 u17 u18 u19 u20 u21 u22 u23 u24 u25 u26 u27 u28 u29 u30 u31 u32 u33 u34 u35 u36 u37 u38 : Value, a' = { tmps := #[u0, u1, u2, u3, u4, u5, u6, u7, u8, u9, u10, u11, u12, u13, u14, u15, u16, u17, u18, u19, u20, u21, u22, u23, u24, u25, u26, u27, u28, u29, u30, u31, u32, u33, u34, u35, u36, u37, u38], defers := [] }) ∧ ¬ OfOkB many l ∧ Below w.heap.size w w') (fun _ _ => 0) rfl ?first ?pass
  case pass =>
    rintro a' w' ⟨⟨u0, u1, u2, u3, u4, u5, u6, u7, u8, u9, u10, u11, u12, u13, u14, u15, u16, u17, u18, u19, u20, u21, u22, u23, u24, u25, u26, u27, u28, u29, u30, u31, u32, u33, u34, u35, u36, u37, u38, rfl⟩, ho, hb⟩
    go_wp2
    simp only [Exit.jump]
    go_ret2
    exact .inr ⟨rfl, ho, hb⟩
  case first =>
    by_cases hn : 1 ≤ many ∧ many ≤ 65536
    · obtain ⟨n, rfl⟩ : ∃ n : Nat, many = n := ⟨many.toNat, by omega⟩
      have h1 : 1 ≤ n := by omega
      have h2 : n ≤ 65536 := by omega
      have HN := Lib.hid (And.intro h1 h2)
      clear hn
      go_wp2_with fail
      refine (new_bm n w h1 h2).mono ?_
      rintro e w1 ⟨p1, rfl, O, g, c, rfl, hb, hO, hg, hbel⟩
      have HB := Lib.hid (And.intro hb (And.intro hO (And.intro hg hbel)))
      have c0 := hb.c0
      have c0f : ∀ k, w1.frozen? ⟨O, k, none⟩ = false := fun k => by simp [World.frozen?, hb.hd]
      rw [List.length_replicate] at c0
      obtain ⟨k, hk⟩ : ∃ k, (n + 63) / 64 = k := ⟨_, rfl⟩
      rw [hk] at c0
      have HK := Lib.hid hk
      clear hb hO hg hbel hk
      by_cases hl : l.length = k
      · subst hl
        have hk1 : l.length ≤ 1024 := by have := HK.out; omega
        have hnl : n ≤ 64 * l.length := by have := HK.out; omega
        go_wp2_with fail
        go_loopw [6] (fun i wr => ∃ j : Nat, n ≤ j ∧ j ≤ 64 * l.length ∧ i = .int .i64 j ∧ (∀ x, n ≤ x → x < j → bitW l x = false) ∧ wr = w1) (fun i _ => 64 * l.length - (intOf i).toNat)
        case atStart => exact ⟨n, Nat.le_refl _, hnl, rfl, fun x hx1 hx2 => by omega, rfl⟩
        case round =>
          obtain ⟨j, hj1, hj2, rfl, hfree, rfl⟩ := hrel
          have HFREE := Lib.hid hfree
          by_cases hlt : j < 64 * l.length
          · have HH := Lib.hid (has_any p cap l j wr ((HR.out.below HB.out.2.2.2).wide HB.out.2.2.2.size) hlt hll)
            have hj3 : (j : Int) < 64 * (l.length : Int) := by omega
            cases hbit : bitW l j with
            | true =>
              rw [hbit] at HH
              have HNO : Hid (¬ OfOkB (n : Int) l) := Lib.hid (by
                rintro ⟨n', h1', _, _, h4'⟩
                have : n' = n := by omega
                subst this
                have := h4'.2 j hj1 hlt
                rw [hbit] at this
                cases this)
              have HB0 := Lib.hid HB.out.2.2.2
              clear hfree hbit c0 c0f
              go_wp2_with fail
              refine HH.out.mono ?_
              rintro e w' ⟨rfl, rfl⟩
              go_wp2_with fail
              apply wp_goto
              go_wp2
              simp only [Exit.jump]
              exact ⟨trivial, ⟨_, _, _, _, _, _, _, _, _, _, _, _, _, _, _, _, _, _, _, _, _, _, _, _, _, _, _, _, _, _, _, _, _, _, _, _, _, _, _, rfl⟩, HNO.out, HB0.out⟩
            | false =>
              rw [hbit] at HH
              have HBIT := Lib.hid hbit
              clear hfree hbit
              go_wp2_with fail
              refine HH.out.mono ?_
              rintro e w' ⟨rfl, rfl⟩
              go_wp2_with fail
              go_roundw
              case rel => exact ⟨j + 1, by omega, by omega, by go_num, fun x h1 h2 => by
                by_cases hx : x = j
                · rw [hx]; exact HBIT.out
                · exact HFREE.out x h1 (by omega), trivial⟩
              case measure => simp [intOf]; omega
          · obtain rfl : j = 64 * l.length := by omega
            have HC := Lib.hid (cloneQ_any p cap l wr ((HR.out.below HB.out.2.2.2).wide HB.out.2.2.2.size) (by omega))
            have hj3 : ¬ ((64 * l.length : Nat) : Int) < 64 * (l.length : Int) := by omega
            clear hfree hj3
            go_wp2_with fail
            refine HC.out.mono ?_
            rintro e w2 ⟨v, rfl, hown, hb2⟩
            obtain ⟨hbm, hO, hg, hbel⟩ := HB.out
            obtain ⟨g2, c2, rfl, hg2, _⟩ := own_pos hown (by have := HK.out; have := HN.out; omega)
            have hbm2 := hbm.below hb2
            have d0 := hbm2.c0
            have df : w2.frozen? ⟨O, 0, none⟩ = false := by simp [World.frozen?, hbm2.hd]
            have H2 := Lib.hid (And.intro hown (And.intro hbm2 (And.intro hg2 (And.intro hbm.ltO hb2))))
            clear hown hb2 hbm hO hg hbel hbm2 c0 c0f hg2
            go_wp2_with fail
            simp only [Exit.jump]
            go_ret2
            refine .inl ⟨_, n, rfl, rfl, ⟨HK.out.symm, fun x h1 h2 => HFREE.out x h1 h2⟩, O, g2, c2, rfl, ?_, HB.out.2.1, ?_, ?_⟩
            · obtain ⟨hown, hbm2, hg2, hlt, hb2⟩ := H2.out
              have hne : g2 ≠ O := by omega
              refine ⟨?_, (OwnO.of_owns hown).keep ?_, Ne.symm hne, HK.out.symm, HN.out.1, HN.out.2⟩
              · have := heap_setCell_same w2 O 0 _ _ (.slice (some ⟨g2, 0, none⟩) l.length c2) hbm2.hd
                exact this
              · rintro b ⟨a, ha, rfl, _⟩
                cases ha
                exact Below.heap_setCell _ _ _ _ hne
            · have h1 := H2.out.2.2.1
              have h2 := HB.out.2.2.2.size
              omega
            · have h1 := HB.out.2.2.2
              exact (h1.trans (H2.out.2.2.2.2.mono h1.size)).setCell (p := ⟨O, 0, none⟩) HB.out.2.1 _
      · have hl0 : ((l.length : Int) != (k : Int)) = true := by simp; omega
        have HNO : Hid (¬ OfOkB (n : Int) l) := Lib.hid (by
          rintro ⟨n', h1', _, _, h4'⟩
          have : n' = n := by omega
          subst this
          exact hl (h4'.1.trans HK.out))
        clear hl
        go_wp2_with fail
        apply wp_goto
        go_wp2
        simp only [Exit.jump]
        exact ⟨trivial, ⟨_, _, _, _, _, _, _, _, _, _, _, _, _, _, _, _, _, _, _, _, _, _, _, _, _, _, _, _, _, _, _, _, _, _, _, _, _, _, _, rfl⟩, HNO.out, HB.out.2.2.2⟩
    · have HNO : Hid (¬ OfOkB many l) := Lib.hid (by
        rintro ⟨n', h1', h2', h3', _⟩
        exact hn ⟨by omega, by omega⟩)
      have HW := Lib.hid (new_bad many w hn)
      clear hn
      go_wp2_with fail
      refine HW.out.mono ?_
      rintro e w1 ⟨rfl, rfl⟩
      go_wp2_with fail
      apply wp_goto
      go_wp2
      simp only [Exit.jump]
      exact ⟨trivial, ⟨_, _, _, _, _, _, _, _, _, _, _, _, _, _, _, _, _, _, _, _, _, _, _, _, _, _, _, _, _, _, _, _, _, _, _, _, _, _, _, rfl⟩, HNO.out, Below.refl _ _⟩
end Go.Proofs.YtljegehfdmgcbaaDoor
