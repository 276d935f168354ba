/- The walk of the reference's Parts: a scan of all words. -/
import Derived.Test.YtljegehfdmgcbaaLayoutU
import Derived.Test.YtljegehfdmgcbaaOwnG
import Derived.Deep.RegionHeld3
namespace Go.Proofs.Ytljegehfdmgcbaa
open Go Go.RowKit

def pe (x : Int × Int) : List Value := [.int .i64 x.1, .int .i64 x.2]
def ie (x : Int) : List Value := [.int .i64 x]
theorem pe_len (x : Int × Int) : (pe x).length = 2 := rfl
theorem ie_len (x : Int) : (ie x).length = 1 := rfl
theorem pe_one (x : Int × Int) : ∀ u ∈ pe x, u.oneCell' = true := by intro u hu; simp [pe] at hu; rcases hu with rfl | rfl <;> rfl
theorem ie_one (x : Int) : ∀ u ∈ ie x, u.oneCell' = true := by intro u hu; simp [ie] at hu; subst hu; rfl
theorem elem_part : ElemIs Try.prog 61 46 (.agg #[.int .i64 0, .int .i64 0]) 2 16 := ⟨by kernel_rfl, by kernel_rfl, rfl, by decide⟩
theorem elem_ints : ElemIs Try.prog 62 3 (.int .i64 0) 1 8 := ⟨by kernel_rfl, by kernel_rfl, rfl, by decide⟩
def psL (l : Lay) (n : Nat) : List (Int × Int) := (scanF l n).map (·.2)
def asL (l : Lay) (n : Nat) : List Int := (scanF l n).map (·.1)
theorem asL_len (l : Lay) (n : Nat) : (asL l n).length = (psL l n).length := by simp [asL, psL]
theorem psL_le (l : Lay) (n : Nat) : (psL l n).length ≤ n := by
  have := List.length_filterMap_le (fst l) (List.range n)
  simpa [psL, scanF] using this
/-- A word that begins a part. -/
theorem ps_new {l : Lay} {n : Nat} (h : n = 0 ∨ refP l n ≠ refP l ((n : Int) - 1)) : psL l (n + 1) = psL l n ++ [refP l n] ∧ asL l (n + 1) = asL l n ++ [(n : Int)] := by
  unfold psL asL
  rw [scanF_succ]
  unfold fst
  rw [if_pos h]
  simp
theorem ps_old {l : Lay} {n : Nat} (h : ¬ (n = 0 ∨ refP l n ≠ refP l ((n : Int) - 1))) : psL l (n + 1) = psL l n ∧ asL l (n + 1) = asL l n := by
  unfold psL asL
  rw [scanF_succ]
  unfold fst
  rw [if_neg h]
  simp
theorem ps_last {l : Lay} {n : Nat} (h : 0 < n) : ∃ m, (psL l n).length = m + 1 ∧ ∀ (hm : m < (psL l n).length), (psL l n)[m] = refP l ((n : Int) - 1) := by
  obtain ⟨n', rfl⟩ : ∃ n', n = n' + 1 := ⟨n - 1, by omega⟩
  obtain ⟨its, it, h1, h2⟩ := scanF_last l n'
  refine ⟨its.length, by simp [psL, h1], fun hm => ?_⟩
  have : (psL l (n' + 1))[its.length]? = some it.2 := by unfold psL; rw [h1]; simp
  rw [List.getElem?_eq_getElem hm] at this
  injection this with this
  rw [this, h2]
  congr 1
  push_cast
  omega

/-- What the scan holds. -/
structure SP (w : World) (l : Lay) (n : Nat) (p : Option Addr) (c : Nat) (q : Option Addr) (d : Nat) (W : World) : Prop where
  ps : OwnG 46 2 pe W p c (psL l n)
  ats : OwnG 3 1 ie W q d (asL l n)
  ne : ∀ b, inP p c b → ¬ inP q d b
  gp : ∀ b, inP p c b → w.heap.size + 1 ≤ b
  gq : ∀ b, inP q d b → w.heap.size + 1 ≤ b
  lay : LayAt W w.heap.size l
  bel : Below w.heap.size w W
theorem SP.go {w W W' : World} {l : Lay} {n : Nat} {p : Option Addr} {c : Nat} {q : Option Addr} {d : Nat} (h : SP w l n p c q d W) (hb : Below W.heap.size W W') : SP w l n p c q d W' :=
  ⟨h.ps.below hb, h.ats.below hb, h.ne, h.gp, h.gq, h.lay.below h.lay.lt hb, h.bel.trans (hb.mono h.bel.size)⟩
theorem SP.none {w wa : World} {l : Lay} (hL : LayAt wa w.heap.size l) (hb : Below w.heap.size w wa) : SP w l 0 none 0 none 0 wa :=
  ⟨by rw [show psL l 0 = [] by simp [psL, scanF]]; exact OwnG.nil _ _ _ _ _, by rw [show asL l 0 = [] by simp [asL, scanF]]; exact OwnG.nil _ _ _ _ _, (by rintro b ⟨a, ha, _⟩; cases ha), (by rintro b ⟨a, ha, _⟩; cases ha), (by rintro b ⟨a, ha, _⟩; cases ha), hL, hb⟩
theorem SP.old {w W : World} {l : Lay} {n : Nat} {p : Option Addr} {c : Nat} {q : Option Addr} {d : Nat} (h : SP w l n p c q d W) (ho : ¬ (n = 0 ∨ refP l n ≠ refP l ((n : Int) - 1))) : SP w l (n + 1) p c q d W :=
  ⟨by rw [(ps_old ho).1]; exact h.ps, by rw [(ps_old ho).2]; exact h.ats, h.ne, h.gp, h.gq, h.lay, h.bel⟩
/-- Behind both appends. -/
theorem SP.app {w W W1 W2 W3 W4 : World} {l : Lay} {n : Nat} {p p' : Option Addr} {c c' : Nat} {q q' : Option Addr} {d d' : Nat} (h : SP w l n p c q d W) (hn : n = 0 ∨ refP l n ≠ refP l ((n : Int) - 1))
    (h1 : Below W.heap.size W W1) (a1 : AppG 46 2 pe p c W1 (psL l n ++ [refP l n]) p' c' W2) (h2 : Below W2.heap.size W2 W3) (a2 : AppG 3 1 ie q d W3 (asL l n ++ [(n : Int)]) q' d' W4) : SP w l (n + 1) p' c' q' d' W4 := by
  obtain ⟨e1, e2⟩ := ps_new hn
  obtain ⟨o1, f1, g1⟩ := a1
  obtain ⟨o2, f2, g2⟩ := a2
  have hs1 := h1.size
  have hs2 := f1.size
  have hs3 := h2.size
  have hws := h.bel.size
  have hlay := h.lay.lt
  have hp' : ∀ b, inP p' c' b → ¬ inP q d b := fun b hb hq => by
    rcases g1 b hb with h9 | h9
    · exact h.ne b h9 hq
    · have := h.ats.lt hq; omega
  refine ⟨?_, by rw [e2]; exact o2, ?_, ?_, ?_, ?_, ?_⟩
  · rw [e1]
    refine (o1.below h2).keep fun b hb => ?_
    have hlt := o1.lt hb
    exact f2.block b (by omega) (hp' b hb)
  · intro b hb hq
    have hlt := o1.lt hb
    rcases g2 b hq with h9 | h9
    · exact hp' b hb h9
    · omega
  · intro b hb
    rcases g1 b hb with h9 | h9
    · exact h.gp b h9
    · omega
  · intro b hb
    rcases g2 b hb with h9 | h9
    · exact h.gq b h9
    · omega
  · have x1 : W1.heap[w.heap.size]? = W.heap[w.heap.size]? := h1.block _ hlay
    have x2 : W2.heap[w.heap.size]? = W1.heap[w.heap.size]? := f1.block _ (by omega) (fun hb => by have := h.gp _ hb; omega)
    have x3 : W3.heap[w.heap.size]? = W2.heap[w.heap.size]? := h2.block _ (by omega)
    have x4 : W4.heap[w.heap.size]? = W3.heap[w.heap.size]? := f2.block _ (by omega) (fun hb => by have := h.gq _ hb; omega)
    exact (x4.trans (x3.trans (x2.trans x1))).trans h.lay
  · have y1 : Below w.heap.size w W1 := h.bel.trans (h1.mono hws)
    have y2 : Below w.heap.size W1 W2 := f1.below (by omega) (fun b hb => by have := h.gp b hb; omega)
    have y4 : Below w.heap.size W3 W4 := f2.below (by omega) (fun b hb => by have := h.gq b hb; omega)
    exact (y1.trans y2).trans ((h2.mono (by omega)).trans y4)

set_option maxRecDepth 100000 in
set_option maxHeartbeats 4000000 in
theorem refParts_any (l : Lay) (h : RightL l) (w : World) : Calls Try.prog 26 #[lv l] w fun e w' => ∃ p c q d, e = .returned (.tuple #[.slice p (itemsL l).length c, .slice q (itemsL l).length d]) ∧
    RdS w'.heap.size w' p c 2 pe ((itemsL l).map (·.2)) ∧ RdS w'.heap.size w' q d 1 ie ((itemsL l).map (·.1)) ∧ Below w.heap.size w w' := by
  obtain ⟨N, hN⟩ : ∃ N : Nat, (N : Int) = 64 * l.B := ⟨(64 * l.B).toNat, by have := right_bounds h; omega⟩
  have hall := scan_all h hN
  have hNs : N ≤ 131072 := by have := right_bounds h; omega
  have hlB : l.B ≤ 2048 := by have := right_bounds h; omega
  have hlB0 : 32 ≤ l.B := by have := right_bounds h; omega
  have HR := Lib.hid h
  have HN := Lib.hid hN
  have HALL := Lib.hid hall
  obtain ⟨wa, hwa, HBA, HZA, HF⟩ := lay_box w l
  have H0 := Lib.hid (SP.none HF.out HBA.out)
  clear h hN hall
  unfold lv
  go_enter Try.func26, Try.ntmps26
  go_wp2_with fail
  go_loopw [4, 5, 6] (fun o t i wr => ∃ (n : Nat) (p : Option Addr) (c : Nat) (q : Option Addr) (d : Nat), n ≤ N ∧ i = .int .i64 n ∧ o = .slice p (psL l n).length c ∧ t = .slice q (psL l n).length d ∧ SP w l n p c q d wr) (fun _ _ i _ => N - (intOf i).toNat)
  case atStart => exact ⟨0, none, 0, none, 0, by omega, rfl, rfl, rfl, H0.out⟩
  case round =>
    clear H0 hwa
    obtain ⟨n, p, c, q, d, hn, rfl, rfl, rfl, hsp⟩ := hrel
    have HSP := Lib.hid hsp
    obtain ⟨q0, q1, q2, q3, q4, q5, q6, q7, q8, q9, qf⟩ := lay_cells hsp.lay
    clear hsp
    by_cases hlt : n < N
    · have hlt' : (n : Int) < 64 * l.B := by rw [← HN.out]; omega
      have hrp := refPart_any l HR.out (n : Int) (by omega) hlt' wr
      unfold lv at hrp
      have HRP := Lib.hid hrp
      clear hrp
      go_wp2_with fail
      refine HRP.out.mono ?_
      rintro e w1 ⟨rfl, hb1⟩
      obtain ⟨y, hy⟩ : ∃ y, refP l (n : Int) = y := ⟨_, rfl⟩
      rw [hy]
      obtain ⟨y1, y2⟩ := y
      obtain ⟨w2, hw2⟩ : ∃ w2, w1.alloc (.cells #[.int .i64 y1, .int .i64 y2] 46) = w2 := ⟨_, rfl⟩
      have hz2 : w2.heap[w1.heap.size]? = some (.cells #[.int .i64 y1, .int .i64 y2] 46 (0, 0)) := by rw [← hw2]; exact World.alloc_heap_new _ _
      have hb12 : Below w1.heap.size w1 w2 := by rw [← hw2]; exact (Below.refl _ _).alloc (Nat.le_refl _) _
      have HSP2 := Lib.hid ((HSP.out.go hb1).go hb12)
      have z0 : w2.cell? ⟨w1.heap.size, 0, none⟩ = some (.int .i64 y1) := by simp [World.cell?, hz2]
      have z1 : w2.cell? ⟨w1.heap.size, 1, none⟩ = some (.int .i64 y2) := by simp [World.cell?, hz2]
      have HY := Lib.hid hy
      clear hy hz2 hb1 hb12 q0 q1 q2 q3 q4 q5 q6 q7 q8 q9 qf
      obtain ⟨L, hL⟩ : ∃ L, (psL l n).length = L := ⟨_, rfl⟩
      have hLn : L ≤ n := by rw [← hL]; exact psL_le l n
      rw [hL]
      unfold pv
      by_cases hn0 : n = 0
      · obtain rfl : L = 0 := by omega
        have HNEW : Hid (n = 0 ∨ refP l (n : Int) ≠ refP l ((n : Int) - 1)) := Lib.hid (.inl hn0)
        clear hn0
        go_wp2_with fail
        go_quiet (fail)
        obtain ⟨w2d, hw2d⟩ : ∃ w2d, w2.drewN nq = w2d := ⟨_, rfl⟩
        rw [hw2d]
        clear hw2
        have hX : Below w2.heap.size w2 w2d := ⟨by rw [← hw2d]; rfl, by rw [← hw2d]; rfl, by rw [← hw2d]; rfl, by rw [← hw2d]; exact Nat.le_refl _, fun _ _ => by rw [← hw2d]; rfl⟩
        have HS2 := Lib.hid (HSP2.out.go hX)
        have y0 : w2d.cell? ⟨w1.heap.size, 0, none⟩ = some (.int .i64 y1) := by rw [← hw2d]; exact z0
        have y1' : w2d.cell? ⟨w1.heap.size, 1, none⟩ = some (.int .i64 y2) := by rw [← hw2d]; exact z1
        have HX := Lib.hid hX
        clear hX z0 z1
        go_wp2_with (at_builtin
                     first
                     | (refine wpList_appG rfl (.tmp 33) (.tmp 35) _ rfl elem_part (by decide) pe_len pe_one p c (psL l n) [(y1, y2)] (by rw [hL]; rfl) (HS2.out.ps.below ((Below.refl _ _).alloc (Nat.le_refl _) _)) w2d.heap.size 1 1 rfl rfl 46 (0, 0) (World.alloc_heap_new w2d _) (by simp) ⟨by have := psL_le l n; omega, by simp⟩ ?_
                        intro p' c' w3 ha1
                        have HA1 := Lib.hid ha1
                        have HS3 := Lib.hid (show OwnG 3 1 ie w3 q d (asL l n) from HS2.out.ats.keep fun b hb => (ha1.2.1.block b (by have := HS2.out.ats.lt hb; simp; omega) (fun h9 => HS2.out.ne b h9 hb)).trans (Below.heap_alloc _ _ _ (HS2.out.ats.lt hb)))
                        clear ha1)
                     | (refine wpList_appG rfl (.tmp 37) (.tmp 39) _ rfl elem_ints (by decide) ie_len ie_one q d (asL l n) [(n : Int)] (by rw [asL_len, hL]; rfl) (HS3.out.below ((Below.refl _ _).alloc (Nat.le_refl _) _)) w3.heap.size 1 1 rfl rfl 3 (0, 0) (World.alloc_heap_new w3 _) (by simp) ⟨by rw [asL_len]; have := psL_le l n; omega, by simp⟩ ?_
                        intro q' d' w4 ha2
                        have HA2 := Lib.hid ha2
                        clear ha2))
        have HFIN := Lib.hid (HS2.out.app HNEW.out ((Below.refl _ _).alloc (Nat.le_refl _) _) (by rw [HY.out]; exact HA1.out) ((Below.refl _ _).alloc (Nat.le_refl _) _) HA2.out)
        have HLN := Lib.hid (show (psL l (n + 1)).length = 0 + 1 by rw [(ps_new HNEW.out).1]; simp [hL])
        go_wp2_with fail
        go_roundw
        case rel => exact ⟨n + 1, p', c', q', d', by omega, by go_num, by rw [HLN.out], by rw [HLN.out, asL_len, hL], HFIN.out⟩
        case measure => simp [intOf]; omega
      · obtain ⟨m, hm, hlast⟩ := ps_last (l := l) (n := n) (by omega)
        obtain rfl : L = m + 1 := by omega
        have hla := hlast (by omega)
        obtain ⟨x, hx⟩ : ∃ x, refP l ((n : Int) - 1) = x := ⟨_, rfl⟩
        rw [hx] at hla
        obtain ⟨x1, x2⟩ := x
        obtain ⟨hr1, hr2, hr3⟩ := HSP2.out.ps.rds pe_len
        obtain ⟨b, off, rfl, hbl, hcells⟩ : ∃ b off, p = some ⟨b, off, none⟩ ∧ b < w2.heap.size ∧ ∀ i (h : i < (psL l n).length) j v, (pe (psL l n)[i])[j]? = some v → w2.cell? ⟨b, off + (i * 2 + j), none⟩ = some v := by
          rcases hr3 with h9 | h9
          · omega
          · exact h9
        have u0 := hcells m (by omega) 0 (.int .i64 x1) (by rw [hla]; rfl)
        have u1 := hcells m (by omega) 1 (.int .i64 x2) (by rw [hla]; rfl)
        have e0 : w2.drew.cell? ⟨b, off + m * 2, none⟩ = some (.int .i64 x1) := by rw [show off + m * 2 = off + (m * 2 + 0) by omega]; exact u0
        have e1 : w2.drew.cell? ⟨b, off + m * 2 + 1, none⟩ = some (.int .i64 x2) := by rw [show off + m * 2 + 1 = off + (m * 2 + 1) by omega]; exact u1
        have e2 : w2.drew.cell? ⟨w1.heap.size, 0, none⟩ = some (.int .i64 y1) := z0
        have e3 : w2.drew.cell? ⟨w1.heap.size, 1, none⟩ = some (.int .i64 y2) := z1
        have HX2 := Lib.hid hx
        have hml : ((m : Int) < (m : Int) + 1) = True := eq_true (by omega)
        clear hm hlast hla hx hr1 hr2 hr3 hcells u0 u1
        by_cases hxy : x1 = y1
        · subst hxy
          by_cases hbb : x2 = y2
          · subst hbb
            have hold : ¬ (n = 0 ∨ refP l (n : Int) ≠ refP l ((n : Int) - 1)) := by
              rw [HY.out, HX2.out]
              rintro (h9 | h9)
              · exact hn0 h9
              · exact h9 rfl
            have HOLD := Lib.hid hold
            clear hold hn0
            go_wp2_with fail
            go_region_held3 (fun w' => w'.cell? ⟨b, off + m * 2, none⟩ = some (.int .i64 x1) ∧ w'.cell? ⟨b, off + m * 2 + 1, none⟩ = some (.int .i64 x2) ∧ w'.cell? ⟨w1.heap.size, 0, none⟩ = some (.int .i64 x1) ∧ w'.cell? ⟨w1.heap.size, 1, none⟩ = some (.int .i64 x2))
              (first | exact ⟨e0, e1, e2, e3⟩) (fail)
            have HLN := Lib.hid (show (psL l (n + 1)).length = m + 1 by rw [(ps_old HOLD.out).1]; exact hL)
            have hsp9 := (HSP2.out.old HOLD.out).go (Below.refl _ w2).drew
            have HFIN := Lib.hid hsp9
            clear hsp9 e0 e1 e2 e3 hml hw2 z0 z1
            go_wp2_with fail
            go_roundw
            case rel => exact ⟨n + 1, _, c, q, d, by omega, by go_num, by rw [HLN.out], by rw [HLN.out], HFIN.out⟩
            case measure => simp [intOf]; omega
          · have hbb' : (x2 = y2) = False := eq_false hbb
            have HNEW : Hid (n = 0 ∨ refP l (n : Int) ≠ refP l ((n : Int) - 1)) := Lib.hid (.inr (by rw [HY.out, HX2.out]; simp; exact fun h9 => hbb h9.symm))
            clear hn0
            go_wp2_with fail
            go_region_held3 (fun w' => w'.cell? ⟨b, off + m * 2, none⟩ = some (.int .i64 x1) ∧ w'.cell? ⟨b, off + m * 2 + 1, none⟩ = some (.int .i64 x2) ∧ w'.cell? ⟨w1.heap.size, 0, none⟩ = some (.int .i64 x1) ∧ w'.cell? ⟨w1.heap.size, 1, none⟩ = some (.int .i64 y2))
              (first | exact ⟨e0, e1, e2, e3⟩) (fail)
            obtain ⟨w2d, hw2d⟩ : ∃ w2d, w2.drew = w2d := ⟨_, rfl⟩
            rw [hw2d]
            clear hw2 e0 e1 e2 e3 hml
            have hX : Below w2.heap.size w2 w2d := ⟨by rw [← hw2d]; rfl, by rw [← hw2d]; rfl, by rw [← hw2d]; rfl, by rw [← hw2d]; exact Nat.le_refl _, fun _ _ => by rw [← hw2d]; rfl⟩
            have HS2 := Lib.hid (HSP2.out.go hX)
            have y0 : w2d.cell? ⟨w1.heap.size, 0, none⟩ = some (.int .i64 x1) := by rw [← hw2d]; exact z0
            have y1' : w2d.cell? ⟨w1.heap.size, 1, none⟩ = some (.int .i64 y2) := by rw [← hw2d]; exact z1
            have HX := Lib.hid hX
            clear hX z0 z1
            go_wp2_with (at_builtin
                         first
                         | (refine wpList_appG rfl (.tmp 33) (.tmp 35) _ rfl elem_part (by decide) pe_len pe_one (some ⟨b, off, none⟩) c (psL l n) [(x1, y2)] (by rw [hL]; rfl) (HS2.out.ps.below ((Below.refl _ _).alloc (Nat.le_refl _) _)) w2d.heap.size 1 1 rfl rfl 46 (0, 0) (World.alloc_heap_new w2d _) (by simp) ⟨by have := psL_le l n; omega, by simp⟩ ?_
                            intro p' c' w3 ha1
                            have HA1 := Lib.hid ha1
                            have HS3 := Lib.hid (show OwnG 3 1 ie w3 q d (asL l n) from HS2.out.ats.keep fun b hb => (ha1.2.1.block b (by have := HS2.out.ats.lt hb; simp; omega) (fun h9 => HS2.out.ne b h9 hb)).trans (Below.heap_alloc _ _ _ (HS2.out.ats.lt hb)))
                            clear ha1)
                         | (refine wpList_appG rfl (.tmp 37) (.tmp 39) _ rfl elem_ints (by decide) ie_len ie_one q d (asL l n) [(n : Int)] (by rw [asL_len, hL]; rfl) (HS3.out.below ((Below.refl _ _).alloc (Nat.le_refl _) _)) w3.heap.size 1 1 rfl rfl 3 (0, 0) (World.alloc_heap_new w3 _) (by simp) ⟨by rw [asL_len]; have := psL_le l n; omega, by simp⟩ ?_
                            intro q' d' w4 ha2
                            have HA2 := Lib.hid ha2
                            clear ha2))
            have HFIN := Lib.hid (HS2.out.app HNEW.out ((Below.refl _ _).alloc (Nat.le_refl _) _) (by rw [HY.out]; exact HA1.out) ((Below.refl _ _).alloc (Nat.le_refl _) _) HA2.out)
            have HLN := Lib.hid (show (psL l (n + 1)).length = (m + 1) + 1 by rw [(ps_new HNEW.out).1]; simp [hL])
            go_wp2_with fail
            go_roundw
            case rel => exact ⟨n + 1, p', c', q', d', by omega, by go_num, by rw [HLN.out], by rw [HLN.out, asL_len, hL], HFIN.out⟩
            case measure => simp [intOf]; omega
        · have hxy' : (x1 = y1) = False := eq_false hxy
          have HNEW : Hid (n = 0 ∨ refP l (n : Int) ≠ refP l ((n : Int) - 1)) := Lib.hid (.inr (by rw [HY.out, HX2.out]; simp; exact fun h9 => absurd h9.symm hxy))
          clear hn0
          go_wp2_with fail
          go_region_held3 (fun w' => w'.cell? ⟨b, off + m * 2, none⟩ = some (.int .i64 x1) ∧ w'.cell? ⟨b, off + m * 2 + 1, none⟩ = some (.int .i64 x2) ∧ w'.cell? ⟨w1.heap.size, 0, none⟩ = some (.int .i64 y1) ∧ w'.cell? ⟨w1.heap.size, 1, none⟩ = some (.int .i64 y2))
            (first | exact ⟨e0, e1, e2, e3⟩) (fail)
          obtain ⟨w2d, hw2d⟩ : ∃ w2d, w2.drew = w2d := ⟨_, rfl⟩
          rw [hw2d]
          clear hw2 e0 e1 e2 e3 hml
          have hX : Below w2.heap.size w2 w2d := ⟨by rw [← hw2d]; rfl, by rw [← hw2d]; rfl, by rw [← hw2d]; rfl, by rw [← hw2d]; exact Nat.le_refl _, fun _ _ => by rw [← hw2d]; rfl⟩
          have HS2 := Lib.hid (HSP2.out.go hX)
          have y0 : w2d.cell? ⟨w1.heap.size, 0, none⟩ = some (.int .i64 y1) := by rw [← hw2d]; exact z0
          have y1' : w2d.cell? ⟨w1.heap.size, 1, none⟩ = some (.int .i64 y2) := by rw [← hw2d]; exact z1
          have HX := Lib.hid hX
          clear hX z0 z1
          go_wp2_with (at_builtin
                       first
                       | (refine wpList_appG rfl (.tmp 33) (.tmp 35) _ rfl elem_part (by decide) pe_len pe_one (some ⟨b, off, none⟩) c (psL l n) [(y1, y2)] (by rw [hL]; rfl) (HS2.out.ps.below ((Below.refl _ _).alloc (Nat.le_refl _) _)) w2d.heap.size 1 1 rfl rfl 46 (0, 0) (World.alloc_heap_new w2d _) (by simp) ⟨by have := psL_le l n; omega, by simp⟩ ?_
                          intro p' c' w3 ha1
                          have HA1 := Lib.hid ha1
                          have HS3 := Lib.hid (show OwnG 3 1 ie w3 q d (asL l n) from HS2.out.ats.keep fun b hb => (ha1.2.1.block b (by have := HS2.out.ats.lt hb; simp; omega) (fun h9 => HS2.out.ne b h9 hb)).trans (Below.heap_alloc _ _ _ (HS2.out.ats.lt hb)))
                          clear ha1)
                       | (refine wpList_appG rfl (.tmp 37) (.tmp 39) _ rfl elem_ints (by decide) ie_len ie_one q d (asL l n) [(n : Int)] (by rw [asL_len, hL]; rfl) (HS3.out.below ((Below.refl _ _).alloc (Nat.le_refl _) _)) w3.heap.size 1 1 rfl rfl 3 (0, 0) (World.alloc_heap_new w3 _) (by simp) ⟨by rw [asL_len]; have := psL_le l n; omega, by simp⟩ ?_
                          intro q' d' w4 ha2
                          have HA2 := Lib.hid ha2
                          clear ha2))
          have HFIN := Lib.hid (HS2.out.app HNEW.out ((Below.refl _ _).alloc (Nat.le_refl _) _) (by rw [HY.out]; exact HA1.out) ((Below.refl _ _).alloc (Nat.le_refl _) _) HA2.out)
          have HLN := Lib.hid (show (psL l (n + 1)).length = (m + 1) + 1 by rw [(ps_new HNEW.out).1]; simp [hL])
          go_wp2_with fail
          go_roundw
          case rel => exact ⟨n + 1, p', c', q', d', by omega, by go_num, by rw [HLN.out], by rw [HLN.out, asL_len, hL], HFIN.out⟩
          case measure => simp [intOf]; omega
    · obtain rfl : n = N := by omega
      have hlt' : ¬ (n : Int) < 64 * l.B := by rw [← HN.out]; omega
      have hl1 : (psL l n).length = (itemsL l).length := by unfold psL; rw [HALL.out]; simp
      have HL1 := Lib.hid hl1
      clear hl1
      go_wp2_with fail
      go_ret2
      refine ⟨p, c, q, d, by rw [← HL1.out]; rfl, ?_, ?_, HSP.out.bel⟩
      · have := HSP.out.ps.rds pe_len
        unfold psL at this
        rwa [HALL.out] at this
      · have := HSP.out.ats.rds ie_len
        unfold asL at this
        rwa [HALL.out] at this
end Go.Proofs.Ytljegehfdmgcbaa
