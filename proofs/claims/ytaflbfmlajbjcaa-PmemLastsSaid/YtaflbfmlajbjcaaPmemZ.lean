/- The walks of the reference's memory: Crash. -/
import Derived.Test.YtaflbfmlajbjcaaPmemY
namespace Go.Proofs.Ytaflbfmlajbjcaa
open Go Go.RowKit

def crP (m : Mem) (pk : List (BitVec 8)) (k : Nat) : Mem := m.mapIdx (fun i x => { x with lasts := if (opensT m i).length < k then crashL m pk i x else x.lasts })
def crQ (m : Mem) (pk : List (BitVec 8)) (j : Nat) : Mem := m.mapIdx (fun i x => if i < j then ⟨crashL m pk i x, crashL m pk i x, none⟩ else { x with lasts := crashL m pk i x })
theorem crP_len (m : Mem) (pk : List (BitVec 8)) (k : Nat) : (crP m pk k).length = m.length := by simp [crP]
theorem crQ_len (m : Mem) (pk : List (BitVec 8)) (k : Nat) : (crQ m pk k).length = m.length := by simp [crQ]
theorem crP_zero (m : Mem) (pk : List (BitVec 8)) : crP m pk 0 = m := by
  apply List.ext_getElem (by simp [crP])
  intro i h1 h2
  simp only [crP, List.getElem_mapIdx]
  rw [if_neg (by omega)]
theorem crP_all (m : Mem) (pk : List (BitVec 8)) : crP m pk m.opens.length = crQ m pk 0 := by
  apply List.ext_getElem (by simp [crP, crQ])
  intro i h1 h2
  simp only [crP, crQ, List.getElem_mapIdx]
  rw [if_neg (show ¬ i < 0 by omega)]
  by_cases h : (opensT m i).length < m.opens.length
  · rw [if_pos h]
  · rw [if_neg h]
    by_cases ho : isOpen m i = true
    · have hi : i < m.length := by simpa [crP] using h1
      obtain ⟨hl, -⟩ := opensT_get m hi ho
      exact absurd hl h
    · unfold crashL
      rw [if_neg ho]
theorem crQ_all (m : Mem) (pk : List (BitVec 8)) : crQ m pk m.length = m.crash pk := by
  apply List.ext_getElem (by simp [crQ, Mem.crash, Mem.of, crashV])
  intro i h1 h2
  have hi : i < m.length := by simpa [crQ] using h1
  simp only [crQ, Mem.crash, Mem.of, crashV, List.getElem_mapIdx, List.getElem_map]
  rw [if_pos hi]
theorem crQ_succ (m : Mem) (pk : List (BitVec 8)) (j : Nat) (hj : j < m.length) : (crQ m pk j)[j]'(by rw [crQ_len]; exact hj) = { m[j] with lasts := crashL m pk j m[j] } ∧ crQ m pk (j + 1) = (crQ m pk j).set j ⟨crashL m pk j m[j], crashL m pk j m[j], none⟩ := by
  constructor
  · simp only [crQ, List.getElem_mapIdx]
    rw [if_neg (by omega)]
  · apply List.ext_getElem (by simp [crQ])
    intro i h1 h2
    rw [List.getElem_set]
    simp only [crQ, List.getElem_mapIdx]
    by_cases hij : j = i
    · subst hij; rw [if_pos rfl, if_pos (by omega)]
    · rw [if_neg hij]
      by_cases h3 : i < j
      · rw [if_pos h3, if_pos (by omega)]
      · rw [if_neg h3, if_neg (by omega)]
theorem crP_at (m : Mem) (pk : List (BitVec 8)) (k a : Nat) (h : k < m.opens.length) (ha : m.opens[k] = a) : ∃ hl : a < m.length, (crP m pk k)[a]'(by rw [crP_len]; exact hl) = m[a] ∧
    crP m pk (k + 1) = (crP m pk k).set a { m[a] with lasts := match pk[k]? with | some b => takeL m[a] b | none => m[a].lasts } := by
  obtain ⟨h1, h2, h3⟩ := opens_at m m.length k h
  have ha' : (opensT m m.length)[k]'h = a := ha
  rw [ha'] at h1 h2 h3
  refine ⟨h1, ?_, ?_⟩
  · simp only [crP, List.getElem_mapIdx]
    rw [if_neg (by omega)]
  · apply List.ext_getElem (by simp [crP])
    intro i hi hi2
    have him : i < m.length := by simpa [crP] using hi
    rw [List.getElem_set]
    by_cases hia : a = i
    · subst hia
      rw [if_pos rfl]
      simp only [crP, List.getElem_mapIdx]
      rw [if_pos (by omega)]
      unfold crashL
      rw [if_pos h2, h3]
      rfl
    · rw [if_neg hia]
      simp only [crP, List.getElem_mapIdx]
      by_cases hk : (opensT m i).length < k
      · rw [if_pos hk, if_pos (by omega)]
      · rw [if_neg hk]
        by_cases hk2 : (opensT m i).length < k + 1
        · rw [if_pos hk2]
          unfold crashL
          by_cases ho : isOpen m i = true
          · obtain ⟨hl, hg⟩ := opensT_get m him ho
            have hkk : (opensT m i).length = k := by omega
            simp only [hkk] at hg
            exact absurd (ha'.symm.trans hg) hia
          · rw [if_neg ho]
        · rw [if_neg hk2]
/-- A step that stores nothing. -/
theorem crP_same (m : Mem) (pk : List (BitVec 8)) (k a : Nat) (hl : a < (crP m pk k).length) (x : Ln) (he : (crP m pk k)[a] = x) : (crP m pk k).set a x = crP m pk k := by
  rw [← he, List.set_getElem_self]
theorem yields_build {ops : Array Oper} {o : Oper} {a : Act} (hw : Region.wanted o (yielded ops a.tmps) = true) (x y : Operand) (ho : o.op = .build 72 #[(0, x), (1, y)]) {v : V8} (hx : a.eval x = .agg (ec v).toArray) (hy : a.eval y = .agg (ec v).toArray) :
    YieldsIf Try.prog ops (fun _ => True) o (lnV ⟨v, v, none⟩) a :=
  .inl ⟨hw, fun w _ => by
    have hl := build_evict v w
    unfold execOp
    have e : (#[(0, x), (1, y)] : Array (Nat × Operand)).map (fun (i, x) => (i, a.eval x)) = #[(0, .agg (ec v).toArray), (1, .agg (ec v).toArray)] := by simp [hx, hy]
    simp only [ho, e, Sem.run_bind, hl, Sem.run_pure, Result.andThen_ok]⟩
set_option maxRecDepth 100000 in
set_option maxHeartbeats 8000000 in
theorem crash7_any (p pp : Option Addr) (cap cp : Nat) (m : Mem) (pk : List (BitVec 8)) (w : World) (hrd : RdS w.heap.size w p cap 25 lc m) (hpk : RdL w.heap.size w pp cp vb pk) (h0 : 0 < m.length) (hn : m.length ≤ 10000) (hpl : pk.length ≤ 1000000) :
    Calls Try.prog 27 #[.slice p m.length cap, .slice pp pk.length cp] w fun e w' => ∃ p' c', e = .returned (.slice p' m.length c') ∧ OwnR w' p' c' (m.crash pk) ∧ (∀ b, inP p' c' b → w.heap.size ≤ b) ∧ Below w.heap.size w w' := by
  have HRD0 := Lib.hid (hrd.keep (w' := w.alloc (.cells #[] 72)) (fun b hb => ((Below.refl w.heap.size w).alloc (Nat.le_refl _) (.cells #[] 72)).block b (hrd.inlt hb)))
  have HRD := Lib.hid hrd
  have HPK := Lib.hid hpk
  obtain ⟨L, hL⟩ : ∃ L, pk.length = L := ⟨_, rfl⟩
  have HL := Lib.hid hL
  rw [hL]
  clear hrd hpk hL
  go_enter Try.func27, Try.ntmps27
  go_wp2_with (
    at_builtin; refine wpList_copyG rfl (.tmp 10) (.tmp 11) _ rfl elem_ln (by decide) lc_len lc_one w.heap.size _ rfl (own_empty w w.heap.size 72 25 (Nat.le_refl _)) p cap m w.heap.size rfl HRD0.out (by omega) (by simp) ?_
    intro pc cc wc hown hpc hg
    have hbc : Below w.heap.size w wc := below_grown ((Below.refl _ w).alloc (Nat.le_refl _) _) hg (by simp) (by intro b hb; cases hb; exact Nat.le_refl _)
    obtain ⟨gc, oc, rfl⟩ := own_ptr (OwnG.rds lc_len hown) h0
    have hcc : 0 < cc := by have := (OwnG.rds lc_len hown).1; omega
    have hgc : w.heap.size ≤ gc := hpc gc ⟨_, rfl, rfl, hcc⟩
    have HC := Lib.hid (And.intro hown (And.intro hpc (And.intro hbc (And.intro hcc hgc))))
    clear hown hpc hg hbc hcc hgc)
  have HOP := Lib.hid (open7_any p cap m wc ((HRD.out.keep (fun b hb => HC.out.2.2.1.block b (HRD.out.inlt hb))).wideP HC.out.2.2.1.size) (by omega))
  refine HOP.out.mono ?_
  rintro e w1 ⟨po, co, rfl, ho1, hp1, hb1⟩
  have hgl : gc < wc.heap.size := HC.out.1.lt ⟨_, rfl, rfl, HC.out.2.2.2.1⟩
  have H1 := Lib.hid (And.intro ho1 (And.intro hp1 (And.intro hb1 (And.intro (HC.out.2.2.1.trans (hb1.mono HC.out.2.2.1.size)) (And.intro (show OwnR w1 (some ⟨gc, oc, none⟩) cc m from OwnG.below HC.out.1 hb1) (show gc < w1.heap.size from Nat.lt_of_lt_of_le hgl hb1.size))))))
  obtain ⟨NO, hNO⟩ : ∃ NO, m.opens.length = NO := ⟨_, rfl⟩
  have hno9 : NO ≤ 10000 := by
    have := opens_lt m m.length
    rw [← opens_T] at this
    omega
  have HNO := Lib.hid hNO
  rw [hNO]
  clear ho1 hp1 hb1 hgl hNO HOP
  go_wp2_with fail
  go_loopw [7] (fun i wr => ∃ k : Nat, k ≤ NO ∧ i = .int .i64 k ∧ OwnR wr (some ⟨gc, oc, none⟩) cc (crP m pk k) ∧ Frn (fun x => x = gc) w1 wr) (fun i _ => NO - (intOf i).toNat)
  case atStart => exact ⟨0, Nat.zero_le _, rfl, by rw [crP_zero]; exact H1.out.2.2.2.2.1, Frn.refl _ _⟩
  case round =>
    obtain ⟨k, hk, rfl, ho, hf⟩ := hrel
    by_cases hlt : k < NO
    · have hlt' : (k : Int) < (NO : Int) := by omega
      have hko : k < m.opens.length := by rw [HNO.out]; exact hlt
      obtain ⟨at', hat⟩ : ∃ a, m.opens[k] = a := ⟨_, rfl⟩
      obtain ⟨hl, hcat, hcs⟩ := crP_at m pk k at' hko hat
      -- the open line's number
      obtain ⟨go, oo, hpo, hgo, hopc⟩ : ∃ g o, po = some ⟨g, o, none⟩ ∧ g < w1.heap.size ∧ w1.cell? ⟨g, o + k, none⟩ = some (.int .i64 (at' : Int)) := by
        obtain ⟨h1, h2, h3⟩ := OwnG.rds ei_len H1.out.1
        rcases h3 with h3 | ⟨g, o, h4, h5, h6⟩
        · omega
        · refine ⟨g, o, h4, h5, ?_⟩
          have := h6 k hko 0 (.int .i64 (at' : Int)) (by rw [hat]; rfl)
          rwa [Nat.mul_one, Nat.add_zero] at this
      subst hpo
      have hgne : go ≠ gc := by
        have hco : 0 < co := by have := (OwnG.rds ei_len H1.out.1).1; omega
        have := H1.out.2.1 go ⟨_, rfl, rfl, hco⟩
        have := HC.out.1.lt (b := gc) ⟨_, rfl, rfl, HC.out.2.2.2.1⟩
        omega
      have hopr : wr.cell? ⟨go, oo + k, none⟩ = some (.int .i64 (at' : Int)) := (World.cell?_of_block (w := w1) (a := ⟨go, oo + k, none⟩) (hf.block go hgo hgne)).trans hopc
      -- the line
      obtain ⟨g, o, rfl⟩ := own_ptr HRD.out h0
      obtain ⟨hr0, hg⟩ := rds_ln HRD.out at' hl
      have hgw : g ≠ gc := by have := HC.out.2.2.2.2; omega
      have hg1 : g < w1.heap.size := Nat.lt_of_lt_of_le hg H1.out.2.2.2.1.size
      have hr : wr.rangeAt g (o + at' * 25) (lc m[at']) := fun j u hu => (World.cell?_of_block (w := w1) (a := ⟨g, o + at' * 25 + j, none⟩) (hf.block g hg1 hgw)).trans ((H1.out.2.2.2.1.cell (p := ⟨g, o + at' * 25 + j, none⟩) hg).trans (hr0 j u hu))
      obtain ⟨x, hx⟩ : ∃ x, m[at'] = x := ⟨_, rfl⟩
      rw [hx] at hr hcat hcs
      obtain ⟨WA, hWA, hbA, hzA, htA⟩ := new_lnvar wr
      obtain ⟨W5, hW5⟩ : ∃ W5, WA.setCells wr.heap.size 0 (lc x) = W5 := ⟨_, rfl⟩
      have hrx : W5.rangeAt wr.heap.size 0 (lc x) := by rw [← hW5]; exact World.rangeAt_setCells_same _ _ _ _ (by rw [lc_len]; exact htA)
      have hb5 : Below wr.heap.size wr W5 := by rw [← hW5]; exact below_setCells hbA (Nat.le_refl _)
      have hgor : go < wr.heap.size := Nat.lt_of_lt_of_le hgo hf.size
      have hop5 : W5.cell? ⟨go, oo + k, none⟩ = some (.int .i64 (at' : Int)) := (hb5.cell (p := ⟨go, oo + k, none⟩) hgor).trans hopr
      have ho5 : OwnR W5 (some ⟨gc, oc, none⟩) cc (crP m pk k) := OwnG.below ho hb5
      have hcl : at' < (crP m pk k).length := by rw [crP_len]; exact hl
      have hth := part_there ho5 HC.out.2.2.2.1 at' hcl 8 8 (by decide)
      have hgr : gc < wr.heap.size := OwnG.lt ho ⟨_, rfl, rfl, HC.out.2.2.2.1⟩
      have hf5 : Frn (fun x => x = gc) w1 W5 := hf.trans (Frn.of_below hb5)
      obtain ⟨r1, r2, r3, r4⟩ := range_ln.1 hrx
      rw [Nat.zero_add] at r2 r3 r4
      have HWR := Lib.hid (And.intro hr htA)
      have HW5 := Lib.hid hW5
      have hatn : (at' : Int) < (m.length : Int) := by omega
      have HCS := Lib.hid hcs
      have HCA := Lib.hid hcat
      have HNO5 : Hid (∀ v : V8, OwnR (W5.drew.setCells gc (oc + at' * 25 + 8) (ec v)) (some ⟨gc, oc, none⟩) cc ((crP m pk k).set at' { x with lasts := v }) ∧ Frn (fun x => x = gc) w1 (W5.drew.setCells gc (oc + at' * 25 + 8) (ec v))) := Lib.hid (fun v =>
        ⟨own_part (W := W5.drew) (OwnG.keep ho5 fun _ _ => rfl) at' hcl { x with lasts := v } 8 (ec v) (by rw [ec_len]; decide) (by rw [hcat]; exact lc_setLasts x v), (hf5.drewN 1).trans (setCells_frn _ _ _)⟩)
      have HSAME : Hid (crP m pk (k + 1) = crP m pk k → OwnR W5 (some ⟨gc, oc, none⟩) cc (crP m pk (k + 1)) ∧ Frn (fun x => x = gc) w1 W5) := Lib.hid (fun e => by rw [e]; exact ⟨ho5, hf5⟩)
      obtain ⟨X, hX⟩ : ∃ X, wr.heap.size = X := ⟨_, rfl⟩
      rw [hX] at r1 r2 r3 r4 HWR HW5
      have hthd : W5.drew.there gc (oc + at' * 25 + 8) 8 := hth
      have HTH := Lib.hid hthd
      have HCL := Lib.hid hcl
      have HPKF := Lib.hid (And.intro hf5 (And.intro hgr hgor))
      obtain ⟨has, hhas⟩ : ∃ b, x.q.isSome = b := ⟨_, rfl⟩
      rw [hhas] at r4
      have hk9 : (k : Int) ≤ 10000 := by omega
      clear ho hf hcat hcs hgo hopc hgne hr0 hg hgw hg1 hr hbA hzA htA hrx hb5 ho5 hth hgr hf5 hat hx hcl hthd hgor hW5
      by_cases hkl : k < L
      · have hkl' : (k : Int) < (L : Int) := by omega
        obtain ⟨bp, op, rfl, hbp, hbc⟩ := HPK.out.at k (by rw [HL.out]; exact hkl)
        have HBG := Lib.hid (show bp ≠ gc by have := HC.out.2.2.2.2; omega)
        have hbc2 : W5.cell? ⟨bp, op + k, none⟩ = some (vb (pk[k]'(by rw [HL.out]; exact hkl))) := (World.cell?_of_block (w := w1) (a := ⟨bp, op + k, none⟩) (HPKF.out.1.block bp (Nat.lt_of_lt_of_le hbp H1.out.2.2.2.1.size) (by have := HC.out.2.2.2.2; omega))).trans ((H1.out.2.2.2.1.cell (p := ⟨bp, op + k, none⟩) hbp).trans hbc)
        have hkp : k < pk.length := by rw [HL.out]; exact hkl
        obtain ⟨bv, hbv⟩ : ∃ bv, pk[k] = bv := ⟨_, rfl⟩
        have hpe : pk[k]? = some bv := by rw [← hbv]; exact List.getElem?_eq_getElem _
        rw [hbv] at hbc2
        obtain ⟨B, hB⟩ : ∃ B : Nat, bv.toNat = B := ⟨_, rfl⟩
        have hbc3 : W5.cell? ⟨bp, op + k, none⟩ = some (.int .u8 (B : Int)) := by rw [hbc2, ← hB]
        have hB1 : (B : Int) ≤ 255 := by have := bv.isLt; omega
        have HTK : Hid (crP m pk (k + 1) = (crP m pk k).set at' { x with lasts := takeL x bv }) := Lib.hid (by have := HCS.out; rw [hpe] at this; exact this)
        have HBB := Lib.hid hB
        clear hbc hbc2 hbp hbv hB hpe hkl
        have hr3 : (B : Int) % 3 = 0 ∨ (B : Int) % 3 = 1 ∨ (B : Int) % 3 = 2 := by omega
        rcases hr3 with hr3 | hr3 | hr3
        · -- nothing
          have hrt : (B : Int).tmod 3 = 0 := by rw [Int.tmod_eq_emod_of_nonneg (by omega)]; exact hr3
          have HE := Lib.hid (HSAME.out (by
            rw [HTK.out]
            have e : takeL x bv = x.lasts := by
              unfold takeL
              rw [HBB.out, if_pos (by omega)]
            rw [e]
            exact crP_same m pk k at' HCL.out _ HCA.out))
          clear r1 r2 r3
          go_wp2_with (first
            | (refine list_load_row rowLn rfl (.tmp 26) rfl rfl (lc_len x) HWR.out.1 ?_)
            | (refine list_store_row rowLn rfl (.tmp 8) (.tmp 27) rfl rfl (lc_len x) rfl (lc_one x) HWR.out.2 ?_; rw [HW5.out]))
          go_roundw
          case rel => exact ⟨k + 1, hlt, by go_num, HE.out⟩
          case measure => simp [intOf]; omega
        · have hrt : (B : Int).tmod 3 = 1 := by rw [Int.tmod_eq_emod_of_nonneg (by omega)]; exact hr3
          cases hq : x.q with
          | none =>
            have hbf : has = false := by rw [← hhas, hq]; rfl
            subst hbf
            have HE := Lib.hid (HSAME.out (by
              rw [HTK.out]
              have e : takeL x bv = x.lasts := by
                unfold takeL
                rw [HBB.out, if_neg (by omega), if_pos (by omega), hq]
                rfl
              rw [e]
              exact crP_same m pk k at' HCL.out _ HCA.out))
            clear r1 r2 r3 hq hhas
            go_wp2_with (first
              | (refine list_load_row rowLn rfl (.tmp 26) rfl rfl (lc_len x) HWR.out.1 ?_)
              | (refine list_store_row rowLn rfl (.tmp 8) (.tmp 27) rfl rfl (lc_len x) rfl (lc_one x) HWR.out.2 ?_; rw [HW5.out]))
            go_roundw
            case rel => exact ⟨k + 1, hlt, by go_num, HE.out⟩
            case measure => simp [intOf]; omega
          | some v =>
            have hbf : has = true := by rw [← hhas, hq]; rfl
            subst hbf
            have r3 : W5.rangeAt X 16 (ec v) := by rw [hq] at r3; exact r3
            have HX5 := Lib.hid (And.intro r3 (And.intro HTH.out (show OwnR (W5.drew.setCells gc (oc + at' * 25 + 8) (ec v)) (some ⟨gc, oc, none⟩) cc (crP m pk (k + 1)) ∧ Frn (fun x => x = gc) w1 (W5.drew.setCells gc (oc + at' * 25 + 8) (ec v)) by
              have h1 := HNO5.out v
              have e : takeL x bv = v := by
                unfold takeL
                rw [HBB.out, if_neg (by omega), if_pos (by omega), hq]
                rfl
              have h2 := HTK.out
              rw [e] at h2
              rw [h2]
              exact h1)))
            clear r1 r2 r3 hq hhas
            go_wp2_with (first
              | (refine list_load_row rowLn rfl (.tmp 26) rfl rfl (lc_len x) HWR.out.1 ?_)
              | (refine list_store_row rowLn rfl (.tmp 8) (.tmp 27) rfl rfl (lc_len x) rfl (lc_one x) HWR.out.2 ?_; rw [HW5.out]))
            refine wp_region_noPanic ?_
            refine wp_region_F 9 (fun w' => w'.cell? ⟨go, oo + k, none⟩ = some (.int .i64 (at' : Int)) ∧ w'.rangeAt X 16 (ec v)) (by kernel_rfl) ?_ (fun hHeld => ?_)
            · exact ⟨hop5, HX5.out.1⟩
            refine' wpAnyF_takeT (i := 0) (v := _) rfl (by kernel_rfl) (by kernel_rfl) (by kernel_rfl) (by rfl) (fun _ _ _ h => h) (Or.inl ⟨by rfl, ?hy⟩) (fun _ => hHeld) _
            case hy => (intro w0 hSw; (try dsimp only at hSw); simp only [List.getElem_toArray, List.getElem_cons_zero]; go_simp; first | done | with_reducible rfl)
            simp only [Act.put, List.getElem_toArray, List.getElem_cons_zero, List.setIfInBounds_toArray, List.set_cons_zero, List.set_cons_succ]
            refine' wpAnyF_takeT (i := 1) (v := _) rfl (by kernel_rfl) (by kernel_rfl) (by kernel_rfl) (by rfl) (fun _ _ _ h => h) (Or.inl ⟨by rfl, ?hy⟩) (fun _ => hHeld) _
            case hy => (intro w0 hSw; (try dsimp only at hSw); simp only [List.getElem_toArray, List.getElem_cons_zero, List.getElem_cons_succ]; go_simp; first | done | with_reducible rfl)
            simp only [Act.put, List.getElem_toArray, List.getElem_cons_zero, List.getElem_cons_succ, List.setIfInBounds_toArray, List.set_cons_zero, List.set_cons_succ]
            refine' wpAnyF_takeT (i := 2) (v := _) rfl (by kernel_rfl) (by kernel_rfl) (by kernel_rfl) (by rfl) (fun _ _ _ h => h) (Or.inl ⟨by rfl, ?hy⟩) (fun _ => hHeld) _
            case hy => (intro w0 hSw; (try dsimp only at hSw); simp only [List.getElem_toArray, List.getElem_cons_zero, List.getElem_cons_succ]; go_simp; first | done | with_reducible rfl)
            simp only [Act.put, List.getElem_toArray, List.getElem_cons_zero, List.getElem_cons_succ, List.setIfInBounds_toArray, List.set_cons_zero, List.set_cons_succ]
            refine' wpAnyF_takeT (i := 3) (v := _) rfl (by kernel_rfl) (by kernel_rfl) (by kernel_rfl) (by rfl) (fun _ _ _ h => h) (Or.inl ⟨by rfl, ?hy⟩) (fun _ => hHeld) _
            case hy => (intro w0 hSw; (try dsimp only at hSw); simp only [List.getElem_toArray, List.getElem_cons_zero, List.getElem_cons_succ]; go_simp; first | done | with_reducible rfl)
            simp only [Act.put, List.getElem_toArray, List.getElem_cons_zero, List.getElem_cons_succ, List.setIfInBounds_toArray, List.set_cons_zero, List.set_cons_succ]
            refine' wpAnyF_take (i := 4) (v := _) rfl (by kernel_rfl) (by kernel_rfl) (by kernel_rfl) (by kernel_rfl) (by rfl) (by kernel_rfl) (fun _ _ _ h => h) (Or.inl ⟨by rfl, ?hy⟩) hHeld _
            case hy => (intro w0 hSw; (try dsimp only at hSw); simp only [List.getElem_toArray, List.getElem_cons_zero, List.getElem_cons_succ]; go_simp; first | done | with_reducible rfl)
            simp only [Act.put, List.getElem_toArray, List.getElem_cons_zero, List.getElem_cons_succ, List.setIfInBounds_toArray, List.set_cons_zero, List.set_cons_succ]
            refine' wpAnyF_takeT (i := 5) (v := _) rfl (by kernel_rfl) (by kernel_rfl) (by kernel_rfl) (by rfl) (fun _ _ _ h => h) (Or.inl ⟨by rfl, ?hy⟩) (fun _ => hHeld) _
            case hy => (intro w0 hSw; (try dsimp only at hSw); simp only [List.getElem_toArray, List.getElem_cons_zero, List.getElem_cons_succ]; go_simp; first | done | with_reducible rfl)
            simp only [Act.put, List.getElem_toArray, List.getElem_cons_zero, List.getElem_cons_succ, List.setIfInBounds_toArray, List.set_cons_zero, List.set_cons_succ]
            refine' wpAnyF_take (i := 6) (v := .agg (ec v).toArray) rfl (by kernel_rfl) (by kernel_rfl) (by kernel_rfl) (by kernel_rfl) (by rfl) (by kernel_rfl) (fun _ _ _ h => h) (yieldsIf_load_mid (by rfl) 70 (.tmp 49) rfl X 16 rfl (ec v) (.array 8 36) (fun _ h => h.2) (by kernel_rfl) rfl (by rw [ec_len]; kernel_rfl)) hHeld _
            simp only [Act.put, List.getElem_toArray, List.getElem_cons_zero, List.getElem_cons_succ, List.setIfInBounds_toArray, List.set_cons_zero, List.set_cons_succ]
            refine' wpAnyF_takeT (i := 7) (v := _) rfl (by kernel_rfl) (by kernel_rfl) (by kernel_rfl) (by rfl) (fun _ _ _ h => h) (Or.inl ⟨by rfl, ?hy⟩) (fun _ => hHeld) _
            case hy => (intro w0 hSw; (try dsimp only at hSw); simp only [List.getElem_toArray, List.getElem_cons_zero, List.getElem_cons_succ]; go_simp; first | done | with_reducible rfl)
            simp only [Act.put, List.getElem_toArray, List.getElem_cons_zero, List.getElem_cons_succ, List.setIfInBounds_toArray, List.set_cons_zero, List.set_cons_succ]
            refine' wpAnyF_takeT (i := 8) (v := _) rfl (by kernel_rfl) (by kernel_rfl) (by kernel_rfl) (by rfl) (fun _ _ _ h => h) (Or.inl ⟨by rfl, ?hy⟩) (fun _ => hHeld) _
            case hy => (intro w0 hSw; (try dsimp only at hSw); simp only [List.getElem_toArray, List.getElem_cons_zero, List.getElem_cons_succ]; go_simp; first | done | with_reducible rfl)
            simp only [Act.put, List.getElem_toArray, List.getElem_cons_zero, List.getElem_cons_succ, List.setIfInBounds_toArray, List.set_cons_zero, List.set_cons_succ]
            refine wpAnyF_one (i := 9) (by kernel_rfl) rfl (fun K hK => ?_)
            rw [if_pos (by rfl)]
            refine wp_store_mid 70 (.tmp 52) (.tmp 50) rfl gc (oc + at' * 25 + 8) (ec v).toArray rfl rfl (by rw [List.size_toArray, ec_len]; exact HX5.out.2.1) (by rw [List.size_toArray, ec_len]; kernel_rfl) (all_oneCell_toArray (ec_one v)) ?_
            refine hK.out _ _ (fun h => Bool.noConfusion (h.symm.trans (by kernel_rfl : _ = true))) ?_
            clear hK K
            try simp only [Act.put, List.getElem_toArray, List.getElem_cons_zero, List.getElem_cons_succ, List.setIfInBounds_toArray, List.set_cons_zero, List.set_cons_succ]
            refine wpAnyF_done (by kernel_rfl) ?_ _
            refine NoPanic.normal ?_
            have HE := Lib.hid HX5.out.2.2
            clear hHeld
            have hbc6 : (W5.drew.setCells gc (oc + at' * 25 + 8) (ec v)).cell? ⟨bp, op + k, none⟩ = some (.int .u8 (B : Int)) := (World.cell?_setCells_out gc (ec v) _ W5.drew ⟨bp, op + k, none⟩ (fun e _ => absurd e HBG.out)).trans hbc3
            clear HX5 HNO5
            generalize W5.drew.setCells gc (oc + at' * 25 + 8) (ec v) = w6 at *
            go_wp2_with fail
            go_roundw
            case rel => exact ⟨k + 1, hlt, by go_num, HE.out⟩
            case measure => simp [intOf]; omega
        · have hrt : (B : Int).tmod 3 = 2 := by rw [Int.tmod_eq_emod_of_nonneg (by omega)]; exact hr3
          obtain ⟨v, hv⟩ : ∃ v, x.now = v := ⟨_, rfl⟩
          rw [hv] at r1
          have HX5 := Lib.hid (And.intro r1 (And.intro HTH.out (show OwnR (W5.drew.setCells gc (oc + at' * 25 + 8) (ec v)) (some ⟨gc, oc, none⟩) cc (crP m pk (k + 1)) ∧ Frn (fun x => x = gc) w1 (W5.drew.setCells gc (oc + at' * 25 + 8) (ec v)) by
            have h1 := HNO5.out v
            have e : takeL x bv = v := by
              unfold takeL
              rw [HBB.out, if_neg (by omega), if_neg (by omega)]
              exact hv
            have h2 := HTK.out
            rw [e] at h2
            rw [h2]
            exact h1)))
          clear r1 r2 r3 hv
          go_wp2_with (first
            | (refine list_load_row rowLn rfl (.tmp 26) rfl rfl (lc_len x) HWR.out.1 ?_)
            | (refine list_store_row rowLn rfl (.tmp 8) (.tmp 27) rfl rfl (lc_len x) rfl (lc_one x) HWR.out.2 ?_; rw [HW5.out]))
          refine wp_region_noPanic ?_
          refine wp_region_F 9 (fun w' => w'.cell? ⟨go, oo + k, none⟩ = some (.int .i64 (at' : Int)) ∧ w'.rangeAt X 0 (ec v)) (by kernel_rfl) ?_ (fun hHeld => ?_)
          · exact ⟨hop5, HX5.out.1⟩
          refine' wpAnyF_takeT (i := 0) (v := _) rfl (by kernel_rfl) (by kernel_rfl) (by kernel_rfl) (by rfl) (fun _ _ _ h => h) (Or.inl ⟨by rfl, ?hy⟩) (fun _ => hHeld) _
          case hy => (intro w0 hSw; (try dsimp only at hSw); simp only [List.getElem_toArray, List.getElem_cons_zero]; go_simp; first | done | with_reducible rfl)
          simp only [Act.put, List.getElem_toArray, List.getElem_cons_zero, List.setIfInBounds_toArray, List.set_cons_zero, List.set_cons_succ]
          refine' wpAnyF_takeT (i := 1) (v := _) rfl (by kernel_rfl) (by kernel_rfl) (by kernel_rfl) (by rfl) (fun _ _ _ h => h) (Or.inl ⟨by rfl, ?hy⟩) (fun _ => hHeld) _
          case hy => (intro w0 hSw; (try dsimp only at hSw); simp only [List.getElem_toArray, List.getElem_cons_zero, List.getElem_cons_succ]; go_simp; first | done | with_reducible rfl)
          simp only [Act.put, List.getElem_toArray, List.getElem_cons_zero, List.getElem_cons_succ, List.setIfInBounds_toArray, List.set_cons_zero, List.set_cons_succ]
          refine' wpAnyF_takeT (i := 2) (v := _) rfl (by kernel_rfl) (by kernel_rfl) (by kernel_rfl) (by rfl) (fun _ _ _ h => h) (Or.inl ⟨by rfl, ?hy⟩) (fun _ => hHeld) _
          case hy => (intro w0 hSw; (try dsimp only at hSw); simp only [List.getElem_toArray, List.getElem_cons_zero, List.getElem_cons_succ]; go_simp; first | done | with_reducible rfl)
          simp only [Act.put, List.getElem_toArray, List.getElem_cons_zero, List.getElem_cons_succ, List.setIfInBounds_toArray, List.set_cons_zero, List.set_cons_succ]
          refine' wpAnyF_takeT (i := 3) (v := _) rfl (by kernel_rfl) (by kernel_rfl) (by kernel_rfl) (by rfl) (fun _ _ _ h => h) (Or.inl ⟨by rfl, ?hy⟩) (fun _ => hHeld) _
          case hy => (intro w0 hSw; (try dsimp only at hSw); simp only [List.getElem_toArray, List.getElem_cons_zero, List.getElem_cons_succ]; go_simp; first | done | with_reducible rfl)
          simp only [Act.put, List.getElem_toArray, List.getElem_cons_zero, List.getElem_cons_succ, List.setIfInBounds_toArray, List.set_cons_zero, List.set_cons_succ]
          refine' wpAnyF_take (i := 4) (v := _) rfl (by kernel_rfl) (by kernel_rfl) (by kernel_rfl) (by kernel_rfl) (by rfl) (by kernel_rfl) (fun _ _ _ h => h) (Or.inl ⟨by rfl, ?hy⟩) hHeld _
          case hy => (intro w0 hSw; (try dsimp only at hSw); simp only [List.getElem_toArray, List.getElem_cons_zero, List.getElem_cons_succ]; go_simp; first | done | with_reducible rfl)
          simp only [Act.put, List.getElem_toArray, List.getElem_cons_zero, List.getElem_cons_succ, List.setIfInBounds_toArray, List.set_cons_zero, List.set_cons_succ]
          refine' wpAnyF_takeT (i := 5) (v := _) rfl (by kernel_rfl) (by kernel_rfl) (by kernel_rfl) (by rfl) (fun _ _ _ h => h) (Or.inl ⟨by rfl, ?hy⟩) (fun _ => hHeld) _
          case hy => (intro w0 hSw; (try dsimp only at hSw); simp only [List.getElem_toArray, List.getElem_cons_zero, List.getElem_cons_succ]; go_simp; first | done | with_reducible rfl)
          simp only [Act.put, List.getElem_toArray, List.getElem_cons_zero, List.getElem_cons_succ, List.setIfInBounds_toArray, List.set_cons_zero, List.set_cons_succ]
          refine' wpAnyF_take (i := 6) (v := .agg (ec v).toArray) rfl (by kernel_rfl) (by kernel_rfl) (by kernel_rfl) (by kernel_rfl) (by rfl) (by kernel_rfl) (fun _ _ _ h => h) (yieldsIf_load_mid (by rfl) 70 (.tmp 70) rfl X 0 rfl (ec v) (.array 8 36) (fun _ h => h.2) (by kernel_rfl) rfl (by rw [ec_len]; kernel_rfl)) hHeld _
          simp only [Act.put, List.getElem_toArray, List.getElem_cons_zero, List.getElem_cons_succ, List.setIfInBounds_toArray, List.set_cons_zero, List.set_cons_succ]
          refine' wpAnyF_takeT (i := 7) (v := _) rfl (by kernel_rfl) (by kernel_rfl) (by kernel_rfl) (by rfl) (fun _ _ _ h => h) (Or.inl ⟨by rfl, ?hy⟩) (fun _ => hHeld) _
          case hy => (intro w0 hSw; (try dsimp only at hSw); simp only [List.getElem_toArray, List.getElem_cons_zero, List.getElem_cons_succ]; go_simp; first | done | with_reducible rfl)
          simp only [Act.put, List.getElem_toArray, List.getElem_cons_zero, List.getElem_cons_succ, List.setIfInBounds_toArray, List.set_cons_zero, List.set_cons_succ]
          refine' wpAnyF_takeT (i := 8) (v := _) rfl (by kernel_rfl) (by kernel_rfl) (by kernel_rfl) (by rfl) (fun _ _ _ h => h) (Or.inl ⟨by rfl, ?hy⟩) (fun _ => hHeld) _
          case hy => (intro w0 hSw; (try dsimp only at hSw); simp only [List.getElem_toArray, List.getElem_cons_zero, List.getElem_cons_succ]; go_simp; first | done | with_reducible rfl)
          simp only [Act.put, List.getElem_toArray, List.getElem_cons_zero, List.getElem_cons_succ, List.setIfInBounds_toArray, List.set_cons_zero, List.set_cons_succ]
          refine wpAnyF_one (i := 9) (by kernel_rfl) rfl (fun K hK => ?_)
          rw [if_pos (by rfl)]
          refine wp_store_mid 70 (.tmp 73) (.tmp 71) rfl gc (oc + at' * 25 + 8) (ec v).toArray rfl rfl (by rw [List.size_toArray, ec_len]; exact HX5.out.2.1) (by rw [List.size_toArray, ec_len]; kernel_rfl) (all_oneCell_toArray (ec_one v)) ?_
          refine hK.out _ _ (fun h => Bool.noConfusion (h.symm.trans (by kernel_rfl : _ = true))) ?_
          clear hK K
          try simp only [Act.put, List.getElem_toArray, List.getElem_cons_zero, List.getElem_cons_succ, List.setIfInBounds_toArray, List.set_cons_zero, List.set_cons_succ]
          refine wpAnyF_done (by kernel_rfl) ?_ _
          refine NoPanic.normal ?_
          have HE := Lib.hid HX5.out.2.2
          clear hHeld
          go_wp2_with fail
          go_roundw
          case rel => exact ⟨k + 1, hlt, by go_num, HE.out⟩
          case measure => simp [intOf]; omega
      · have hkl' : (L : Int) ≤ (k : Int) := by omega
        have hpe : pk[k]? = none := List.getElem?_eq_none (by rw [HL.out]; omega)
        have HE := Lib.hid (HSAME.out (by
          have h2 := HCS.out
          rw [hpe] at h2
          rw [h2]
          exact crP_same m pk k at' HCL.out _ HCA.out))
        clear r1 r2 r3 r4 hpe hkl
        go_wp2_with (first
          | (refine list_load_row rowLn rfl (.tmp 26) rfl rfl (lc_len x) HWR.out.1 ?_)
          | (refine list_store_row rowLn rfl (.tmp 8) (.tmp 27) rfl rfl (lc_len x) rfl (lc_one x) HWR.out.2 ?_; rw [HW5.out]))
        go_roundw
        case rel => exact ⟨k + 1, hlt, by go_num, HE.out⟩
        case measure => simp [intOf]; omega
    · obtain rfl : k = NO := by omega
      have hnl : ¬ (k : Int) < (k : Int) := by omega
      have e := crP_all m pk
      rw [HNO.out] at e
      rw [e] at ho
      have HO := Lib.hid (And.intro ho hf)
      clear ho hf e
      go_wp2_with fail
      go_loopw [9] (fun i wr => ∃ j : Nat, j ≤ m.length ∧ i = .int .i64 j ∧ OwnR wr (some ⟨gc, oc, none⟩) cc (crQ m pk j) ∧ Frn (fun x => x = gc) w1 wr) (fun i _ => m.length - (intOf i).toNat)
      case atStart => exact ⟨0, Nat.zero_le _, rfl, HO.out⟩
      case round =>
        obtain ⟨j, hj, rfl, ho, hf⟩ := hrel
        by_cases hjl : j < m.length
        · have hjl' : (j : Int) < (m.length : Int) := by omega
          have hj9 : (j : Int) ≤ 10000 := by omega
          obtain ⟨hgj, hsj⟩ := crQ_succ m pk j hjl
          have hjq : j < (crQ m pk j).length := by rw [crQ_len]; exact hjl
          obtain ⟨hr, ht⟩ := own_ln ho HC.out.2.2.2.1 j hjq
          rw [hgj] at hr
          obtain ⟨v, hv⟩ : ∃ v, crashL m pk j m[j] = v := ⟨_, rfl⟩
          rw [hv] at hr hsj
          have r2 : wr.drew.rangeAt gc (oc + j * 25 + 8) (ec v) := (range_ln.1 hr).2.1
          have ht2 : wr.drew.there gc (oc + j * 25) 25 := ht
          have hfin : OwnR (wr.drew.setCells gc (oc + j * 25) (lc ⟨v, v, none⟩)) (some ⟨gc, oc, none⟩) cc (crQ m pk (j + 1)) ∧ Frn (fun x => x = gc) w1 (wr.drew.setCells gc (oc + j * 25) (lc ⟨v, v, none⟩)) := by
            rw [hsj]
            exact ⟨own_setLn (W := wr.drew) (OwnG.keep ho fun _ _ => rfl) j hjq _, (hf.drewN 1).trans (setCells_frn _ _ _)⟩
          have HR := Lib.hid (And.intro r2 (And.intro ht2 hfin))
          clear hgj hsj hjq hr ht hv r2 ht2 hfin ho hf
          go_wp2_with fail
          refine wp_region_noPanic ?_
          refine wp_region_F 14 (fun w' => w'.rangeAt gc (oc + j * 25 + 8) (ec v)) (by kernel_rfl) ?_ (fun hHeld => ?_)
          · exact HR.out.1
          refine' wpAnyF_takeT (i := 0) (v := _) rfl (by kernel_rfl) (by kernel_rfl) (by kernel_rfl) (by rfl) (fun _ _ _ h => h) (Or.inl ⟨by rfl, ?hy⟩) (fun _ => hHeld) _
          case hy => (intro w0 hSw; (try dsimp only at hSw); simp only [List.getElem_toArray, List.getElem_cons_zero]; go_simp; first | done | with_reducible rfl)
          simp only [Act.put, List.getElem_toArray, List.getElem_cons_zero, List.setIfInBounds_toArray, List.set_cons_zero, List.set_cons_succ]
          refine' wpAnyF_takeT (i := 1) (v := _) rfl (by kernel_rfl) (by kernel_rfl) (by kernel_rfl) (by rfl) (fun _ _ _ h => h) (Or.inl ⟨by rfl, ?hy⟩) (fun _ => hHeld) _
          case hy => (intro w0 hSw; (try dsimp only at hSw); simp only [List.getElem_toArray, List.getElem_cons_zero, List.getElem_cons_succ]; go_simp; first | done | with_reducible rfl)
          simp only [Act.put, List.getElem_toArray, List.getElem_cons_zero, List.getElem_cons_succ, List.setIfInBounds_toArray, List.set_cons_zero, List.set_cons_succ]
          refine' wpAnyF_takeT (i := 2) (v := _) rfl (by kernel_rfl) (by kernel_rfl) (by kernel_rfl) (by rfl) (fun _ _ _ h => h) (Or.inl ⟨by rfl, ?hy⟩) (fun _ => hHeld) _
          case hy => (intro w0 hSw; (try dsimp only at hSw); simp only [List.getElem_toArray, List.getElem_cons_zero, List.getElem_cons_succ]; go_simp; first | done | with_reducible rfl)
          simp only [Act.put, List.getElem_toArray, List.getElem_cons_zero, List.getElem_cons_succ, List.setIfInBounds_toArray, List.set_cons_zero, List.set_cons_succ]
          refine' wpAnyF_takeT (i := 3) (v := _) rfl (by kernel_rfl) (by kernel_rfl) (by kernel_rfl) (by rfl) (fun _ _ _ h => h) (Or.inl ⟨by rfl, ?hy⟩) (fun _ => hHeld) _
          case hy => (intro w0 hSw; (try dsimp only at hSw); simp only [List.getElem_toArray, List.getElem_cons_zero, List.getElem_cons_succ]; go_simp; first | done | with_reducible rfl)
          simp only [Act.put, List.getElem_toArray, List.getElem_cons_zero, List.getElem_cons_succ, List.setIfInBounds_toArray, List.set_cons_zero, List.set_cons_succ]
          refine' wpAnyF_takeT (i := 4) (v := _) rfl (by kernel_rfl) (by kernel_rfl) (by kernel_rfl) (by rfl) (fun _ _ _ h => h) (Or.inl ⟨by rfl, ?hy⟩) (fun _ => hHeld) _
          case hy => (intro w0 hSw; (try dsimp only at hSw); simp only [List.getElem_toArray, List.getElem_cons_zero, List.getElem_cons_succ]; go_simp; first | done | with_reducible rfl)
          simp only [Act.put, List.getElem_toArray, List.getElem_cons_zero, List.getElem_cons_succ, List.setIfInBounds_toArray, List.set_cons_zero, List.set_cons_succ]
          refine' wpAnyF_takeT (i := 5) (v := _) rfl (by kernel_rfl) (by kernel_rfl) (by kernel_rfl) (by rfl) (fun _ _ _ h => h) (Or.inl ⟨by rfl, ?hy⟩) (fun _ => hHeld) _
          case hy => (intro w0 hSw; (try dsimp only at hSw); simp only [List.getElem_toArray, List.getElem_cons_zero, List.getElem_cons_succ]; go_simp; first | done | with_reducible rfl)
          simp only [Act.put, List.getElem_toArray, List.getElem_cons_zero, List.getElem_cons_succ, List.setIfInBounds_toArray, List.set_cons_zero, List.set_cons_succ]
          refine' wpAnyF_take (i := 6) (v := .agg (ec v).toArray) rfl (by kernel_rfl) (by kernel_rfl) (by kernel_rfl) (by kernel_rfl) (by rfl) (by kernel_rfl) (fun _ _ _ h => h) (yieldsIf_load_mid (by rfl) 70 (.tmp 85) rfl gc (oc + j * 25 + 8) rfl (ec v) (.array 8 36) (fun _ h => h) (by kernel_rfl) rfl (by rw [ec_len]; kernel_rfl)) hHeld _
          simp only [Act.put, List.getElem_toArray, List.getElem_cons_zero, List.getElem_cons_succ, List.setIfInBounds_toArray, List.set_cons_zero, List.set_cons_succ]
          refine' wpAnyF_takeT (i := 7) (v := _) rfl (by kernel_rfl) (by kernel_rfl) (by kernel_rfl) (by rfl) (fun _ _ _ h => h) (Or.inl ⟨by rfl, ?hy⟩) (fun _ => hHeld) _
          case hy => (intro w0 hSw; (try dsimp only at hSw); simp only [List.getElem_toArray, List.getElem_cons_zero, List.getElem_cons_succ]; go_simp; first | done | with_reducible rfl)
          simp only [Act.put, List.getElem_toArray, List.getElem_cons_zero, List.getElem_cons_succ, List.setIfInBounds_toArray, List.set_cons_zero, List.set_cons_succ]
          refine' wpAnyF_takeT (i := 8) (v := _) rfl (by kernel_rfl) (by kernel_rfl) (by kernel_rfl) (by rfl) (fun _ _ _ h => h) (Or.inl ⟨by rfl, ?hy⟩) (fun _ => hHeld) _
          case hy => (intro w0 hSw; (try dsimp only at hSw); simp only [List.getElem_toArray, List.getElem_cons_zero, List.getElem_cons_succ]; go_simp; first | done | with_reducible rfl)
          simp only [Act.put, List.getElem_toArray, List.getElem_cons_zero, List.getElem_cons_succ, List.setIfInBounds_toArray, List.set_cons_zero, List.set_cons_succ]
          refine' wpAnyF_takeT (i := 9) (v := _) rfl (by kernel_rfl) (by kernel_rfl) (by kernel_rfl) (by rfl) (fun _ _ _ h => h) (Or.inl ⟨by rfl, ?hy⟩) (fun _ => hHeld) _
          case hy => (intro w0 hSw; (try dsimp only at hSw); simp only [List.getElem_toArray, List.getElem_cons_zero, List.getElem_cons_succ]; go_simp; first | done | with_reducible rfl)
          simp only [Act.put, List.getElem_toArray, List.getElem_cons_zero, List.getElem_cons_succ, List.setIfInBounds_toArray, List.set_cons_zero, List.set_cons_succ]
          refine' wpAnyF_takeT (i := 10) (v := _) rfl (by kernel_rfl) (by kernel_rfl) (by kernel_rfl) (by rfl) (fun _ _ _ h => h) (Or.inl ⟨by rfl, ?hy⟩) (fun _ => hHeld) _
          case hy => (intro w0 hSw; (try dsimp only at hSw); simp only [List.getElem_toArray, List.getElem_cons_zero, List.getElem_cons_succ]; go_simp; first | done | with_reducible rfl)
          simp only [Act.put, List.getElem_toArray, List.getElem_cons_zero, List.getElem_cons_succ, List.setIfInBounds_toArray, List.set_cons_zero, List.set_cons_succ]
          refine' wpAnyF_take (i := 11) (v := .agg (ec v).toArray) rfl (by kernel_rfl) (by kernel_rfl) (by kernel_rfl) (by kernel_rfl) (by rfl) (by kernel_rfl) (fun _ _ _ h => h) (yieldsIf_load_mid (by rfl) 70 (.tmp 90) rfl gc (oc + j * 25 + 8) rfl (ec v) (.array 8 36) (fun _ h => h) (by kernel_rfl) rfl (by rw [ec_len]; kernel_rfl)) hHeld _
          simp only [Act.put, List.getElem_toArray, List.getElem_cons_zero, List.getElem_cons_succ, List.setIfInBounds_toArray, List.set_cons_zero, List.set_cons_succ]
          refine wpAnyF_takeT (i := 12) (v := lnV ⟨v, v, none⟩) rfl (by kernel_rfl) (by kernel_rfl) (by kernel_rfl) (by rfl) (fun _ _ _ h => h) (yields_build (by rfl) (.tmp 86) (.tmp 91) rfl rfl rfl) (fun _ => hHeld) ?_
          try simp only [Act.put, List.getElem_toArray, List.getElem_cons_zero, List.getElem_cons_succ, List.setIfInBounds_toArray, List.set_cons_zero, List.set_cons_succ]
          refine' wpAnyF_takeT (i := 13) (v := _) rfl (by kernel_rfl) (by kernel_rfl) (by kernel_rfl) (by rfl) (fun _ _ _ h => h) (Or.inl ⟨by rfl, ?hy⟩) (fun _ => hHeld) _
          case hy => (intro w0 hSw; (try dsimp only at hSw); simp only [List.getElem_toArray, List.getElem_cons_zero, List.getElem_cons_succ]; go_simp; first | done | with_reducible rfl)
          simp only [Act.put, List.getElem_toArray, List.getElem_cons_zero, List.getElem_cons_succ, List.setIfInBounds_toArray, List.set_cons_zero, List.set_cons_succ]
          refine wpAnyF_one (i := 14) (by kernel_rfl) rfl (fun K hK => ?_)
          rw [if_pos (by rfl)]
          refine wp_store_mid 72 (.tmp 93) (.tmp 92) rfl gc (oc + j * 25) (lc ⟨v, v, none⟩).toArray rfl rfl (by rw [List.size_toArray, lc_len]; exact HR.out.2.1) (by rw [List.size_toArray, lc_len]; kernel_rfl) (all_oneCell_toArray (lc_one ⟨v, v, none⟩)) ?_
          refine hK.out _ _ (fun h => Bool.noConfusion (h.symm.trans (by kernel_rfl : _ = true))) ?_
          clear hK K
          try simp only [Act.put, List.getElem_toArray, List.getElem_cons_zero, List.getElem_cons_succ, List.setIfInBounds_toArray, List.set_cons_zero, List.set_cons_succ]
          refine wpAnyF_done (by kernel_rfl) ?_ _
          refine NoPanic.normal ?_
          clear hHeld
          go_wp2_with fail
          go_roundw
          case rel => exact ⟨j + 1, hjl, by go_num, HR.out.2.2⟩
          case measure => simp [intOf]; omega
        · obtain rfl : j = m.length := by omega
          have hnl : ¬ (m.length : Int) < (m.length : Int) := by omega
          rw [crQ_all] at ho
          have HO := Lib.hid (And.intro ho hf)
          clear ho hf
          go_wp2_with fail
          go_ret
          refine ⟨_, _, rfl, HO.out.1, HC.out.2.1, ?_⟩
          exact H1.out.2.2.2.1.trans (HO.out.2.below H1.out.2.2.2.1.size (by rintro b rfl; exact HC.out.2.2.2.2))
end Go.Proofs.Ytaflbfmlajbjcaa
