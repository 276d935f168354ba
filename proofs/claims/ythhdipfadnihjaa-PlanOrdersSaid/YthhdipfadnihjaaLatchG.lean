/- The walk at turns: DeleteFunc. -/
import Derived.Test.YthhdipfadnihjaaLatchF
import Derived.Deep.DeepMust
namespace Go.Proofs.Ythhdipfadnihjaa
open Go Go.RowKit

theorem tc_get (ys : List Turn) (i : Nat) (hi : i < ys.length) : (ys.flatMap tc)[i * 2]? = some (.int .i64 ys[i].1) ∧ (ys.flatMap tc)[i * 2 + 1]? = some (.bool ys[i].2) :=
  ⟨by have := flat_get tc_len ys i hi 0 (by omega); simpa [tc] using this, by have := flat_get tc_len ys i hi 1 (by omega); simpa [tc] using this⟩
theorem OwnT.at {w : World} {g o cap : Nat} {ys : List Turn} (h : OwnT w (some ⟨g, o, none⟩) cap ys) (i : Nat) (hi : i < ys.length) : w.cell? ⟨g, o + i * 2, none⟩ = some (.int .i64 ys[i].1) ∧ w.cell? ⟨g, o + i * 2 + 1, none⟩ = some (.bool ys[i].2) := by
  obtain ⟨h1, h2⟩ := tc_get ys i hi
  exact ⟨by rw [OwnO.cellAt h (i * 2) (by omega), h1], by rw [Nat.add_assoc, OwnO.cellAt h (i * 2 + 1) (by omega), h2]⟩
theorem tc_set (ys : List Turn) (i : Nat) (hi : i < ys.length) (y : Turn) : ((ys.flatMap tc).set (i * 2) (.int .i64 y.1)).set (i * 2 + 1) (.bool y.2) = (ys.set i y).flatMap tc := by
  induction ys generalizing i with
  | nil => simp at hi
  | cons t ys ih =>
    cases i with
    | zero => simp [tc]
    | succ i =>
      have := ih i (by simpa using hi)
      simp only [List.flatMap_cons, List.set_cons_succ, tc, List.cons_append, List.nil_append, show (i + 1) * 2 = i * 2 + 1 + 1 by omega, List.set_cons_succ] at this ⊢
      rw [← this]
theorem OwnT.set {w : World} {g o cap : Nat} {ys : List Turn} (h : OwnT w (some ⟨g, o, none⟩) cap ys) (i : Nat) (hi : i < ys.length) (y : Turn) : OwnT ((w.setCell ⟨g, o + i * 2, none⟩ (.int .i64 y.1)).setCell ⟨g, o + i * 2 + 1, none⟩ (.bool y.2)) (some ⟨g, o, none⟩) cap (ys.set i y) := by
  have h1 := OwnO.set (OwnO.set h (i * 2) (.int .i64 y.1)) (i * 2 + 1) (.bool y.2)
  rw [tc_set ys i hi y, ← Nat.add_assoc] at h1
  unfold OwnT
  rw [List.length_set]
  exact h1
theorem flat_take (zs : List Turn) (i : Nat) : (zs.take i).flatMap tc = (zs.flatMap tc).take (i * 2) := by
  induction zs generalizing i with
  | nil => simp
  | cons t zs ih =>
    cases i with
    | zero => simp
    | succ i =>
      rw [List.take_succ_cons, List.flatMap_cons, ih i, List.flatMap_cons]
      simp [tc, show (i + 1) * 2 = i * 2 + 1 + 1 by omega]
theorem OwnT.some {w : World} {p : Option Addr} {cap : Nat} {ys : List Turn} (h : OwnT w p cap ys) (hl : 0 < ys.length) : ∃ g o, p = some ⟨g, o, none⟩ ∧ 0 < cap := by
  have := OwnO.le h
  rcases OwnO.row h with h0 | ⟨g, o, cur, hp, _⟩
  · omega
  · exact ⟨g, o, hp, by omega⟩

set_option maxRecDepth 100000 in
set_option maxHeartbeats 2000000 in
theorem deleteT_any (F : FuncId) (caps : Array Value) (f : Turn → Bool) (p : Option Addr) (cap : Nat) (ys : List Turn) (w : World) (hown : OwnT w p cap ys) (hx : ys.length ≤ 1000000)
    (hent : ∀ args W, (callFunc F args).run Try.prog W = .ok (.enter F args) W)
    (hf : ∀ t W, Frn (inP p cap) w W → Calls Try.prog F (#[tv t] ++ caps) W fun e W' => e = .returned (.bool (f t)) ∧ Below W.heap.size W W') :
    Calls Try.prog 97 #[.slice p ys.length cap, .func (.func F) #[] caps] w fun e w' => e = .returned (.slice p (ys.filter fun t => !f t).length cap) ∧ OwnT w' p cap (ys.filter fun t => !f t) ∧ Frn (inP p cap) w w' := by
  have hI := indexF_any F caps f p cap ys w hown.rds hent (fun t W hW => hf t W (Frn.of_below hW))
  have HI := Lib.hid hI
  have HO := Lib.hid hown
  have HF := Lib.hid hf
  clear hI hf
  cases hany : ys.any f with
  | false =>
    clear hown
    have hi : idxT f ys = -1 := by unfold idxT; rw [if_neg (by simp [hany])]
    have hfl : ys.filter (fun t => !f t) = ys := by
      rw [List.filter_eq_self]
      intro t ht
      have := List.any_eq_false.1 hany t ht
      simpa using this
    rw [hi] at HI
    rw [hfl]
    clear hi hfl hany
    go_enter Try.func97, Try.ntmps97
    go_wp2_with fail
    refine HI.out.mono ?_
    rintro e w1 ⟨rfl, hb1⟩
    have HB := Lib.hid hb1
    clear hb1
    go_wp2_with fail
    go_ret
    exact ⟨rfl, HO.out.below HB.out, Frn.of_below HB.out⟩
  | true =>
    obtain ⟨i0, hi0⟩ : ∃ i0, ys.findIdx f = i0 := ⟨_, rfl⟩
    have hlt0 : i0 < ys.length := by rw [← hi0]; exact List.findIdx_lt_length.2 (by obtain ⟨t, h1, h2⟩ := List.any_eq_true.1 hany; exact ⟨t, h1, h2⟩)
    have hi : idxT f ys = (i0 : Int) := by unfold idxT; rw [if_pos hany, hi0]
    have hpre : ys.take i0 = (ys.take (i0 + 1)).filter (fun t => !f t) := by
      rw [List.take_succ_eq_append_getElem hlt0, List.filter_append]
      have h1 : (ys.take i0).filter (fun t => !f t) = ys.take i0 := by
        rw [List.filter_eq_self]
        intro t ht
        obtain ⟨j, hj, rfl⟩ := List.mem_take_iff_getElem.1 ht
        have hjl : j < i0 := by omega
        have := List.not_of_lt_findIdx (p := f) (xs := ys) (i := j) (by omega)
        simpa using this
      have h2 : f ys[i0] = true := by
        have := List.findIdx_getElem (xs := ys) (p := f) (w := by omega)
        simpa only [hi0] using this
      rw [h1]
      simp [h2]
    obtain ⟨g, o, rfl, hcap⟩ := OwnT.some hown (by omega)
    have hne : ((i0 : Int) == -1) = false := by rw [beq_eq_false_iff_ne]; omega
    rw [hi] at HI
    have hmx := OwnO.max hown
    have hlc := OwnO.le hown
    unfold maxLen at hmx
    have HPRE := Lib.hid hpre
    clear hown hany hi hpre hi0
    go_enter Try.func97, Try.ntmps97
    go_wp2_with fail
    refine HI.out.mono ?_
    rintro e w1 ⟨rfl, hb1⟩
    have HO1 := Lib.hid (HO.out.below hb1)
    have HB := Lib.hid (Frn.of_below (T := inP (some ⟨g, o, none⟩) cap) hb1)
    clear hb1
    go_wp2_with fail
    go_loopw [5, 6] (fun a b wr => ∃ (i j : Nat) (zs : List Turn), a = .int .i64 i ∧ b = .int .i64 j ∧ i < j ∧ j ≤ ys.length ∧ zs.length = ys.length ∧ OwnT wr (some ⟨g, o, none⟩) cap zs ∧ zs.take i = (ys.take j).filter (fun t => !f t) ∧ zs.drop j = ys.drop j ∧ Frn (inP (some ⟨g, o, none⟩) cap) w wr) (fun _ b _ => ys.length - (intOf b).toNat)
    case atStart => exact ⟨i0, i0 + 1, ys, rfl, by go_num, by omega, by omega, rfl, HO1.out, HPRE.out, rfl, HB.out⟩
    case round =>
      obtain ⟨i, j, zs, rfl, rfl, hij, hj, hzl, hz, hzt, hzd, hfr⟩ := hrel
      by_cases hlt : j < ys.length
      · have hlt' : (j : Int) < (ys.length : Int) := by omega
        have hjz : j < zs.length := by omega
        obtain ⟨h0, h1⟩ := hz.at j hjz
        have hzj : zs[j] = ys[j] := by
          have e := congrArg (fun l => l[0]?) hzd
          simpa [List.getElem?_drop, hlt, hjz] using e
        rw [hzj] at h0 h1
        obtain ⟨y, hy⟩ : ∃ y, ys[j] = y := ⟨_, rfl⟩
        rw [hy] at h0 h1
        have hts : (ys.take (j + 1)).filter (fun t => !f t) = zs.take i ++ (if f y then [] else [y]) := by
          rw [List.take_succ_eq_append_getElem hlt, hy, List.filter_append, ← hzt]
          cases h : f y <;> simp [h]
        have hzd' : zs.drop (j + 1) = ys.drop (j + 1) := by
          have := congrArg (List.drop 1) hzd
          simpa [List.drop_drop] using this
        have hcall := HF.out y (wr.alloc (.cells #[.int .i64 y.1, .bool y.2] 53)) (hfr.allocR _)
        have HC := Lib.hid hcall
        have HZ := Lib.hid hz
        have HTS := Lib.hid hts
        have HZD := Lib.hid hzd'
        have HFR := Lib.hid hfr
        have HZL := Lib.hid hzl
        clear hz hzt hzd hfr hcall hts hzd' hzj hy
        go_wp2_with fail
        refine HC.out.mono ?_
        rintro e w2 ⟨rfl, hb2⟩
        have hzA := HZ.out.below ((Below.refl _ _).alloc (Nat.le_refl _) (.cells #[.int .i64 y.1, .bool y.2] 53))
        have HZ2 := Lib.hid (hzA.below hb2)
        have HFR2 := Lib.hid ((HFR.out.allocR (.cells #[.int .i64 y.1, .bool y.2] 53)).trans (Frn.of_below hb2))
        have hc0 : w2.cell? ⟨wr.heap.size, 0, none⟩ = some (.int .i64 y.1) := (hb2.cell (p := ⟨wr.heap.size, 0, none⟩) (by simp)).trans (by rw [World.cell?_alloc_new]; rfl)
        have hc1 : w2.cell? ⟨wr.heap.size, 1, none⟩ = some (.bool y.2) := (hb2.cell (p := ⟨wr.heap.size, 1, none⟩) (by simp)).trans (by rw [World.cell?_alloc_new]; rfl)
        clear hzA hb2
        cases hfy : f y with
        | true =>
          go_wp2_with fail
          refine ⟨⟨i, j + 1, zs, rfl, by go_num, by omega, by omega, HZL.out, HZ2.out, ?_, HZD.out, HFR2.out⟩, by simp [intOf]; omega⟩
          rw [HTS.out, hfy]; simp
        | false =>
          obtain ⟨g0, g1⟩ := HZ2.out.at i (by have := HZL.out; omega)
          have hfz := fun k => OwnO.free HZ2.out hcap k
          have hil : (i : Int) < (ys.length : Int) := by omega
          go_wp2_with fail
          refine ⟨⟨i + 1, j + 1, zs.set i y, by go_num, by go_num, by omega, by omega, by rw [List.length_set]; exact HZL.out, HZ2.out.set i (by have := HZL.out; omega) y, ?_, ?_, (HFR2.out.setCell ⟨g, o + i * 2, none⟩ (.inl ⟨⟨g, o, none⟩, rfl, rfl, hcap⟩) _).setCell ⟨g, o + i * 2 + 1, none⟩ (.inl ⟨⟨g, o, none⟩, rfl, rfl, hcap⟩) _⟩, by simp [intOf]; omega⟩
          · rw [HTS.out, hfy, List.take_succ_eq_append_getElem (by rw [List.length_set, HZL.out]; omega), List.getElem_set_self, List.take_set_of_le (Nat.le_refl _)]
            simp
          · rw [List.drop_set, if_pos (by omega)]; exact HZD.out
      · obtain rfl : j = ys.length := by omega
        rw [List.take_length] at hzt
        have hil : i < ys.length := hij
        have hcl := OwnO.clear elem_turns (by intro u hu; simp [Value.cells] at hu; rcases hu with rfl | rfl <;> rfl) hz i (by omega)
        rw [hzl] at hcl
        obtain ⟨w', hrun, hz', hfr'⟩ := hcl
        have hfl : (ys.filter fun t => !f t).length = i := by rw [← hzt, List.length_take]; omega
        have hz2 : OwnT w' (some ⟨g, o, none⟩) cap (ys.filter fun t => !f t) := by
          unfold OwnT
          rw [hfl, ← hzt]
          have e := flat_take zs i
          rw [e]; exact hz'
        have hfr2 : Frn (inP (some ⟨g, o, none⟩) cap) w w' := hfr.trans ⟨hfr'.os, hfr'.tape, hfr'.output, hfr'.size, fun b hb hn => hfr'.block b hb (fun e => hn ⟨_, rfl, e.symm, hcap⟩)⟩
        have HR := Lib.hid hrun
        have HZ2 := Lib.hid hz2
        have HFR := Lib.hid hfr2
        have HFL := Lib.hid hfl
        have hi1 : (i : Int) ≤ (ys.length : Int) := by omega
        have hnc : (cap = i) = False := by simp; omega
        have hi2 : (i : Int) ≤ (cap : Int) := by omega
        clear hz hzt hzd hfr hrun hz' hfr' hz2 hfr2 hfl
        have hr0 := HR.out 0 (cap - i)
        go_wp2_with fail
        go_ret
        exact ⟨by rw [HFL.out]; rfl, HZ2.out, HFR.out⟩
end Go.Proofs.Ythhdipfadnihjaa
