/- The walk of extents.Put. -/
import Derived.Test.YtenmogokbelahaaExtI
namespace Go.Proofs.Ytenmogokbelahaa
open Go Go.RowKit

def hitA (d m a : Int) : Bool := decide (d ≤ a ∧ a < d + m)
theorem hit_eq (t : List Int) (f d m : Int) : hitX t (f, d, m) = t.any (hitA d m) := rfl
set_option maxRecDepth 100000 in
set_option maxHeartbeats 8000000 in
theorem putHit_any {X : Nat} {f d m : Int} (a : Int) (w : World) (h : XCells w X 0 f d m) (hs : 0 ≤ d ∧ d + m ≤ 10000 ∧ 0 ≤ m) :
    Calls Try.prog 77 #[.int .i64 a, .pointer (some ⟨X, 0, none⟩)] w fun e w' => e = .returned (.bool (hitA d m a)) ∧ w = w' := by
  have c1 := h.c1
  have c2 := h.c2
  rw [Nat.zero_add] at c1 c2
  have hw : IntKind.i64.wrap (d + m) = d + m := by rw [IntKind.wrap_i64]; omega
  clear h hs
  by_cases h1 : d ≤ a
  · have d1 : decide (d ≤ a) = true := decide_eq_true h1
    by_cases h2 : a < d + m
    · have d2 : decide (a < d + m) = true := decide_eq_true h2
      have e : hitA d m a = true := decide_eq_true ⟨h1, h2⟩
      rw [e]
      clear e h1 h2
      go_enter Try.func77, Try.ntmps77
      go_wp2_with fail
      go_ret
      exact ⟨rfl, rfl⟩
    · have d2 : decide (a < d + m) = false := decide_eq_false h2
      have e : hitA d m a = false := decide_eq_false (fun h => h2 h.2)
      rw [e]
      clear e h1 h2
      go_enter Try.func77, Try.ntmps77
      go_wp2_with fail
      go_ret
      exact ⟨rfl, rfl⟩
  · have d1 : decide (d ≤ a) = false := decide_eq_false h1
    have e : hitA d m a = false := decide_eq_false (fun h => h1 h.1)
    rw [e]
    clear e h1
    go_enter Try.func77, Try.ntmps77
    go_wp2_with fail
    go_ret
    exact ⟨rfl, rfl⟩
set_option maxRecDepth 100000 in
set_option maxHeartbeats 8000000 in
theorem indexI_any {T X : Nat} {t : List Int} {f d m : Int} (w : World) (ht : TabAt w T 132 t) (hl : t.length = 128) (h : XCells w X 0 f d m) (hs : 0 ≤ d ∧ d + m ≤ 10000 ∧ 0 ≤ m) :
    Calls Try.prog 98 #[.slice (some ⟨T, 0, none⟩) 128 128, .func (.func 77) #[] #[.pointer (some ⟨X, 0, none⟩)]] w fun e w' => ∃ r : Int, decide (0 ≤ r) = t.any (hitA d m) ∧ e = .returned (.int .i64 r) ∧ w = w' := by
  have HT := Lib.hid (And.intro ht (And.intro hl (And.intro h hs)))
  clear ht hl h hs
  have HEN := enters_of (P := Try.prog) Try.func77 (by kernel_rfl) rfl
  go_enter Try.func98, Try.ntmps98
  go_wp2_with fail
  go_loopw [8] (fun i wr => ∃ k : Nat, k ≤ 128 ∧ i = .int .i64 k ∧ (t.take k).any (hitA d m) = false ∧ wr = w) (fun i _ => 128 - (intOf i).toNat)
  case atStart => exact ⟨0, Nat.zero_le _, rfl, by simp, rfl⟩
  case round =>
    obtain ⟨k, hk, rfl, hall, hwr⟩ := hrel
    replace hwr := hwr.symm
    subst hwr
    by_cases hlt : k < 128
    · have hlt' : (k : Int) < 128 := by omega
      have hk0 : (0 : Int) ≤ (k : Int) := by omega
      have hkl : k < t.length := by rw [HT.out.2.1]; exact hlt
      have hc := (HT.out.1.cell k hkl).1
      obtain ⟨a, ha⟩ : ∃ a, t[k] = a := ⟨_, rfl⟩
      rw [ha] at hc
      have hsn : t.take (k + 1) = t.take k ++ [a] := by rw [List.take_succ_eq_append_getElem hkl, ha]
      have hmem : a ∈ t := ha ▸ List.getElem_mem hkl
      have HC := Lib.hid (putHit_any a w HT.out.2.2.1 HT.out.2.2.2)
      have HB := Lib.hid (And.intro hall (And.intro hsn hmem))
      clear ha hall hsn hmem hkl
      by_cases hr : hitA d m a = true
      · rw [hr] at HC
        have HR := Lib.hid hr
        clear hr
        go_wp2_with fail
        refine HC.out.mono ?_
        rintro e w1 ⟨rfl, rfl⟩
        go_wp2_with fail
        go_ret
        exact ⟨k, by rw [decide_eq_true hk0, List.any_eq_true.2 ⟨a, HB.out.2.2, HR.out⟩], rfl, rfl⟩
      · rw [Bool.not_eq_true] at hr
        rw [hr] at HC
        have HR := Lib.hid hr
        clear hr
        go_wp2_with fail
        refine HC.out.mono ?_
        rintro e w1 ⟨rfl, rfl⟩
        go_wp2_with fail
        go_roundw
        case rel => exact ⟨k + 1, hlt, by go_num, by rw [HB.out.2.1, List.any_append, HB.out.1]; simp [HR.out], trivial⟩
        case measure => simp [intOf]; omega
    · obtain rfl : k = 128 := by omega
      have HB : Hid (t.any (hitA d m) = false) := Lib.hid (by rw [← HT.out.2.1, List.take_length] at hall; exact hall)
      clear hall hlt
      go_wp2_with fail
      go_ret
      exact ⟨-1, by rw [HB.out]; rfl, rfl, rfl⟩
set_option maxRecDepth 100000 in
set_option maxHeartbeats 8000000 in
theorem containsI_any {T X : Nat} {t : List Int} {f d m : Int} (w : World) (ht : TabAt w T 132 t) (hl : t.length = 128) (h : XCells w X 0 f d m) (hs : 0 ≤ d ∧ d + m ≤ 10000 ∧ 0 ≤ m) :
    Calls Try.prog 76 #[.slice (some ⟨T, 0, none⟩) 128 128, .func (.func 77) #[] #[.pointer (some ⟨X, 0, none⟩)]] w fun e w' => e = .returned (.bool (hitX t (f, d, m))) ∧ w = w' := by
  have HI := Lib.hid (indexI_any w ht hl h hs)
  rw [hit_eq]
  obtain ⟨b, hb⟩ : ∃ b, t.any (hitA d m) = b := ⟨_, rfl⟩
  rw [hb] at HI ⊢
  clear ht hl h hs hb
  go_enter Try.func76, Try.ntmps76
  go_wp2_with fail
  refine HI.out.mono ?_
  rintro e w1 ⟨r, hr, rfl, rfl⟩
  go_wp2_with fail
  go_ret
  exact ⟨rfl, rfl⟩
set_option maxRecDepth 100000 in
set_option maxHeartbeats 16000000 in
theorem putE_any (p : Option Addr) (cap : Nat) (l : List Ext3) (f d m : Int) (w : World) (hrd : RdS w.heap.size w p cap 3 xc l) :
    Calls Try.prog 41 #[.slice p l.length cap, .agg #[.int .i64 f, .int .i64 d, .int .i64 m]] w (RetPC (putL l (f, d, m)) w) := by
  have htl : (tabOf l).length = 128 := tabOf_len l
  have HTL := Lib.hid htl
  obtain ⟨n, hn⟩ : ∃ n, l.length = n := ⟨_, rfl⟩
  have hxn := XCells.new w f d m 81
  have hb0 := below_allocX w (.cells #[.int .i64 f, .int .i64 d, .int .i64 m] 81)
  obtain ⟨wb, hwb⟩ : ∃ wb, w.alloc (.cells #[.int .i64 f, .int .i64 d, .int .i64 m] 81) = wb := ⟨_, rfl⟩
  obtain ⟨X, hX⟩ : ∃ X, w.heap.size = X := ⟨_, rfl⟩
  rw [hwb, hX] at hxn
  rw [hwb] at hb0
  have hof := ofX_any p cap l wb (hrd.onX hb0)
  rw [hn] at hof
  have HXB := Lib.hid (And.intro hwb hX)
  have HXC := Lib.hid (And.intro hb0 hxn)
  have HRT := Lib.hid (fun V => rightX_any f d m V)
  rw [hn]
  clear htl hrd hn hxn hb0 hwb hX
  cases ho : ofX l with
  | none =>
    rw [ho, show (Option.isSome (none : Option (List Int))) = false from rfl] at hof
    have HOF := Lib.hid hof
    have HE : Hid (putL l (f, d, m) = ([], [], 2)) := Lib.hid (by unfold putL; rw [ho])
    clear hof ho
    go_enter Try.func41, Try.ntmps41
    go_upto_region 1 with fail
    rw [HXB.out.1, HXB.out.2]
    go_wp2_with fail
    refine HOF.out.mono ?_
    rintro e w1 ⟨rfl, hb1⟩
    obtain ⟨htm, hbm, hlm, hth⟩ := tab_made (ty := 132) (zc := Try.zeroCells132) w1 (tabOf l) HTL.out zero_cells
    obtain ⟨T, hT⟩ : ∃ T, w1.heap.size = T := ⟨_, rfl⟩
    obtain ⟨w2, hw2⟩ : ∃ w2, (w1.alloc (.cells Try.zeroCells132 132)).setCells w1.heap.size 0 (tb (tabOf l)) = w2 := ⟨_, rfl⟩
    rw [hw2] at htm hbm hlm
    rw [hT] at htm hlm
    have HWM := Lib.hid (And.intro hT (And.intro hw2 hth))
    have hxw := HXC.out.2.below (hb1.trans (hbm.mono hb1.size))
    have H2 : Hid (TabAt w2 T 132 (tabOf l) ∧ Below w.heap.size w w2 ∧ w.heap.size ≤ T ∧ T < w2.heap.size ∧ XCells w2 X 0 f d m ∧ X < T) := Lib.hid ⟨htm, HXC.out.1.trans ((hb1.mono HXC.out.1.size).trans (hbm.mono (Nat.le_trans HXC.out.1.size hb1.size))), by rw [← hT]; exact Nat.le_trans HXC.out.1.size hb1.size, hlm, hxw, by rw [← hT]; exact Nat.lt_of_lt_of_le HXC.out.2.lt hb1.size⟩
    obtain ⟨x0, x1, x2, xl⟩ := hxw
    rw [Nat.zero_add] at x1 x2
    clear htm hbm hlm hth hb1 hT hw2 xl
    go_wp2_with (refine wpList_store_mid rfl 132 (.tmp 7) (.tmp 15) rfl w1.heap.size 0 (tb (tabOf l)).toArray rfl rfl (by simpa [tb_len, HTL.out] using HWM.out.2.2) (by simp only [List.size_toArray, tb_len, HTL.out]; kernel_rfl) (all_oneCell_toArray (tb_one _)) ?_; rw [List.toList_toArray, HWM.out.2.1, HWM.out.1])
    refine bodyPost_ret (results_3 rfl _ _) rfl ?_
    rw [HE.out]
    exact RetPC.none 2 H2.out.2.1
  | some t =>
    rw [ho, show (Option.isSome (some t)) = true from rfl] at hof
    have HOF := Lib.hid hof
    have HO := Lib.hid ho
    have HTT : Hid (tabOf l = t) := Lib.hid (by unfold tabOf; rw [ho]; rfl)
    clear hof ho
    by_cases hr : rightX (f, d, m) = true
    · have HR := Lib.hid hr
      have hxr := (right_iff _).1 hr
      simp only at hxr
      rw [hr] at HRT
      by_cases hh : hitX t (f, d, m) = true
      · have HE : Hid (putL l (f, d, m) = ([], [], 2)) := Lib.hid (by unfold putL; rw [HO.out]; exact if_pos (.inr hh))
        have HH := Lib.hid hh
        have HXR := Lib.hid hxr
        clear hr hh hxr
        go_enter Try.func41, Try.ntmps41
        go_upto_region 1 with fail
        rw [HXB.out.1, HXB.out.2]
        go_wp2_with fail
        refine HOF.out.mono ?_
        rintro e w1 ⟨rfl, hb1⟩
        obtain ⟨htm, hbm, hlm, hth⟩ := tab_made (ty := 132) (zc := Try.zeroCells132) w1 (tabOf l) HTL.out zero_cells
        obtain ⟨T, hT⟩ : ∃ T, w1.heap.size = T := ⟨_, rfl⟩
        obtain ⟨w2, hw2⟩ : ∃ w2, (w1.alloc (.cells Try.zeroCells132 132)).setCells w1.heap.size 0 (tb (tabOf l)) = w2 := ⟨_, rfl⟩
        rw [hw2] at htm hbm hlm
        rw [hT] at htm hlm
        have HWM := Lib.hid (And.intro hT (And.intro hw2 hth))
        have hxw := HXC.out.2.below (hb1.trans (hbm.mono hb1.size))
        have H2 : Hid (TabAt w2 T 132 (tabOf l) ∧ Below w.heap.size w w2 ∧ w.heap.size ≤ T ∧ T < w2.heap.size ∧ XCells w2 X 0 f d m ∧ X < T) := Lib.hid ⟨htm, HXC.out.1.trans ((hb1.mono HXC.out.1.size).trans (hbm.mono (Nat.le_trans HXC.out.1.size hb1.size))), by rw [← hT]; exact Nat.le_trans HXC.out.1.size hb1.size, hlm, hxw, by rw [← hT]; exact Nat.lt_of_lt_of_le HXC.out.2.lt hb1.size⟩
        obtain ⟨x0, x1, x2, xl⟩ := hxw
        rw [Nat.zero_add] at x1 x2
        clear htm hbm hlm hth hb1 hT hw2 xl
        go_wp2_with (refine wpList_store_mid rfl 132 (.tmp 7) (.tmp 15) rfl w1.heap.size 0 (tb (tabOf l)).toArray rfl rfl (by simpa [tb_len, HTL.out] using HWM.out.2.2) (by simp only [List.size_toArray, tb_len, HTL.out]; kernel_rfl) (all_oneCell_toArray (tb_one _)) ?_; rw [List.toList_toArray, HWM.out.2.1, HWM.out.1])
        refine (HRT.out _).mono ?_
        rintro e w3 ⟨rfl, hb3⟩
        have hct := containsI_any w3 (H2.out.1.below hb3) HTL.out (H2.out.2.2.2.2.1.below hb3) (by have := HXR.out; omega)
        rw [HTT.out, HH.out] at hct
        have HCT := Lib.hid hct
        have H3 : Hid (TabAt w3 T 132 t ∧ Below w.heap.size w w3 ∧ XCells w3 X 0 f d m ∧ T < w3.heap.size) := Lib.hid ⟨by have h9 := H2.out.1.below hb3; rwa [HTT.out] at h9, H2.out.2.1.trans (hb3.mono H2.out.2.1.size), H2.out.2.2.2.2.1.below hb3, Nat.lt_of_lt_of_le H2.out.2.2.2.1 hb3.size⟩
        clear hb3 hct x0 x1 x2
        go_wp2_with fail
        refine HCT.out.mono ?_
        rintro e w4 ⟨rfl, hw4⟩
        subst hw4
        go_wp2_with fail
        refine bodyPost_ret (results_3 rfl _ _) rfl ?_
        rw [HE.out]
        exact RetPC.none 2 H3.out.2.1
      · rw [Bool.not_eq_true] at hh
        have HH := Lib.hid hh
        obtain ⟨F, rfl⟩ : ∃ F : Nat, f = F := ⟨f.toNat, by omega⟩
        obtain ⟨D, rfl⟩ : ∃ D : Nat, d = D := ⟨d.toNat, by omega⟩
        obtain ⟨Mm, rfl⟩ : ∃ Mm : Nat, m = Mm := ⟨m.toNat, by omega⟩
        have hF : F + Mm ≤ 128 := by omega
        have hD : D + Mm ≤ 2048 := by omega
        have hM8 : (Mm : Int) ≤ 128 := by omega
        have HPUT : Hid (putL l ((F : Int), (D : Int), (Mm : Int)) = if 10 < (listX (putK t F D Mm).1 128).length then ([], [], 3) else (listX (putK t F D Mm).1 128, (putK t F D Mm).2, 0)) := Lib.hid (by unfold putL; rw [HO.out]; exact if_neg (fun h => h.elim (fun h => by rw [HR.out] at h; cases h) (fun h => by rw [HH.out] at h; cases h)))
        have hok := tabOf_ok l
        rw [HTT.out] at hok
        have HOK := Lib.hid hok
        have HXR := Lib.hid hxr
        clear hr hh hxr hok
        go_enter Try.func41, Try.ntmps41
        go_upto_region 1 with fail
        rw [HXB.out.1, HXB.out.2]
        go_wp2_with fail
        refine HOF.out.mono ?_
        rintro e w1 ⟨rfl, hb1⟩
        obtain ⟨htm, hbm, hlm, hth⟩ := tab_made (ty := 132) (zc := Try.zeroCells132) w1 (tabOf l) HTL.out zero_cells
        obtain ⟨T, hT⟩ : ∃ T, w1.heap.size = T := ⟨_, rfl⟩
        obtain ⟨w2, hw2⟩ : ∃ w2, (w1.alloc (.cells Try.zeroCells132 132)).setCells w1.heap.size 0 (tb (tabOf l)) = w2 := ⟨_, rfl⟩
        rw [hw2] at htm hbm hlm
        rw [hT] at htm hlm
        have HWM := Lib.hid (And.intro hT (And.intro hw2 hth))
        have hxw := HXC.out.2.below (hb1.trans (hbm.mono hb1.size))
        have H2 : Hid (TabAt w2 T 132 (tabOf l) ∧ Below w.heap.size w w2 ∧ w.heap.size ≤ T ∧ T < w2.heap.size ∧ XCells w2 X 0 F D Mm ∧ X < T) := Lib.hid ⟨htm, HXC.out.1.trans ((hb1.mono HXC.out.1.size).trans (hbm.mono (Nat.le_trans HXC.out.1.size hb1.size))), by rw [← hT]; exact Nat.le_trans HXC.out.1.size hb1.size, hlm, hxw, by rw [← hT]; exact Nat.lt_of_lt_of_le HXC.out.2.lt hb1.size⟩
        obtain ⟨x0, x1, x2, xl⟩ := hxw
        rw [Nat.zero_add] at x1 x2
        clear htm hbm hlm hth hb1 hT hw2 xl
        go_wp2_with (refine wpList_store_mid rfl 132 (.tmp 7) (.tmp 15) rfl w1.heap.size 0 (tb (tabOf l)).toArray rfl rfl (by simpa [tb_len, HTL.out] using HWM.out.2.2) (by simp only [List.size_toArray, tb_len, HTL.out]; kernel_rfl) (all_oneCell_toArray (tb_one _)) ?_; rw [List.toList_toArray, HWM.out.2.1, HWM.out.1])
        refine (HRT.out _).mono ?_
        rintro e w3 ⟨rfl, hb3⟩
        have hct := containsI_any w3 (H2.out.1.below hb3) HTL.out (H2.out.2.2.2.2.1.below hb3) (by have := HXR.out; omega)
        rw [HTT.out, HH.out] at hct
        have HCT := Lib.hid hct
        have H3 : Hid (TabAt w3 T 132 t ∧ Below w.heap.size w w3 ∧ XCells w3 X 0 F D Mm ∧ T < w3.heap.size) := Lib.hid ⟨by have h9 := H2.out.1.below hb3; rwa [HTT.out] at h9, H2.out.2.1.trans (hb3.mono H2.out.2.1.size), H2.out.2.2.2.2.1.below hb3, Nat.lt_of_lt_of_le H2.out.2.2.2.1 hb3.size⟩
        clear hb3 hct x0 x1 x2
        go_wp2_with fail
        refine HCT.out.mono ?_
        rintro e w4 ⟨rfl, hw4⟩
        subst hw4
        obtain ⟨y0, y1, y2, yl⟩ := H3.out.2.2.1
        rw [Nat.zero_add] at y2
        clear y0 y1 yl
        go_wp2_with fail
        clear y2
        go_loopw [9, 31] (fun x9 i9 wr => ∃ (k : Nat) (p : Option Addr) (cap : Nat), k ≤ Mm ∧ x9 = .slice p (putK t F D k).2.length cap ∧ i9 = .int .i64 k ∧ TabAt wr T 132 (putK t F D k).1 ∧ OwnRn wr p cap (putK t F D k).2 ∧ (∀ b, inP p cap b → w3.heap.size ≤ b) ∧ Below w.heap.size w wr ∧ XCells wr X 0 F D Mm ∧ w3.heap.size ≤ wr.heap.size) (fun _ i9 _ => Mm - (intOf i9).toNat)
        case atStart => exact ⟨0, none, 0, Nat.zero_le _, rfl, rfl, H3.out.1, OwnG.nil _ _ _ _ _, fun b hb => (by obtain ⟨x, hx, -⟩ := hb; cases hx), H3.out.2.1, H3.out.2.2.1, Nat.le_refl _⟩
        case round =>
          obtain ⟨k, p9, c9, hk, rfl, rfl, hta, hown, hfr, hb, hxc, hsz⟩ := hrel
          have hst := putK_ok HOK.out (f := F) (d := D) (m := Mm) hD k hk
          by_cases hlt : k < Mm
          · have hlt' : (k : Int) < (Mm : Int) := by omega
            have hput := putT_any p9 c9 (putK t F D k).2 (F + k) ((D + k : Nat) : Int) wr hst.1 hta hown (fun h => by have := hfr T h; have := H3.out.2.2.2; omega) (by omega) (by have := hst.2.1; omega) (fun x hx => by have := hst.2.2 x hx; omega)
            obtain ⟨n9, hn9⟩ : ∃ n9, (putK t F D k).2.length = n9 := ⟨_, rfl⟩
            obtain ⟨I, hI⟩ : ∃ I, F + k = I := ⟨_, rfl⟩
            obtain ⟨E, hE⟩ : ∃ E, D + k = E := ⟨_, rfl⟩
            rw [hn9, hI, hE] at hput
            rw [hn9]
            have hw1 : IntKind.i64.wrap ((F : Int) + (k : Int)) = (I : Int) := by rw [IntKind.wrap_i64]; omega
            have hw2 : IntKind.i64.wrap ((D : Int) + (k : Int)) = (E : Int) := by rw [IntKind.wrap_i64]; omega
            have HP := Lib.hid hput
            have HK := Lib.hid (And.intro hfr (And.intro hb (And.intro hsz (And.intro hI (And.intro hE hxc)))))
            obtain ⟨y0, y1, y2, yl⟩ := hxc
            rw [Nat.zero_add] at y1 y2
            clear hput hta hown hfr hb hsz hst hn9 hI hE
            go_wp2_with fail
            refine HP.out.mono ?_
            rintro e w5 ⟨p5, c5, rfl, ht5, ho5, hf5, hp5⟩
            have H5 : Hid (TabAt w5 T 132 (putK t F D (k + 1)).1 ∧ OwnRn w5 p5 c5 (putK t F D (k + 1)).2 ∧ (∀ b, inP p5 c5 b → w3.heap.size ≤ b) ∧ Below w.heap.size w w5 ∧ XCells w5 X 0 F D Mm ∧ w3.heap.size ≤ w5.heap.size) := Lib.hid (by
              have e9 : putK t F D (k + 1) = putX (putK t F D k) I (E : Int) := by show putX (putK t F D k) (F + k) ((D + k : Nat) : Int) = _; rw [HK.out.2.2.2.1, HK.out.2.2.2.2.1]
              rw [e9]
              have hx9 : w5.heap[X]? = wr.heap[X]? := hf5.block X yl (fun h => h.elim (fun e => by have := H2.out.2.2.2.2.2; omega) (fun hi => by have := HK.out.1 X hi; have := H3.out.2.2.1.lt; omega))
              exact ⟨ht5, ho5, fun b hb => (hp5 b hb).elim (HK.out.1 b) (fun h => Nat.le_trans HK.out.2.2.1 h), HK.out.2.1.trans (hf5.below HK.out.2.1.size (fun b h => h.elim (fun e => by have := H2.out.2.2.1; omega) (fun hi => by have := HK.out.1 b hi; have := H3.out.2.1.size; omega))), ⟨(World.cell?_of_block (w := wr) (a := ⟨X, 0, none⟩) hx9).trans y0, (World.cell?_of_block (w := wr) (a := ⟨X, 1, none⟩) hx9).trans y1, (World.cell?_of_block (w := wr) (a := ⟨X, 2, none⟩) hx9).trans y2, Nat.lt_of_lt_of_le yl hf5.size⟩, Nat.le_trans HK.out.2.2.1 hf5.size⟩)
            have HL5 : Hid ((putX ((putK t F D k).1, (putK t F D k).2) I (E : Int)).2.length = (putK t F D (k + 1)).2.length) := Lib.hid (by show _ = (putX (putK t F D k) (F + k) ((D + k : Nat) : Int)).2.length; rw [HK.out.2.2.2.1, HK.out.2.2.2.2.1])
            clear ht5 ho5 hf5 hp5 HP y0 y1 y2 yl
            rw [HL5.out]
            go_wp2_with fail
            go_roundw
            case rel => exact ⟨k + 1, p5, c5, hlt, rfl, by go_num, H5.out⟩
            case measure => simp [intOf]; omega
          · obtain rfl : Mm = k := by omega
            have hnl : ¬ (Mm : Int) < (Mm : Int) := by omega
            have hlt2 := listT_any wr hst.1 hta
            have HLT := Lib.hid hlt2
            have hll := (listX_small hst.1 128 (Nat.le_refl _)).2
            have HK := Lib.hid (And.intro hfr (And.intro hb (And.intro hsz hown)))
            obtain ⟨n9, hn9⟩ : ∃ n9, (putK t F D Mm).2.length = n9 := ⟨_, rfl⟩
            rw [hn9]
            have HN9 := Lib.hid hn9
            obtain ⟨N, hN⟩ : ∃ N, (listX (putK t F D Mm).1 128).length = N := ⟨_, rfl⟩
            rw [hN] at HLT hll
            have HNN := Lib.hid hN
            clear hta hown hfr hb hsz hst hlt2 hlt hn9 hN hxc
            by_cases h10 : 10 < N
            · have dl : decide (10 < (N : Int)) = true := decide_eq_true (by omega)
              have HE : Hid (putL l ((F : Int), (D : Int), (Mm : Int)) = ([], [], 3)) := Lib.hid (by rw [HPUT.out, HNN.out, if_pos h10])
              clear h10
              go_wp2_with fail
              refine HLT.out.mono ?_
              rintro e w5 ⟨p5, c5, rfl, ho5, hf5, hb5⟩
              have H5 := Lib.hid (HK.out.2.1.trans (hb5.mono HK.out.2.1.size))
              clear ho5 hf5 hb5 HLT
              go_wp2_with fail
              refine bodyPost_ret (results_3 rfl _ _) rfl ?_
              rw [HE.out]
              exact RetPC.none 3 H5.out
            · have dl : decide (10 < (N : Int)) = false := decide_eq_false (by omega)
              have HE : Hid (putL l ((F : Int), (D : Int), (Mm : Int)) = (listX (putK t F D Mm).1 128, (putK t F D Mm).2, 0)) := Lib.hid (by rw [HPUT.out, HNN.out, if_neg h10])
              clear h10
              go_wp2_with fail
              refine HLT.out.mono ?_
              rintro e w5 ⟨p5, c5, rfl, ho5, hf5, hb5⟩
              have H5 := Lib.hid (And.intro ho5 (And.intro hf5 hb5))
              clear ho5 hf5 hb5 HLT
              go_wp2_with fail
              refine bodyPost_ret (results_3 rfl _ _) rfl ?_
              rw [HE.out]
              exact ⟨p5, c5, p9, c9, by rw [← HN9.out, ← HNN.out]; rfl, H5.out.1, OwnG.below HK.out.2.2.2 H5.out.2.2, fun b hb => Nat.le_trans HK.out.2.1.size (H5.out.2.1 b hb), fun b hb => Nat.le_trans H3.out.2.1.size (HK.out.1 b hb), HK.out.2.1.trans (H5.out.2.2.mono HK.out.2.1.size)⟩
    · rw [Bool.not_eq_true] at hr
      have HE : Hid (putL l (f, d, m) = ([], [], 2)) := Lib.hid (by unfold putL; rw [HO.out]; exact if_pos (.inl hr))
      rw [hr] at HRT
      clear hr
      go_enter Try.func41, Try.ntmps41
      go_upto_region 1 with fail
      rw [HXB.out.1, HXB.out.2]
      go_wp2_with fail
      refine HOF.out.mono ?_
      rintro e w1 ⟨rfl, hb1⟩
      obtain ⟨htm, hbm, hlm, hth⟩ := tab_made (ty := 132) (zc := Try.zeroCells132) w1 (tabOf l) HTL.out zero_cells
      obtain ⟨T, hT⟩ : ∃ T, w1.heap.size = T := ⟨_, rfl⟩
      obtain ⟨w2, hw2⟩ : ∃ w2, (w1.alloc (.cells Try.zeroCells132 132)).setCells w1.heap.size 0 (tb (tabOf l)) = w2 := ⟨_, rfl⟩
      rw [hw2] at htm hbm hlm
      rw [hT] at htm hlm
      have HWM := Lib.hid (And.intro hT (And.intro hw2 hth))
      have hxw := HXC.out.2.below (hb1.trans (hbm.mono hb1.size))
      have H2 : Hid (TabAt w2 T 132 (tabOf l) ∧ Below w.heap.size w w2 ∧ w.heap.size ≤ T ∧ T < w2.heap.size ∧ XCells w2 X 0 f d m ∧ X < T) := Lib.hid ⟨htm, HXC.out.1.trans ((hb1.mono HXC.out.1.size).trans (hbm.mono (Nat.le_trans HXC.out.1.size hb1.size))), by rw [← hT]; exact Nat.le_trans HXC.out.1.size hb1.size, hlm, hxw, by rw [← hT]; exact Nat.lt_of_lt_of_le HXC.out.2.lt hb1.size⟩
      obtain ⟨x0, x1, x2, xl⟩ := hxw
      rw [Nat.zero_add] at x1 x2
      clear htm hbm hlm hth hb1 hT hw2 xl
      go_wp2_with (refine wpList_store_mid rfl 132 (.tmp 7) (.tmp 15) rfl w1.heap.size 0 (tb (tabOf l)).toArray rfl rfl (by simpa [tb_len, HTL.out] using HWM.out.2.2) (by simp only [List.size_toArray, tb_len, HTL.out]; kernel_rfl) (all_oneCell_toArray (tb_one _)) ?_; rw [List.toList_toArray, HWM.out.2.1, HWM.out.1])
      refine (HRT.out _).mono ?_
      rintro e w3 ⟨rfl, hb3⟩
      have H3 := Lib.hid (H2.out.2.1.trans (hb3.mono H2.out.2.1.size))
      clear hb3 x0 x1 x2
      go_wp2_with fail
      refine bodyPost_ret (results_3 rfl _ _) rfl ?_
      rw [HE.out]
      exact RetPC.none 2 H3.out
end Go.Proofs.Ytenmogokbelahaa
