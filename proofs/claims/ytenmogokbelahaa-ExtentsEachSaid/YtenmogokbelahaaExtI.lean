/- The walks of extents: Check, Find, Put, Cut. -/
import Derived.Test.YtenmogokbelahaaExtF
namespace Go.Proofs.Ytenmogokbelahaa
open Go Go.RowKit

/-- A new variable that takes a table. -/
theorem tab_made {ty : TypeId} {zc : Array Value} (w : World) (t : List Int) (hl : t.length = 128) (hz : zc = (tb zeroT).toArray) : TabAt ((w.alloc (.cells zc ty)).setCells w.heap.size 0 (tb t)) w.heap.size ty t ∧ Below w.heap.size w ((w.alloc (.cells zc ty)).setCells w.heap.size 0 (tb t)) ∧
    w.heap.size < ((w.alloc (.cells zc ty)).setCells w.heap.size 0 (tb t)).heap.size ∧ (w.alloc (.cells zc ty)).there w.heap.size 0 128 := by
  subst hz
  have h1 := TabAt.new w ty zeroT
  have hf := setCellsX_frn (g := w.heap.size) (tb t) 0 (w.alloc (.cells (tb zeroT).toArray ty))
  refine ⟨h1.sets t (by rw [hl]; rfl), (below_allocX w _).trans (hf.below (by simp) (fun b e => by omega)), Nat.lt_of_lt_of_le h1.lt hf.size, ?_⟩
  have := h1.there
  rwa [zeroT_ok.len] at this
def findL (l : List Ext3) (b : Int) : Int × Bool := match ofX l with
  | none => (0, false)
  | some t => if b < 0 ∨ 128 ≤ b then (0, false) else (t.getD b.toNat 0, decide (0 < t.getD b.toNat 0))
/-- What Put and Cut leave. -/
def RetPC (r : List Ext3 × List RunE × Int) (w : World) (e : Ending) (w' : World) : Prop :=
  ∃ p1 c1 p2 c2, e = .returned (.tuple #[.slice p1 r.1.length c1, .slice p2 r.2.1.length c2, .int .i64 r.2.2]) ∧ OwnX w' p1 c1 r.1 ∧ OwnRn w' p2 c2 r.2.1 ∧ (∀ b, inP p1 c1 b → w.heap.size ≤ b) ∧ (∀ b, inP p2 c2 b → w.heap.size ≤ b) ∧ Below w.heap.size w w'
theorem RetPC.none {w w' : World} (k : Int) (hb : Below w.heap.size w w') : RetPC ([], [], k) w (.returned (.tuple #[.slice none 0 0, .slice none 0 0, .int .i64 k])) w' :=
  ⟨Option.none, 0, Option.none, 0, rfl, OwnG.nil _ _ _ _ _, OwnG.nil _ _ _ _ _, fun b hb => (by obtain ⟨x, hx, -⟩ := hb; cases hx), fun b hb => (by obtain ⟨x, hx, -⟩ := hb; cases hx), hb⟩
theorem tabOf_len (l : List Ext3) : (tabOf l).length = 128 := by
  unfold tabOf
  cases h : ofX l with
  | none => exact zeroT_ok.len
  | some t => exact (ofX_ok h).1.len
theorem tabOf_ok (l : List Ext3) : TabOk (tabOf l) := by
  unfold tabOf
  cases h : ofX l with
  | none => exact zeroT_ok
  | some t => exact (ofX_ok h).1
set_option maxRecDepth 100000 in
set_option maxHeartbeats 8000000 in
theorem checkX_any (p : Option Addr) (cap : Nat) (l : List Ext3) (w : World) (hrd : RdS w.heap.size w p cap 3 xc l) :
    Calls Try.prog 73 #[.slice p l.length cap] w fun e w' => e = .returned (.int .i64 (if (ofX l).isSome = true then 0 else 2)) ∧ Below w.heap.size w w' := by
  have htl : (tabOf l).length = 128 := tabOf_len l
  have HTL := Lib.hid htl
  obtain ⟨n, hn⟩ : ∃ n, l.length = n := ⟨_, rfl⟩
  have hof := ofX_any p cap l w hrd
  rw [hn] at hof
  have HBW := Lib.hid (Nat.le_refl w.heap.size)
  have HBX : Hid (∀ {V : World}, Below w.heap.size w V → Below w.heap.size w V) := Lib.hid (fun h => h)
  have HRD := Lib.hid hrd
  have HNN := Lib.hid hn
  rw [hn]
  cases ho : ofX l with
  | none =>
    rw [ho, show (Option.isSome (none : Option (List Int))) = false from rfl] at hof
    have HOF := Lib.hid hof
    have HO := Lib.hid ho
    clear htl hof hrd hn ho
    go_enter Try.func73, Try.ntmps73
    go_wp2_with fail
    refine HOF.out.mono ?_
    rintro e w1 ⟨rfl, hb1⟩
    obtain ⟨htm, hbm, hlm, hth⟩ := tab_made (ty := 132) (zc := Try.zeroCells132) w1 (tabOf l) HTL.out zero_cells
    obtain ⟨T, hT⟩ : ∃ T, w1.heap.size = T := ⟨_, rfl⟩
    obtain ⟨w2, hw2⟩ : ∃ w2, (w1.alloc (.cells Try.zeroCells132 132)).setCells w1.heap.size 0 (tb (tabOf l)) = w2 := ⟨_, rfl⟩
    rw [hw2] at htm hbm hlm
    rw [hT] at htm hlm
    have HWM := Lib.hid (And.intro hT (And.intro hw2 hth))
    have H2 : Hid (TabAt w2 T 132 (tabOf l) ∧ Below w.heap.size w w2 ∧ w.heap.size ≤ T ∧ T < w2.heap.size) := Lib.hid ⟨htm, (hb1.mono HBW.out).trans (hbm.mono (Nat.le_trans HBW.out hb1.size)) |> HBX.out, by rw [← hT]; exact Nat.le_trans HBW.out hb1.size, hlm⟩
    clear htm hbm hlm hth hb1 hT hw2
    go_wp2_with (refine wpList_store_mid rfl 132 (.tmp 3) (.tmp 8) rfl w1.heap.size 0 (tb (tabOf l)).toArray rfl rfl (by simpa [tb_len, HTL.out] using HWM.out.2.2) (by simp only [List.size_toArray, tb_len, HTL.out]; kernel_rfl) (all_oneCell_toArray (tb_one _)) ?_; rw [List.toList_toArray, HWM.out.2.1, HWM.out.1])
    go_ret
    exact ⟨rfl, H2.out.2.1⟩
  | some t =>
    rw [ho, show (Option.isSome (some t)) = true from rfl] at hof
    have HOF := Lib.hid hof
    have HO := Lib.hid ho
    clear htl hof hrd hn ho
    have HTT : Hid (tabOf l = t) := Lib.hid (by unfold tabOf; rw [HO.out]; rfl)
    go_enter Try.func73, Try.ntmps73
    go_wp2_with fail
    refine HOF.out.mono ?_
    rintro e w1 ⟨rfl, hb1⟩
    obtain ⟨htm, hbm, hlm, hth⟩ := tab_made (ty := 132) (zc := Try.zeroCells132) w1 (tabOf l) HTL.out zero_cells
    obtain ⟨T, hT⟩ : ∃ T, w1.heap.size = T := ⟨_, rfl⟩
    obtain ⟨w2, hw2⟩ : ∃ w2, (w1.alloc (.cells Try.zeroCells132 132)).setCells w1.heap.size 0 (tb (tabOf l)) = w2 := ⟨_, rfl⟩
    rw [hw2] at htm hbm hlm
    rw [hT] at htm hlm
    have HWM := Lib.hid (And.intro hT (And.intro hw2 hth))
    have H2 : Hid (TabAt w2 T 132 (tabOf l) ∧ Below w.heap.size w w2 ∧ w.heap.size ≤ T ∧ T < w2.heap.size) := Lib.hid ⟨htm, (hb1.mono HBW.out).trans (hbm.mono (Nat.le_trans HBW.out hb1.size)) |> HBX.out, by rw [← hT]; exact Nat.le_trans HBW.out hb1.size, hlm⟩
    clear htm hbm hlm hth hb1 hT hw2
    go_wp2_with (refine wpList_store_mid rfl 132 (.tmp 3) (.tmp 8) rfl w1.heap.size 0 (tb (tabOf l)).toArray rfl rfl (by simpa [tb_len, HTL.out] using HWM.out.2.2) (by simp only [List.size_toArray, tb_len, HTL.out]; kernel_rfl) (all_oneCell_toArray (tb_one _)) ?_; rw [List.toList_toArray, HWM.out.2.1, HWM.out.1])
    go_ret
    exact ⟨rfl, H2.out.2.1⟩
set_option maxRecDepth 100000 in
set_option maxHeartbeats 8000000 in
theorem findX_any (p : Option Addr) (cap : Nat) (l : List Ext3) (b : Int) (w : World) (hrd : RdS w.heap.size w p cap 3 xc l) :
    Calls Try.prog 72 #[.slice p l.length cap, .int .i64 b] w fun e w' => e = .returned (.tuple #[.int .i64 (findL l b).1, .bool (findL l b).2]) ∧ Below w.heap.size w w' := by
  have htl : (tabOf l).length = 128 := tabOf_len l
  have HTL := Lib.hid htl
  obtain ⟨n, hn⟩ : ∃ n, l.length = n := ⟨_, rfl⟩
  have hof := ofX_any p cap l w hrd
  rw [hn] at hof
  have HBW := Lib.hid (Nat.le_refl w.heap.size)
  have HBX : Hid (∀ {V : World}, Below w.heap.size w V → Below w.heap.size w V) := Lib.hid (fun h => h)
  have HRD := Lib.hid hrd
  have HNN := Lib.hid hn
  rw [hn]
  cases ho : ofX l with
  | none =>
    rw [ho, show (Option.isSome (none : Option (List Int))) = false from rfl] at hof
    have HOF := Lib.hid hof
    have HO := Lib.hid ho
    clear htl hof hrd hn ho
    go_enter Try.func72, Try.ntmps72
    go_wp2_with fail
    refine HOF.out.mono ?_
    rintro e w1 ⟨rfl, hb1⟩
    obtain ⟨htm, hbm, hlm, hth⟩ := tab_made (ty := 132) (zc := Try.zeroCells132) w1 (tabOf l) HTL.out zero_cells
    obtain ⟨T, hT⟩ : ∃ T, w1.heap.size = T := ⟨_, rfl⟩
    obtain ⟨w2, hw2⟩ : ∃ w2, (w1.alloc (.cells Try.zeroCells132 132)).setCells w1.heap.size 0 (tb (tabOf l)) = w2 := ⟨_, rfl⟩
    rw [hw2] at htm hbm hlm
    rw [hT] at htm hlm
    have HWM := Lib.hid (And.intro hT (And.intro hw2 hth))
    have H2 : Hid (TabAt w2 T 132 (tabOf l) ∧ Below w.heap.size w w2 ∧ w.heap.size ≤ T ∧ T < w2.heap.size) := Lib.hid ⟨htm, (hb1.mono HBW.out).trans (hbm.mono (Nat.le_trans HBW.out hb1.size)) |> HBX.out, by rw [← hT]; exact Nat.le_trans HBW.out hb1.size, hlm⟩
    clear htm hbm hlm hth hb1 hT hw2
    go_wp2_with (refine wpList_store_mid rfl 132 (.tmp 6) (.tmp 11) rfl w1.heap.size 0 (tb (tabOf l)).toArray rfl rfl (by simpa [tb_len, HTL.out] using HWM.out.2.2) (by simp only [List.size_toArray, tb_len, HTL.out]; kernel_rfl) (all_oneCell_toArray (tb_one _)) ?_; rw [List.toList_toArray, HWM.out.2.1, HWM.out.1])
    have HE : Hid (findL l b = (0, false)) := Lib.hid (by unfold findL; rw [HO.out])
    go_ret2
    exact ⟨by rw [HE.out]; rfl, H2.out.2.1⟩
  | some t =>
    rw [ho, show (Option.isSome (some t)) = true from rfl] at hof
    have HOF := Lib.hid hof
    have HO := Lib.hid ho
    clear htl hof hrd hn ho
    have HTT : Hid (tabOf l = t) := Lib.hid (by unfold tabOf; rw [HO.out]; rfl)
    by_cases h1 : b < 0
    · have d1 : decide (b < 0) = true := decide_eq_true h1
      have HE : Hid (findL l b = (0, false)) := Lib.hid (by unfold findL; rw [HO.out]; exact if_pos (.inl h1))
      clear h1
      go_enter Try.func72, Try.ntmps72
      go_wp2_with fail
      refine HOF.out.mono ?_
      rintro e w1 ⟨rfl, hb1⟩
      obtain ⟨htm, hbm, hlm, hth⟩ := tab_made (ty := 132) (zc := Try.zeroCells132) w1 (tabOf l) HTL.out zero_cells
      obtain ⟨T, hT⟩ : ∃ T, w1.heap.size = T := ⟨_, rfl⟩
      obtain ⟨w2, hw2⟩ : ∃ w2, (w1.alloc (.cells Try.zeroCells132 132)).setCells w1.heap.size 0 (tb (tabOf l)) = w2 := ⟨_, rfl⟩
      rw [hw2] at htm hbm hlm
      rw [hT] at htm hlm
      have HWM := Lib.hid (And.intro hT (And.intro hw2 hth))
      have H2 : Hid (TabAt w2 T 132 (tabOf l) ∧ Below w.heap.size w w2 ∧ w.heap.size ≤ T ∧ T < w2.heap.size) := Lib.hid ⟨htm, (hb1.mono HBW.out).trans (hbm.mono (Nat.le_trans HBW.out hb1.size)) |> HBX.out, by rw [← hT]; exact Nat.le_trans HBW.out hb1.size, hlm⟩
      clear htm hbm hlm hth hb1 hT hw2
      go_wp2_with (refine wpList_store_mid rfl 132 (.tmp 6) (.tmp 11) rfl w1.heap.size 0 (tb (tabOf l)).toArray rfl rfl (by simpa [tb_len, HTL.out] using HWM.out.2.2) (by simp only [List.size_toArray, tb_len, HTL.out]; kernel_rfl) (all_oneCell_toArray (tb_one _)) ?_; rw [List.toList_toArray, HWM.out.2.1, HWM.out.1])
      go_ret2
      exact ⟨by rw [HE.out]; rfl, H2.out.2.1⟩
    · have d1 : decide (b < 0) = false := decide_eq_false h1
      by_cases h2 : 128 ≤ b
      · have d2 : decide (128 ≤ b) = true := decide_eq_true h2
        have HE : Hid (findL l b = (0, false)) := Lib.hid (by unfold findL; rw [HO.out]; exact if_pos (.inr h2))
        clear h1 h2
        go_enter Try.func72, Try.ntmps72
        go_wp2_with fail
        refine HOF.out.mono ?_
        rintro e w1 ⟨rfl, hb1⟩
        obtain ⟨htm, hbm, hlm, hth⟩ := tab_made (ty := 132) (zc := Try.zeroCells132) w1 (tabOf l) HTL.out zero_cells
        obtain ⟨T, hT⟩ : ∃ T, w1.heap.size = T := ⟨_, rfl⟩
        obtain ⟨w2, hw2⟩ : ∃ w2, (w1.alloc (.cells Try.zeroCells132 132)).setCells w1.heap.size 0 (tb (tabOf l)) = w2 := ⟨_, rfl⟩
        rw [hw2] at htm hbm hlm
        rw [hT] at htm hlm
        have HWM := Lib.hid (And.intro hT (And.intro hw2 hth))
        have H2 : Hid (TabAt w2 T 132 (tabOf l) ∧ Below w.heap.size w w2 ∧ w.heap.size ≤ T ∧ T < w2.heap.size) := Lib.hid ⟨htm, (hb1.mono HBW.out).trans (hbm.mono (Nat.le_trans HBW.out hb1.size)) |> HBX.out, by rw [← hT]; exact Nat.le_trans HBW.out hb1.size, hlm⟩
        clear htm hbm hlm hth hb1 hT hw2
        go_wp2_with (refine wpList_store_mid rfl 132 (.tmp 6) (.tmp 11) rfl w1.heap.size 0 (tb (tabOf l)).toArray rfl rfl (by simpa [tb_len, HTL.out] using HWM.out.2.2) (by simp only [List.size_toArray, tb_len, HTL.out]; kernel_rfl) (all_oneCell_toArray (tb_one _)) ?_; rw [List.toList_toArray, HWM.out.2.1, HWM.out.1])
        go_ret2
        exact ⟨by rw [HE.out]; rfl, H2.out.2.1⟩
      · have d2 : decide (128 ≤ b) = false := decide_eq_false h2
        have HE : Hid (findL l b = (t.getD b.toNat 0, decide (0 < t.getD b.toNat 0))) := Lib.hid (by unfold findL; rw [HO.out]; exact if_neg (fun h => h.elim h1 h2))
        obtain ⟨i, rfl⟩ : ∃ i : Nat, b = i := ⟨b.toNat, by omega⟩
        have hi1 : (i : Int) < 128 := by omega
        have hi0 : (0 : Int) ≤ (i : Int) := by omega
        clear h1 h2
        go_enter Try.func72, Try.ntmps72
        go_wp2_with fail
        refine HOF.out.mono ?_
        rintro e w1 ⟨rfl, hb1⟩
        obtain ⟨htm, hbm, hlm, hth⟩ := tab_made (ty := 132) (zc := Try.zeroCells132) w1 (tabOf l) HTL.out zero_cells
        obtain ⟨T, hT⟩ : ∃ T, w1.heap.size = T := ⟨_, rfl⟩
        obtain ⟨w2, hw2⟩ : ∃ w2, (w1.alloc (.cells Try.zeroCells132 132)).setCells w1.heap.size 0 (tb (tabOf l)) = w2 := ⟨_, rfl⟩
        rw [hw2] at htm hbm hlm
        rw [hT] at htm hlm
        have HWM := Lib.hid (And.intro hT (And.intro hw2 hth))
        have H2 : Hid (TabAt w2 T 132 (tabOf l) ∧ Below w.heap.size w w2 ∧ w.heap.size ≤ T ∧ T < w2.heap.size) := Lib.hid ⟨htm, (hb1.mono HBW.out).trans (hbm.mono (Nat.le_trans HBW.out hb1.size)) |> HBX.out, by rw [← hT]; exact Nat.le_trans HBW.out hb1.size, hlm⟩
        clear htm hbm hlm hth hb1 hT hw2
        go_wp2_with (refine wpList_store_mid rfl 132 (.tmp 6) (.tmp 11) rfl w1.heap.size 0 (tb (tabOf l)).toArray rfl rfl (by simpa [tb_len, HTL.out] using HWM.out.2.2) (by simp only [List.size_toArray, tb_len, HTL.out]; kernel_rfl) (all_oneCell_toArray (tb_one _)) ?_; rw [List.toList_toArray, HWM.out.2.1, HWM.out.1])
        have hil : i < (tabOf l).length := by rw [HTL.out]; omega
        have hc := (H2.out.1.cell i hil).1
        obtain ⟨a, ha⟩ : ∃ a, (tabOf l)[i] = a := ⟨_, rfl⟩
        rw [ha] at hc
        have HA : Hid (t.getD i 0 = a) := Lib.hid (by rw [← HTT.out, List.getD_eq_getElem?_getD, List.getElem?_eq_getElem hil]; exact ha)
        clear ha hil
        go_quiet (fail)
        go_wp2_with fail
        go_ret2
        exact ⟨by rw [HE.out, Int.toNat_natCast, HA.out]; rfl, by first | exact H2.out.2.1 | exact H2.out.2.1.drew | exact below_drewN H2.out.2.1 _⟩
theorem results_3 {P : Program} {fn : Func} {a b c : Tmp} (h : fn.results = #[.tmp a, .tmp b, .tmp c]) (tmps : Array Value) (w : World) : (results fn tmps).run P w = .ok (.tuple #[tmps.getD a undef, tmps.getD b undef, tmps.getD c undef]) w := by
  simp [results, h]
set_option maxRecDepth 100000 in
set_option maxHeartbeats 8000000 in
theorem cutX_any (p : Option Addr) (cap : Nat) (l : List Ext3) (b : Int) (w : World) (hrd : RdS w.heap.size w p cap 3 xc l) :
    Calls Try.prog 46 #[.slice p l.length cap, .int .i64 b] w (RetPC (cutL l b) w) := by
  have htl : (tabOf l).length = 128 := tabOf_len l
  have HTL := Lib.hid htl
  obtain ⟨n, hn⟩ : ∃ n, l.length = n := ⟨_, rfl⟩
  have hof := ofX_any p cap l w hrd
  rw [hn] at hof
  have HBW := Lib.hid (Nat.le_refl w.heap.size)
  have HBX : Hid (∀ {V : World}, Below w.heap.size w V → Below w.heap.size w V) := Lib.hid (fun h => h)
  have HRD := Lib.hid hrd
  have HNN := Lib.hid hn
  rw [hn]
  cases ho : ofX l with
  | none =>
    rw [ho, show (Option.isSome (none : Option (List Int))) = false from rfl] at hof
    have HOF := Lib.hid hof
    have HO := Lib.hid ho
    clear htl hof hrd hn ho
    go_enter Try.func46, Try.ntmps46
    go_wp2_with fail
    refine HOF.out.mono ?_
    rintro e w1 ⟨rfl, hb1⟩
    obtain ⟨htm, hbm, hlm, hth⟩ := tab_made (ty := 132) (zc := Try.zeroCells132) w1 (tabOf l) HTL.out zero_cells
    obtain ⟨T, hT⟩ : ∃ T, w1.heap.size = T := ⟨_, rfl⟩
    obtain ⟨w2, hw2⟩ : ∃ w2, (w1.alloc (.cells Try.zeroCells132 132)).setCells w1.heap.size 0 (tb (tabOf l)) = w2 := ⟨_, rfl⟩
    rw [hw2] at htm hbm hlm
    rw [hT] at htm hlm
    have HWM := Lib.hid (And.intro hT (And.intro hw2 hth))
    have H2 : Hid (TabAt w2 T 132 (tabOf l) ∧ Below w.heap.size w w2 ∧ w.heap.size ≤ T ∧ T < w2.heap.size) := Lib.hid ⟨htm, (hb1.mono HBW.out).trans (hbm.mono (Nat.le_trans HBW.out hb1.size)) |> HBX.out, by rw [← hT]; exact Nat.le_trans HBW.out hb1.size, hlm⟩
    clear htm hbm hlm hth hb1 hT hw2
    go_wp2_with (refine wpList_store_mid rfl 132 (.tmp 7) (.tmp 14) rfl w1.heap.size 0 (tb (tabOf l)).toArray rfl rfl (by simpa [tb_len, HTL.out] using HWM.out.2.2) (by simp only [List.size_toArray, tb_len, HTL.out]; kernel_rfl) (all_oneCell_toArray (tb_one _)) ?_; rw [List.toList_toArray, HWM.out.2.1, HWM.out.1])
    have HE : Hid (cutL l b = ([], [], 2)) := Lib.hid (by unfold cutL; rw [HO.out])
    refine bodyPost_ret (results_3 rfl _ _) rfl ?_
    rw [HE.out]
    exact RetPC.none 2 H2.out.2.1
  | some t =>
    rw [ho, show (Option.isSome (some t)) = true from rfl] at hof
    have HOF := Lib.hid hof
    have HO := Lib.hid ho
    clear htl hof hrd hn ho
    have HTT : Hid (tabOf l = t) := Lib.hid (by unfold tabOf; rw [HO.out]; rfl)
    by_cases h1 : b < 0
    · have d1 : decide (b < 0) = true := decide_eq_true h1
      have HE : Hid (cutL l b = ([], [], 2)) := Lib.hid (by unfold cutL; rw [HO.out]; exact if_pos (.inl h1))
      clear h1
      go_enter Try.func46, Try.ntmps46
      go_wp2_with fail
      refine HOF.out.mono ?_
      rintro e w1 ⟨rfl, hb1⟩
      obtain ⟨htm, hbm, hlm, hth⟩ := tab_made (ty := 132) (zc := Try.zeroCells132) w1 (tabOf l) HTL.out zero_cells
      obtain ⟨T, hT⟩ : ∃ T, w1.heap.size = T := ⟨_, rfl⟩
      obtain ⟨w2, hw2⟩ : ∃ w2, (w1.alloc (.cells Try.zeroCells132 132)).setCells w1.heap.size 0 (tb (tabOf l)) = w2 := ⟨_, rfl⟩
      rw [hw2] at htm hbm hlm
      rw [hT] at htm hlm
      have HWM := Lib.hid (And.intro hT (And.intro hw2 hth))
      have H2 : Hid (TabAt w2 T 132 (tabOf l) ∧ Below w.heap.size w w2 ∧ w.heap.size ≤ T ∧ T < w2.heap.size) := Lib.hid ⟨htm, (hb1.mono HBW.out).trans (hbm.mono (Nat.le_trans HBW.out hb1.size)) |> HBX.out, by rw [← hT]; exact Nat.le_trans HBW.out hb1.size, hlm⟩
      clear htm hbm hlm hth hb1 hT hw2
      go_wp2_with (refine wpList_store_mid rfl 132 (.tmp 7) (.tmp 14) rfl w1.heap.size 0 (tb (tabOf l)).toArray rfl rfl (by simpa [tb_len, HTL.out] using HWM.out.2.2) (by simp only [List.size_toArray, tb_len, HTL.out]; kernel_rfl) (all_oneCell_toArray (tb_one _)) ?_; rw [List.toList_toArray, HWM.out.2.1, HWM.out.1])
      refine bodyPost_ret (results_3 rfl _ _) rfl ?_
      rw [HE.out]
      exact RetPC.none 2 H2.out.2.1
    · have d1 : decide (b < 0) = false := decide_eq_false h1
      by_cases h2 : 128 < b
      · have d2 : decide (128 < b) = true := decide_eq_true h2
        have HE : Hid (cutL l b = ([], [], 2)) := Lib.hid (by unfold cutL; rw [HO.out]; exact if_pos (.inr h2))
        clear h1 h2
        go_enter Try.func46, Try.ntmps46
        go_wp2_with fail
        refine HOF.out.mono ?_
        rintro e w1 ⟨rfl, hb1⟩
        obtain ⟨htm, hbm, hlm, hth⟩ := tab_made (ty := 132) (zc := Try.zeroCells132) w1 (tabOf l) HTL.out zero_cells
        obtain ⟨T, hT⟩ : ∃ T, w1.heap.size = T := ⟨_, rfl⟩
        obtain ⟨w2, hw2⟩ : ∃ w2, (w1.alloc (.cells Try.zeroCells132 132)).setCells w1.heap.size 0 (tb (tabOf l)) = w2 := ⟨_, rfl⟩
        rw [hw2] at htm hbm hlm
        rw [hT] at htm hlm
        have HWM := Lib.hid (And.intro hT (And.intro hw2 hth))
        have H2 : Hid (TabAt w2 T 132 (tabOf l) ∧ Below w.heap.size w w2 ∧ w.heap.size ≤ T ∧ T < w2.heap.size) := Lib.hid ⟨htm, (hb1.mono HBW.out).trans (hbm.mono (Nat.le_trans HBW.out hb1.size)) |> HBX.out, by rw [← hT]; exact Nat.le_trans HBW.out hb1.size, hlm⟩
        clear htm hbm hlm hth hb1 hT hw2
        go_wp2_with (refine wpList_store_mid rfl 132 (.tmp 7) (.tmp 14) rfl w1.heap.size 0 (tb (tabOf l)).toArray rfl rfl (by simpa [tb_len, HTL.out] using HWM.out.2.2) (by simp only [List.size_toArray, tb_len, HTL.out]; kernel_rfl) (all_oneCell_toArray (tb_one _)) ?_; rw [List.toList_toArray, HWM.out.2.1, HWM.out.1])
        refine bodyPost_ret (results_3 rfl _ _) rfl ?_
        rw [HE.out]
        exact RetPC.none 2 H2.out.2.1
      · have d2 : decide (128 < b) = false := decide_eq_false h2
        have HE : Hid (cutL l b = (listX (cutK t b.toNat (128 - b.toNat)).1 128, (cutK t b.toNat (128 - b.toNat)).2, 0)) := Lib.hid (by unfold cutL; rw [HO.out]; exact if_neg (fun h => h.elim h1 h2))
        obtain ⟨i, rfl⟩ : ∃ i : Nat, b = i := ⟨b.toNat, by omega⟩
        have hib : (i : Int) ≤ 128 := by omega
        have hok := tabOf_ok l
        rw [HTT.out] at hok
        have HOK := Lib.hid hok
        clear h1 h2 hok
        go_enter Try.func46, Try.ntmps46
        go_wp2_with fail
        refine HOF.out.mono ?_
        rintro e w1 ⟨rfl, hb1⟩
        obtain ⟨htm, hbm, hlm, hth⟩ := tab_made (ty := 132) (zc := Try.zeroCells132) w1 (tabOf l) HTL.out zero_cells
        obtain ⟨T, hT⟩ : ∃ T, w1.heap.size = T := ⟨_, rfl⟩
        obtain ⟨w2, hw2⟩ : ∃ w2, (w1.alloc (.cells Try.zeroCells132 132)).setCells w1.heap.size 0 (tb (tabOf l)) = w2 := ⟨_, rfl⟩
        rw [hw2] at htm hbm hlm
        rw [hT] at htm hlm
        have HWM := Lib.hid (And.intro hT (And.intro hw2 hth))
        have H2 : Hid (TabAt w2 T 132 (tabOf l) ∧ Below w.heap.size w w2 ∧ w.heap.size ≤ T ∧ T < w2.heap.size) := Lib.hid ⟨htm, (hb1.mono HBW.out).trans (hbm.mono (Nat.le_trans HBW.out hb1.size)) |> HBX.out, by rw [← hT]; exact Nat.le_trans HBW.out hb1.size, hlm⟩
        clear htm hbm hlm hth hb1 hT hw2
        go_wp2_with (refine wpList_store_mid rfl 132 (.tmp 7) (.tmp 14) rfl w1.heap.size 0 (tb (tabOf l)).toArray rfl rfl (by simpa [tb_len, HTL.out] using HWM.out.2.2) (by simp only [List.size_toArray, tb_len, HTL.out]; kernel_rfl) (all_oneCell_toArray (tb_one _)) ?_; rw [List.toList_toArray, HWM.out.2.1, HWM.out.1])
        go_loopw [9, 10] (fun x9 i9 wr => ∃ (k : Nat) (p : Option Addr) (cap : Nat), i + k ≤ 128 ∧ x9 = .slice p (cutK t i k).2.length cap ∧ i9 = .int .i64 ((i + k : Nat) : Int) ∧ TabAt wr T 132 (cutK t i k).1 ∧ OwnRn wr p cap (cutK t i k).2 ∧ (∀ b, inP p cap b → w2.heap.size ≤ b) ∧ Below w.heap.size w wr ∧ w2.heap.size ≤ wr.heap.size) (fun _ i9 _ => 128 - (intOf i9).toNat)
        case atStart => exact ⟨0, none, 0, by omega, rfl, rfl, by have h9 := H2.out.1; rw [HTT.out] at h9; exact h9, OwnG.nil _ _ _ _ _, fun b hb => (by obtain ⟨x, hx, -⟩ := hb; cases hx), H2.out.2.1, Nat.le_refl _⟩
        case round =>
          obtain ⟨k, p9, c9, hk, rfl, rfl, hta, hown, hfr, hb, hsz⟩ := hrel
          have hst := cutK_ok HOK.out (b := i) k
          by_cases hlt : i + k < 128
          · have hlt' : ((i + k : Nat) : Int) < 128 := by omega
            have hput := putT_any p9 c9 (cutK t i k).2 (i + k) 0 wr hst.1 hta hown (fun h => by have := hfr T h; have := H2.out.2.2.2; omega) hlt (by have := hst.2.1; omega) (fun x hx => by have := hst.2.2 x hx; omega)
            obtain ⟨n9, hn9⟩ : ∃ n9, (cutK t i k).2.length = n9 := ⟨_, rfl⟩
            obtain ⟨I, hI⟩ : ∃ I, i + k = I := ⟨_, rfl⟩
            rw [hn9, hI] at hput
            rw [hn9, hI]
            rw [hI] at hlt' hlt
            have HP := Lib.hid hput
            have HK := Lib.hid (And.intro hfr (And.intro hb (And.intro hsz hI)))
            have hw1 : IntKind.i64.wrap ((I : Int) + 1) = ((I + 1 : Nat) : Int) := by rw [IntKind.wrap_i64]; omega
            clear hput hta hown hfr hb hsz hst hn9 hk hI
            go_wp2_with fail
            refine HP.out.mono ?_
            rintro e w5 ⟨p5, c5, rfl, ht5, ho5, hf5, hp5⟩
            have H5 : Hid (TabAt w5 T 132 (cutK t i (k + 1)).1 ∧ OwnRn w5 p5 c5 (cutK t i (k + 1)).2 ∧ (∀ b, inP p5 c5 b → w2.heap.size ≤ b) ∧ Below w.heap.size w w5 ∧ w2.heap.size ≤ w5.heap.size) := Lib.hid (by
              have e9 : cutK t i (k + 1) = putX (cutK t i k) I 0 := by show putX (cutK t i k) (i + k) 0 = _; rw [HK.out.2.2.2]
              rw [e9]
              exact ⟨ht5, ho5, fun b hb => (hp5 b hb).elim (HK.out.1 b) (fun h => Nat.le_trans HK.out.2.2.1 h), HK.out.2.1.trans (hf5.below HK.out.2.1.size (fun b h => h.elim (fun e => by have := H2.out.2.2.1; omega) (fun hi => by have := HK.out.1 b hi; have := H2.out.2.1.size; omega))), Nat.le_trans HK.out.2.2.1 hf5.size⟩)
            have HL5 : Hid ((putX ((cutK t i k).1, (cutK t i k).2) I 0).2.length = (cutK t i (k + 1)).2.length) := Lib.hid (by show _ = (putX (cutK t i k) (i + k) 0).2.length; rw [HK.out.2.2.2])
            clear ht5 ho5 hf5 hp5 HP
            rw [HL5.out]
            go_wp2_with fail
            go_roundw
            case rel => exact ⟨k + 1, p5, c5, by have := HK.out.2.2.2; omega, rfl, by have := HK.out.2.2.2; rw [← this]; first | rfl | (go_num; done) | (congr 1; omega), H5.out⟩
            case measure => simp [intOf]; omega
          · have hk8 : k = 128 - i := by omega
            have hI : i + k = 128 := by omega
            rw [hI]
            have hlt2 := listT_any wr hst.1 hta
            have HLT := Lib.hid hlt2
            have HK := Lib.hid (And.intro hfr (And.intro hb (And.intro hsz (And.intro hk8 hown))))
            obtain ⟨n9, hn9⟩ : ∃ n9, (cutK t i k).2.length = n9 := ⟨_, rfl⟩
            rw [hn9]
            have HN9 := Lib.hid hn9
            clear hta hown hfr hb hsz hst hlt2 hk8 hlt hI hn9 hk
            go_wp2_with fail
            refine HLT.out.mono ?_
            rintro e w5 ⟨p5, c5, rfl, ho5, hf5, hb5⟩
            have H5 := Lib.hid (And.intro ho5 (And.intro hf5 hb5))
            clear ho5 hf5 hb5 HLT
            go_wp2_with fail
            refine bodyPost_ret (results_3 rfl _ _) rfl ?_
            rw [HE.out, Int.toNat_natCast]
            have hk8 := HK.out.2.2.2.1
            rw [← hk8]
            exact ⟨p5, c5, p9, c9, by rw [← HN9.out]; rfl, H5.out.1, OwnG.below HK.out.2.2.2.2 H5.out.2.2, fun b hb => Nat.le_trans HK.out.2.1.size (H5.out.2.1 b hb), fun b hb => Nat.le_trans H2.out.2.1.size (HK.out.1 b hb), HK.out.2.1.trans (H5.out.2.2.mono HK.out.2.1.size)⟩
end Go.Proofs.Ytenmogokbelahaa
