/- The walk of extents.of: the table of a list, or none. -/
import Derived.Test.YtenmogokbelahaaExtE
import Derived.Test.YtenmogokbelahaaExtQ
import Derived.ScopeJumps
namespace Go.Proofs.Ytenmogokbelahaa
open Go Go.RowKit

theorem setCellsX_frn {g : Nat} : ∀ (vs : List Value) (o : Nat) (w : World), Frn (fun x => x = g) w (w.setCells g o vs)
  | [], _, _ => Frn.refl _ _
  | v :: r, o, w => (Frn.setCell (T := fun x => x = g) (Frn.refl _ w) ⟨g, o, none⟩ (.inl rfl) v).trans (setCellsX_frn r (o + 1) _)
theorem setCells_block {g : Nat} {ty : TypeId} : ∀ (vs pre mid post : List Value) (w : World), mid.length = vs.length → w.heap[g]? = some (.cells (pre ++ mid ++ post).toArray ty (0, 0)) → (w.setCells g pre.length vs).heap[g]? = some (.cells (pre ++ vs ++ post).toArray ty (0, 0))
  | [], pre, mid, post, w, hl, h => by
    rw [List.length_nil, List.length_eq_zero_iff] at hl
    subst hl
    exact h
  | v :: r, pre, mid, post, w, hl, h => by
    cases mid with
    | nil => simp at hl
    | cons m ms =>
      have h1 := heap_setCell_same w g pre.length _ _ v h
      have e : (pre ++ m :: ms ++ post).toArray.setIfInBounds pre.length v = ((pre ++ [v]) ++ ms ++ post).toArray := by
        rw [List.setIfInBounds_toArray]
        congr 1
        simp
      rw [e] at h1
      have h2 := setCells_block r (pre ++ [v]) ms post _ (by simpa using hl) h1
      rw [List.length_append, List.length_singleton] at h2
      have e2 : pre ++ v :: r ++ post = pre ++ [v] ++ r ++ post := by simp
      rw [e2]
      exact h2
theorem TabAt.sets {w : World} {B : Nat} {ty : TypeId} {t : List Int} (h : TabAt w B ty t) (t' : List Int) (hl : t.length = t'.length) : TabAt (w.setCells B 0 (tb t')) B ty t' := by
  have := setCells_block (g := B) (ty := ty) (tb t') [] (tb t) [] w (by rw [tb_len, tb_len, hl]) (by unfold TabAt at h; simpa using h)
  unfold TabAt
  simpa using this
theorem results_ct {P : Program} {fn : Func} {p q : Tmp} {ty : TypeId} (h : fn.results = #[.cell p ty, .tmp q]) (tmps : Array Value) (w : World) {g : Nat} {v u : Value}
    (hp : tmps.getD p undef = .pointer (some ⟨g, 0, none⟩)) (hl : (loadVar ty ⟨g, 0, none⟩).run P w = .ok v w) (hq : tmps.getD q undef = u) : (results fn tmps).run P w = .ok (.tuple #[v, u]) w := by
  have hp' : tmps[p]?.getD undef = .pointer (some ⟨g, 0, none⟩) := by simpa using hp
  have hq' : tmps[q]?.getD undef = u := by simpa using hq
  simp [results, h, hp', hq', asAddr, hl]
/-- The device's blocks that are in use. -/
def devF (u : List Int) : Nat → Option Int := fun x => if 0 < x ∧ (x : Int) ∈ u then some 1 else none
theorem devF_zero : devF zeroT = fun _ => none := by
  funext x
  unfold devF
  rw [if_neg]
  rintro ⟨h1, h2⟩
  have := List.eq_of_mem_replicate h2
  omega
theorem devF_set {u : List Int} {i a : Nat} (hi : i < u.length) (h0 : u.getD i 0 = 0) (ha : 0 < a) : (fun x => if x = a then some (1 : Int) else devF u x) = devF (u.set i (a : Int)) := by
  funext x
  have e0 : u[i] = 0 := by rw [List.getD_eq_getElem?_getD, List.getElem?_eq_getElem hi] at h0; exact h0
  unfold devF
  by_cases hx : x = a
  · subst hx
    rw [if_pos rfl, if_pos ⟨ha, List.mem_set hi _⟩]
  · rw [if_neg hx]
    by_cases h1 : 0 < x ∧ (x : Int) ∈ u
    · rw [if_pos h1, if_pos]
      refine ⟨h1.1, ?_⟩
      obtain ⟨j, hj, he⟩ := List.mem_iff_getElem.1 h1.2
      have hij : i ≠ j := fun e => by subst e; rw [e0] at he; omega
      rw [List.mem_iff_getElem]
      exact ⟨j, by rw [List.length_set]; exact hj, by rw [List.getElem_set_ne hij]; exact he⟩
    · rw [if_neg h1, if_neg]
      rintro ⟨h2, h3⟩
      rcases List.mem_or_eq_of_mem_set h3 with h4 | h4
      · exact h1 ⟨h2, h4⟩
      · omega
theorem RdS.onX {α : Type} {w V : World} {p : Option Addr} {cap c : Nat} {enc : α → List Value} {ys : List α} (h : RdS w.heap.size w p cap c enc ys) (hb : Below w.heap.size w V) : RdS V.heap.size V p cap c enc ys := by
  have h2 := h.keep (w' := V) (fun b hi => hb.block b (h.inlt hi))
  obtain ⟨a1, a2, a3⟩ := h2
  refine ⟨a1, a2, a3.imp id ?_⟩
  rintro ⟨b, off, hp, hbb, hc⟩
  exact ⟨b, off, hp, Nat.lt_of_lt_of_le hbb hb.size, hc⟩
def tabOf (l : List Ext3) : List Int := (ofX l).getD zeroT
theorem of_none {l : List Ext3} (h : placeL l l.length = none) : ofX l = none := by
  unfold ofX
  split
  · rfl
  · split
    · rw [h]
    · rfl
theorem of_long {l : List Ext3} (h : 10 < l.length) : ofX l = none := by unfold ofX; rw [if_pos h]
theorem of_wrong {l : List Ext3} (h : l.all rightX = false) : ofX l = none := by
  unfold ofX
  split
  · rfl
  · rw [if_neg (by rw [h]; simp)]
theorem of_some {l : List Ext3} {t : List Int} (h1 : ¬ 10 < l.length) (h2 : l.all rightX = true) (h3 : placeL l l.length = some t) : ofX l = if listX t 128 = l then some t else none := by
  unfold ofX
  rw [if_neg h1, if_pos h2, h3]
theorem place_bad {l : List Ext3} {j k : Nat} {t u : List Int} {x : Ext3} (hj : j < l.length) (hx : l[j] = x) (hp : placeL l j = some t) (hk : k < x.2.2.toNat) (hu : placeK t x.1.toNat x.2.1.toNat k = some u) (hb : u.getD (x.1.toNat + k) 0 ≠ 0 ∨ ((x.2.1.toNat + k : Nat) : Int) ∈ u) : placeL l l.length = none := by
  have h1 : placeK t x.1.toNat x.2.1.toNat (k + 1) = none := by
    show (match placeK t x.1.toNat x.2.1.toNat k with | none => none | some u => _) = none
    rw [hu]
    exact if_pos hb
  have h2 := placeK_none h1 hk
  have h3 : placeL l (j + 1) = none := by rw [placeL_step hj hp, hx]; exact h2
  exact placeL_none h3 hj
theorem place_good {t u : List Int} {f d k : Nat} (hu : placeK t f d k = some u) (h1 : u.getD (f + k) 0 = 0) (h2 : ¬ ((d + k : Nat) : Int) ∈ u) : placeK t f d (k + 1) = some (u.set (f + k) ((d + k : Nat) : Int)) := by
  show (match placeK t f d k with | none => none | some u => _) = _
  rw [hu]
  exact if_neg (fun h => h.elim (fun h => h h1) h2)
theorem zero_cells : Try.zeroCells132 = (tb zeroT).toArray := by kernel_rfl
set_option maxRecDepth 100000 in
set_option maxHeartbeats 16000000 in
theorem ofX_any (p : Option Addr) (cap : Nat) (l : List Ext3) (w : World) (hrd : RdS w.heap.size w p cap 3 xc l) :
    Calls Try.prog 74 #[.slice p l.length cap] w fun e w' => e = .returned (.tuple #[.agg (tb (tabOf l)).toArray, .bool (ofX l).isSome]) ∧ Below w.heap.size w w' := by
  have hlen := hrd.len
  obtain ⟨n, hn⟩ : ∃ n, l.length = n := ⟨_, rfl⟩
  have HR := Lib.hid hrd
  have HN := Lib.hid hn
  rw [hn] at hlen
  have hctn := fun V (hV : Below w.heap.size w V) => containsX_any p cap l V (hrd.onX hV)
  rw [hn] at hctn
  have HCT := Lib.hid hctn
  rw [hn]
  clear hrd hn hctn
  have hw1 := TabAt.new w 132 zeroT
  rw [← zero_cells] at hw1
  have hb1 := below_allocX w (.cells Try.zeroCells132 132)
  obtain ⟨w1, hW1⟩ : ∃ w1, w.alloc (.cells Try.zeroCells132 132) = w1 := ⟨_, rfl⟩
  obtain ⟨T, hT⟩ : ∃ T, w.heap.size = T := ⟨_, rfl⟩
  rw [hW1, hT] at hw1
  rw [hW1] at hb1
  have hs1 : w1.heap.size = T + 1 := by rw [← hW1, ← hT]; simp
  have hq2 := QAtD.made w1
  rw [hs1] at hq2
  have hb2 := below_allocX w1 (.map #[] 0)
  obtain ⟨w2, hW2⟩ : ∃ w2, w1.alloc (.map #[] 0) = w2 := ⟨_, rfl⟩
  rw [hW2] at hq2 hb2
  have HW := Lib.hid (And.intro hW1 (And.intro hT (And.intro hW2 hs1)))
  have H2 : Hid (TabAt w2 T 132 zeroT ∧ QAtD w2 (T + 1) (devF zeroT) ∧ Below w.heap.size w w2 ∧ T + 2 ≤ w2.heap.size) := Lib.hid ⟨hw1.below hb2, by rw [devF_zero]; exact hq2, hb1.trans (hb2.mono hb1.size), by rw [← hW2]; simp [hs1]⟩
  clear hw1 hb1 hW1 hT hq2 hb2 hW2 hs1
  have hmm := @run_makeMap Try.prog
  go_enter Try.func74, Try.ntmps74
  go_upto_region 1 with fail
  rw [HW.out.1, HW.out.2.1]
  refine wp_scope_jumps 0 (fun a' w' => (∃ u0 u1 u3 u4 u5 u6 u7 u8 u9 u10 u11 u12 u13 u14 u15 u16 u17 u18 u19 u20 u21 u22 u23 u24 u25 u26 u27 u28 u29 u30 u31 u32 u33 u34 u35 u36 u37 u38 u39 u40 u41 u42 u43 u44 u45 u46 u47 u48 u49 u50 u51 u52 u53 u54 u55 u56 u57 u58 u59 u60 u61 u62 u63 : Value, a' = { tmps := #[u0, u1, .pointer (some ⟨T, 0, none⟩), u3, u4, u5, u6, u7, u8, u9, u10, u11, u12, u13, u14, u15, u16, u17, u18, u19, u20, u21, u22, u23, u24, u25, u26, u27, u28, u29, u30, u31, u32, u33, u34, u35, u36, u37, u38, u39, u40, u41, u42, u43, u44, u45, u46, u47, u48, u49, u50, u51, u52, u53, u54, u55, u56, u57, u58, u59, u60, u61, u62, u63], defers := [] }) ∧ ofX l = none ∧ (∃ t : List Int, t.length = 128 ∧ TabAt w' T 132 t) ∧ Below w.heap.size w w') (fun _ _ => 0) rfl ?first ?pass
  case pass =>
    rintro a' w' ⟨⟨u0, u1, u3, u4, u5, u6, u7, u8, u9, u10, u11, u12, u13, u14, u15, u16, u17, u18, u19, u20, u21, u22, u23, u24, u25, u26, u27, u28, u29, u30, u31, u32, u33, u34, u35, u36, u37, u38, u39, u40, u41, u42, u43, u44, u45, u46, u47, u48, u49, u50, u51, u52, u53, u54, u55, u56, u57, u58, u59, u60, u61, u62, u63, rfl⟩, ho, ⟨t, hl, ht⟩, hb⟩
    have HZ := Lib.hid (And.intro ho (And.intro hl (And.intro ht hb)))
    have hTw := Lib.hid (show w.heap.size ≤ T from Nat.le_of_eq HW.out.2.1)
    clear ho hb
    go_wp2_with (refine wpList_store_mid rfl 132 (.tmp 2) (.tmp 63) rfl T 0 Try.zeroCells132 rfl rfl (by rw [zero_cells]; simpa [tb_len, zeroT, hl] using ht.there) (by kernel_rfl) (by rw [zero_cells]; exact all_oneCell_toArray (tb_one _)) ?_)
    simp only [Exit.jump]
    rw [zero_cells]
    have htz := HZ.out.2.2.1.sets zeroT (by rw [HZ.out.2.1]; rfl)
    have hbz : Below w.heap.size w (w'.setCells T 0 (tb zeroT)) := HZ.out.2.2.2.trans ((setCellsX_frn _ _ _).below HZ.out.2.2.2.size (fun b e => by have := hTw.out; omega))
    refine bodyPost_ret (results_ct rfl _ _ rfl (run_loadVar_mid _ T 0 132 (tb (zeroT)) (.array 128 3) htz.range (by kernel_rfl) rfl (by rw [tb_len, zeroT_ok.len]; kernel_rfl)) rfl) rfl ?_
    exact ⟨by unfold tabOf; rw [HZ.out.1]; rfl, hbz⟩
  case first =>
    by_cases h10 : 10 < n
    · have d1 : decide (10 < (n : Int)) = true := decide_eq_true (by omega)
      have HNO := Lib.hid (of_long (l := l) (by rw [HN.out]; exact h10))
      clear h10
      go_wp2_with fail
      rw [HW.out.2.2.1]
      apply wp_goto
      go_wp2_with fail
      simp only [Exit.jump]
      exact ⟨trivial, ⟨_, _, _, _, _, _, _, _, _, _, _, _, _, _, _, _, _, _, _, _, _, _, _, _, _, _, _, _, _, _, _, _, _, _, _, _, _, _, _, _, _, _, _, _, _, _, _, _, _, _, _, _, _, _, _, _, _, _, _, _, _, _, _, rfl⟩, HNO.out, ⟨_, rfl, H2.out.1⟩, H2.out.2.2.1⟩
    · have d1 : decide (10 < (n : Int)) = false := decide_eq_false (by omega)
      have H10 := Lib.hid h10
      go_wp2_with fail
      rw [HW.out.2.2.1, HW.out.2.2.2]
      refine (HCT.out w2 H2.out.2.2.1).mono ?_
      rintro e w3 ⟨rfl, hb3⟩
      have H3 : Hid (TabAt w3 T 132 zeroT ∧ QAtD w3 (T + 1) (devF zeroT) ∧ Below w.heap.size w w3 ∧ T + 2 ≤ w3.heap.size) := Lib.hid ⟨H2.out.1.below hb3, H2.out.2.1.keep (hb3.block _ H2.out.2.1.lt), H2.out.2.2.1.trans (hb3.mono H2.out.2.2.1.size), Nat.le_trans H2.out.2.2.2 hb3.size⟩
      clear hb3
      by_cases hall : l.all rightX = true
      · rw [hall]
        have HALL := Lib.hid hall
        clear hall h10
        have HAR : Hid (∀ x ∈ l, rightX x = true) := Lib.hid (List.all_eq_true.1 HALL.out)
        go_wp2_with fail
        go_loopw [18] (fun i wr => ∃ (j : Nat) (t : List Int), j ≤ n ∧ i = .int .i64 j ∧ placeL l j = some t ∧ TabAt wr T 132 t ∧ QAtD wr (T + 1) (devF t) ∧ Below w.heap.size w wr ∧ T + 2 ≤ wr.heap.size) (fun i _ => n - (intOf i).toNat)
        case atStart => exact ⟨0, zeroT, Nat.zero_le _, rfl, rfl, H3.out⟩
        case round =>
          clear H3
          obtain ⟨j, t, hj, rfl, hpl, hta, hqa, hb, hT2⟩ := hrel
          by_cases hlt : j < n
          · have hlt' : (j : Int) < (n : Int) := by omega
            have hjl : j < l.length := by rw [HN.out]; exact hlt
            obtain ⟨g, o, rfl, hg, hxc⟩ := (HR.out.onX hb).rowsX (Nat.le_refl _) j hjl
            obtain ⟨x, hx⟩ : ∃ x, l[j] = x := ⟨_, rfl⟩
            have hxr := (right_iff x).1 (HAR.out x (hx ▸ List.getElem_mem hjl))
            rw [hx] at hxc
            obtain ⟨f, d, m⟩ := x
            simp only at hxc hxr
            obtain ⟨F, rfl⟩ : ∃ F : Nat, f = F := ⟨f.toNat, by omega⟩
            obtain ⟨D, rfl⟩ : ∃ D : Nat, d = D := ⟨d.toNat, by omega⟩
            obtain ⟨Mm, rfl⟩ : ∃ Mm : Nat, m = Mm := ⟨m.toNat, by omega⟩
            have hx0 : F + Mm ≤ 128 ∧ 1 ≤ D ∧ D + Mm ≤ 2048 := by omega
            have hok := placeL_ok HAR.out j (by omega) t hpl
            obtain ⟨a0, a1, a2, hgw⟩ := hxc
            have hxn := XCells.new wr (F : Int) (D : Int) (Mm : Int) 81
            have hb6 := below_allocX wr (.cells #[.int .i64 (F : Int), .int .i64 (D : Int), .int .i64 (Mm : Int)] 81)
            obtain ⟨X, hX⟩ : ∃ X, wr.heap.size = X := ⟨_, rfl⟩
            obtain ⟨w6, hw6⟩ : ∃ w6, wr.alloc (.cells #[.int .i64 (F : Int), .int .i64 (D : Int), .int .i64 (Mm : Int)] 81) = w6 := ⟨_, rfl⟩
            rw [hw6, hX] at hxn
            rw [hw6] at hb6
            have HX6 := Lib.hid (And.intro hX hw6)
            have HJL := Lib.hid hjl
            have HJ := Lib.hid (And.intro (show ∀ h : j < l.length, l[j]'h = ((F : Int), (D : Int), (Mm : Int)) from fun _ => hx) (And.intro hpl (And.intro hok hx0)))
            have H6 : Hid (TabAt w6 T 132 t ∧ QAtD w6 (T + 1) (devF t) ∧ XCells w6 X 0 F D Mm ∧ Below w.heap.size w w6 ∧ T + 2 ≤ X) := Lib.hid ⟨hta.below hb6, hqa.keep (hb6.block _ hqa.lt), hxn, hb.trans (hb6.mono hb.size), by omega⟩
            have hM8 : (Mm : Int) ≤ 128 := by omega
            clear hxr hx hpl hok hta hqa hb hT2 hxn hb6 hX hw6 hjl hg
            go_upto_region 6 with fail
            rw [HX6.out.1, HX6.out.2]
            have m0 := H6.out.2.2.1.c2
            rw [Nat.zero_add] at m0
            clear a0 a1 a2 hgw
            go_wp2_with fail
            clear m0
            go_loopw [24] (fun i wr => ∃ (k : Nat) (u : List Int), k ≤ Mm ∧ i = .int .i64 k ∧ placeK t F D k = some u ∧ TabAt wr T 132 u ∧ QAtD wr (T + 1) (devF u) ∧ XCells wr X 0 F D Mm ∧ Below w.heap.size w wr) (fun i _ => Mm - (intOf i).toNat)
            case atStart => exact ⟨0, t, Nat.zero_le _, rfl, rfl, H6.out.1, H6.out.2.1, H6.out.2.2.1, H6.out.2.2.2.1⟩
            case round =>
              obtain ⟨k, u, hk, rfl, hpk, hta, hqa, hxc, hb⟩ := hrel
              by_cases hltk : k < Mm
              · have hltk' : (k : Int) < (Mm : Int) := by omega
                have hou := placeK_ok HJ.out.2.2.1 (f := F) (d := D) (m := Mm) hx0.1 hx0.2.2 k (by omega) u hpk
                have hFk : F + k < u.length := by rw [hou.len]; omega
                obtain ⟨A, hA⟩ : ∃ A, F + k = A := ⟨_, rfl⟩
                obtain ⟨E, hE⟩ : ∃ E, D + k = E := ⟨_, rfl⟩
                have hw1 : IntKind.i64.wrap ((F : Int) + (k : Int)) = (A : Int) := by rw [IntKind.wrap_i64]; omega
                have hw2 : IntKind.i64.wrap ((D : Int) + (k : Int)) = (E : Int) := by rw [IntKind.wrap_i64]; omega
                rw [hA] at hFk
                obtain ⟨a, ha⟩ : ∃ a, u[A] = a := ⟨_, rfl⟩
                have hgd : u.getD A 0 = a := by rw [List.getD_eq_getElem?_getD, List.getElem?_eq_getElem hFk]; exact ha
                obtain ⟨tc, tf⟩ := hta.cell A hFk
                rw [ha] at tc
                obtain ⟨x0, x1, x2, hXl⟩ := hxc
                rw [Nat.zero_add] at x1 x2
                have hA1 : (A : Int) < 128 := by omega
                have hA0 : (0 : Int) ≤ (A : Int) := by omega
                have HK := Lib.hid (And.intro hpk (And.intro hou (And.intro hA (And.intro hE hgd))))
                have HS := Lib.hid (And.intro hta (And.intro hqa hb))
                have HFK := Lib.hid hFk
                have hXT : X ≠ T := by have := H6.out.2.2.2.2; omega
                clear hpk hou hA hE hgd hta hqa hb ha hFk hx0
                by_cases ha0 : a = 0
                · have ba : (a != 0) = false := by rw [ha0]; rfl
                  have ba2 : (a == 0) = true := by rw [ha0]; rfl
                  obtain ⟨es, clk, hqr, hqf⟩ := HS.out.2.1
                  have hlook := q_lookD (P := Try.prog) (T := 150) (K := 3) (E := 3) (by kernel_rfl) (by kernel_rfl) hqr E (z := 0) (fun _ => by kernel_rfl)
                  rw [hqf] at hlook
                  by_cases hd : (E : Int) ∈ u
                  · have hv : (devF u E).getD 0 = 1 := by unfold devF; rw [if_pos ⟨by have := HK.out.2.2.2.1; have := HJ.out.2.2.2; omega, hd⟩]; rfl
                    rw [hv] at hlook
                    have HNO : Hid (ofX l = none) := Lib.hid (of_none (place_bad HJL.out (HJ.out.1 HJL.out) HJ.out.2.1 (k := k) (u := u) (by simpa using hltk) (by simpa using HK.out.1) (.inr (by simp only [Int.toNat_natCast]; rw [HK.out.2.2.2.1]; exact hd))))
                    clear hv hqr hqf hd
                    go_wp2_with fail
                    apply wp_goto
                    go_wp2_with fail
                    simp only [Exit.jump]
                    exact ⟨trivial, ⟨_, _, _, _, _, _, _, _, _, _, _, _, _, _, _, _, _, _, _, _, _, _, _, _, _, _, _, _, _, _, _, _, _, _, _, _, _, _, _, _, _, _, _, _, _, _, _, _, _, _, _, _, _, _, _, _, _, _, _, _, _, _, _, rfl⟩, HNO.out, ⟨_, HK.out.2.1.len, HS.out.1⟩, HS.out.2.2⟩
                  · have hv : (devF u E).getD 0 = 0 := by unfold devF; rw [if_neg (fun h => hd h.2)]; rfl
                    rw [hv] at hlook
                    have HG : Hid (placeK t F D (k + 1) = some (u.set A (E : Int)) ∧ devF (u.set A (E : Int)) = fun x => if x = E then some 1 else devF u x) := Lib.hid ⟨by have h9 := place_good HK.out.1 (by rw [HK.out.2.2.1, HK.out.2.2.2.2]; exact ha0) (by rw [HK.out.2.2.2.1]; exact hd); rwa [HK.out.2.2.1, HK.out.2.2.2.1] at h9, (devF_set HFK.out (by rw [HK.out.2.2.2.2]; exact ha0) (by have := HK.out.2.2.2.1; have := HJ.out.2.2.2; omega)).symm⟩
                    clear hv hqr hqf hd
                    have ht9 := HS.out.1.set A (E : Int)
                    have hf9 : Frn (fun b => b = T) wr (wr.setCell ⟨T, A, none⟩ (.int .i64 (E : Int))) := Frn.setCell (T := fun b => b = T) (Frn.refl _ wr) ⟨T, A, none⟩ (.inl rfl) _
                    have hq9 := HS.out.2.1.keep (hf9.block (T + 1) HS.out.2.1.lt (by omega))
                    obtain ⟨w9, hput, hq10, hf10, hs10⟩ := q_putD (P := Try.prog) (T := 150) (K := 3) (E := 3) (by kernel_rfl) (by kernel_rfl) (W := (wr.setCell ⟨T, A, none⟩ (.int .i64 (E : Int))).drew) (f := devF u) hq9 E 1
                    rw [← HG.out.2] at hq10
                    have H9 : Hid (TabAt w9 T 132 (u.set A (E : Int)) ∧ QAtD w9 (T + 1) (devF (u.set A (E : Int))) ∧ XCells w9 X 0 F D Mm ∧ Below w.heap.size w w9) := Lib.hid (by
                      have hTl := HS.out.1.lt
                      have hb9 : Below w.heap.size w (wr.setCell ⟨T, A, none⟩ (.int .i64 (E : Int))) := HS.out.2.2.trans (hf9.below HS.out.2.2.size (fun b e => by have := HW.out.2.1; omega))
                      refine ⟨ht9.keep (hf10.block T (Nat.lt_of_lt_of_le hTl hf9.size) (by omega)), hq10, ?_, hb9.drew.trans (hf10.below hb9.size (fun b e => by have := HW.out.2.1; omega))⟩
                      have e9 : w9.heap[X]? = wr.heap[X]? := (hf10.block X (Nat.lt_of_lt_of_le hXl hf9.size) (by have := H6.out.2.2.2.2; omega)).trans (hf9.block X hXl (by have := H6.out.2.2.2.2; omega))
                      exact ⟨(World.cell?_of_block (w := wr) (a := ⟨X, 0, none⟩) e9).trans x0, (World.cell?_of_block (w := wr) (a := ⟨X, 1, none⟩) e9).trans x1, (World.cell?_of_block (w := wr) (a := ⟨X, 2, none⟩) e9).trans x2, Nat.lt_of_lt_of_le hXl (Nat.le_trans hf9.size (Nat.le_of_eq hs10.symm))⟩)
                    have HXL := Lib.hid hXl
                    clear ht9 hq9 hq10 hf10 hs10 hXl
                    go_upto_region 10 with fail
                    refine wp_region_noPanic ?_
                    refine wp_region_FP (fun kx w' => (kx = 14 ∨ kx = 15) → (w'.cell? ⟨X, 0, none⟩ = some (.int .i64 F) ∧ w'.cell? ⟨X, 1, none⟩ = some (.int .i64 D))) (by kernel_rfl) (fun kx => fun _ => ⟨x0, x1⟩) ?_
                    intro hTill
                    clear hTill
                    have hall : ∀ kx : Nat, (fun kx w' => (kx = 14 ∨ kx = 15) → (w'.cell? ⟨X, 0, none⟩ = some (.int .i64 F) ∧ w'.cell? ⟨X, 1, none⟩ = some (.int .i64 D))) kx wr.drew := fun kx => fun _ => ⟨x0, x1⟩
                    refine' wpAnyFP_take (i := 0) (v := _) 14 rfl (by kernel_rfl) (by kernel_rfl) (by kernel_rfl) (by kernel_rfl) (by rfl) (by rfl) (fun _ _ _ h => h) (fun _ h => absurd h (by decide)) (Or.inl ⟨by rfl, ?hy⟩) (fun kx _ => hall kx) _
                    case hy => (intro w0 hC; replace hC := hC (.inl rfl); (try dsimp only at hC); simp only [List.getElem_toArray, List.getElem_cons_zero]; go_simp; first | done | with_reducible rfl)
                    try simp only [Act.put, List.getElem_toArray, List.getElem_cons_zero, List.setIfInBounds_toArray, List.set_cons_zero, List.set_cons_succ]
                    refine' wpAnyFP_take (i := 1) (v := _) 14 rfl (by kernel_rfl) (by kernel_rfl) (by kernel_rfl) (by kernel_rfl) (by rfl) (by rfl) (fun _ _ _ h => h) (fun _ h => absurd h (by decide)) (Or.inl ⟨by rfl, ?hy⟩) (fun kx _ => hall kx) _
                    case hy => (intro w0 hC; replace hC := hC (.inl rfl); (try dsimp only at hC); simp only [List.getElem_toArray, List.getElem_cons_zero, List.getElem_cons_succ]; go_simp; first | done | with_reducible rfl)
                    try simp only [Act.put, List.getElem_toArray, List.getElem_cons_zero, List.getElem_cons_succ, List.setIfInBounds_toArray, List.set_cons_zero, List.set_cons_succ]
                    refine' wpAnyFP_take (i := 2) (v := _) 14 rfl (by kernel_rfl) (by kernel_rfl) (by kernel_rfl) (by kernel_rfl) (by rfl) (by rfl) (fun _ _ _ h => h) (fun _ h => absurd h (by decide)) (Or.inl ⟨by rfl, ?hy⟩) (fun kx _ => hall kx) _
                    case hy => (intro w0 hC; replace hC := hC (.inl rfl); (try dsimp only at hC); simp only [List.getElem_toArray, List.getElem_cons_zero, List.getElem_cons_succ]; go_simp; first | done | with_reducible rfl)
                    try simp only [Act.put, List.getElem_toArray, List.getElem_cons_zero, List.getElem_cons_succ, List.setIfInBounds_toArray, List.set_cons_zero, List.set_cons_succ]
                    refine' wpAnyFP_take (i := 3) (v := _) 14 rfl (by kernel_rfl) (by kernel_rfl) (by kernel_rfl) (by kernel_rfl) (by rfl) (by rfl) (fun _ _ _ h => h) (fun _ h => absurd h (by decide)) (Or.inl ⟨by rfl, ?hy⟩) (fun kx _ => hall kx) _
                    case hy => (intro w0 hC; replace hC := hC (.inl rfl); (try dsimp only at hC); simp only [List.getElem_toArray, List.getElem_cons_zero, List.getElem_cons_succ]; go_simp; first | done | with_reducible rfl)
                    try simp only [Act.put, List.getElem_toArray, List.getElem_cons_zero, List.getElem_cons_succ, List.setIfInBounds_toArray, List.set_cons_zero, List.set_cons_succ]
                    refine' wpAnyFP_take (i := 4) (v := _) 15 rfl (by kernel_rfl) (by kernel_rfl) (by kernel_rfl) (by kernel_rfl) (by rfl) (by rfl) (fun _ _ _ h => h) (fun _ h => absurd h (by decide)) (Or.inl ⟨by rfl, ?hy⟩) (fun kx _ => hall kx) _
                    case hy => (intro w0 hC; replace hC := hC (.inr rfl); (try dsimp only at hC); simp only [List.getElem_toArray, List.getElem_cons_zero, List.getElem_cons_succ]; go_simp; first | done | with_reducible rfl)
                    try simp only [Act.put, List.getElem_toArray, List.getElem_cons_zero, List.getElem_cons_succ, List.setIfInBounds_toArray, List.set_cons_zero, List.set_cons_succ]
                    refine' wpAnyFP_take (i := 5) (v := _) 15 rfl (by kernel_rfl) (by kernel_rfl) (by kernel_rfl) (by kernel_rfl) (by rfl) (by rfl) (fun _ _ _ h => h) (fun _ h => absurd h (by decide)) (Or.inl ⟨by rfl, ?hy⟩) (fun kx _ => hall kx) _
                    case hy => (intro w0 hC; replace hC := hC (.inr rfl); (try dsimp only at hC); simp only [List.getElem_toArray, List.getElem_cons_zero, List.getElem_cons_succ]; go_simp; first | done | with_reducible rfl)
                    try simp only [Act.put, List.getElem_toArray, List.getElem_cons_zero, List.getElem_cons_succ, List.setIfInBounds_toArray, List.set_cons_zero, List.set_cons_succ]
                    refine' wpAnyFP_take (i := 6) (v := _) 15 rfl (by kernel_rfl) (by kernel_rfl) (by kernel_rfl) (by kernel_rfl) (by rfl) (by rfl) (fun _ _ _ h => h) (fun _ h => absurd h (by decide)) (Or.inl ⟨by rfl, ?hy⟩) (fun kx _ => hall kx) _
                    case hy => (intro w0 hC; replace hC := hC (.inr rfl); (try dsimp only at hC); simp only [List.getElem_toArray, List.getElem_cons_zero, List.getElem_cons_succ]; go_simp; first | done | with_reducible rfl)
                    try simp only [Act.put, List.getElem_toArray, List.getElem_cons_zero, List.getElem_cons_succ, List.setIfInBounds_toArray, List.set_cons_zero, List.set_cons_succ]
                    refine' wpAnyFP_take (i := 7) (v := _) 15 rfl (by kernel_rfl) (by kernel_rfl) (by kernel_rfl) (by kernel_rfl) (by rfl) (by rfl) (fun _ _ _ h => h) (fun _ h => absurd h (by decide)) (Or.inl ⟨by rfl, ?hy⟩) (fun kx _ => hall kx) _
                    case hy => (intro w0 hC; replace hC := hC (.inr rfl); (try dsimp only at hC); simp only [List.getElem_toArray, List.getElem_cons_zero, List.getElem_cons_succ]; go_simp; first | done | with_reducible rfl)
                    try simp only [Act.put, List.getElem_toArray, List.getElem_cons_zero, List.getElem_cons_succ, List.setIfInBounds_toArray, List.set_cons_zero, List.set_cons_succ]
                    refine' wpAnyFP_take (i := 8) (v := _) 15 rfl (by kernel_rfl) (by kernel_rfl) (by kernel_rfl) (by kernel_rfl) (by rfl) (by rfl) (fun _ _ _ h => h) (fun _ h => absurd h (by decide)) (Or.inl ⟨by rfl, ?hy⟩) (fun kx _ => hall kx) _
                    case hy => (intro w0 hC; replace hC := hC (.inr rfl); (try dsimp only at hC); simp only [List.getElem_toArray, List.getElem_cons_zero, List.getElem_cons_succ]; go_simp; first | done | with_reducible rfl)
                    try simp only [Act.put, List.getElem_toArray, List.getElem_cons_zero, List.getElem_cons_succ, List.setIfInBounds_toArray, List.set_cons_zero, List.set_cons_succ]
                    refine' wpAnyFP_take (i := 9) (v := _) 14 rfl (by kernel_rfl) (by kernel_rfl) (by kernel_rfl) (by kernel_rfl) (by rfl) (by rfl) (fun _ _ _ h => h) (fun _ h => absurd h (by decide)) (Or.inl ⟨by rfl, ?hy⟩) (fun kx _ => hall kx) _
                    case hy => (intro w0 hC; replace hC := hC (.inl rfl); (try dsimp only at hC); simp only [List.getElem_toArray, List.getElem_cons_zero, List.getElem_cons_succ]; go_simp; first | done | with_reducible rfl)
                    try simp only [Act.put, List.getElem_toArray, List.getElem_cons_zero, List.getElem_cons_succ, List.setIfInBounds_toArray, List.set_cons_zero, List.set_cons_succ]
                    refine' wpAnyFP_take (i := 10) (v := _) 14 rfl (by kernel_rfl) (by kernel_rfl) (by kernel_rfl) (by kernel_rfl) (by rfl) (by rfl) (fun _ _ _ h => h) (fun _ h => absurd h (by decide)) (Or.inl ⟨by rfl, ?hy⟩) (fun kx _ => hall kx) _
                    case hy => (intro w0 hC; replace hC := hC (.inl rfl); (try dsimp only at hC); simp only [List.getElem_toArray, List.getElem_cons_zero, List.getElem_cons_succ]; go_simp; first | done | with_reducible rfl)
                    try simp only [Act.put, List.getElem_toArray, List.getElem_cons_zero, List.getElem_cons_succ, List.setIfInBounds_toArray, List.set_cons_zero, List.set_cons_succ]
                    refine' wpAnyFP_take (i := 11) (v := _) 14 rfl (by kernel_rfl) (by kernel_rfl) (by kernel_rfl) (by kernel_rfl) (by rfl) (by rfl) (fun _ _ _ h => h) (fun _ h => absurd h (by decide)) (Or.inl ⟨by rfl, ?hy⟩) (fun kx _ => hall kx) _
                    case hy => (intro w0 hC; replace hC := hC (.inl rfl); (try dsimp only at hC); simp only [List.getElem_toArray, List.getElem_cons_zero, List.getElem_cons_succ]; go_simp; first | done | with_reducible rfl)
                    try simp only [Act.put, List.getElem_toArray, List.getElem_cons_zero, List.getElem_cons_succ, List.setIfInBounds_toArray, List.set_cons_zero, List.set_cons_succ]
                    refine' wpAnyFP_take (i := 12) (v := _) 14 rfl (by kernel_rfl) (by kernel_rfl) (by kernel_rfl) (by kernel_rfl) (by rfl) (by rfl) (fun _ _ _ h => h) (fun _ h => absurd h (by decide)) (Or.inl ⟨by rfl, ?hy⟩) (fun kx _ => hall kx) _
                    case hy => (intro w0 hC; replace hC := hC (.inl rfl); (try dsimp only at hC); simp only [List.getElem_toArray, List.getElem_cons_zero, List.getElem_cons_succ]; go_simp; first | done | with_reducible rfl)
                    try simp only [Act.put, List.getElem_toArray, List.getElem_cons_zero, List.getElem_cons_succ, List.setIfInBounds_toArray, List.set_cons_zero, List.set_cons_succ]
                    refine' wpAnyFP_take (i := 13) (v := _) 14 rfl (by kernel_rfl) (by kernel_rfl) (by kernel_rfl) (by kernel_rfl) (by rfl) (by rfl) (fun _ _ _ h => h) (fun _ h => absurd h (by decide)) (Or.inl ⟨by rfl, ?hy⟩) (fun kx _ => hall kx) _
                    case hy => (intro w0 hC; replace hC := hC (.inl rfl); (try dsimp only at hC); simp only [List.getElem_toArray, List.getElem_cons_zero, List.getElem_cons_succ]; go_simp; first | done | with_reducible rfl)
                    try simp only [Act.put, List.getElem_toArray, List.getElem_cons_zero, List.getElem_cons_succ, List.setIfInBounds_toArray, List.set_cons_zero, List.set_cons_succ]
                    refine wpAnyFP_one (i := 14) (by kernel_rfl) rfl ?_
                    intro K' hK
                    rw [if_pos (by kernel_rfl)]
                    go_simp
                    refine hK.out _ _ (fun kx hk _ => ⟨(World.cell?_of_block (w := wr) (a := ⟨X, 0, none⟩) (hf9.block X HXL.out hXT)).trans x0, (World.cell?_of_block (w := wr) (a := ⟨X, 1, none⟩) (hf9.block X HXL.out hXT)).trans x1⟩) ?_
                    clear hK K'
                    try simp only [Act.put, List.getElem_toArray, List.getElem_cons_zero, List.getElem_cons_succ, List.setIfInBounds_toArray, List.set_cons_zero, List.set_cons_succ]
                    refine wpAnyFP_one (i := 15) (by kernel_rfl) rfl ?_
                    intro K' hK
                    rw [if_pos (by kernel_rfl)]
                    go_simp
                    refine hK.out _ _ (fun kx hk h => h.elim (fun h => Bool.noConfusion (hk.symm.trans (by subst h; kernel_rfl : _ = true))) (fun h => Bool.noConfusion (hk.symm.trans (by subst h; kernel_rfl : _ = true)))) ?_
                    clear hK K'
                    try simp only [Act.put, List.getElem_toArray, List.getElem_cons_zero, List.getElem_cons_succ, List.setIfInBounds_toArray, List.set_cons_zero, List.set_cons_succ]
                    refine wpAnyFP_done (by kernel_rfl) ?_ _
                    refine NoPanic.normal ?_
                    clear x0 x1 x2 tc tf hput hlook hf9 hall
                    go_wp2_with fail
                    go_roundw
                    case rel => exact ⟨k + 1, _, hltk, by go_num, HG.out.1, H9.out⟩
                    case measure => simp [intOf]; omega
                · have ba : (a != 0) = true := by rw [bne_iff_ne]; exact ha0
                  have ba2 : (a == 0) = false := beq_eq_false_iff_ne.2 ha0
                  have HNO : Hid (ofX l = none) := Lib.hid (of_none (place_bad HJL.out (HJ.out.1 HJL.out) HJ.out.2.1 (k := k) (u := u) (by simpa using hltk) (by simpa using HK.out.1) (.inl (by simp only [Int.toNat_natCast]; rw [HK.out.2.2.1, HK.out.2.2.2.2]; exact ha0))))
                  clear ha0
                  go_wp2_with fail
                  apply wp_goto
                  go_wp2_with fail
                  simp only [Exit.jump]
                  exact ⟨trivial, ⟨_, _, _, _, _, _, _, _, _, _, _, _, _, _, _, _, _, _, _, _, _, _, _, _, _, _, _, _, _, _, _, _, _, _, _, _, _, _, _, _, _, _, _, _, _, _, _, _, _, _, _, _, _, _, _, _, _, _, _, _, _, _, _, rfl⟩, HNO.out, ⟨_, HK.out.2.1.len, HS.out.1⟩, HS.out.2.2⟩
              · obtain rfl : Mm = k := by omega
                have hnl : ¬ (Mm : Int) < (Mm : Int) := by omega
                have HPL : Hid (placeL l (j + 1) = some u) := Lib.hid (by rw [placeL_step HJL.out HJ.out.2.1, HJ.out.1 HJL.out]; simpa using hpk)
                have HS := Lib.hid (And.intro hta (And.intro hqa (And.intro hb (show T + 2 ≤ wr.heap.size by have := H6.out.2.2.2.2; have := hxc.lt; omega))))
                clear hpk hta hqa hxc hb hltk
                go_wp2_with fail
                go_roundw
                case rel => exact ⟨j + 1, u, hlt, by go_num, HPL.out, HS.out⟩
                case measure => simp [intOf]; omega
          · obtain rfl : n = j := by omega
            have hnl : ¬ (n : Int) < (n : Int) := by omega
            have hok := placeL_ok HAR.out n (by rw [HN.out]; exact Nat.le_refl _) t hpl
            have hof := of_some (l := l) (by rw [HN.out]; exact H10.out) HALL.out (by rw [HN.out]; exact hpl)
            have HLT := Lib.hid (listT_any wr hok hta)
            have HS := Lib.hid (And.intro hok (And.intro hta (And.intro hb hof)))
            clear hpl hok hta hqa hb hof hlt
            go_wp2_with fail
            refine HLT.out.mono ?_
            rintro e w7 ⟨p7, c7, rfl, hown, hfr, hb7⟩
            have heq := equalX_any p7 p c7 cap (listX t 128) l w7 (OwnG.rds xc_len hown) (HR.out.onX (HS.out.2.2.1.trans (hb7.mono HS.out.2.2.1.size)))
            rw [HN.out] at heq
            have HEQ := Lib.hid heq
            have H7 := Lib.hid (And.intro (HS.out.2.1.below hb7) (HS.out.2.2.1.trans (hb7.mono HS.out.2.2.1.size)))
            clear hown hfr hb7 heq HLT
            go_wp2_with fail
            refine HEQ.out.mono ?_
            rintro e w8 ⟨rfl, nq, rfl⟩
            have HE : Hid (TabOk t ∧ TabAt (w7.drewN nq) T 132 t ∧ Below w.heap.size w (w7.drewN nq)) := Lib.hid ⟨HS.out.1, H7.out.1, below_drewN H7.out.2 nq⟩
            have hTw := Lib.hid (show w.heap.size ≤ T from Nat.le_of_eq HW.out.2.1)
            obtain ⟨w8, hw8⟩ : ∃ w8, w7.drewN nq = w8 := ⟨_, rfl⟩
            rw [hw8] at HE
            rw [hw8]
            clear hw8 HEQ
            by_cases hsm : listX t 128 = l
            · have HO : Hid (ofX l = some t) := Lib.hid (by rw [HS.out.2.2.2, if_pos hsm])
              rw [decide_eq_true hsm]
              clear hsm
              go_wp2_with (first | (refine wpList_load_mid rfl 132 (.tmp 2) rfl T 0 rfl (tb t) (.array 128 3) HE.out.2.1.range (by kernel_rfl) rfl (by rw [tb_len, HE.out.1.len]; kernel_rfl) ?_) | (refine wpList_store_mid rfl 132 (.tmp 2) (.tmp 62) rfl T 0 (tb t).toArray rfl rfl (by simpa [tb_len] using HE.out.2.1.there) (by simp only [List.size_toArray, tb_len, HE.out.1.len]; kernel_rfl) (all_oneCell_toArray (tb_one _)) ?_))
              have htz := HE.out.2.1.sets t rfl
              have hbz : Below w.heap.size w (w8.setCells T 0 (tb t)) := HE.out.2.2.trans ((setCellsX_frn _ _ _).below HE.out.2.2.size (fun b e => by have := hTw.out; omega))
              (try simp only [Exit.jump])
              refine bodyPost_ret (results_ct rfl _ _ rfl (run_loadVar_mid _ T 0 132 (tb (t)) (.array 128 3) htz.range (by kernel_rfl) rfl (by rw [tb_len, HE.out.1.len]; kernel_rfl)) rfl) rfl ?_
              exact ⟨by unfold tabOf; rw [HO.out]; rfl, hbz⟩
            · have HO : Hid (ofX l = none) := Lib.hid (by rw [HS.out.2.2.2, if_neg hsm])
              rw [decide_eq_false hsm]
              clear hsm
              have hl := HE.out.1.len
              have ht := HE.out.2.1
              go_wp2_with fail
              refine wp_label ?_
              go_wp2_with (refine wpList_store_mid rfl 132 (.tmp 2) (.tmp 63) rfl T 0 Try.zeroCells132 rfl rfl (by rw [zero_cells]; simpa [tb_len, zeroT, hl] using ht.there) (by kernel_rfl) (by rw [zero_cells]; exact all_oneCell_toArray (tb_one _)) ?_)
              (try simp only [Exit.jump])
              rw [zero_cells]
              have htz := HE.out.2.1.sets zeroT (by rw [HE.out.1.len]; rfl)
              have hbz : Below w.heap.size w (w8.setCells T 0 (tb zeroT)) := HE.out.2.2.trans ((setCellsX_frn _ _ _).below HE.out.2.2.size (fun b e => by have := hTw.out; omega))
              refine bodyPost_ret (results_ct rfl _ _ rfl (run_loadVar_mid _ T 0 132 (tb (zeroT)) (.array 128 3) htz.range (by kernel_rfl) rfl (by rw [tb_len, zeroT_ok.len]; kernel_rfl)) rfl) rfl ?_
              exact ⟨by unfold tabOf; rw [HO.out]; rfl, hbz⟩
      · rw [Bool.not_eq_true] at hall
        rw [hall]
        have HNO := Lib.hid (of_wrong hall)
        clear hall h10
        go_wp2_with fail
        apply wp_goto
        go_wp2_with fail
        simp only [Exit.jump]
        exact ⟨trivial, ⟨_, _, _, _, _, _, _, _, _, _, _, _, _, _, _, _, _, _, _, _, _, _, _, _, _, _, _, _, _, _, _, _, _, _, _, _, _, _, _, _, _, _, _, _, _, _, _, _, _, _, _, _, _, _, _, _, _, _, _, _, _, _, _, rfl⟩, HNO.out, ⟨_, rfl, H3.out.1⟩, H3.out.2.2.1⟩
end Go.Proofs.Ytenmogokbelahaa
