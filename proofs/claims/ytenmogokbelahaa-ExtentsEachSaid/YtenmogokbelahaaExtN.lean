/- The walks of extents: word, Words. -/
import Derived.Test.YtenmogokbelahaaExtI
import Derived.Test.YtenmogokbelahaaExtWord
import Derived.Test.YtenmogokbelahaaWordsC
namespace Go.Proofs.Ytenmogokbelahaa
open Go Go.RowKit

set_option maxRecDepth 100000 in
set_option maxHeartbeats 8000000 in
theorem wordE_any {Y F D M : Nat} (w : World) (hr : rightX ((F : Int), (D : Int), (M : Int)) = true) (h0 : w.cell? ⟨Y, 0, none⟩ = some (.int .i64 16)) (h1 : w.cell? ⟨Y, 1, none⟩ = some (.int .i64 F)) (h2 : w.cell? ⟨Y, 2, none⟩ = some (.int .i64 24)) (h3 : w.cell? ⟨Y, 3, none⟩ = some (.int .i64 D)) (h4 : w.cell? ⟨Y, 4, none⟩ = some (.int .i64 16)) (h5 : w.cell? ⟨Y, 5, none⟩ = some (.int .i64 M)) (hY : Y < w.heap.size) :
    Calls Try.prog 85 #[.slice (some ⟨Y, 0, none⟩) 3 3] w fun e w' => e = .returned (vw (wordX ((F : Int), (D : Int), (M : Int)))) ∧ Below w.heap.size w w' := by
  have hx := (right_iff _).1 hr
  simp only at hx
  have hw := with_word hr
  simp only [Int.toNat_natCast] at hw
  obtain ⟨W1, hW1⟩ : ∃ W, withW 0#64 0 16 (BitVec.ofNat 64 F) = W := ⟨_, rfl⟩
  rw [hW1] at hw
  obtain ⟨W2, hW2⟩ : ∃ W, withW W1 16 24 (BitVec.ofNat 64 D) = W := ⟨_, rfl⟩
  rw [hW2] at hw
  have n1 := num64 F (by omega)
  have n2 := num64 D (by omega)
  have n3 := num64 M (by omega)
  have HC1 : Hid (∀ V, Calls Try.prog 103 #[.int .u64 0, .int .i64 0, .int .i64 16, .int .u64 F] V fun e w' => e = .returned (.tuple #[.int .u64 F, .int .i64 0]) ∧ ∃ n, V.drewN n = w') := Lib.hid (fun V => by have h := withIn_any 0#64 (BitVec.ofNat 64 F) 0 16 V (by decide) (by decide) (by rw [n1]; omega); unfold vw at h; rw [hW1, hw.1, n1] at h; exact h)
  have HC2 : Hid (∀ V, Calls Try.prog 103 #[.int .u64 F, .int .i64 16, .int .i64 24, .int .u64 D] V fun e w' => e = .returned (.tuple #[.int .u64 ((F + D * 65536 : Nat) : Int), .int .i64 0]) ∧ ∃ n, V.drewN n = w') := Lib.hid (fun V => by have h := withIn_any W1 (BitVec.ofNat 64 D) 16 24 V (by decide) (by decide) (by rw [n2]; omega); unfold vw at h; rw [hW2, hw.1, hw.2.1, n2] at h; exact h)
  have HC3 : Hid (∀ V, Calls Try.prog 103 #[.int .u64 ((F + D * 65536 : Nat) : Int), .int .i64 40, .int .i64 16, .int .u64 M] V fun e w' => e = .returned (.tuple #[vw (wordX ((F : Int), (D : Int), (M : Int))), .int .i64 0]) ∧ ∃ n, V.drewN n = w') := Lib.hid (fun V => by have h := withIn_any W2 (BitVec.ofNat 64 M) 40 16 V (by decide) (by decide) (by rw [n3]; omega); rw [hw.2.2] at h; unfold vw at h ⊢; rw [hw.2.1, n3] at h; exact h)
  have hu1 : IntKind.u64.wrap (F : Int) = (F : Int) := wrap64_nat F (by omega)
  have hu2 : IntKind.u64.wrap (D : Int) = (D : Int) := wrap64_nat D (by omega)
  have hu3 : IntKind.u64.wrap (M : Int) = (M : Int) := wrap64_nat M (by omega)
  obtain ⟨WX, hWX⟩ : ∃ WX, wordX ((F : Int), (D : Int), (M : Int)) = WX := ⟨_, rfl⟩
  rw [hWX] at HC3 ⊢
  obtain ⟨WN, hWN⟩ : ∃ WN : Int, (WX.toNat : Int) = WN := ⟨_, rfl⟩
  have hvw : vw WX = .int .u64 WN := by unfold vw; rw [hWN]
  rw [hvw] at HC3 ⊢
  obtain ⟨FD, hFD⟩ : ∃ FD : Int, ((F + D * 65536 : Nat) : Int) = FD := ⟨_, rfl⟩
  rw [hFD] at HC2 HC3
  clear hx hw hW1 hW2 n1 n2 n3 hr hWX hWN hvw hFD
  go_enter Try.func85, Try.ntmps85
  go_wp2_with fail
  refine wp_loop_rounds 4 ?_
  rw [rounds_succ]
  go_wp2_with fail
  refine (HC1.out _).mono ?_
  rintro e w1 ⟨rfl, n1, rfl⟩
  go_wp2_with fail
  obtain ⟨V1, hV1⟩ : ∃ V, ((w.alloc (.cells #[.int .i64 16, .int .i64 F] 142)).drewN n1) = V := ⟨_, rfl⟩
  rw [hV1]
  have hb1 : Below w.heap.size w V1 := by rw [← hV1]; exact below_drewN (below_allocX w _) n1
  replace h0 := (hb1.cell (p := ⟨Y, 0, none⟩) hY).trans h0
  replace h1 := (hb1.cell (p := ⟨Y, 1, none⟩) hY).trans h1
  replace h2 := (hb1.cell (p := ⟨Y, 2, none⟩) hY).trans h2
  replace h3 := (hb1.cell (p := ⟨Y, 3, none⟩) hY).trans h3
  replace h4 := (hb1.cell (p := ⟨Y, 4, none⟩) hY).trans h4
  replace h5 := (hb1.cell (p := ⟨Y, 5, none⟩) hY).trans h5
  replace hY := Nat.lt_of_lt_of_le hY hb1.size
  have HB1 := Lib.hid hb1
  clear hV1 hb1 HC1
  rw [rounds_succ]
  go_wp2_with fail
  refine (HC2.out _).mono ?_
  rintro e w2 ⟨rfl, n2, rfl⟩
  go_wp2_with fail
  obtain ⟨V2, hV2⟩ : ∃ V, ((V1.alloc (.cells #[.int .i64 24, .int .i64 D] 142)).drewN n2) = V := ⟨_, rfl⟩
  rw [hV2]
  have hb2 : Below V1.heap.size V1 V2 := by rw [← hV2]; exact below_drewN (below_allocX V1 _) n2
  replace h0 := (hb2.cell (p := ⟨Y, 0, none⟩) hY).trans h0
  replace h1 := (hb2.cell (p := ⟨Y, 1, none⟩) hY).trans h1
  replace h2 := (hb2.cell (p := ⟨Y, 2, none⟩) hY).trans h2
  replace h3 := (hb2.cell (p := ⟨Y, 3, none⟩) hY).trans h3
  replace h4 := (hb2.cell (p := ⟨Y, 4, none⟩) hY).trans h4
  replace h5 := (hb2.cell (p := ⟨Y, 5, none⟩) hY).trans h5
  replace hY := Nat.lt_of_lt_of_le hY hb2.size
  have HB2 := Lib.hid (HB1.out.trans (hb2.mono HB1.out.size))
  clear hV2 hb2 HC2
  rw [rounds_succ]
  go_wp2_with fail
  refine (HC3.out _).mono ?_
  rintro e w3 ⟨rfl, n3, rfl⟩
  go_wp2_with fail
  obtain ⟨V3, hV3⟩ : ∃ V, ((V2.alloc (.cells #[.int .i64 16, .int .i64 M] 142)).drewN n3) = V := ⟨_, rfl⟩
  rw [hV3]
  have hb3 : Below V2.heap.size V2 V3 := by rw [← hV3]; exact below_drewN (below_allocX V2 _) n3
  replace h0 := (hb3.cell (p := ⟨Y, 0, none⟩) hY).trans h0
  replace h1 := (hb3.cell (p := ⟨Y, 1, none⟩) hY).trans h1
  replace h2 := (hb3.cell (p := ⟨Y, 2, none⟩) hY).trans h2
  replace h3 := (hb3.cell (p := ⟨Y, 3, none⟩) hY).trans h3
  replace h4 := (hb3.cell (p := ⟨Y, 4, none⟩) hY).trans h4
  replace h5 := (hb3.cell (p := ⟨Y, 5, none⟩) hY).trans h5
  replace hY := Nat.lt_of_lt_of_le hY hb3.size
  have HB3 := Lib.hid (HB2.out.trans (hb3.mono HB2.out.size))
  clear hV3 hb3 HC3
  rw [rounds_succ]
  go_wp2_with fail
  go_ret
  exact ⟨rfl, HB3.out⟩
/-- Ten words in a block. -/
def tw (ws : List (BitVec 64)) : List Value := ws.map vw
theorem tw_len (ws : List (BitVec 64)) : (tw ws).length = ws.length := by simp [tw]
theorem tw_one (ws : List (BitVec 64)) : ∀ v ∈ tw ws, v.oneCell' = true := by
  intro v hv
  obtain ⟨a, _, rfl⟩ := List.mem_map.1 hv
  rfl
def WrdAt (w : World) (B : Nat) (ws : List (BitVec 64)) : Prop := w.heap[B]? = some (.cells (tw ws).toArray 101 (0, 0))
section
variable {w w' : World} {B : Nat} {ws : List (BitVec 64)}
theorem WrdAt.lt (h : WrdAt w B ws) : B < w.heap.size := (Array.getElem?_eq_some_iff.1 h).1
theorem WrdAt.cell (h : WrdAt w B ws) (i : Nat) (hi : i < ws.length) : w.cell? ⟨B, i, none⟩ = some (vw ws[i]) ∧ w.frozen? ⟨B, i, none⟩ = false := by
  unfold WrdAt at h
  simp [World.cell?, World.frozen?, h, tw, hi]
theorem WrdAt.keep (h : WrdAt w B ws) (e : w'.heap[B]? = w.heap[B]?) : WrdAt w' B ws := e.trans h
theorem WrdAt.below (h : WrdAt w B ws) (hb : Below w.heap.size w w') : WrdAt w' B ws := h.keep (hb.block B h.lt)
theorem WrdAt.range (h : WrdAt w B ws) : w.rangeAt B 0 (tw ws) := fun j v hv => by
  unfold WrdAt at h
  simp [World.cell?, h, hv]
theorem WrdAt.there (h : WrdAt w B ws) : w.there B 0 ws.length := fun j hj => by
  have := h.cell j hj
  rw [Nat.zero_add]
  exact ⟨by rw [this.1]; rfl, this.2⟩
theorem WrdAt.set (h : WrdAt w B ws) (i : Nat) (a : BitVec 64) : WrdAt (w.setCell ⟨B, i, none⟩ (vw a)) B (ws.set i a) := by
  have := heap_setCell_same w B i _ _ (vw a) h
  unfold WrdAt tw
  rw [this, List.map_set]
  simp [tw]
theorem WrdAt.new (w : World) (ws : List (BitVec 64)) : WrdAt (w.alloc (.cells (tw ws).toArray 101)) w.heap.size ws := World.alloc_heap_new _ _
theorem WrdAt.sets (h : WrdAt w B ws) (ws' : List (BitVec 64)) (hl : ws.length = ws'.length) : WrdAt (w.setCells B 0 (tw ws')) B ws' := by
  have := setCells_block (g := B) (ty := 101) (tw ws') [] (tw ws) [] w (by rw [tw_len, tw_len, hl]) (by unfold WrdAt at h; simpa using h)
  unfold WrdAt
  simpa using this
end
def zero10 : List (BitVec 64) := List.replicate 10 0#64
theorem zero_cellsW : (#[.int .u64 0, .int .u64 0, .int .u64 0, .int .u64 0, .int .u64 0, .int .u64 0, .int .u64 0, .int .u64 0, .int .u64 0, .int .u64 0] : Array Value) = (tw zero10).toArray := by kernel_rfl
/-- The words of the first k extents. -/
def wordsTo (l : List Ext3) (k : Nat) : List (BitVec 64) := (List.range 10).map fun i => if i < k then (match l[i]? with | some x => wordX x | none => 0#64) else 0#64
theorem wordsTo_zero (l : List Ext3) : wordsTo l 0 = zero10 := by
  apply List.ext_getElem
  · simp [wordsTo, zero10]
  · intro i h1 h2
    simp only [wordsTo, List.getElem_map, List.getElem_range]
    rw [if_neg (Nat.not_lt_zero i)]
    exact (List.getElem_replicate _).symm
theorem wordsTo_len (l : List Ext3) (k : Nat) : (wordsTo l k).length = 10 := by simp [wordsTo]
theorem wordsTo_succ (l : List Ext3) (k : Nat) (hk : k < l.length) : wordsTo l (k + 1) = (wordsTo l k).set k (wordX l[k]) := by
  apply List.ext_getElem
  · simp [wordsTo]
  · intro i h1 h2
    simp only [wordsTo, List.getElem_set, List.getElem_map, List.getElem_range]
    by_cases e : k = i
    · subst e
      rw [if_pos (Nat.lt_succ_self k), if_pos rfl, List.getElem?_eq_getElem hk]
    · rw [if_neg e]
      by_cases h : i < k
      · rw [if_pos (by omega), if_pos h]
      · rw [if_neg (by omega), if_neg h]
theorem wordsTo_all (l : List Ext3) : wordsTo l l.length = wordsX l := by
  apply List.ext_getElem
  · simp [wordsTo, wordsX]
  · intro i h1 h2
    simp only [wordsTo, wordsX, List.getElem_map, List.getElem_range]
    by_cases h : i < l.length
    · rw [if_pos h]
      cases l[i]? <;> rfl
    · rw [if_neg h, List.getElem?_eq_none (by omega)]
theorem six_new (w : World) (c0 c1 c2 c3 c4 c5 : Value) (t : TypeId) : (w.alloc (.cells #[c0, c1, c2, c3, c4, c5] t)).cell? ⟨w.heap.size, 0, none⟩ = some c0 ∧ (w.alloc (.cells #[c0, c1, c2, c3, c4, c5] t)).cell? ⟨w.heap.size, 1, none⟩ = some c1 ∧ (w.alloc (.cells #[c0, c1, c2, c3, c4, c5] t)).cell? ⟨w.heap.size, 2, none⟩ = some c2 ∧
    (w.alloc (.cells #[c0, c1, c2, c3, c4, c5] t)).cell? ⟨w.heap.size, 3, none⟩ = some c3 ∧ (w.alloc (.cells #[c0, c1, c2, c3, c4, c5] t)).cell? ⟨w.heap.size, 4, none⟩ = some c4 ∧ (w.alloc (.cells #[c0, c1, c2, c3, c4, c5] t)).cell? ⟨w.heap.size, 5, none⟩ = some c5 := by
  refine ⟨?_, ?_, ?_, ?_, ?_, ?_⟩ <;> (rw [World.cell?, World.alloc_heap_new]; rfl)
def wordsR (l : List Ext3) : List (BitVec 64) × Int := if (ofX l).isSome = true then (wordsX l, 0) else (zero10, 2)
set_option maxRecDepth 100000 in
set_option maxHeartbeats 8000000 in
theorem wordsE_any (p : Option Addr) (cap : Nat) (l : List Ext3) (w : World) (hrd : RdS w.heap.size w p cap 3 xc l) :
    Calls Try.prog 50 #[.slice p l.length cap] w fun e w' => e = .returned (.tuple #[.agg (tw (wordsR l).1).toArray, .int .i64 (wordsR l).2]) ∧ Below w.heap.size w w' := by
  have hlen := hrd.len
  obtain ⟨n, hn⟩ : ∃ n, l.length = n := ⟨_, rfl⟩
  have HR := Lib.hid hrd
  have HN := Lib.hid hn
  rw [hn] at hlen
  have hck := fun V (hV : Below w.heap.size w V) => checkX_any p cap l V (hrd.onX hV)
  rw [hn] at hck
  rw [hn]
  clear hrd hn
  have hw1 := WrdAt.new w zero10
  rw [← zero_cellsW] at hw1
  have hb1 := below_allocX w (.cells #[.int .u64 0, .int .u64 0, .int .u64 0, .int .u64 0, .int .u64 0, .int .u64 0, .int .u64 0, .int .u64 0, .int .u64 0, .int .u64 0] 101)
  obtain ⟨w1, hW1⟩ : ∃ w1, w.alloc (.cells #[.int .u64 0, .int .u64 0, .int .u64 0, .int .u64 0, .int .u64 0, .int .u64 0, .int .u64 0, .int .u64 0, .int .u64 0, .int .u64 0] 101) = w1 := ⟨_, rfl⟩
  obtain ⟨T, hT⟩ : ∃ T, w.heap.size = T := ⟨_, rfl⟩
  rw [hW1, hT] at hw1
  rw [hW1] at hb1
  have HW := Lib.hid (And.intro hW1 hT)
  have H1 := Lib.hid (And.intro hw1 hb1)
  clear hW1 hT hw1 hb1
  have hz10 : zero10.length = 10 := rfl
  cases ho : ofX l with
  | none =>
    rw [ho] at hck
    have HCK := Lib.hid hck
    have HE : Hid (wordsR l = (zero10, 2)) := Lib.hid (by unfold wordsR; rw [ho]; rfl)
    clear hck ho
    go_enter Try.func50, Try.ntmps50
    go_upto_region 1 with fail
    rw [HW.out.1, HW.out.2]
    go_wp2_with fail
    refine (HCK.out w1 H1.out.2).mono ?_
    rintro e w2 ⟨rfl, hb2⟩
    have H2 : Hid (WrdAt w2 T zero10 ∧ Below w.heap.size w w2) := Lib.hid ⟨H1.out.1.below hb2, H1.out.2.trans (hb2.mono H1.out.2.size)⟩
    clear hb2
    go_wp2_with (first | (refine wpList_load_mid rfl 101 (.tmp 2) rfl T 0 rfl (tw (zero10)) (.array 10 23) H2.out.1.range (by kernel_rfl) rfl (by rw [tw_len, hz10]; kernel_rfl) ?_) | (refine wpList_store_mid rfl 101 (.tmp 2) (.tmp 10) rfl T 0 (tw (zero10)).toArray rfl rfl (by simpa [tw_len, hz10] using H2.out.1.there) (by simp only [List.size_toArray, tw_len, hz10]; kernel_rfl) (all_oneCell_toArray (tw_one _)) ?_))
    have htz := H2.out.1.sets (zero10) (hz10.trans hz10.symm)
    have hbz : Below w.heap.size w (w2.setCells T 0 (tw (zero10))) := H2.out.2.trans ((setCellsX_frn _ _ _).below H2.out.2.size (fun b e => by have := HW.out.2; omega))
    refine bodyPost_ret (results_ct rfl _ _ rfl (run_loadVar_mid _ T 0 101 (tw (zero10)) (.array 10 23) htz.range (by kernel_rfl) rfl (by rw [tw_len, hz10]; kernel_rfl)) rfl) rfl ?_
    exact ⟨by rw [HE.out]; rfl, hbz⟩
  | some t =>
    have hof := ofX_ok ho
    rw [ho] at hck
    have HCK := Lib.hid hck
    have HE : Hid (wordsR l = (wordsX l, 0)) := Lib.hid (by unfold wordsR; rw [ho]; rfl)
    have HOF := Lib.hid hof
    have hn10 : (n : Int) ≤ 10 := by have := hof.2.2.1; rw [HN.out] at this; omega
    clear hck ho hof
    go_enter Try.func50, Try.ntmps50
    go_upto_region 1 with fail
    rw [HW.out.1, HW.out.2]
    go_wp2_with fail
    refine (HCK.out w1 H1.out.2).mono ?_
    rintro e w2 ⟨rfl, hb2⟩
    have H2 : Hid (WrdAt w2 T zero10 ∧ Below w.heap.size w w2) := Lib.hid ⟨H1.out.1.below hb2, H1.out.2.trans (hb2.mono H1.out.2.size)⟩
    clear hb2
    go_wp2_with fail
    go_loopw [14] (fun i wr => ∃ k : Nat, k ≤ n ∧ i = .int .i64 k ∧ WrdAt wr T (wordsTo l k) ∧ Below w.heap.size w wr) (fun i _ => n - (intOf i).toNat)
    case atStart => exact ⟨0, Nat.zero_le _, rfl, by rw [wordsTo_zero]; exact H2.out.1, H2.out.2⟩
    case round =>
      obtain ⟨k, hk, rfl, hta, hb⟩ := hrel
      by_cases hlt : k < n
      · have hlt' : (k : Int) < (n : Int) := by omega
        have hk10 : (k : Int) < 10 := by omega
        have hk0 : (0 : Int) ≤ (k : Int) := by omega
        have hkl : k < l.length := by rw [HN.out]; exact hlt
        obtain ⟨g, o, rfl, hg, a0, a1, a2, hgw⟩ := (HR.out.onX hb).rowsX (Nat.le_refl _) k hkl
        obtain ⟨x, hx⟩ : ∃ x, l[k] = x := ⟨_, rfl⟩
        have hrx := HOF.out.2.2.2 x (hx ▸ List.getElem_mem hkl)
        have hxr := (right_iff x).1 hrx
        have hsu := wordsTo_succ l k hkl
        rw [hx] at hsu a0 a1 a2
        obtain ⟨f, d, m⟩ := x
        simp only at hxr a0 a1 a2
        obtain ⟨F, rfl⟩ : ∃ F : Nat, f = F := ⟨f.toNat, by omega⟩
        obtain ⟨D, rfl⟩ : ∃ D : Nat, d = D := ⟨d.toNat, by omega⟩
        obtain ⟨Mm, rfl⟩ : ∃ Mm : Nat, m = Mm := ⟨m.toNat, by omega⟩
        have HS := Lib.hid (And.intro hta (And.intro hb (And.intro hsu hrx)))
        clear hxr hx hsu hta hb hrx hkl hg
        obtain ⟨wa, hwa⟩ : ∃ wa, wr.alloc (.cells #[.int .i64 (F : Int), .int .i64 (D : Int), .int .i64 (Mm : Int)] 81) = wa := ⟨_, rfl⟩
        have hza : wa.heap.size = wr.heap.size + 1 := by rw [← hwa]; simp
        have hba : Below wr.heap.size wr wa := by rw [← hwa]; exact below_allocX wr _
        obtain ⟨q0, q1, q2, q3, q4, q5⟩ := six_new wa (.int .i64 16) (.int .i64 (F : Int)) (.int .i64 24) (.int .i64 (D : Int)) (.int .i64 16) (.int .i64 (Mm : Int)) 142
        have hwd := wordE_any (wa.alloc (.cells #[.int .i64 16, .int .i64 (F : Int), .int .i64 24, .int .i64 (D : Int), .int .i64 16, .int .i64 (Mm : Int)] 142)) HS.out.2.2.2 q0 q1 q2 q3 q4 q5 (by simp)
        obtain ⟨WX, hWX⟩ : ∃ WX, wordX ((F : Int), (D : Int), (Mm : Int)) = WX := ⟨_, rfl⟩
        rw [hWX] at hwd
        obtain ⟨WN, hWN⟩ : ∃ WN : Int, (WX.toNat : Int) = WN := ⟨_, rfl⟩
        have hvw : vw WX = .int .u64 WN := by unfold vw; rw [hWN]
        rw [hvw] at hwd
        have hbb : Below wr.heap.size wr (wa.alloc (.cells #[.int .i64 16, .int .i64 (F : Int), .int .i64 24, .int .i64 (D : Int), .int .i64 16, .int .i64 (Mm : Int)] 142)) := hba.trans ((below_allocX wa _).mono hba.size)
        rw [hza] at hwd
        rw [← hwa] at hwd hbb
        have HWD := Lib.hid hwd
        have HBB := Lib.hid hbb
        have HV := Lib.hid (And.intro hWX hvw)
        clear hwa hza hba q0 q1 q2 q3 q4 q5 hwd hbb hWX hWN hvw
        go_wp2_with fail
        refine HWD.out.mono ?_
        rintro e w5 ⟨rfl, hb5⟩
        have hb5' := HBB.out.trans (hb5.mono HBB.out.size)
        have ht5 := HS.out.1.below hb5'
        obtain ⟨tc, tf⟩ := ht5.cell k (by rw [wordsTo_len]; omega)
        obtain ⟨U, hU⟩ : ∃ U, (wordsTo l k)[k]'(by rw [wordsTo_len]; omega) = U := ⟨_, rfl⟩
        rw [hU] at tc
        have H5 : Hid (WrdAt (w5.setCell ⟨T, k, none⟩ (.int .u64 WN)) T (wordsTo l (k + 1)) ∧ Below w.heap.size w (w5.setCell ⟨T, k, none⟩ (.int .u64 WN))) := Lib.hid (by
          have hb9 := HS.out.2.1.trans (hb5'.mono HS.out.2.1.size)
          rw [HS.out.2.2.1, HV.out.1, ← HV.out.2]
          exact ⟨ht5.set k WX, hb9.setCell (by have := HW.out.2; show w.heap.size ≤ T; omega) _⟩)
        clear hb5 hb5' ht5 hU HWD HBB a0 a1 a2 hgw
        go_wp2_with fail
        go_roundw
        case rel => exact ⟨k + 1, hlt, by go_num, H5.out⟩
        case measure => simp [intOf]; omega
      · obtain rfl : n = k := by omega
        have hnl : ¬ (n : Int) < (n : Int) := by omega
        have hta2 : WrdAt wr T (wordsX l) := by have h9 := wordsTo_all l; rw [HN.out] at h9; rw [← h9]; exact hta
        have HS := Lib.hid (And.intro hta2 hb)
        have HXL := Lib.hid (wordsX_len l)
        clear hta hta2 hb hlt
        go_wp2_with (first | (refine wpList_load_mid rfl 101 (.tmp 2) rfl T 0 rfl (tw (wordsX l)) (.array 10 23) HS.out.1.range (by kernel_rfl) rfl (by rw [tw_len, HXL.out]; kernel_rfl) ?_) | (refine wpList_store_mid rfl 101 (.tmp 2) (.tmp 33) rfl T 0 (tw (wordsX l)).toArray rfl rfl (by simpa [tw_len, HXL.out] using HS.out.1.there) (by simp only [List.size_toArray, tw_len, HXL.out]; kernel_rfl) (all_oneCell_toArray (tw_one _)) ?_))
        have htz := HS.out.1.sets (wordsX l) (HXL.out.trans HXL.out.symm)
        have hbz : Below w.heap.size w (wr.setCells T 0 (tw (wordsX l))) := HS.out.2.trans ((setCellsX_frn _ _ _).below HS.out.2.size (fun b e => by have := HW.out.2; omega))
        refine bodyPost_ret (results_ct rfl _ _ rfl (run_loadVar_mid _ T 0 101 (tw (wordsX l)) (.array 10 23) htz.range (by kernel_rfl) rfl (by rw [tw_len, HXL.out]; kernel_rfl)) rfl) rfl ?_
        exact ⟨by rw [HE.out]; rfl, hbz⟩
end Go.Proofs.Ytenmogokbelahaa
