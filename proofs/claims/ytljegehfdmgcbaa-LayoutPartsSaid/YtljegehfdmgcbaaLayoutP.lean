/- The walk of layout.Read. -/
import Derived.Test.YtljegehfdmgcbaaLayoutO
import Derived.Test.YtljegehfdmgcbaaRegF
import Derived.ScopeJumps
import Derived.Deep.RegionHeld3
namespace Go.Proofs.Ytljegehfdmgcbaa
open Go Go.RowKit

def wd (ws : List (BitVec 64)) (j : Nat) : BitVec 64 := ws.getD j 0#64
def rdLay (ws : List (BitVec 64)) : Lay := ofL (wd ws 1).toNat (wd ws 2).toNat (wd ws 3).toNat (wd ws 4).toNat (wd ws 5) (wd ws 6)
def RdOk (ws : List (BitVec 64)) : Prop := 64 ≤ ws.length ∧ OfOk (wd ws 1).toNat (wd ws 2).toNat (wd ws 3).toNat (wd ws 4).toNat ∧ (ws.length : Int) = ((wd ws 1).toNat : Int) * 64 ∧ superL (rdLay ws) = ws.take 64
instance (ws : List (BitVec 64)) : Decidable (RdOk ws) := by unfold RdOk; infer_instance
def readL (ws : List (BitVec 64)) : Lay × Int := if RdOk ws then (rdLay ws, 0) else (lay0, 230)
theorem offW_false {x : BitVec 64} (h : offW x = false) : 1 ≤ x.toNat ∧ x.toNat ≤ 2048 := by simpa [offW] using h
theorem offW_true {x : BitVec 64} (h : offW x = true) : ¬ (1 ≤ x.toNat ∧ x.toNat ≤ 2048) := by
  intro h'
  simp [offW, h'.1, h'.2] at h

set_option maxRecDepth 100000 in
set_option maxHeartbeats 8000000 in
theorem read_long (p : Option Addr) (cap : Nat) (ws : List (BitVec 64)) (hn : 64 ≤ ws.length) (w : World) (hrd : RdL w.heap.size w p cap vw ws) :
    Calls Try.prog 22 #[.slice p ws.length cap] w fun e w' => e = .returned (.tuple #[lv (readL ws).1, .int .i64 (readL ws).2]) ∧ Below w.heap.size w w' := by
  have hlen := hrd.len
  have hcap := hrd.1
  have hcapm := hrd.2.1
  obtain ⟨b, off, rfl, hb, _⟩ := hrd.at 1 (by omega)
  have hcw : ∀ j (h : j < ws.length), w.cell? ⟨b, off + j, none⟩ = some (vw ws[j]) := fun j h => by
    obtain ⟨b', off', he, _, hc⟩ := hrd.at j h
    cases he
    exact hc
  obtain ⟨x1, h1⟩ : ∃ x, wd ws 1 = x := ⟨_, rfl⟩
  obtain ⟨x2, h2⟩ : ∃ x, wd ws 2 = x := ⟨_, rfl⟩
  obtain ⟨x3, h3⟩ : ∃ x, wd ws 3 = x := ⟨_, rfl⟩
  obtain ⟨x4, h4⟩ : ∃ x, wd ws 4 = x := ⟨_, rfl⟩
  obtain ⟨x5, h5⟩ : ∃ x, wd ws 5 = x := ⟨_, rfl⟩
  obtain ⟨x6, h6⟩ : ∃ x, wd ws 6 = x := ⟨_, rfl⟩
  have hwj : ∀ j (h : j < ws.length), ws[j] = wd ws j := fun j h => by unfold wd; rw [List.getD_eq_getElem?_getD, List.getElem?_eq_getElem h]; rfl
  have hcx : ∀ W, Below w.heap.size w W → W.cell? ⟨b, off + 1, none⟩ = some (vw x1) ∧ W.cell? ⟨b, off + 2, none⟩ = some (vw x2) ∧ W.cell? ⟨b, off + 3, none⟩ = some (vw x3) ∧ W.cell? ⟨b, off + 4, none⟩ = some (vw x4) ∧ W.cell? ⟨b, off + 5, none⟩ = some (vw x5) ∧ W.cell? ⟨b, off + 6, none⟩ = some (vw x6) := fun W hW => by
    have hc : ∀ j (h : j < ws.length), W.cell? ⟨b, off + j, none⟩ = some (vw (wd ws j)) := fun j h => by rw [hW.cell (p := ⟨b, off + j, none⟩) hb, hcw j h, hwj j h]
    exact ⟨h1 ▸ hc 1 (by omega), h2 ▸ hc 2 (by omega), h3 ▸ hc 3 (by omega), h4 ▸ hc 4 (by omega), h5 ▸ hc 5 (by omega), h6 ▸ hc 6 (by omega)⟩
  obtain ⟨l, hl⟩ : ∃ l, ofL x1.toNat x2.toNat x3.toNat x4.toNat x5 x6 = l := ⟨_, rfl⟩
  obtain ⟨no, hno⟩ : ∃ no, ofNo x1.toNat x2.toNat x3.toNat x4.toNat = no := ⟨_, rfl⟩
  have hry : OfOk x1.toNat x2.toNat x3.toNat x4.toNat ∧ (ws.length : Int) = (x1.toNat : Int) * 64 ∧ superL l = ws.take 64 → readL ws = (l, 0) := by
    intro h
    subst h1 h2 h3 h4 h5 h6 hl
    unfold readL
    exact if_pos ⟨hn, h⟩
  have hrn : ¬ (OfOk x1.toNat x2.toNat x3.toNat x4.toNat ∧ (ws.length : Int) = (x1.toNat : Int) * 64 ∧ superL l = ws.take 64) → readL ws = (lay0, 230) := by
    intro h
    subst h1 h2 h3 h4 h5 h6 hl
    unfold readL
    exact if_neg fun h' => h h'.2
  have HRY := Lib.hid hry
  have HRN := Lib.hid hrn
  have HEL := Lib.hid hl
  have HEN := Lib.hid hno
  obtain ⟨wa, hwa⟩ : ∃ wa, w.alloc (.cells #[.int .i64 0, .int .i64 0, .int .i64 0, .int .i64 0, .int .u64 0, .int .u64 0, .int .i64 0, .int .i64 0, .int .i64 0, .int .i64 0] 27) = wa := ⟨_, rfl⟩
  have hba : Below w.heap.size w wa := by rw [← hwa]; exact (Below.refl _ _).alloc (Nat.le_refl _) _
  have hz : wa.heap[w.heap.size]? = some (.cells #[.int .i64 0, .int .i64 0, .int .i64 0, .int .i64 0, .int .u64 0, .int .u64 0, .int .i64 0, .int .i64 0, .int .i64 0, .int .i64 0] 27 (0, 0)) := by rw [← hwa]; exact World.alloc_heap_new w _
  have hza : wa.heap.size = w.heap.size + 1 := by rw [← hwa]; simp
  have hwdr : ∀ W, Below wa.heap.size wa W → W.cell? ⟨b, off + 1, none⟩ = some (vw x1) ∧ W.cell? ⟨b, off + 2, none⟩ = some (vw x2) ∧ W.cell? ⟨b, off + 3, none⟩ = some (vw x3) ∧ W.cell? ⟨b, off + 4, none⟩ = some (vw x4) ∧ W.cell? ⟨b, off + 5, none⟩ = some (vw x5) ∧ W.cell? ⟨b, off + 6, none⟩ = some (vw x6) := fun W hW => hcx W (hba.trans (hW.mono (by omega)))
  have hr4 : RdL wa.heap.size wa (some ⟨b, off + 1, none⟩) (cap - 1) vw [x1, x2, x3, x4] := by
    obtain ⟨e1, e2, e3, e4, _, _⟩ := hcx wa hba
    refine ⟨by simp; omega, by omega, .inr ⟨b, off + 1, rfl, by omega, fun i hi => ?_⟩⟩
    have hi4 : i < 4 := by simpa using hi
    rcases (show i = 0 ∨ i = 1 ∨ i = 2 ∨ i = 3 by omega) with rfl | rfl | rfl | rfl
    · exact e1
    · rw [show off + 1 + 1 = off + 2 by omega]; exact e2
    · rw [show off + 1 + 2 = off + 3 by omega]; exact e3
    · rw [show off + 1 + 3 = off + 4 by omega]; exact e4
  have HCON := Lib.hid (containsW_any (some ⟨b, off + 1, none⟩) (cap - 1) [x1, x2, x3, x4] wa hr4)
  have HRD := Lib.hid hrd
  have HBA := Lib.hid hba
  have HZ := Lib.hid hz
  have HZA := Lib.hid hza
  have HWD := Lib.hid hwdr
  have hn' : ¬ (ws.length : Int) < 64 := by omega
  have hc5 : (5 : Int) ≤ (cap : Int) := by omega
  have hc64 : (64 : Int) ≤ (cap : Int) := by omega
  have hcapi : (cap : Int) ≤ 9223372036854775807 := by unfold maxLen at hcapm; omega
  clear hba hz hza hwdr hr4 hrd hcx hcw hwj h1 h2 h3 h4 h5 h6 hl hno hry hrn hcap hcapm
  go_enter Try.func22, Try.ntmps22
  go_wp2_with fail
  refine wp_scope_jumps 0 (fun a' w' => (∃ u0 u1 u3 u4 u5 u6 u7 u8 u9 u10 u11 u12 u13 u14 u15 u16 u17 u18 u19 u20 u21 u22 u23 u24 u25 u26 u27 u28 u29 u30 u31 u32 u33 u34 u35 u36 u37 u38 u39 u40 u41 u42 u43 u44 u45 u46 u47 u48 u49 u50 u51 u52 u53 u54 u55 u56 u57 u58 u59 u60 u61 u62 u63 u64 u65 u66 u67 : Value, a' = { tmps := #[u0, u1, (.pointer (some ⟨w.heap.size, 0, none⟩)), u3, u4, u5, u6, u7, u8, u9, u10, u11, u12, u13, u14, u15, u16, u17, u18, u19, u20, u21, u22, u23, u24, u25, u26, u27, u28, u29, u30, u31, u32, u33, u34, u35, u36, u37, u38, u39, u40, u41, u42, u43, u44, u45, u46, u47, u48, u49, u50, u51, u52, u53, u54, u55, u56, u57, u58, u59, u60, u61, u62, u63, u64, u65, u66, u67], defers := [] }) ∧ Below w.heap.size w w' ∧ (∃ c0 c1 c2 c3 c4 c5 c6 c7 c8 c9 : Value, w'.heap[w.heap.size]? = some (.cells #[c0, c1, c2, c3, c4, c5, c6, c7, c8, c9] 27 (0, 0))) ∧ readL ws = (lay0, 230)) (fun _ _ => 0) rfl ?first ?pass
  case pass =>
    rintro a' w' ⟨⟨u0, u1, u3, u4, u5, u6, u7, u8, u9, u10, u11, u12, u13, u14, u15, u16, u17, u18, u19, u20, u21, u22, u23, u24, u25, u26, u27, u28, u29, u30, u31, u32, u33, u34, u35, u36, u37, u38, u39, u40, u41, u42, u43, u44, u45, u46, u47, u48, u49, u50, u51, u52, u53, u54, u55, u56, u57, u58, u59, u60, u61, u62, u63, u64, u65, u66, u67, rfl⟩, hb, ⟨c0, c1, c2, c3, c4, c5, c6, c7, c8, c9, hz⟩, hro⟩
    obtain ⟨e0, e1, e2, e3, e4, e5, e6, e7, e8, e9, hfz⟩ := lay_cells hz
    have HB := Lib.hid hb
    have HZ := Lib.hid hz
    have HRO := Lib.hid hro
    clear hz hb hro
    go_wp2
    simp only [Exit.jump]
    obtain ⟨W, hW, h1, h2, h3⟩ := lay_sets HZ.out (.int .i64 0) (.int .i64 0) (.int .i64 0) (.int .i64 0) (.int .u64 0) (.int .u64 0) (.int .i64 0) (.int .i64 0) (.int .i64 0) (.int .i64 0)
    rw [hW]
    obtain ⟨c0, c1, c2, c3, c4, c5, c6, c7, c8, c9, hfz⟩ := lay_cells h1
    refine bodyPost_ret (v := .tuple #[lv lay0, .int .i64 230]) (by simp [results, Try.results22, go_sem, lv, lay0, c0, c1, c2, c3, c4, c5, c6, c7, c8, c9]) rfl ?_
    rw [HRO.out]
    exact ⟨rfl, h3 _ _ (by omega) HB.out⟩
  case first =>
    go_wp2_with fail
    refine HCON.out.mono ?_
    rintro e wa' ⟨rfl, hwa'⟩
    subst hwa'
    cases hany : [x1, x2, x3, x4].any offW
    case true =>
      have hro : readL ws = (lay0, 230) := by
        refine HRN.out ?_
        rintro ⟨⟨a1, a2, a3, a4, _⟩, _⟩
        simp only [List.any_cons, List.any_nil, Bool.or_false, Bool.or_eq_true] at hany
        rcases hany with h | h | h | h
        · exact offW_true h (by omega)
        · exact offW_true h (by omega)
        · exact offW_true h (by omega)
        · exact offW_true h (by omega)
      clear hany
      have HRO := Lib.hid hro
      clear hro
      go_wp2_with fail
      apply wp_goto
      go_wp2
      simp only [Exit.jump]
      exact ⟨trivial, ⟨_, _, _, _, _, _, _, _, _, _, _, _, _, _, _, _, _, _, _, _, _, _, _, _, _, _, _, _, _, _, _, _, _, _, _, _, _, _, _, _, _, _, _, _, _, _, _, _, _, _, _, _, _, _, _, _, _, _, _, _, _, _, _, _, _, _, _, rfl⟩, HBA.out, ⟨_, _, _, _, _, _, _, _, _, _, HZ.out⟩, HRO.out⟩
    case false =>
      simp only [List.any_cons, List.any_nil, Bool.or_false, Bool.or_eq_false_iff] at hany
      obtain ⟨o1, o2, o3, o4⟩ := hany
      have o1 := (offW_false o1).2
      have o2 := (offW_false o2).2
      have o3 := (offW_false o3).2
      have o4 := (offW_false o4).2
      have i1 : (x1.toNat : Int) ≤ 2048 := by omega
      have i2 : (x2.toNat : Int) ≤ 2048 := by omega
      have i3 : (x3.toNat : Int) ≤ 2048 := by omega
      have i4 : (x4.toNat : Int) ≤ 2048 := by omega
      have v1 : IntKind.i64.wrap (x1.toNat : Int) = x1.toNat := by rw [IntKind.wrap_i64]; omega
      have v2 : IntKind.i64.wrap (x2.toNat : Int) = x2.toNat := by rw [IntKind.wrap_i64]; omega
      have v3 : IntKind.i64.wrap (x3.toNat : Int) = x3.toNat := by rw [IntKind.wrap_i64]; omega
      have v4 : IntKind.i64.wrap (x4.toNat : Int) = x4.toNat := by rw [IntKind.wrap_i64]; omega
      obtain ⟨d1, d2, d3, d4, d5, d6⟩ := HWD.out wa.drew (Below.refl _ _).drew
      have k1 : (1 : Int) < (ws.length : Int) := by omega
      have k2 : (2 : Int) < (ws.length : Int) := by omega
      have k3 : (3 : Int) < (ws.length : Int) := by omega
      have k4 : (4 : Int) < (ws.length : Int) := by omega
      have k5 : (5 : Int) < (ws.length : Int) := by omega
      have k6 : (6 : Int) < (ws.length : Int) := by omega
      go_wp2_with fail
      have hbne : b ≠ w.heap.size := by omega
      have hbne' : w.heap.size ≠ b := by omega
      refine wp_region_noPanic ?_
      refine wp_region_F 28 (fun w' => w'.cell? ⟨b, off + 1, none⟩ = some (vw x1) ∧ w'.cell? ⟨b, off + 2, none⟩ = some (vw x2) ∧ w'.cell? ⟨b, off + 3, none⟩ = some (vw x3) ∧ w'.cell? ⟨b, off + 4, none⟩ = some (vw x4) ∧ w'.cell? ⟨b, off + 5, none⟩ = some (vw x5) ∧ w'.cell? ⟨b, off + 6, none⟩ = some (vw x6)) (by kernel_rfl) ?_ (fun hHeld => ?_)
      · exact ⟨d1, d2, d3, d4, d5, d6⟩
      refine' wpAnyF_takeT (i := 0) (v := _) rfl (by kernel_rfl) (by kernel_rfl) (by kernel_rfl) (by rfl) (fun _ _ _ h => h) (Or.inl ⟨by rfl, ?hy⟩) (fun _ => hHeld) _
      case hy => (intro w0 hSw; (try dsimp only at hSw); simp only [List.getElem_toArray, List.getElem_cons_zero]; go_simp; first | done | with_reducible rfl)
      simp only [Act.put, List.getElem_toArray, List.getElem_cons_zero, List.setIfInBounds_toArray, List.set_cons_zero, List.set_cons_succ]
      refine' wpAnyF_takeT (i := 1) (v := _) rfl (by kernel_rfl) (by kernel_rfl) (by kernel_rfl) (by rfl) (fun _ _ _ h => h) (Or.inl ⟨by rfl, ?hy⟩) (fun _ => hHeld) _
      case hy => (intro w0 hSw; (try dsimp only at hSw); simp only [List.getElem_toArray, List.getElem_cons_zero, List.getElem_cons_succ]; go_simp; first | done | with_reducible rfl)
      simp only [Act.put, List.getElem_toArray, List.getElem_cons_zero, List.getElem_cons_succ, List.setIfInBounds_toArray, List.set_cons_zero, List.set_cons_succ]
      refine' wpAnyF_take (i := 2) (v := _) rfl (by kernel_rfl) (by kernel_rfl) (by kernel_rfl) (by kernel_rfl) (by rfl) (by kernel_rfl) (fun _ _ _ h => h) (Or.inl ⟨by rfl, ?hy⟩) hHeld _
      case hy => (intro w0 hSw; (try dsimp only at hSw); simp only [List.getElem_toArray, List.getElem_cons_zero, List.getElem_cons_succ]; go_simp; first | done | with_reducible rfl)
      simp only [Act.put, List.getElem_toArray, List.getElem_cons_zero, List.getElem_cons_succ, List.setIfInBounds_toArray, List.set_cons_zero, List.set_cons_succ]
      refine' wpAnyF_takeT (i := 3) (v := _) rfl (by kernel_rfl) (by kernel_rfl) (by kernel_rfl) (by rfl) (fun _ _ _ h => h) (Or.inl ⟨by rfl, ?hy⟩) (fun _ => hHeld) _
      case hy => (intro w0 hSw; (try dsimp only at hSw); simp only [List.getElem_toArray, List.getElem_cons_zero, List.getElem_cons_succ]; go_simp; first | done | with_reducible rfl)
      simp only [Act.put, List.getElem_toArray, List.getElem_cons_zero, List.getElem_cons_succ, List.setIfInBounds_toArray, List.set_cons_zero, List.set_cons_succ]
      refine' wpAnyF_takeT (i := 4) (v := _) rfl (by kernel_rfl) (by kernel_rfl) (by kernel_rfl) (by rfl) (fun _ _ _ h => h) (Or.inl ⟨by rfl, ?hy⟩) (fun _ => hHeld) _
      case hy => (intro w0 hSw; (try dsimp only at hSw); simp only [List.getElem_toArray, List.getElem_cons_zero, List.getElem_cons_succ]; go_simp; first | done | with_reducible rfl)
      simp only [Act.put, List.getElem_toArray, List.getElem_cons_zero, List.getElem_cons_succ, List.setIfInBounds_toArray, List.set_cons_zero, List.set_cons_succ]
      refine' wpAnyF_takeT (i := 5) (v := _) rfl (by kernel_rfl) (by kernel_rfl) (by kernel_rfl) (by rfl) (fun _ _ _ h => h) (Or.inl ⟨by rfl, ?hy⟩) (fun _ => hHeld) _
      case hy => (intro w0 hSw; (try dsimp only at hSw); simp only [List.getElem_toArray, List.getElem_cons_zero, List.getElem_cons_succ]; go_simp; first | done | with_reducible rfl)
      simp only [Act.put, List.getElem_toArray, List.getElem_cons_zero, List.getElem_cons_succ, List.setIfInBounds_toArray, List.set_cons_zero, List.set_cons_succ]
      refine' wpAnyF_take (i := 6) (v := _) rfl (by kernel_rfl) (by kernel_rfl) (by kernel_rfl) (by kernel_rfl) (by rfl) (by kernel_rfl) (fun _ _ _ h => h) (Or.inl ⟨by rfl, ?hy⟩) hHeld _
      case hy => (intro w0 hSw; (try dsimp only at hSw); simp only [List.getElem_toArray, List.getElem_cons_zero, List.getElem_cons_succ]; go_simp; first | done | with_reducible rfl)
      simp only [Act.put, List.getElem_toArray, List.getElem_cons_zero, List.getElem_cons_succ, List.setIfInBounds_toArray, List.set_cons_zero, List.set_cons_succ]
      refine' wpAnyF_takeT (i := 7) (v := _) rfl (by kernel_rfl) (by kernel_rfl) (by kernel_rfl) (by rfl) (fun _ _ _ h => h) (Or.inl ⟨by rfl, ?hy⟩) (fun _ => hHeld) _
      case hy => (intro w0 hSw; (try dsimp only at hSw); simp only [List.getElem_toArray, List.getElem_cons_zero, List.getElem_cons_succ]; go_simp; first | done | with_reducible rfl)
      simp only [Act.put, List.getElem_toArray, List.getElem_cons_zero, List.getElem_cons_succ, List.setIfInBounds_toArray, List.set_cons_zero, List.set_cons_succ]
      refine' wpAnyF_takeT (i := 8) (v := _) rfl (by kernel_rfl) (by kernel_rfl) (by kernel_rfl) (by rfl) (fun _ _ _ h => h) (Or.inl ⟨by rfl, ?hy⟩) (fun _ => hHeld) _
      case hy => (intro w0 hSw; (try dsimp only at hSw); simp only [List.getElem_toArray, List.getElem_cons_zero, List.getElem_cons_succ]; go_simp; first | done | with_reducible rfl)
      simp only [Act.put, List.getElem_toArray, List.getElem_cons_zero, List.getElem_cons_succ, List.setIfInBounds_toArray, List.set_cons_zero, List.set_cons_succ]
      refine' wpAnyF_takeT (i := 9) (v := _) rfl (by kernel_rfl) (by kernel_rfl) (by kernel_rfl) (by rfl) (fun _ _ _ h => h) (Or.inl ⟨by rfl, ?hy⟩) (fun _ => hHeld) _
      case hy => (intro w0 hSw; (try dsimp only at hSw); simp only [List.getElem_toArray, List.getElem_cons_zero, List.getElem_cons_succ]; go_simp; first | done | with_reducible rfl)
      simp only [Act.put, List.getElem_toArray, List.getElem_cons_zero, List.getElem_cons_succ, List.setIfInBounds_toArray, List.set_cons_zero, List.set_cons_succ]
      refine' wpAnyF_take (i := 10) (v := _) rfl (by kernel_rfl) (by kernel_rfl) (by kernel_rfl) (by kernel_rfl) (by rfl) (by kernel_rfl) (fun _ _ _ h => h) (Or.inl ⟨by rfl, ?hy⟩) hHeld _
      case hy => (intro w0 hSw; (try dsimp only at hSw); simp only [List.getElem_toArray, List.getElem_cons_zero, List.getElem_cons_succ]; go_simp; first | done | with_reducible rfl)
      simp only [Act.put, List.getElem_toArray, List.getElem_cons_zero, List.getElem_cons_succ, List.setIfInBounds_toArray, List.set_cons_zero, List.set_cons_succ]
      refine' wpAnyF_takeT (i := 11) (v := _) rfl (by kernel_rfl) (by kernel_rfl) (by kernel_rfl) (by rfl) (fun _ _ _ h => h) (Or.inl ⟨by rfl, ?hy⟩) (fun _ => hHeld) _
      case hy => (intro w0 hSw; (try dsimp only at hSw); simp only [List.getElem_toArray, List.getElem_cons_zero, List.getElem_cons_succ]; go_simp; first | done | with_reducible rfl)
      simp only [Act.put, List.getElem_toArray, List.getElem_cons_zero, List.getElem_cons_succ, List.setIfInBounds_toArray, List.set_cons_zero, List.set_cons_succ]
      refine' wpAnyF_takeT (i := 12) (v := _) rfl (by kernel_rfl) (by kernel_rfl) (by kernel_rfl) (by rfl) (fun _ _ _ h => h) (Or.inl ⟨by rfl, ?hy⟩) (fun _ => hHeld) _
      case hy => (intro w0 hSw; (try dsimp only at hSw); simp only [List.getElem_toArray, List.getElem_cons_zero, List.getElem_cons_succ]; go_simp; first | done | with_reducible rfl)
      simp only [Act.put, List.getElem_toArray, List.getElem_cons_zero, List.getElem_cons_succ, List.setIfInBounds_toArray, List.set_cons_zero, List.set_cons_succ]
      refine' wpAnyF_takeT (i := 13) (v := _) rfl (by kernel_rfl) (by kernel_rfl) (by kernel_rfl) (by rfl) (fun _ _ _ h => h) (Or.inl ⟨by rfl, ?hy⟩) (fun _ => hHeld) _
      case hy => (intro w0 hSw; (try dsimp only at hSw); simp only [List.getElem_toArray, List.getElem_cons_zero, List.getElem_cons_succ]; go_simp; first | done | with_reducible rfl)
      simp only [Act.put, List.getElem_toArray, List.getElem_cons_zero, List.getElem_cons_succ, List.setIfInBounds_toArray, List.set_cons_zero, List.set_cons_succ]
      refine' wpAnyF_take (i := 14) (v := _) rfl (by kernel_rfl) (by kernel_rfl) (by kernel_rfl) (by kernel_rfl) (by rfl) (by kernel_rfl) (fun _ _ _ h => h) (Or.inl ⟨by rfl, ?hy⟩) hHeld _
      case hy => (intro w0 hSw; (try dsimp only at hSw); simp only [List.getElem_toArray, List.getElem_cons_zero, List.getElem_cons_succ]; go_simp; first | done | with_reducible rfl)
      simp only [Act.put, List.getElem_toArray, List.getElem_cons_zero, List.getElem_cons_succ, List.setIfInBounds_toArray, List.set_cons_zero, List.set_cons_succ]
      refine' wpAnyF_takeT (i := 15) (v := _) rfl (by kernel_rfl) (by kernel_rfl) (by kernel_rfl) (by rfl) (fun _ _ _ h => h) (Or.inl ⟨by rfl, ?hy⟩) (fun _ => hHeld) _
      case hy => (intro w0 hSw; (try dsimp only at hSw); simp only [List.getElem_toArray, List.getElem_cons_zero, List.getElem_cons_succ]; go_simp; first | done | with_reducible rfl)
      simp only [Act.put, List.getElem_toArray, List.getElem_cons_zero, List.getElem_cons_succ, List.setIfInBounds_toArray, List.set_cons_zero, List.set_cons_succ]
      refine' wpAnyF_takeT (i := 16) (v := _) rfl (by kernel_rfl) (by kernel_rfl) (by kernel_rfl) (by rfl) (fun _ _ _ h => h) (Or.inl ⟨by rfl, ?hy⟩) (fun _ => hHeld) _
      case hy => (intro w0 hSw; (try dsimp only at hSw); simp only [List.getElem_toArray, List.getElem_cons_zero, List.getElem_cons_succ]; go_simp; first | done | with_reducible rfl)
      simp only [Act.put, List.getElem_toArray, List.getElem_cons_zero, List.getElem_cons_succ, List.setIfInBounds_toArray, List.set_cons_zero, List.set_cons_succ]
      refine' wpAnyF_takeT (i := 17) (v := _) rfl (by kernel_rfl) (by kernel_rfl) (by kernel_rfl) (by rfl) (fun _ _ _ h => h) (Or.inl ⟨by rfl, ?hy⟩) (fun _ => hHeld) _
      case hy => (intro w0 hSw; (try dsimp only at hSw); simp only [List.getElem_toArray, List.getElem_cons_zero, List.getElem_cons_succ]; go_simp; first | done | with_reducible rfl)
      simp only [Act.put, List.getElem_toArray, List.getElem_cons_zero, List.getElem_cons_succ, List.setIfInBounds_toArray, List.set_cons_zero, List.set_cons_succ]
      refine' wpAnyF_takeT (i := 18) (v := _) rfl (by kernel_rfl) (by kernel_rfl) (by kernel_rfl) (by rfl) (fun _ _ _ h => h) (Or.inl ⟨by rfl, ?hy⟩) (fun _ => hHeld) _
      case hy => (intro w0 hSw; (try dsimp only at hSw); simp only [List.getElem_toArray, List.getElem_cons_zero, List.getElem_cons_succ]; go_simp; first | done | with_reducible rfl)
      simp only [Act.put, List.getElem_toArray, List.getElem_cons_zero, List.getElem_cons_succ, List.setIfInBounds_toArray, List.set_cons_zero, List.set_cons_succ]
      refine' wpAnyF_take (i := 19) (v := _) rfl (by kernel_rfl) (by kernel_rfl) (by kernel_rfl) (by kernel_rfl) (by rfl) (by kernel_rfl) (fun _ _ _ h => h) (Or.inl ⟨by rfl, ?hy⟩) hHeld _
      case hy => (intro w0 hSw; (try dsimp only at hSw); simp only [List.getElem_toArray, List.getElem_cons_zero, List.getElem_cons_succ]; go_simp; first | done | with_reducible rfl)
      simp only [Act.put, List.getElem_toArray, List.getElem_cons_zero, List.getElem_cons_succ, List.setIfInBounds_toArray, List.set_cons_zero, List.set_cons_succ]
      refine' wpAnyF_takeT (i := 20) (v := _) rfl (by kernel_rfl) (by kernel_rfl) (by kernel_rfl) (by rfl) (fun _ _ _ h => h) (Or.inl ⟨by rfl, ?hy⟩) (fun _ => hHeld) _
      case hy => (intro w0 hSw; (try dsimp only at hSw); simp only [List.getElem_toArray, List.getElem_cons_zero, List.getElem_cons_succ]; go_simp; first | done | with_reducible rfl)
      simp only [Act.put, List.getElem_toArray, List.getElem_cons_zero, List.getElem_cons_succ, List.setIfInBounds_toArray, List.set_cons_zero, List.set_cons_succ]
      refine' wpAnyF_takeT (i := 21) (v := _) rfl (by kernel_rfl) (by kernel_rfl) (by kernel_rfl) (by rfl) (fun _ _ _ h => h) (Or.inl ⟨by rfl, ?hy⟩) (fun _ => hHeld) _
      case hy => (intro w0 hSw; (try dsimp only at hSw); simp only [List.getElem_toArray, List.getElem_cons_zero, List.getElem_cons_succ]; go_simp; first | done | with_reducible rfl)
      simp only [Act.put, List.getElem_toArray, List.getElem_cons_zero, List.getElem_cons_succ, List.setIfInBounds_toArray, List.set_cons_zero, List.set_cons_succ]
      refine' wpAnyF_take (i := 22) (v := _) rfl (by kernel_rfl) (by kernel_rfl) (by kernel_rfl) (by kernel_rfl) (by rfl) (by kernel_rfl) (fun _ _ _ h => h) (Or.inl ⟨by rfl, ?hy⟩) hHeld _
      case hy => (intro w0 hSw; (try dsimp only at hSw); simp only [List.getElem_toArray, List.getElem_cons_zero, List.getElem_cons_succ]; go_simp; first | done | with_reducible rfl)
      simp only [Act.put, List.getElem_toArray, List.getElem_cons_zero, List.getElem_cons_succ, List.setIfInBounds_toArray, List.set_cons_zero, List.set_cons_succ]
      refine' wpAnyF_takeT (i := 23) (v := _) rfl (by kernel_rfl) (by kernel_rfl) (by kernel_rfl) (by rfl) (fun _ _ _ h => h) (Or.inl ⟨by rfl, ?hy⟩) (fun _ => hHeld) _
      case hy => (intro w0 hSw; (try dsimp only at hSw); simp only [List.getElem_toArray, List.getElem_cons_zero, List.getElem_cons_succ]; go_simp; first | done | with_reducible rfl)
      simp only [Act.put, List.getElem_toArray, List.getElem_cons_zero, List.getElem_cons_succ, List.setIfInBounds_toArray, List.set_cons_zero, List.set_cons_succ]
      refine wpAnyF_one (i := 24) (by kernel_rfl) rfl (fun K hK => ?_)
      go_simp
      refine (of_any x1.toNat x2.toNat x3.toNat x4.toNat x5 x6 _).mono ?_
      rintro e w1 ⟨rfl, hb1⟩
      have HB1 := Lib.hid ((Below.refl wa.heap.size wa).drew.trans hb1)
      have hs1 := HWD.out w1 HB1.out
      have hz1 := (HB1.out.block w.heap.size (by rw [HZA.out]; omega)).trans HZ.out
      obtain ⟨z0, z1, z2, z3, z4, z5, z6, z7, z8, z9, zf⟩ := lay_cells hz1
      have HZ1 := Lib.hid hz1
      clear hb1 hz1
      simp only [lv]
      rw [HEL.out, HEN.out]
      refine hK.out _ _ (fun _ => ?_) ?_
      · exact hs1
      clear hK K
      try simp only [Act.put, List.getElem_toArray, List.getElem_cons_zero, List.getElem_cons_succ, List.setIfInBounds_toArray, List.set_cons_zero, List.set_cons_succ]
      clear hHeld
      have hHeld := hs1
      refine' wpAnyF_takeT (i := 25) (v := _) rfl (by kernel_rfl) (by kernel_rfl) (by kernel_rfl) (by rfl) (fun _ _ _ h => h) (Or.inl ⟨by rfl, ?hy⟩) (fun _ => hHeld) _
      case hy => (intro w0 hSw; (try dsimp only at hSw); simp only [List.getElem_toArray, List.getElem_cons_zero, List.getElem_cons_succ]; go_simp; first | done | with_reducible rfl)
      simp only [Act.put, List.getElem_toArray, List.getElem_cons_zero, List.getElem_cons_succ, List.setIfInBounds_toArray, List.set_cons_zero, List.set_cons_succ]
      refine' wpAnyF_takeT (i := 26) (v := _) rfl (by kernel_rfl) (by kernel_rfl) (by kernel_rfl) (by rfl) (fun _ _ _ h => h) (Or.inl ⟨by rfl, ?hy⟩) (fun _ => hHeld) _
      case hy => (intro w0 hSw; (try dsimp only at hSw); simp only [List.getElem_toArray, List.getElem_cons_zero, List.getElem_cons_succ]; go_simp; first | done | with_reducible rfl)
      simp only [Act.put, List.getElem_toArray, List.getElem_cons_zero, List.getElem_cons_succ, List.setIfInBounds_toArray, List.set_cons_zero, List.set_cons_succ]
      refine' wpAnyF_takeT (i := 27) (v := _) rfl (by kernel_rfl) (by kernel_rfl) (by kernel_rfl) (by rfl) (fun _ _ _ h => h) (Or.inl ⟨by rfl, ?hy⟩) (fun _ => hHeld) _
      case hy => (intro w0 hSw; (try dsimp only at hSw); simp only [List.getElem_toArray, List.getElem_cons_zero, List.getElem_cons_succ]; go_simp; first | done | with_reducible rfl)
      simp only [Act.put, List.getElem_toArray, List.getElem_cons_zero, List.getElem_cons_succ, List.setIfInBounds_toArray, List.set_cons_zero, List.set_cons_succ]
      refine wpAnyF_one (i := 28) (by kernel_rfl) rfl (fun K hK => ?_)
      go_simp
      refine hK.out _ _ (fun h => Bool.noConfusion (h.symm.trans (by kernel_rfl : _ = true))) ?_
      clear hK K
      try simp only [Act.put, List.getElem_toArray, List.getElem_cons_zero, List.getElem_cons_succ, List.setIfInBounds_toArray, List.set_cons_zero, List.set_cons_succ]
      refine wpAnyF_one (i := 29) (by kernel_rfl) rfl (fun K hK => ?_)
      go_simp
      refine hK.out _ _ (fun h => Bool.noConfusion (h.symm.trans (by kernel_rfl : _ = true))) ?_
      clear hK K
      try simp only [Act.put, List.getElem_toArray, List.getElem_cons_zero, List.getElem_cons_succ, List.setIfInBounds_toArray, List.set_cons_zero, List.set_cons_succ]
      refine wpAnyF_done (by kernel_rfl) ?_ _
      refine NoPanic.normal ?_
      obtain ⟨W, hW, hh, hoth, hbel⟩ := lay_sets HZ1.out (.int .i64 l.B) (.int .i64 l.I) (.int .i64 l.R) (.int .i64 l.T) (.int .u64 (l.k0.toNat : Int)) (.int .u64 (l.k1.toNat : Int)) (.int .i64 l.i) (.int .i64 l.r) (.int .i64 l.m) (.int .i64 l.d)
      rw [hW]
      have hLW : LayAt W w.heap.size l := hh
      have hbW : Below w.heap.size w W := hbel _ _ (Nat.le_refl _) (HBA.out.trans (HB1.out.mono (by rw [HZA.out]; omega)))
      obtain ⟨e0, e1, e2, e3, e4, e5, e6, e7, e8, e9, ef⟩ := lay_cells hLW
      have HLW := Lib.hid hLW
      have HBW := Lib.hid hbW
      clear hW hh hoth hbel hLW hbW z0 z1 z2 z3 z4 z5 z6 z7 z8 z9 zf hHeld hs1 hwa d1 d2 d3 d4 d5 d6 v1 v2 v3 v4
      by_cases hok : OfOk x1.toNat x2.toNat x3.toNat x4.toNat
      case neg =>
        have hno : no = 2 := by rw [← HEN.out]; unfold ofNo; rw [if_neg hok]
        subst hno
        have HRO := Lib.hid (HRN.out fun h => hok h.1)
        clear hok
        go_wp2_with fail
        apply wp_goto
        go_wp2
        simp only [Exit.jump]
        exact ⟨trivial, ⟨_, _, _, _, _, _, _, _, _, _, _, _, _, _, _, _, _, _, _, _, _, _, _, _, _, _, _, _, _, _, _, _, _, _, _, _, _, _, _, _, _, _, _, _, _, _, _, _, _, _, _, _, _, _, _, _, _, _, _, _, _, _, _, _, _, _, _, rfl⟩, HBW.out, ⟨_, _, _, _, _, _, _, _, _, _, HLW.out⟩, HRO.out⟩
      case pos =>
        have hno : no = 0 := by rw [← HEN.out]; unfold ofNo; rw [if_pos hok]
        subst hno
        have hr : RightL l := by rw [← HEL.out]; exact right_of hok
        have hlB : l.B = x1.toNat := by rw [← HEL.out]; unfold ofL; rw [if_pos hok]
        have hlB1 : 32 ≤ l.B := hr.1.1.1
        have hlB2 : l.B ≤ 2048 := hr.1.1.2
        have HOK := Lib.hid hok
        have HR := Lib.hid hr
        have HLB := Lib.hid hlB
        clear hok hr hlB
        by_cases hll : (ws.length : Int) = l.B * 64
        case neg =>
          have HRO := Lib.hid (HRN.out fun h => hll (by rw [HLB.out]; exact h.2.1))
          go_wp2_with fail
          apply wp_goto
          go_wp2
          simp only [Exit.jump]
          exact ⟨trivial, ⟨_, _, _, _, _, _, _, _, _, _, _, _, _, _, _, _, _, _, _, _, _, _, _, _, _, _, _, _, _, _, _, _, _, _, _, _, _, _, _, _, _, _, _, _, _, _, _, _, _, _, _, _, _, _, _, _, _, _, _, _, _, _, _, _, _, _, _, rfl⟩, HBW.out, ⟨_, _, _, _, _, _, _, _, _, _, HLW.out⟩, HRO.out⟩
        case pos =>
          have HLL := Lib.hid hll
          have hll0 : ((ws.length : Int) != l.B * 64) = false := by rw [hll]; simp
          clear hll
          have hsr := super_right l W HR.out
          unfold lv at hsr
          have HSR := Lib.hid hsr
          clear hsr
          go_wp2_with fail
          refine HSR.out.mono ?_
          rintro e w3 ⟨v, rfl, hown, hb3⟩
          obtain ⟨q, cq, rfl, hq⟩ := super_rd hown
          have hL3 := HLW.out.below HLW.out.lt hb3
          have hb3' := HBW.out.trans (hb3.mono HBW.out.size)
          have hrw := (HRD.out.below hb3').wide hb3'.size
          have hr64 : RdL w3.heap.size w3 (some ⟨b, off, none⟩) cap vw (ws.take 64) := by
            have h2 := hrw
            rw [← List.take_append_drop 64 ws] at h2
            exact h2.front (by rw [List.length_take]; omega) (Nat.le_refl _)
          have heq := equalW_any q (some ⟨b, off, none⟩) cq cap (superL l) (ws.take 64) w3 hq hr64
          rw [superL_len, show (ws.take 64).length = 64 by rw [List.length_take]; omega] at heq
          have HEQ := Lib.hid heq
          have HL3 := Lib.hid hL3
          have HB3 := Lib.hid hb3'
          clear heq hL3 hb3' hrw hr64 hq hown hb3 e0 e1 e2 e3 e4 e5 e6 e7 e8 e9 ef hll0
          go_wp2_with fail
          refine HEQ.out.mono ?_
          rintro e w4 ⟨rfl, nd, hw4⟩
          have hL4 : LayAt w4 w.heap.size l := by rw [← hw4]; exact HL3.out
          have hb4 : Below w.heap.size w w4 := by rw [← hw4]; exact (let h := HB3.out; ⟨h.os, h.tape, h.output, h.size, h.block⟩)
          have HL4 := Lib.hid hL4
          have HB4 := Lib.hid hb4
          obtain ⟨e0, e1, e2, e3, e4, e5, e6, e7, e8, e9, ef⟩ := lay_cells hL4
          clear hL4 hb4 hw4
          cases hsame : sameB (superL l) (ws.take 64)
          case false =>
            have HRO := Lib.hid (HRN.out fun h => by
              rw [h.2.2, sameB_self] at hsame
              cases hsame)
            clear hsame
            go_wp2_with fail
            apply wp_goto
            go_wp2
            simp only [Exit.jump]
            exact ⟨trivial, ⟨_, _, _, _, _, _, _, _, _, _, _, _, _, _, _, _, _, _, _, _, _, _, _, _, _, _, _, _, _, _, _, _, _, _, _, _, _, _, _, _, _, _, _, _, _, _, _, _, _, _, _, _, _, _, _, _, _, _, _, _, _, _, _, _, _, _, _, rfl⟩, HB4.out, ⟨_, _, _, _, _, _, _, _, _, _, HL4.out⟩, HRO.out⟩
          case true =>
            have hs : superL l = ws.take 64 := by simpa [sameB] using hsame
            have HRO := Lib.hid (HRY.out ⟨HOK.out, by rw [← HLB.out]; exact HLL.out, hs⟩)
            clear hs hsame
            have id0 : w4.setCell ⟨w.heap.size, 0, none⟩ (.int .i64 l.B) = w4 := setCell_id HL4.out rfl
            have id1 : w4.setCell ⟨w.heap.size, 1, none⟩ (.int .i64 l.I) = w4 := setCell_id HL4.out rfl
            have id2 : w4.setCell ⟨w.heap.size, 2, none⟩ (.int .i64 l.R) = w4 := setCell_id HL4.out rfl
            have id3 : w4.setCell ⟨w.heap.size, 3, none⟩ (.int .i64 l.T) = w4 := setCell_id HL4.out rfl
            have id4 : w4.setCell ⟨w.heap.size, 4, none⟩ (.int .u64 (l.k0.toNat : Int)) = w4 := setCell_id HL4.out rfl
            have id5 : w4.setCell ⟨w.heap.size, 5, none⟩ (.int .u64 (l.k1.toNat : Int)) = w4 := setCell_id HL4.out rfl
            have id6 : w4.setCell ⟨w.heap.size, 6, none⟩ (.int .i64 l.i) = w4 := setCell_id HL4.out rfl
            have id7 : w4.setCell ⟨w.heap.size, 7, none⟩ (.int .i64 l.r) = w4 := setCell_id HL4.out rfl
            have id8 : w4.setCell ⟨w.heap.size, 8, none⟩ (.int .i64 l.m) = w4 := setCell_id HL4.out rfl
            have id9 : w4.setCell ⟨w.heap.size, 9, none⟩ (.int .i64 l.d) = w4 := setCell_id HL4.out rfl
            go_wp2_with fail
            simp only [Exit.jump]
            refine bodyPost_ret (v := .tuple #[lv l, .int .i64 0]) (by simp [results, Try.results22, go_sem, lv, e0, e1, e2, e3, e4, e5, e6, e7, e8, e9]) rfl ?_
            rw [HRO.out]
            exact ⟨rfl, HB4.out⟩

theorem read_any (p : Option Addr) (cap : Nat) (ws : List (BitVec 64)) (w : World) (hrd : RdL w.heap.size w p cap vw ws) :
    Calls Try.prog 22 #[.slice p ws.length cap] w fun e w' => e = .returned (.tuple #[lv (readL ws).1, .int .i64 (readL ws).2]) ∧ Below w.heap.size w w' := by
  by_cases h : 64 ≤ ws.length
  · exact read_long p cap ws h w hrd
  · have hro : readL ws = (lay0, 230) := by unfold readL; exact if_neg fun h' => h h'.1
    rw [hro]
    exact read_short p ws.length cap (by omega) w
end Go.Proofs.Ytljegehfdmgcbaa
