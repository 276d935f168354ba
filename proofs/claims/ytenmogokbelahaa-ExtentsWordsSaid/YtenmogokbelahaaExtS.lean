/- The walk of the reference's Words. -/
import Derived.Test.YtenmogokbelahaaExtP
import Derived.Test.YtenmogokbelahaaWordsE
import Derived.Test.YtenmogokbelahaaRegF
namespace Go.Proofs.Ytenmogokbelahaa
open Go Go.RowKit

theorem power06 (w : World) : (Calls Try.prog 86 #[.int .i64 16] w fun e w' => e = .returned (.int .u64 65536) ∧ w = w') ∧ (Calls Try.prog 86 #[.int .i64 40] w fun e w' => e = .returned (.int .u64 1099511627776) ∧ w = w') :=
  ⟨power_any 16 (by decide) w, power_any 40 (by decide) w⟩
theorem wrapU (n : Nat) (h : n < 2 ^ 64) (z : Int) (e : z = (n : Int)) : IntKind.u64.wrap z = z := by
  rw [e]
  exact wrap64_nat n h
/-- Two arrays of ten words, one behind the other. -/
theorem two10 (w : World) : WrdAt ((w.alloc (.cells #[.int .u64 0, .int .u64 0, .int .u64 0, .int .u64 0, .int .u64 0, .int .u64 0, .int .u64 0, .int .u64 0, .int .u64 0, .int .u64 0] 101)).alloc (.cells #[.int .u64 0, .int .u64 0, .int .u64 0, .int .u64 0, .int .u64 0, .int .u64 0, .int .u64 0, .int .u64 0, .int .u64 0, .int .u64 0] 101)) w.heap.size zero10 ∧ WrdAt ((w.alloc (.cells #[.int .u64 0, .int .u64 0, .int .u64 0, .int .u64 0, .int .u64 0, .int .u64 0, .int .u64 0, .int .u64 0, .int .u64 0, .int .u64 0] 101)).alloc (.cells #[.int .u64 0, .int .u64 0, .int .u64 0, .int .u64 0, .int .u64 0, .int .u64 0, .int .u64 0, .int .u64 0, .int .u64 0, .int .u64 0] 101)) (w.heap.size + 1) zero10 ∧ Below w.heap.size w ((w.alloc (.cells #[.int .u64 0, .int .u64 0, .int .u64 0, .int .u64 0, .int .u64 0, .int .u64 0, .int .u64 0, .int .u64 0, .int .u64 0, .int .u64 0] 101)).alloc (.cells #[.int .u64 0, .int .u64 0, .int .u64 0, .int .u64 0, .int .u64 0, .int .u64 0, .int .u64 0, .int .u64 0, .int .u64 0, .int .u64 0] 101)) := by
  have h1 := WrdAt.new w zero10
  rw [← zero_cellsW] at h1
  have h2 := WrdAt.new (w.alloc (.cells #[.int .u64 0, .int .u64 0, .int .u64 0, .int .u64 0, .int .u64 0, .int .u64 0, .int .u64 0, .int .u64 0, .int .u64 0, .int .u64 0] 101)) zero10
  rw [← zero_cellsW] at h2
  have hs : (w.alloc (.cells #[.int .u64 0, .int .u64 0, .int .u64 0, .int .u64 0, .int .u64 0, .int .u64 0, .int .u64 0, .int .u64 0, .int .u64 0, .int .u64 0] 101)).heap.size = w.heap.size + 1 := by simp
  rw [hs] at h2
  exact ⟨h1.below (below_allocX _ _), h2, (below_allocX w _).trans ((below_allocX _ _).mono (by rw [hs]; omega))⟩
set_option maxRecDepth 100000 in
set_option maxHeartbeats 8000000 in
theorem refWords_any (p : Option Addr) (cap : Nat) (l : List Ext3) (w : World) (hrd : RdS w.heap.size w p cap 3 xc l) (h10 : l.length ≤ 10) (hright : ∀ x ∈ l, rightX x = true) :
    Calls Try.prog 51 #[.slice p l.length cap] w fun e w' => e = .returned (.agg (tw (wordsX l)).toArray) ∧ Below w.heap.size w w' := by
  have hlen := hrd.len
  obtain ⟨n, hn⟩ : ∃ n, l.length = n := ⟨_, rfl⟩
  have HR := Lib.hid hrd
  have HN := Lib.hid hn
  rw [hn] at hlen ⊢
  have hn10 : (n : Int) ≤ 10 := by rw [hn] at h10; omega
  have HX10 := Lib.hid hright
  clear hrd hn h10 hright
  obtain ⟨h1, h2, h3⟩ := two10 w
  obtain ⟨w1, hW1⟩ : ∃ w1, (w.alloc (.cells #[.int .u64 0, .int .u64 0, .int .u64 0, .int .u64 0, .int .u64 0, .int .u64 0, .int .u64 0, .int .u64 0, .int .u64 0, .int .u64 0] 101)).alloc (.cells #[.int .u64 0, .int .u64 0, .int .u64 0, .int .u64 0, .int .u64 0, .int .u64 0, .int .u64 0, .int .u64 0, .int .u64 0, .int .u64 0] 101) = w1 := ⟨_, rfl⟩
  obtain ⟨U, hU⟩ : ∃ U, w.heap.size + 1 = U := ⟨_, rfl⟩
  obtain ⟨T, hT⟩ : ∃ T, w.heap.size = T := ⟨_, rfl⟩
  rw [hW1, hT] at h1
  rw [hW1, hU] at h2
  rw [hW1] at h3
  have HW := Lib.hid (And.intro hW1 (And.intro hU hT))
  have H1 := Lib.hid (And.intro h1 (And.intro h2 h3))
  clear h1 h2 h3 hW1 hU hT
  have hz10 : zero10.length = 10 := rfl
  go_enter Try.func51, Try.ntmps51
  go_upto_region 2 with fail
  rw [HW.out.1, HW.out.2.1, HW.out.2.2]
  go_wp2_with fail
  go_loopw [4] (fun i wr => ∃ k : Nat, k ≤ n ∧ i = .int .i64 k ∧ WrdAt wr T zero10 ∧ WrdAt wr U (wordsTo l k) ∧ Below w.heap.size w wr) (fun i _ => n - (intOf i).toNat)
  case atStart => exact ⟨0, Nat.zero_le _, rfl, H1.out.1, by rw [wordsTo_zero]; exact H1.out.2.1, H1.out.2.2⟩
  case round =>
    obtain ⟨k, hk, rfl, htz, hta, hb⟩ := hrel
    by_cases hlt : k < n
    · have hlt' : (k : Int) < (n : Int) := by omega
      have hk10 : (k : Int) < 10 := by omega
      have hk0 : (0 : Int) ≤ (k : Int) := by omega
      have hkl : k < l.length := by rw [HN.out]; exact hlt
      obtain ⟨g, o, rfl, hg, a0, a1, a2, hgw⟩ := (HR.out.onX hb).rowsX (Nat.le_refl _) k hkl
      obtain ⟨x, hx⟩ : ∃ x, l[k] = x := ⟨_, rfl⟩
      have hrx := HX10.out x (hx ▸ List.getElem_mem hkl)
      have hxr := (right_iff x).1 hrx
      have hwx := wordX_nat hrx
      have hsu := wordsTo_succ l k hkl
      rw [hx] at hsu a0 a1 a2
      obtain ⟨f, d, m⟩ := x
      simp only at hxr a0 a1 a2
      obtain ⟨F, rfl⟩ : ∃ F : Nat, f = F := ⟨f.toNat, by omega⟩
      obtain ⟨D, rfl⟩ : ∃ D : Nat, d = D := ⟨d.toNat, by omega⟩
      obtain ⟨Mm, rfl⟩ : ∃ Mm : Nat, m = Mm := ⟨m.toNat, by omega⟩
      obtain ⟨WX, hWX⟩ : ∃ WX, wordX ((F : Int), (D : Int), (Mm : Int)) = WX := ⟨_, rfl⟩
      rw [hWX] at hwx hsu
      unfold wordN at hwx
      simp only [Int.toNat_natCast] at hwx
      obtain ⟨WN, hWN⟩ : ∃ WN : Int, (WX.toNat : Int) = WN := ⟨_, rfl⟩
      have hvw : vw WX = .int .u64 WN := by unfold vw; rw [hWN]
      have u1 : IntKind.u64.wrap (F : Int) = (F : Int) := wrapU F (by omega) _ rfl
      have u2 : IntKind.u64.wrap (D : Int) = (D : Int) := wrapU D (by omega) _ rfl
      have u3 : IntKind.u64.wrap (Mm : Int) = (Mm : Int) := wrapU Mm (by omega) _ rfl
      have u4 : IntKind.u64.wrap ((D : Int) * 65536) = (D : Int) * 65536 := wrapU (D * 65536) (by omega) _ (by omega)
      have u5 : IntKind.u64.wrap ((Mm : Int) * 1099511627776) = (Mm : Int) * 1099511627776 := wrapU (Mm * 1099511627776) (by omega) _ (by omega)
      have u6 : IntKind.u64.wrap ((F : Int) + (D : Int) * 65536) = (F : Int) + (D : Int) * 65536 := wrapU (F + D * 65536) (by omega) _ (by omega)
      have u7 : IntKind.u64.wrap ((F : Int) + (D : Int) * 65536 + (Mm : Int) * 1099511627776) = WN := (wrapU (F + D * 65536 + Mm * 1099511627776) (by omega) _ (by omega)).trans (by rw [← hWN, hwx]; omega)
      obtain ⟨tc, tf⟩ := hta.cell k (by rw [wordsTo_len]; omega)
      obtain ⟨V, hV⟩ : ∃ V, (wordsTo l k)[k]'(by rw [wordsTo_len]; omega) = V := ⟨_, rfl⟩
      rw [hV] at tc
      have H5 : Hid (WrdAt (wr.setCell ⟨U, k, none⟩ (.int .u64 WN)).drew T zero10 ∧ WrdAt (wr.setCell ⟨U, k, none⟩ (.int .u64 WN)).drew U (wordsTo l (k + 1)) ∧ Below w.heap.size w (wr.setCell ⟨U, k, none⟩ (.int .u64 WN)).drew) := Lib.hid (by
        have hf9 : Frn (fun b => b = U) wr (wr.setCell ⟨U, k, none⟩ (.int .u64 WN)) := Frn.setCell (T := fun b => b = U) (Frn.refl _ wr) ⟨U, k, none⟩ (.inl rfl) _
        refine ⟨htz.keep (hf9.block T htz.lt (by have := HW.out; omega)), ?_, (hb.trans (hf9.below hb.size (fun b e => by have := HW.out.2; omega))).drew⟩
        rw [hsu, ← hvw]
        exact hta.set k WX)
      have HP := Lib.hid (fun W => power06 W)
      clear hxr hx hsu hta htz hb hrx hkl hg hV hWX hWN hvw hwx
      go_upto_region 5 with fail
      refine wp_region_noPanic ?_
      refine wp_region_F 26 (fun w' => w'.cell? ⟨g, o + k * 3, none⟩ = some (.int .i64 F) ∧ w'.cell? ⟨g, o + k * 3 + 1, none⟩ = some (.int .i64 D) ∧ w'.cell? ⟨g, o + k * 3 + 2, none⟩ = some (.int .i64 Mm)) (by kernel_rfl) ?_ (fun hHeld => ?_)
      · exact ⟨a0, a1, a2⟩
      refine' wpAnyF_takeT (i := 0) (v := _) rfl (by kernel_rfl) (by kernel_rfl) (by kernel_rfl) (by rfl) (fun _ _ _ h => h) (Or.inl ⟨by rfl, ?hy⟩) (fun _ => hHeld) _
      case hy => (intro w0 hSw; (try dsimp only at hSw); simp only [List.getElem_toArray, List.getElem_cons_zero]; go_simp; first | done | with_reducible rfl)
      simp only [Act.put, List.getElem_toArray, List.getElem_cons_zero, List.setIfInBounds_toArray, List.set_cons_zero, List.set_cons_succ]
      refine' wpAnyF_takeT (i := 1) (v := _) rfl (by kernel_rfl) (by kernel_rfl) (by kernel_rfl) (by rfl) (fun _ _ _ h => h) (Or.inl ⟨by rfl, ?hy⟩) (fun _ => hHeld) _
      case hy => (intro w0 hSw; (try dsimp only at hSw); simp only [List.getElem_toArray, List.getElem_cons_zero, List.getElem_cons_succ]; go_simp; first | done | with_reducible rfl)
      simp only [Act.put, List.getElem_toArray, List.getElem_cons_zero, List.getElem_cons_succ, List.setIfInBounds_toArray, List.set_cons_zero, List.set_cons_succ]
      refine' wpAnyF_takeT (i := 2) (v := _) rfl (by kernel_rfl) (by kernel_rfl) (by kernel_rfl) (by rfl) (fun _ _ _ h => h) (Or.inl ⟨by rfl, ?hy⟩) (fun _ => hHeld) _
      case hy => (intro w0 hSw; (try dsimp only at hSw); simp only [List.getElem_toArray, List.getElem_cons_zero, List.getElem_cons_succ]; go_simp; first | done | with_reducible rfl)
      simp only [Act.put, List.getElem_toArray, List.getElem_cons_zero, List.getElem_cons_succ, List.setIfInBounds_toArray, List.set_cons_zero, List.set_cons_succ]
      refine' wpAnyF_takeT (i := 3) (v := _) rfl (by kernel_rfl) (by kernel_rfl) (by kernel_rfl) (by rfl) (fun _ _ _ h => h) (Or.inl ⟨by rfl, ?hy⟩) (fun _ => hHeld) _
      case hy => (intro w0 hSw; (try dsimp only at hSw); simp only [List.getElem_toArray, List.getElem_cons_zero, List.getElem_cons_succ]; go_simp; first | done | with_reducible rfl)
      simp only [Act.put, List.getElem_toArray, List.getElem_cons_zero, List.getElem_cons_succ, List.setIfInBounds_toArray, List.set_cons_zero, List.set_cons_succ]
      refine' wpAnyF_takeT (i := 4) (v := _) rfl (by kernel_rfl) (by kernel_rfl) (by kernel_rfl) (by rfl) (fun _ _ _ h => h) (Or.inl ⟨by rfl, ?hy⟩) (fun _ => hHeld) _
      case hy => (intro w0 hSw; (try dsimp only at hSw); simp only [List.getElem_toArray, List.getElem_cons_zero, List.getElem_cons_succ]; go_simp; first | done | with_reducible rfl)
      simp only [Act.put, List.getElem_toArray, List.getElem_cons_zero, List.getElem_cons_succ, List.setIfInBounds_toArray, List.set_cons_zero, List.set_cons_succ]
      refine' wpAnyF_take (i := 5) (v := _) rfl (by kernel_rfl) (by kernel_rfl) (by kernel_rfl) (by kernel_rfl) (by rfl) (by kernel_rfl) (fun _ _ _ h => h) (Or.inl ⟨by rfl, ?hy⟩) hHeld _
      case hy => (intro w0 hSw; (try dsimp only at hSw); simp only [List.getElem_toArray, List.getElem_cons_zero, List.getElem_cons_succ]; go_simp; first | done | with_reducible rfl)
      simp only [Act.put, List.getElem_toArray, List.getElem_cons_zero, List.getElem_cons_succ, List.setIfInBounds_toArray, List.set_cons_zero, List.set_cons_succ]
      refine' wpAnyF_takeT (i := 6) (v := _) rfl (by kernel_rfl) (by kernel_rfl) (by kernel_rfl) (by rfl) (fun _ _ _ h => h) (Or.inl ⟨by rfl, ?hy⟩) (fun _ => hHeld) _
      case hy => (intro w0 hSw; (try dsimp only at hSw); simp only [List.getElem_toArray, List.getElem_cons_zero, List.getElem_cons_succ]; go_simp; first | done | with_reducible rfl)
      simp only [Act.put, List.getElem_toArray, List.getElem_cons_zero, List.getElem_cons_succ, List.setIfInBounds_toArray, List.set_cons_zero, List.set_cons_succ]
      refine' wpAnyF_takeT (i := 7) (v := _) rfl (by kernel_rfl) (by kernel_rfl) (by kernel_rfl) (by rfl) (fun _ _ _ h => h) (Or.inl ⟨by rfl, ?hy⟩) (fun _ => hHeld) _
      case hy => (intro w0 hSw; (try dsimp only at hSw); simp only [List.getElem_toArray, List.getElem_cons_zero, List.getElem_cons_succ]; go_simp; first | done | with_reducible rfl)
      simp only [Act.put, List.getElem_toArray, List.getElem_cons_zero, List.getElem_cons_succ, List.setIfInBounds_toArray, List.set_cons_zero, List.set_cons_succ]
      refine' wpAnyF_takeT (i := 8) (v := _) rfl (by kernel_rfl) (by kernel_rfl) (by kernel_rfl) (by rfl) (fun _ _ _ h => h) (Or.inl ⟨by rfl, ?hy⟩) (fun _ => hHeld) _
      case hy => (intro w0 hSw; (try dsimp only at hSw); simp only [List.getElem_toArray, List.getElem_cons_zero, List.getElem_cons_succ]; go_simp; first | done | with_reducible rfl)
      simp only [Act.put, List.getElem_toArray, List.getElem_cons_zero, List.getElem_cons_succ, List.setIfInBounds_toArray, List.set_cons_zero, List.set_cons_succ]
      refine' wpAnyF_takeT (i := 9) (v := _) rfl (by kernel_rfl) (by kernel_rfl) (by kernel_rfl) (by rfl) (fun _ _ _ h => h) (Or.inl ⟨by rfl, ?hy⟩) (fun _ => hHeld) _
      case hy => (intro w0 hSw; (try dsimp only at hSw); simp only [List.getElem_toArray, List.getElem_cons_zero, List.getElem_cons_succ]; go_simp; first | done | with_reducible rfl)
      simp only [Act.put, List.getElem_toArray, List.getElem_cons_zero, List.getElem_cons_succ, List.setIfInBounds_toArray, List.set_cons_zero, List.set_cons_succ]
      refine' wpAnyF_takeT (i := 10) (v := _) rfl (by kernel_rfl) (by kernel_rfl) (by kernel_rfl) (by rfl) (fun _ _ _ h => h) (Or.inl ⟨by rfl, ?hy⟩) (fun _ => hHeld) _
      case hy => (intro w0 hSw; (try dsimp only at hSw); simp only [List.getElem_toArray, List.getElem_cons_zero, List.getElem_cons_succ]; go_simp; first | done | with_reducible rfl)
      simp only [Act.put, List.getElem_toArray, List.getElem_cons_zero, List.getElem_cons_succ, List.setIfInBounds_toArray, List.set_cons_zero, List.set_cons_succ]
      refine' wpAnyF_take (i := 11) (v := _) rfl (by kernel_rfl) (by kernel_rfl) (by kernel_rfl) (by kernel_rfl) (by rfl) (by kernel_rfl) (fun _ _ _ h => h) (Or.inl ⟨by rfl, ?hy⟩) hHeld _
      case hy => (intro w0 hSw; (try dsimp only at hSw); simp only [List.getElem_toArray, List.getElem_cons_zero, List.getElem_cons_succ]; go_simp; first | done | with_reducible rfl)
      simp only [Act.put, List.getElem_toArray, List.getElem_cons_zero, List.getElem_cons_succ, List.setIfInBounds_toArray, List.set_cons_zero, List.set_cons_succ]
      refine' wpAnyF_takeT (i := 12) (v := _) rfl (by kernel_rfl) (by kernel_rfl) (by kernel_rfl) (by rfl) (fun _ _ _ h => h) (Or.inl ⟨by rfl, ?hy⟩) (fun _ => hHeld) _
      case hy => (intro w0 hSw; (try dsimp only at hSw); simp only [List.getElem_toArray, List.getElem_cons_zero, List.getElem_cons_succ]; go_simp; first | done | with_reducible rfl)
      simp only [Act.put, List.getElem_toArray, List.getElem_cons_zero, List.getElem_cons_succ, List.setIfInBounds_toArray, List.set_cons_zero, List.set_cons_succ]
      refine' wpAnyF_takeT (i := 16) (v := _) rfl (by kernel_rfl) (by kernel_rfl) (by kernel_rfl) (by rfl) (fun _ _ _ h => h) (Or.inl ⟨by rfl, ?hy⟩) (fun _ => hHeld) _
      case hy => (intro w0 hSw; (try dsimp only at hSw); simp only [List.getElem_toArray, List.getElem_cons_zero, List.getElem_cons_succ]; go_simp; first | done | with_reducible rfl)
      simp only [Act.put, List.getElem_toArray, List.getElem_cons_zero, List.getElem_cons_succ, List.setIfInBounds_toArray, List.set_cons_zero, List.set_cons_succ]
      refine' wpAnyF_takeT (i := 17) (v := _) rfl (by kernel_rfl) (by kernel_rfl) (by kernel_rfl) (by rfl) (fun _ _ _ h => h) (Or.inl ⟨by rfl, ?hy⟩) (fun _ => hHeld) _
      case hy => (intro w0 hSw; (try dsimp only at hSw); simp only [List.getElem_toArray, List.getElem_cons_zero, List.getElem_cons_succ]; go_simp; first | done | with_reducible rfl)
      simp only [Act.put, List.getElem_toArray, List.getElem_cons_zero, List.getElem_cons_succ, List.setIfInBounds_toArray, List.set_cons_zero, List.set_cons_succ]
      refine' wpAnyF_takeT (i := 18) (v := _) rfl (by kernel_rfl) (by kernel_rfl) (by kernel_rfl) (by rfl) (fun _ _ _ h => h) (Or.inl ⟨by rfl, ?hy⟩) (fun _ => hHeld) _
      case hy => (intro w0 hSw; (try dsimp only at hSw); simp only [List.getElem_toArray, List.getElem_cons_zero, List.getElem_cons_succ]; go_simp; first | done | with_reducible rfl)
      simp only [Act.put, List.getElem_toArray, List.getElem_cons_zero, List.getElem_cons_succ, List.setIfInBounds_toArray, List.set_cons_zero, List.set_cons_succ]
      refine' wpAnyF_takeT (i := 19) (v := _) rfl (by kernel_rfl) (by kernel_rfl) (by kernel_rfl) (by rfl) (fun _ _ _ h => h) (Or.inl ⟨by rfl, ?hy⟩) (fun _ => hHeld) _
      case hy => (intro w0 hSw; (try dsimp only at hSw); simp only [List.getElem_toArray, List.getElem_cons_zero, List.getElem_cons_succ]; go_simp; first | done | with_reducible rfl)
      simp only [Act.put, List.getElem_toArray, List.getElem_cons_zero, List.getElem_cons_succ, List.setIfInBounds_toArray, List.set_cons_zero, List.set_cons_succ]
      refine' wpAnyF_take (i := 20) (v := _) rfl (by kernel_rfl) (by kernel_rfl) (by kernel_rfl) (by kernel_rfl) (by rfl) (by kernel_rfl) (fun _ _ _ h => h) (Or.inl ⟨by rfl, ?hy⟩) hHeld _
      case hy => (intro w0 hSw; (try dsimp only at hSw); simp only [List.getElem_toArray, List.getElem_cons_zero, List.getElem_cons_succ]; go_simp; first | done | with_reducible rfl)
      simp only [Act.put, List.getElem_toArray, List.getElem_cons_zero, List.getElem_cons_succ, List.setIfInBounds_toArray, List.set_cons_zero, List.set_cons_succ]
      refine' wpAnyF_takeT (i := 21) (v := _) rfl (by kernel_rfl) (by kernel_rfl) (by kernel_rfl) (by rfl) (fun _ _ _ h => h) (Or.inl ⟨by rfl, ?hy⟩) (fun _ => hHeld) _
      case hy => (intro w0 hSw; (try dsimp only at hSw); simp only [List.getElem_toArray, List.getElem_cons_zero, List.getElem_cons_succ]; go_simp; first | done | with_reducible rfl)
      simp only [Act.put, List.getElem_toArray, List.getElem_cons_zero, List.getElem_cons_succ, List.setIfInBounds_toArray, List.set_cons_zero, List.set_cons_succ]
      refine wpAnyF_one (i := 13) (by kernel_rfl) rfl (fun K hK => ?_)
      go_simp
      refine (HP.out _).1.mono ?_
      rintro e w8 ⟨rfl, hw8⟩
      subst hw8
      refine hK.out _ _ (fun _ => ?_) ?_
      · exact ⟨a0, a1, a2⟩
      clear hK K
      try simp only [Act.put, List.getElem_toArray, List.getElem_cons_zero, List.getElem_cons_succ, List.setIfInBounds_toArray, List.set_cons_zero, List.set_cons_succ]
      refine' wpAnyF_takeT (i := 14) (v := _) rfl (by kernel_rfl) (by kernel_rfl) (by kernel_rfl) (by rfl) (fun _ _ _ h => h) (Or.inl ⟨by rfl, ?hy⟩) (fun _ => hHeld) _
      case hy => (intro w0 hSw; (try dsimp only at hSw); simp only [List.getElem_toArray, List.getElem_cons_zero, List.getElem_cons_succ]; go_simp; first | done | with_reducible rfl)
      simp only [Act.put, List.getElem_toArray, List.getElem_cons_zero, List.getElem_cons_succ, List.setIfInBounds_toArray, List.set_cons_zero, List.set_cons_succ]
      refine' wpAnyF_takeT (i := 15) (v := _) rfl (by kernel_rfl) (by kernel_rfl) (by kernel_rfl) (by rfl) (fun _ _ _ h => h) (Or.inl ⟨by rfl, ?hy⟩) (fun _ => hHeld) _
      case hy => (intro w0 hSw; (try dsimp only at hSw); simp only [List.getElem_toArray, List.getElem_cons_zero, List.getElem_cons_succ]; go_simp; first | done | with_reducible rfl)
      simp only [Act.put, List.getElem_toArray, List.getElem_cons_zero, List.getElem_cons_succ, List.setIfInBounds_toArray, List.set_cons_zero, List.set_cons_succ]
      refine wpAnyF_one (i := 22) (by kernel_rfl) rfl (fun K hK => ?_)
      go_simp
      refine (HP.out _).2.mono ?_
      rintro e w8 ⟨rfl, hw8⟩
      subst hw8
      refine hK.out _ _ (fun _ => ?_) ?_
      · exact ⟨a0, a1, a2⟩
      clear hK K
      try simp only [Act.put, List.getElem_toArray, List.getElem_cons_zero, List.getElem_cons_succ, List.setIfInBounds_toArray, List.set_cons_zero, List.set_cons_succ]
      refine' wpAnyF_takeT (i := 23) (v := _) rfl (by kernel_rfl) (by kernel_rfl) (by kernel_rfl) (by rfl) (fun _ _ _ h => h) (Or.inl ⟨by rfl, ?hy⟩) (fun _ => hHeld) _
      case hy => (intro w0 hSw; (try dsimp only at hSw); simp only [List.getElem_toArray, List.getElem_cons_zero, List.getElem_cons_succ]; go_simp; first | done | with_reducible rfl)
      simp only [Act.put, List.getElem_toArray, List.getElem_cons_zero, List.getElem_cons_succ, List.setIfInBounds_toArray, List.set_cons_zero, List.set_cons_succ]
      refine' wpAnyF_takeT (i := 24) (v := _) rfl (by kernel_rfl) (by kernel_rfl) (by kernel_rfl) (by rfl) (fun _ _ _ h => h) (Or.inl ⟨by rfl, ?hy⟩) (fun _ => hHeld) _
      case hy => (intro w0 hSw; (try dsimp only at hSw); simp only [List.getElem_toArray, List.getElem_cons_zero, List.getElem_cons_succ]; go_simp; first | done | with_reducible rfl)
      simp only [Act.put, List.getElem_toArray, List.getElem_cons_zero, List.getElem_cons_succ, List.setIfInBounds_toArray, List.set_cons_zero, List.set_cons_succ]
      refine' wpAnyF_takeT (i := 25) (v := _) rfl (by kernel_rfl) (by kernel_rfl) (by kernel_rfl) (by rfl) (fun _ _ _ h => h) (Or.inl ⟨by rfl, ?hy⟩) (fun _ => hHeld) _
      case hy => (intro w0 hSw; (try dsimp only at hSw); simp only [List.getElem_toArray, List.getElem_cons_zero, List.getElem_cons_succ]; go_simp; first | done | with_reducible rfl)
      simp only [Act.put, List.getElem_toArray, List.getElem_cons_zero, List.getElem_cons_succ, List.setIfInBounds_toArray, List.set_cons_zero, List.set_cons_succ]
      refine wpAnyF_one (i := 26) (by kernel_rfl) rfl (fun K hK => ?_)
      go_simp
      refine hK.out _ _ (fun h => Bool.noConfusion (h.symm.trans (by kernel_rfl : _ = true))) ?_
      clear hK K
      try simp only [Act.put, List.getElem_toArray, List.getElem_cons_zero, List.getElem_cons_succ, List.setIfInBounds_toArray, List.set_cons_zero, List.set_cons_succ]
      refine wpAnyF_done (by kernel_rfl) ?_ _
      refine NoPanic.normal ?_
      clear hHeld
      go_wp2_with fail
      go_roundw
      case rel => exact ⟨k + 1, hlt, by go_num, H5.out⟩
      case measure => simp [intOf]; omega
    · obtain rfl : n = k := by omega
      have hnl : ¬ (n : Int) < (n : Int) := by omega
      have hta2 : WrdAt wr U (wordsX l) := by have h9 := wordsTo_all l; rw [HN.out] at h9; rw [← h9]; exact hta
      have HS := Lib.hid (And.intro hta2 (And.intro htz hb))
      have HXL := Lib.hid (wordsX_len l)
      clear hta hta2 hb htz hlt
      go_wp2_with (first | (refine wpList_load_mid rfl 101 (.tmp 3) rfl U 0 rfl (tw (wordsX l)) (.array 10 23) HS.out.1.range (by kernel_rfl) rfl (by rw [tw_len, HXL.out]; kernel_rfl) ?_) | (refine wpList_store_mid rfl 101 (.tmp 2) (.tmp 37) rfl T 0 (tw (wordsX l)).toArray rfl rfl (by simpa [tw_len, HXL.out, hz10] using HS.out.2.1.there) (by simp only [List.size_toArray, tw_len, HXL.out]; kernel_rfl) (all_oneCell_toArray (tw_one _)) ?_))
      have hfin := HS.out.2.1.sets (wordsX l) (hz10.trans HXL.out.symm)
      have hbz : Below w.heap.size w (wr.setCells T 0 (tw (wordsX l))) := HS.out.2.2.trans ((setCellsX_frn _ _ _).below HS.out.2.2.size (fun b e => by have := HW.out.2.2; omega))
      refine bodyPost_ret (results_cell1 rfl _ _ rfl (run_loadVar_mid _ T 0 101 (tw (wordsX l)) (.array 10 23) hfin.range (by kernel_rfl) rfl (by rw [tw_len, HXL.out]; kernel_rfl))) rfl ?_
      exact ⟨rfl, hbz⟩
end Go.Proofs.Ytenmogokbelahaa
