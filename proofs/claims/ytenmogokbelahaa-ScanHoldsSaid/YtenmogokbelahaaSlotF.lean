/- The walks of the reference's slots: Put. -/
import Derived.Test.YtenmogokbelahaaSlotE
import Derived.Test.YtenmogokbelahaaGoodLaw
namespace Go.Proofs.Ytenmogokbelahaa
open Go Go.RowKit

theorem elem_put : ElemIs Try.prog 51 122 (.agg #[.int .i64 0, .int .u64 0]) 2 16 := ⟨by kernel_rfl, by kernel_rfl, rfl, by decide⟩
def sc (x : St) : List Value := [.int .i64 x.1, vw x.2]
theorem sc_len (x : St) : (sc x).length = 2 := rfl
theorem sc_one (x : St) : ∀ u ∈ sc x, u.oneCell' = true := by
  intro u hu
  simp [sc] at hu
  rcases hu with rfl | rfl <;> rfl
abbrev OwnSt (w : World) (p : Option Addr) (cap : Nat) (xs : List St) : Prop := OwnG 122 2 sc w p cap xs
/-- What a change leaves. -/
def PutsOk (way : Nat) (left : BitVec 64) (s : List (BitVec 64)) (w : World) (v1 : Value) (no : Int) (w' : World) : Prop := no = 0 → ∃ l q d, v1 = .slice q l.length d ∧ OwnSt w' q d l ∧ (∀ b, inP q d b → w.heap.size ≤ b) ∧ Good way left s l
def PutSt (W4 : World) (q2 : Option Addr) (d2 : Nat) (xs : List St) (W : World) : Prop := OwnSt W q2 d2 xs ∧ (∀ b, inP q2 d2 b → W4.heap.size ≤ b) ∧ Below W4.heap.size W4 W
theorem find_no {left : BitVec 64} {s : List (BitVec 64)} {K : BitVec 64} {i : Nat} (hS : SetR left s) (hf : FindOk (readL left s) K i false) : i ≤ rawS s ∧ ∀ j, j < rawS s → keyS s j ≠ K := by
  obtain ⟨h1, h2, h3, -, h5⟩ := hf
  have hl := set_len hS
  refine ⟨by omega, fun j hj he => ?_⟩
  rcases Nat.lt_trichotomy j i with h | h | h
  · have := h2 j (by omega) h
    rw [set_get hS] at this
    subst he
    exact Nat.lt_irrefl _ this
  · subst h
    have := h5 rfl (by omega)
    rw [set_get hS] at this
    exact this he
  · have := h3 (by omega)
    rw [set_get hS] at this
    have h6 := keys_lt hS.1 h hj
    rw [he] at h6
    have h7 : K.toNat ≤ (keyS s i).toNat := this
    omega
set_option maxRecDepth 100000 in
set_option maxHeartbeats 8000000 in
theorem put_any (left : BitVec 64) (p : Option Addr) (cap : Nat) (s : List (BitVec 64)) (K P : BitVec 64) (w : World) (hrd : RdL w.heap.size w p cap vw s) (hl : s.length ≤ 1000) :
    Calls Try.prog 24 #[vw left, .slice p s.length cap, .agg #[vw K, vw P]] w fun e w' => ∃ v1 no, e = .returned (.tuple #[v1, .int .i64 no]) ∧ PutsOk 1 left s w v1 no w' ∧ Below w.heap.size w w' := by
  obtain ⟨d1, d2⟩ := half (n := s.length) (by omega)
  obtain ⟨W1, hW1⟩ : ∃ W1, w.alloc (.cells #[vw K, vw P] 49) = W1 := ⟨_, rfl⟩
  have hb1 : Below w.heap.size w W1 := by rw [← hW1]; exact (Below.refl _ _).alloc (Nat.le_refl _) _
  have hx1 : W1.heap[w.heap.size]? = some (.cells #[vw K, vw P] 49 (0, 0)) := by rw [← hW1]; exact World.alloc_heap_new _ _
  have hz1 : W1.heap.size = w.heap.size + 1 := by rw [← hW1]; simp
  have hrd1 := (hrd.below hb1).wide hb1.size
  have c0 : W1.cell? ⟨w.heap.size, 0, none⟩ = some (vw K) := by simp [World.cell?, hx1]
  have c1 : W1.cell? ⟨w.heap.size, 1, none⟩ = some (vw P) := by simp [World.cell?, hx1]
  have HPT := Lib.hid (pointer_any left p cap s K P W1 hrd1 hl)
  have HRE := Lib.hid (fun W (hb : Below w.heap.size w W) => read_any left p cap s W ((hrd.below hb).wide hb.size) (by omega))
  have HAH := Lib.hid (fun W (hb : Below w.heap.size w W) j (hj : 2 * j ≤ s.length) => ahead_any left p cap s j W ((hrd.below hb).wide hb.size) hj (by omega))
  have HW1 := Lib.hid (And.intro hW1 (And.intro hb1 (And.intro hx1 hz1)))
  have HC0 := Lib.hid c0
  have HC1 := Lib.hid c1
  clear hW1 hb1 hx1 hz1 hrd hrd1
  go_enter Try.func24, Try.ntmps24
  go_wp2_with fail
  rw [HW1.out.1]
  go_wp2_with fail
  refine HPT.out.mono ?_
  rintro e w2 ⟨v, rfl, hset, hb2⟩
  have HB2 := Lib.hid (HW1.out.2.1.trans (hb2.mono HW1.out.2.1.size))
  have c0 := (hb2.cell (p := ⟨w.heap.size, 0, none⟩) (by show w.heap.size < W1.heap.size; have := HW1.out.2.2.2; omega)).trans HC0.out
  have c1 := (hb2.cell (p := ⟨w.heap.size, 1, none⟩) (by show w.heap.size < W1.heap.size; have := HW1.out.2.2.2; omega)).trans HC1.out
  have hzw : w.heap.size < w2.heap.size := by have := HW1.out.2.2.2; have := hb2.size; omega
  have HSET := Lib.hid hset
  have HZW := Lib.hid hzw
  clear hset hb2 HPT HC0 HC1 HW1 hzw
  by_cases hv : v = 0
  · subst hv
    obtain ⟨hS, hP0, hPl, hPn⟩ := HSET.out rfl
    have hn56 := hS.1.l56
    have hnm := hS.1.nm
    have hlen := set_len hS
    have HS := Lib.hid hS
    have HPP := Lib.hid (And.intro hP0 (And.intro hPl (set_has hS hPn)))
    clear hS hP0 hPl hPn HSET
    go_wp2_with fail
    refine (HRE.out w2 HB2.out).mono ?_
    rintro e w3 ⟨q, d, v2, rfl, hown, hqb, hb3⟩
    have HB3 := Lib.hid (HB2.out.trans (hb3.mono HB2.out.size))
    have c0 := (hb3.cell (p := ⟨w.heap.size, 0, none⟩) HZW.out).trans c0
    have c1 := (hb3.cell (p := ⟨w.heap.size, 1, none⟩) HZW.out).trans c1
    have HF := Lib.hid (find_any q d (readL left s) K w3 (hown.rds pc_len) (by omega))
    have HOWN := Lib.hid hown
    have hzw3 : w.heap.size < w3.heap.size := Nat.lt_of_lt_of_le HZW.out hb3.size
    have HZ3 := Lib.hid hzw3
    clear hown hqb hb3 HRE hzw3 HZW HB2
    obtain ⟨n, hn⟩ : ∃ n, (readL left s).length = n := ⟨_, rfl⟩
    have hnr : rawS s = n := by omega
    rw [hn] at HF hlen
    rw [hn]
    have HN := Lib.hid (And.intro hn hnr)
    rw [hnr] at hnm
    clear hn hnr hlen
    go_wp2_with fail
    refine HF.out.mono ?_
    rintro e w4 ⟨i, b, rfl, hf, kk, hk⟩
    subst hk
    have HFO := Lib.hid hf
    clear hf HF
    obtain ⟨W4, hW4⟩ : ∃ W4, w3.drewN kk = W4 := ⟨_, rfl⟩
    have hb4 : Below w3.heap.size w3 W4 := by rw [← hW4]; exact below_drewN (Below.refl _ _) kk
    have hz4 : W4.heap.size = w3.heap.size := by rw [← hW4]; rfl
    have c0 := (hb4.cell (p := ⟨w.heap.size, 0, none⟩) HZ3.out).trans c0
    have c1 := (hb4.cell (p := ⟨w.heap.size, 1, none⟩) HZ3.out).trans c1
    have HRD := Lib.hid ((HOWN.out.below hb4).rds pc_len)
    have HB4 := Lib.hid (HB3.out.trans (hb4.mono HB3.out.size))
    have HZ4 := Lib.hid (show w.heap.size < W4.heap.size by have := HZ3.out; omega)
    rw [hW4]
    clear hb4 hz4 hW4 HB3 HOWN HZ3
    cases b with
    | true =>
      go_wp2_with fail
      go_ret2
      exact ⟨_, 191, rfl, fun h => absurd h (by decide), HB4.out⟩
    | false =>
      have hwn : IntKind.i64.wrap ((n : Int) + 1) = (n : Int) + 1 := by rw [IntKind.wrap_i64]; omega
      by_cases hge : (s.length : Int) / 2 ≤ (n : Int) + 1
      · go_wp2_with fail
        go_ret2
        exact ⟨_, 3, rfl, fun h => absurd h (by decide), HB4.out⟩
      · have hge' : decide ((s.length : Int) / 2 ≤ (n : Int) + 1) = false := decide_eq_false hge
        have hlt : (n : Int) + 1 < (s.length : Int) / 2 := by omega
        have hnr := HN.out.2
        have hfn := find_no HS.out HFO.out
        have hin : i ≤ n := by omega
        have HK := Lib.hid hfn.2
        have hw1 : IntKind.i64.wrap (2 * (n : Int)) = 2 * (n : Int) := by rw [IntKind.wrap_i64]; omega
        obtain ⟨A, hA⟩ : ∃ A, 2 * n + 3 = A := ⟨_, rfl⟩
        have hw2 : IntKind.i64.wrap (2 * (n : Int) + 3) = (A : Int) := by rw [IntKind.wrap_i64]; omega
        have HA := Lib.hid hA
        have HC0 := Lib.hid c0
        have HC1 := Lib.hid c1
        have HO4 := Lib.hid (fun W => OwnG.nil 122 2 sc W none)
        have hwm : IntKind.i64.wrap ((n : Int) - 1) = (n : Int) - 1 := by rw [IntKind.wrap_i64]; omega
        clear hA c0 c1 hnr hfn HFO
        go_wp2_with (at_builtin; refine wpList_appG rfl (.tmp 51) (.tmp 56) _ rfl elem_put (by decide) sc_len sc_one none 0 [] [(A, 0#64)] rfl (HO4.out _) W4.heap.size 1 1 rfl rfl 122 (0, 0) (World.alloc_heap_new W4 _) (by simp) ⟨by decide, by simp⟩ ?_
                     intro p' cap' w' happ
                     have HAP := Lib.hid happ
                     clear happ)
        have hst : PutSt W4 p' cap' [(A, 0#64)] w' := ⟨HAP.out.1, fun b hb => (HAP.out.2.2 b hb).elim (fun h => by obtain ⟨a, ha, _⟩ := h; cases ha) (fun h => by have h1 := h.1; simp at h1; omega), ((Below.refl _ W4).alloc (Nat.le_refl _) _).trans (HAP.out.2.1.below (by simp) (fun b hb => by obtain ⟨a, ha, _⟩ := hb; cases ha))⟩
        have HST := Lib.hid hst
        clear hst HAP HO4
        go_loopw [14, 15] (fun x14 x15 wr => ∃ (c : Nat) (j : Int) (q2 : Option Addr) (d2 : Nat), c ≤ n - i ∧ x15 = .int .i64 j ∧ j = (n : Int) - 1 - c ∧ x14 = .slice q2 ((List.range (1 + 2 * c)).map (fPut left s n i 1 K P)).length d2 ∧ PutSt W4 q2 d2 ((List.range (1 + 2 * c)).map (fPut left s n i 1 K P)) wr)
          (fun _ x15 _ => (intOf x15 + 1 - i).toNat)
        case atStart => exact ⟨0, (n : Int) - 1, p', cap', Nat.zero_le _, rfl, by omega, rfl, by rw [put_start, HA.out]; exact HST.out⟩
        case round =>
          obtain ⟨c, j, q2, d2, hc, rfl, hj, rfl, hst⟩ := hrel
          clear HST
          have HST := Lib.hid hst
          by_cases hci : c < n - i
          · obtain ⟨J, hJ⟩ : ∃ J, n - 1 - c = J := ⟨_, rfl⟩
            obtain rfl : j = (J : Int) := by omega
            have hge : (i : Int) ≤ (J : Int) := by omega
            have hJn : (J : Int) < (n : Int) := by omega
            have hstep := put_step (left := left) (s := s) (K := K) (P := P) hci
            rw [hJ] at hstep
            clear hw1 hw2
            have hw1 : IntKind.i64.wrap (2 * (J : Int)) = 2 * (J : Int) := by rw [IntKind.wrap_i64]; omega
            obtain ⟨A, hA⟩ : ∃ A, 2 * J + 3 = A := ⟨_, rfl⟩
            obtain ⟨B, hB⟩ : ∃ A, 2 * J + 2 = A := ⟨_, rfl⟩
            have hw2 : IntKind.i64.wrap (2 * (J : Int) + 3) = (A : Int) := by rw [IntKind.wrap_i64]; omega
            have hw3 : IntKind.i64.wrap (2 * (J : Int) + 2) = (B : Int) := by rw [IntKind.wrap_i64]; omega
            have hwj : IntKind.i64.wrap ((J : Int) - 1) = (J : Int) - 1 := by rw [IntKind.wrap_i64]; omega
            rw [hA, hB] at hstep
            have HSTEP := Lib.hid hstep
            have hJl : J < (readL left s).length := by have := HN.out.1; omega
            obtain ⟨b, off, hpo, hbl, h0, h1⟩ := HRD.out.prs J hJl
            rw [set_get HS.out hJl] at h0 h1
            have hbl : b < W4.heap.size := hbl
            have hbe : Below W4.heap.size W4 wr.drew := HST.out.2.2.drew
            have x0 := (hbe.cell (p := ⟨b, off + J * 2, none⟩) hbl).trans h0
            have x1 := (hbe.cell (p := ⟨b, off + J * 2 + 1, none⟩) hbl).trans h1
            obtain ⟨xs, hxs⟩ : ∃ xs, (List.range (1 + 2 * c)).map (fPut left s n i 1 K P) = xs := ⟨_, rfl⟩
            rw [hxs] at HST HSTEP
            rw [hxs]
            have hxl : xs.length = 1 + 2 * c := by rw [← hxs]; simp
            have HLN := Lib.hid (show xs.length < 1000000 by omega)
            have HCC := Lib.hid (And.intro hj (And.intro hJ (And.intro hc hci)))
            have hbn : Below W4.heap.size W4 (wr.drew.alloc (.cells [.int .i64 (A : Int), vw (ptrS s J), .int .i64 (B : Int), vw (keyS s J)].toArray 122)) := hbe.alloc hbe.size _
            have y0 := (hbn.cell (p := ⟨b, off + J * 2, none⟩) hbl).trans h0
            have y1 := (hbn.cell (p := ⟨b, off + J * 2 + 1, none⟩) hbl).trans h1
            have hzz : ((wr.alloc (.cells [.int .i64 (A : Int), vw (ptrS s J), .int .i64 (B : Int), vw (keyS s J)].toArray 122)).drew).heap.size = wr.heap.size + 1 := by show (wr.alloc _).heap.size = _; simp
            have how : OwnSt (wr.alloc (.cells [.int .i64 (A : Int), vw (ptrS s J), .int .i64 (B : Int), vw (keyS s J)].toArray 122)).drew q2 d2 xs := HST.out.1.below (((Below.refl _ wr).alloc (Nat.le_refl _) _).drew)
            have HOW := Lib.hid how
            have HQW := Lib.hid HST.out.2.1
            have HBE := Lib.hid (show Below W4.heap.size W4 (wr.alloc (.cells [.int .i64 (A : Int), vw (ptrS s J), .int .i64 (B : Int), vw (keyS s J)].toArray 122)).drew from (HST.out.2.2.alloc HST.out.2.2.size _).drew)
            have HZZ := Lib.hid hzz
            have HC0' := HC0
            clear HC0
            have HC1' := HC1
            clear HC1
            have HC0 := Lib.hid h0
            have HC1 := Lib.hid h1
            have HHJ := Lib.hid hj
            subst hpo
            clear hstep hst hxs hxl hA hB h0 h1 hbe hbn hzz how hJ hj hc hci hJl
            go_wp2_with fail
            refine wp_region_noPanic ?_
            refine wp_region_F 21 (fun w' => w'.cell? ⟨b, off + J * 2, none⟩ = some (vw (keyS s J)) ∧ w'.cell? ⟨b, off + J * 2 + 1, none⟩ = some (vw (ptrS s J))) (by kernel_rfl) ?_ (fun hHeld => ?_)
            · exact ⟨x0, x1⟩
            refine' wpAnyF_takeT (i := 0) (v := _) rfl (by kernel_rfl) (by kernel_rfl) (by kernel_rfl) (by rfl) (fun _ _ _ h => h) (Or.inl ⟨by rfl, ?hy⟩) (fun _ => hHeld) _
            case hy => (intro w0 hSw; (try dsimp only at hSw); simp only [List.getElem_toArray, List.getElem_cons_zero]; go_simp; first | done | with_reducible rfl)
            simp only [Act.put, List.getElem_toArray, List.getElem_cons_zero, List.setIfInBounds_toArray, List.set_cons_zero, List.set_cons_succ]
            refine' wpAnyF_takeT (i := 1) (v := _) rfl (by kernel_rfl) (by kernel_rfl) (by kernel_rfl) (by rfl) (fun _ _ _ h => h) (Or.inl ⟨by rfl, ?hy⟩) (fun _ => hHeld) _
            case hy => (intro w0 hSw; (try dsimp only at hSw); simp only [List.getElem_toArray, List.getElem_cons_zero, List.getElem_cons_succ]; go_simp; first | done | with_reducible rfl)
            simp only [Act.put, List.getElem_toArray, List.getElem_cons_zero, List.getElem_cons_succ, List.setIfInBounds_toArray, List.set_cons_zero, List.set_cons_succ]
            refine' wpAnyF_takeT (i := 2) (v := _) rfl (by kernel_rfl) (by kernel_rfl) (by kernel_rfl) (by rfl) (fun _ _ _ h => h) (Or.inl ⟨by rfl, ?hy⟩) (fun _ => hHeld) _
            case hy => (intro w0 hSw; (try dsimp only at hSw); simp only [List.getElem_toArray, List.getElem_cons_zero, List.getElem_cons_succ]; go_simp; first | done | with_reducible rfl)
            simp only [Act.put, List.getElem_toArray, List.getElem_cons_zero, List.getElem_cons_succ, List.setIfInBounds_toArray, List.set_cons_zero, List.set_cons_succ]
            refine' wpAnyF_takeT (i := 3) (v := _) rfl (by kernel_rfl) (by kernel_rfl) (by kernel_rfl) (by rfl) (fun _ _ _ h => h) (Or.inl ⟨by rfl, ?hy⟩) (fun _ => hHeld) _
            case hy => (intro w0 hSw; (try dsimp only at hSw); simp only [List.getElem_toArray, List.getElem_cons_zero, List.getElem_cons_succ]; go_simp; first | done | with_reducible rfl)
            simp only [Act.put, List.getElem_toArray, List.getElem_cons_zero, List.getElem_cons_succ, List.setIfInBounds_toArray, List.set_cons_zero, List.set_cons_succ]
            refine' wpAnyF_takeT (i := 4) (v := _) rfl (by kernel_rfl) (by kernel_rfl) (by kernel_rfl) (by rfl) (fun _ _ _ h => h) (Or.inl ⟨by rfl, ?hy⟩) (fun _ => hHeld) _
            case hy => (intro w0 hSw; (try dsimp only at hSw); simp only [List.getElem_toArray, List.getElem_cons_zero, List.getElem_cons_succ]; go_simp; first | done | with_reducible rfl)
            simp only [Act.put, List.getElem_toArray, List.getElem_cons_zero, List.getElem_cons_succ, List.setIfInBounds_toArray, List.set_cons_zero, List.set_cons_succ]
            refine' wpAnyF_takeT (i := 5) (v := _) rfl (by kernel_rfl) (by kernel_rfl) (by kernel_rfl) (by rfl) (fun _ _ _ h => h) (Or.inl ⟨by rfl, ?hy⟩) (fun _ => hHeld) _
            case hy => (intro w0 hSw; (try dsimp only at hSw); simp only [List.getElem_toArray, List.getElem_cons_zero, List.getElem_cons_succ]; go_simp; first | done | with_reducible rfl)
            simp only [Act.put, List.getElem_toArray, List.getElem_cons_zero, List.getElem_cons_succ, List.setIfInBounds_toArray, List.set_cons_zero, List.set_cons_succ]
            refine' wpAnyF_takeT (i := 6) (v := _) rfl (by kernel_rfl) (by kernel_rfl) (by kernel_rfl) (by rfl) (fun _ _ _ h => h) (Or.inl ⟨by rfl, ?hy⟩) (fun _ => hHeld) _
            case hy => (intro w0 hSw; (try dsimp only at hSw); simp only [List.getElem_toArray, List.getElem_cons_zero, List.getElem_cons_succ]; go_simp; first | done | with_reducible rfl)
            simp only [Act.put, List.getElem_toArray, List.getElem_cons_zero, List.getElem_cons_succ, List.setIfInBounds_toArray, List.set_cons_zero, List.set_cons_succ]
            refine' wpAnyF_takeT (i := 7) (v := _) rfl (by kernel_rfl) (by kernel_rfl) (by kernel_rfl) (by rfl) (fun _ _ _ h => h) (Or.inl ⟨by rfl, ?hy⟩) (fun _ => hHeld) _
            case hy => (intro w0 hSw; (try dsimp only at hSw); simp only [List.getElem_toArray, List.getElem_cons_zero, List.getElem_cons_succ]; go_simp; first | done | with_reducible rfl)
            simp only [Act.put, List.getElem_toArray, List.getElem_cons_zero, List.getElem_cons_succ, List.setIfInBounds_toArray, List.set_cons_zero, List.set_cons_succ]
            refine' wpAnyF_take (i := 8) (v := _) rfl (by kernel_rfl) (by kernel_rfl) (by kernel_rfl) (by kernel_rfl) (by rfl) (by kernel_rfl) (fun _ _ _ h => h) (Or.inl ⟨by rfl, ?hy⟩) hHeld _
            case hy => (intro w0 hSw; (try dsimp only at hSw); simp only [List.getElem_toArray, List.getElem_cons_zero, List.getElem_cons_succ]; go_simp; first | done | with_reducible rfl)
            simp only [Act.put, List.getElem_toArray, List.getElem_cons_zero, List.getElem_cons_succ, List.setIfInBounds_toArray, List.set_cons_zero, List.set_cons_succ]
            refine' wpAnyF_takeT (i := 9) (v := _) rfl (by kernel_rfl) (by kernel_rfl) (by kernel_rfl) (by rfl) (fun _ _ _ h => h) (Or.inl ⟨by rfl, ?hy⟩) (fun _ => hHeld) _
            case hy => (intro w0 hSw; (try dsimp only at hSw); simp only [List.getElem_toArray, List.getElem_cons_zero, List.getElem_cons_succ]; go_simp; first | done | with_reducible rfl)
            simp only [Act.put, List.getElem_toArray, List.getElem_cons_zero, List.getElem_cons_succ, List.setIfInBounds_toArray, List.set_cons_zero, List.set_cons_succ]
            refine' wpAnyF_takeT (i := 10) (v := _) rfl (by kernel_rfl) (by kernel_rfl) (by kernel_rfl) (by rfl) (fun _ _ _ h => h) (Or.inl ⟨by rfl, ?hy⟩) (fun _ => hHeld) _
            case hy => (intro w0 hSw; (try dsimp only at hSw); simp only [List.getElem_toArray, List.getElem_cons_zero, List.getElem_cons_succ]; go_simp; first | done | with_reducible rfl)
            simp only [Act.put, List.getElem_toArray, List.getElem_cons_zero, List.getElem_cons_succ, List.setIfInBounds_toArray, List.set_cons_zero, List.set_cons_succ]
            refine' wpAnyF_takeT (i := 11) (v := _) rfl (by kernel_rfl) (by kernel_rfl) (by kernel_rfl) (by rfl) (fun _ _ _ h => h) (Or.inl ⟨by rfl, ?hy⟩) (fun _ => hHeld) _
            case hy => (intro w0 hSw; (try dsimp only at hSw); simp only [List.getElem_toArray, List.getElem_cons_zero, List.getElem_cons_succ]; go_simp; first | done | with_reducible rfl)
            simp only [Act.put, List.getElem_toArray, List.getElem_cons_zero, List.getElem_cons_succ, List.setIfInBounds_toArray, List.set_cons_zero, List.set_cons_succ]
            refine' wpAnyF_takeT (i := 12) (v := _) rfl (by kernel_rfl) (by kernel_rfl) (by kernel_rfl) (by rfl) (fun _ _ _ h => h) (Or.inl ⟨by rfl, ?hy⟩) (fun _ => hHeld) _
            case hy => (intro w0 hSw; (try dsimp only at hSw); simp only [List.getElem_toArray, List.getElem_cons_zero, List.getElem_cons_succ]; go_simp; first | done | with_reducible rfl)
            simp only [Act.put, List.getElem_toArray, List.getElem_cons_zero, List.getElem_cons_succ, List.setIfInBounds_toArray, List.set_cons_zero, List.set_cons_succ]
            refine' wpAnyF_takeT (i := 13) (v := _) rfl (by kernel_rfl) (by kernel_rfl) (by kernel_rfl) (by rfl) (fun _ _ _ h => h) (Or.inl ⟨by rfl, ?hy⟩) (fun _ => hHeld) _
            case hy => (intro w0 hSw; (try dsimp only at hSw); simp only [List.getElem_toArray, List.getElem_cons_zero, List.getElem_cons_succ]; go_simp; first | done | with_reducible rfl)
            simp only [Act.put, List.getElem_toArray, List.getElem_cons_zero, List.getElem_cons_succ, List.setIfInBounds_toArray, List.set_cons_zero, List.set_cons_succ]
            refine' wpAnyF_takeT (i := 14) (v := _) rfl (by kernel_rfl) (by kernel_rfl) (by kernel_rfl) (by rfl) (fun _ _ _ h => h) (Or.inl ⟨by rfl, ?hy⟩) (fun _ => hHeld) _
            case hy => (intro w0 hSw; (try dsimp only at hSw); simp only [List.getElem_toArray, List.getElem_cons_zero, List.getElem_cons_succ]; go_simp; first | done | with_reducible rfl)
            simp only [Act.put, List.getElem_toArray, List.getElem_cons_zero, List.getElem_cons_succ, List.setIfInBounds_toArray, List.set_cons_zero, List.set_cons_succ]
            refine' wpAnyF_takeT (i := 15) (v := _) rfl (by kernel_rfl) (by kernel_rfl) (by kernel_rfl) (by rfl) (fun _ _ _ h => h) (Or.inl ⟨by rfl, ?hy⟩) (fun _ => hHeld) _
            case hy => (intro w0 hSw; (try dsimp only at hSw); simp only [List.getElem_toArray, List.getElem_cons_zero, List.getElem_cons_succ]; go_simp; first | done | with_reducible rfl)
            simp only [Act.put, List.getElem_toArray, List.getElem_cons_zero, List.getElem_cons_succ, List.setIfInBounds_toArray, List.set_cons_zero, List.set_cons_succ]
            refine' wpAnyF_takeT (i := 16) (v := _) rfl (by kernel_rfl) (by kernel_rfl) (by kernel_rfl) (by rfl) (fun _ _ _ h => h) (Or.inl ⟨by rfl, ?hy⟩) (fun _ => hHeld) _
            case hy => (intro w0 hSw; (try dsimp only at hSw); simp only [List.getElem_toArray, List.getElem_cons_zero, List.getElem_cons_succ]; go_simp; first | done | with_reducible rfl)
            simp only [Act.put, List.getElem_toArray, List.getElem_cons_zero, List.getElem_cons_succ, List.setIfInBounds_toArray, List.set_cons_zero, List.set_cons_succ]
            refine' wpAnyF_take (i := 17) (v := _) rfl (by kernel_rfl) (by kernel_rfl) (by kernel_rfl) (by kernel_rfl) (by rfl) (by kernel_rfl) (fun _ _ _ h => h) (Or.inl ⟨by rfl, ?hy⟩) hHeld _
            case hy => (intro w0 hSw; (try dsimp only at hSw); simp only [List.getElem_toArray, List.getElem_cons_zero, List.getElem_cons_succ]; go_simp; first | done | with_reducible rfl)
            simp only [Act.put, List.getElem_toArray, List.getElem_cons_zero, List.getElem_cons_succ, List.setIfInBounds_toArray, List.set_cons_zero, List.set_cons_succ]
            refine' wpAnyF_takeT (i := 18) (v := _) rfl (by kernel_rfl) (by kernel_rfl) (by kernel_rfl) (by rfl) (fun _ _ _ h => h) (Or.inl ⟨by rfl, ?hy⟩) (fun _ => hHeld) _
            case hy => (intro w0 hSw; (try dsimp only at hSw); simp only [List.getElem_toArray, List.getElem_cons_zero, List.getElem_cons_succ]; go_simp; first | done | with_reducible rfl)
            simp only [Act.put, List.getElem_toArray, List.getElem_cons_zero, List.getElem_cons_succ, List.setIfInBounds_toArray, List.set_cons_zero, List.set_cons_succ]
            refine wpAnyF_one (i := 19) (by kernel_rfl) rfl (fun K hK => ?_)
            go_simp
            refine hK.out _ _ (fun _ => ?_) ?_
            · exact ⟨y0, y1⟩
            clear hK K
            try simp only [Act.put, List.getElem_toArray, List.getElem_cons_zero, List.getElem_cons_succ, List.setIfInBounds_toArray, List.set_cons_zero, List.set_cons_succ]
            refine wpAnyF_one (i := 20) (by kernel_rfl) rfl (fun K hK => ?_)
            refine step_appG (by rfl) (.tmp 65) (.tmp 84) _ rfl elem_put (by decide) sc_len sc_one q2 d2 xs [(A, ptrS s J), (B, keyS s J)] rfl HOW.out wr.heap.size 2 2 rfl rfl 122 (0, 0) (World.alloc_heap_new wr.drew _) (by simp) ⟨by have := HLN.out; omega, by simp⟩ ?_
            intro p9 c9 w9 happ
            have HAPP := Lib.hid happ
            have hbw : Below W4.heap.size W4 w9 := HBE.out.trans (happ.2.1.below (by have := HBE.out.size; exact this) (fun b hb => HQW.out b hb))
            have z0 := (hbw.cell (p := ⟨b, off + J * 2, none⟩) hbl).trans HC0.out
            have z1 := (hbw.cell (p := ⟨b, off + J * 2 + 1, none⟩) hbl).trans HC1.out
            have HBW := Lib.hid hbw
            clear happ hbw
            refine hK.out _ _ (fun _ => ?_) ?_
            · exact ⟨z0, z1⟩
            clear hK K
            try simp only [Act.put, List.getElem_toArray, List.getElem_cons_zero, List.getElem_cons_succ, List.setIfInBounds_toArray, List.set_cons_zero, List.set_cons_succ]
            refine wpAnyF_one (i := 21) (by kernel_rfl) rfl (fun K hK => ?_)
            go_simp
            refine hK.out _ _ (fun h => Bool.noConfusion (h.symm.trans (by kernel_rfl : _ = true))) ?_
            clear hK K
            try simp only [Act.put, List.getElem_toArray, List.getElem_cons_zero, List.getElem_cons_succ, List.setIfInBounds_toArray, List.set_cons_zero, List.set_cons_succ]
            refine wpAnyF_done (by kernel_rfl) ?_ _
            refine NoPanic.normal ?_
            clear hHeld x0 x1 y0 y1 z0 z1
            have hs1 := HAPP.out.2.2
            rw [HZZ.out] at hs1
            have hnew : PutSt W4 p9 c9 (xs ++ [(A, ptrS s J), (B, keyS s J)]) w9 := ⟨HAPP.out.1, fun b' hb' => (hs1 b' hb').elim (HST.out.2.1 b') (fun h => by have := HST.out.2.2.size; omega), HBW.out⟩
            have HNEW := Lib.hid hnew
            clear hs1 hnew
            go_wp2_with fail
            go_roundw
            case rel => exact ⟨c + 1, (J : Int) - 1, p9, c9, by have := HCC.out; omega, rfl, by have := HCC.out; omega, by rw [HSTEP.out, List.length_append]; rfl, by rw [HSTEP.out]; exact HNEW.out⟩
            case measure => simp [intOf]; omega
          · obtain rfl : c = n - i := by omega
            have hge' : decide ((i : Int) ≤ j) = false := decide_eq_false (by omega)
            have hge2 : ¬ (i : Int) ≤ j := by omega
            clear hw1 hw2
            obtain ⟨B, hB⟩ : ∃ A, 2 * i = A := ⟨_, rfl⟩
            obtain ⟨A, hA⟩ : ∃ A, 2 * i + 1 = A := ⟨_, rfl⟩
            have hw1 : IntKind.i64.wrap (2 * (i : Int)) = (B : Int) := by rw [IntKind.wrap_i64]; omega
            have hw2 : IntKind.i64.wrap ((B : Int) + 1) = (A : Int) := by rw [IntKind.wrap_i64]; omega
            have hend := put_end (left := left) (s := s) (K := K) (P := P) hin
            rw [hA, hB] at hend
            have hbe : Below W4.heap.size W4 wr.drew := HST.out.2.2.drew
            have x0 := (hbe.cell (p := ⟨w.heap.size, 0, none⟩) HZ4.out).trans HC0.out
            have x1 := (hbe.cell (p := ⟨w.heap.size, 1, none⟩) HZ4.out).trans HC1.out
            obtain ⟨xs, hxs⟩ : ∃ xs, (List.range (1 + 2 * (n - i))).map (fPut left s n i 1 K P) = xs := ⟨_, rfl⟩
            rw [hxs] at HST hend
            rw [hxs]
            have hxl : xs.length = 1 + 2 * (n - i) := by rw [← hxs]; simp
            have HLN := Lib.hid (show xs.length < 1000000 by omega)
            have HEND := Lib.hid hend
            have hbn : Below W4.heap.size W4 (wr.drew.alloc (.cells [.int .i64 (A : Int), vw (aheadS left s i), .int .i64 (B : Int), vw K, .int .i64 (A : Int), vw P].toArray 122)) := hbe.alloc hbe.size _
            have y0 := (hbn.cell (p := ⟨w.heap.size, 0, none⟩) HZ4.out).trans HC0.out
            have y1 := (hbn.cell (p := ⟨w.heap.size, 1, none⟩) HZ4.out).trans HC1.out
            have HBW4 := Lib.hid (fun X (h : Below W4.heap.size W4 X) => HB4.out.trans (h.mono HB4.out.size))
            have HAI := Lib.hid (HAH.out wr.drew (HBW4.out _ hbe) i (by omega))
            have hzz : ((wr.alloc (.cells [.int .i64 (A : Int), vw (aheadS left s i), .int .i64 (B : Int), vw K, .int .i64 (A : Int), vw P].toArray 122)).drew).heap.size = wr.heap.size + 1 := by show (wr.alloc _).heap.size = _; simp
            have how : OwnSt (wr.alloc (.cells [.int .i64 (A : Int), vw (aheadS left s i), .int .i64 (B : Int), vw K, .int .i64 (A : Int), vw P].toArray 122)).drew q2 d2 xs := HST.out.1.below (((Below.refl _ wr).alloc (Nat.le_refl _) _).drew)
            have HOW := Lib.hid how
            have HQW := Lib.hid HST.out.2.1
            have HBD := Lib.hid (show Below W4.heap.size W4 (wr.alloc (.cells [.int .i64 (A : Int), vw (aheadS left s i), .int .i64 (B : Int), vw K, .int .i64 (A : Int), vw P].toArray 122)).drew from (HST.out.2.2.alloc HST.out.2.2.size _).drew)
            have HZZ := Lib.hid hzz
            have hst4 := HB4.out.size
            have HSZ := Lib.hid hst4
            have HIN := Lib.hid hin
            have HNM := Lib.hid (show n + 1 < s.length / 2 by omega)
            clear hst hxs hxl hA hB hbe hbn hzz how hj hc hci HAH hend hst4 hin hlt hnm hge
            go_wp2_with fail
            refine wp_region_noPanic ?_
            refine wp_region_F 22 (fun w' => w'.cell? ⟨w.heap.size, 0, none⟩ = some (vw K) ∧ w'.cell? ⟨w.heap.size, 1, none⟩ = some (vw P)) (by kernel_rfl) ?_ (fun hHeld => ?_)
            · exact ⟨x0, x1⟩
            refine' wpAnyF_takeT (i := 0) (v := _) rfl (by kernel_rfl) (by kernel_rfl) (by kernel_rfl) (by rfl) (fun _ _ _ h => h) (Or.inl ⟨by rfl, ?hy⟩) (fun _ => hHeld) _
            case hy => (intro w0 hSw; (try dsimp only at hSw); simp only [List.getElem_toArray, List.getElem_cons_zero]; go_simp; first | done | with_reducible rfl)
            simp only [Act.put, List.getElem_toArray, List.getElem_cons_zero, List.setIfInBounds_toArray, List.set_cons_zero, List.set_cons_succ]
            refine' wpAnyF_takeT (i := 1) (v := _) rfl (by kernel_rfl) (by kernel_rfl) (by kernel_rfl) (by rfl) (fun _ _ _ h => h) (Or.inl ⟨by rfl, ?hy⟩) (fun _ => hHeld) _
            case hy => (intro w0 hSw; (try dsimp only at hSw); simp only [List.getElem_toArray, List.getElem_cons_zero, List.getElem_cons_succ]; go_simp; first | done | with_reducible rfl)
            simp only [Act.put, List.getElem_toArray, List.getElem_cons_zero, List.getElem_cons_succ, List.setIfInBounds_toArray, List.set_cons_zero, List.set_cons_succ]
            refine' wpAnyF_takeT (i := 2) (v := _) rfl (by kernel_rfl) (by kernel_rfl) (by kernel_rfl) (by rfl) (fun _ _ _ h => h) (Or.inl ⟨by rfl, ?hy⟩) (fun _ => hHeld) _
            case hy => (intro w0 hSw; (try dsimp only at hSw); simp only [List.getElem_toArray, List.getElem_cons_zero, List.getElem_cons_succ]; go_simp; first | done | with_reducible rfl)
            simp only [Act.put, List.getElem_toArray, List.getElem_cons_zero, List.getElem_cons_succ, List.setIfInBounds_toArray, List.set_cons_zero, List.set_cons_succ]
            refine' wpAnyF_takeT (i := 3) (v := _) rfl (by kernel_rfl) (by kernel_rfl) (by kernel_rfl) (by rfl) (fun _ _ _ h => h) (Or.inl ⟨by rfl, ?hy⟩) (fun _ => hHeld) _
            case hy => (intro w0 hSw; (try dsimp only at hSw); simp only [List.getElem_toArray, List.getElem_cons_zero, List.getElem_cons_succ]; go_simp; first | done | with_reducible rfl)
            simp only [Act.put, List.getElem_toArray, List.getElem_cons_zero, List.getElem_cons_succ, List.setIfInBounds_toArray, List.set_cons_zero, List.set_cons_succ]
            refine' wpAnyF_takeT (i := 4) (v := _) rfl (by kernel_rfl) (by kernel_rfl) (by kernel_rfl) (by rfl) (fun _ _ _ h => h) (Or.inl ⟨by rfl, ?hy⟩) (fun _ => hHeld) _
            case hy => (intro w0 hSw; (try dsimp only at hSw); simp only [List.getElem_toArray, List.getElem_cons_zero, List.getElem_cons_succ]; go_simp; first | done | with_reducible rfl)
            simp only [Act.put, List.getElem_toArray, List.getElem_cons_zero, List.getElem_cons_succ, List.setIfInBounds_toArray, List.set_cons_zero, List.set_cons_succ]
            refine' wpAnyF_takeT (i := 5) (v := _) rfl (by kernel_rfl) (by kernel_rfl) (by kernel_rfl) (by rfl) (fun _ _ _ h => h) (Or.inl ⟨by rfl, ?hy⟩) (fun _ => hHeld) _
            case hy => (intro w0 hSw; (try dsimp only at hSw); simp only [List.getElem_toArray, List.getElem_cons_zero, List.getElem_cons_succ]; go_simp; first | done | with_reducible rfl)
            simp only [Act.put, List.getElem_toArray, List.getElem_cons_zero, List.getElem_cons_succ, List.setIfInBounds_toArray, List.set_cons_zero, List.set_cons_succ]
            refine' wpAnyF_takeT (i := 6) (v := _) rfl (by kernel_rfl) (by kernel_rfl) (by kernel_rfl) (by rfl) (fun _ _ _ h => h) (Or.inl ⟨by rfl, ?hy⟩) (fun _ => hHeld) _
            case hy => (intro w0 hSw; (try dsimp only at hSw); simp only [List.getElem_toArray, List.getElem_cons_zero, List.getElem_cons_succ]; go_simp; first | done | with_reducible rfl)
            simp only [Act.put, List.getElem_toArray, List.getElem_cons_zero, List.getElem_cons_succ, List.setIfInBounds_toArray, List.set_cons_zero, List.set_cons_succ]
            refine' wpAnyF_takeT (i := 9) (v := _) rfl (by kernel_rfl) (by kernel_rfl) (by kernel_rfl) (by rfl) (fun _ _ _ h => h) (Or.inl ⟨by rfl, ?hy⟩) (fun _ => hHeld) _
            case hy => (intro w0 hSw; (try dsimp only at hSw); simp only [List.getElem_toArray, List.getElem_cons_zero, List.getElem_cons_succ]; go_simp; first | done | with_reducible rfl)
            simp only [Act.put, List.getElem_toArray, List.getElem_cons_zero, List.getElem_cons_succ, List.setIfInBounds_toArray, List.set_cons_zero, List.set_cons_succ]
            refine' wpAnyF_takeT (i := 10) (v := _) rfl (by kernel_rfl) (by kernel_rfl) (by kernel_rfl) (by rfl) (fun _ _ _ h => h) (Or.inl ⟨by rfl, ?hy⟩) (fun _ => hHeld) _
            case hy => (intro w0 hSw; (try dsimp only at hSw); simp only [List.getElem_toArray, List.getElem_cons_zero, List.getElem_cons_succ]; go_simp; first | done | with_reducible rfl)
            simp only [Act.put, List.getElem_toArray, List.getElem_cons_zero, List.getElem_cons_succ, List.setIfInBounds_toArray, List.set_cons_zero, List.set_cons_succ]
            refine' wpAnyF_takeT (i := 11) (v := _) rfl (by kernel_rfl) (by kernel_rfl) (by kernel_rfl) (by rfl) (fun _ _ _ h => h) (Or.inl ⟨by rfl, ?hy⟩) (fun _ => hHeld) _
            case hy => (intro w0 hSw; (try dsimp only at hSw); simp only [List.getElem_toArray, List.getElem_cons_zero, List.getElem_cons_succ]; go_simp; first | done | with_reducible rfl)
            simp only [Act.put, List.getElem_toArray, List.getElem_cons_zero, List.getElem_cons_succ, List.setIfInBounds_toArray, List.set_cons_zero, List.set_cons_succ]
            refine' wpAnyF_take (i := 12) (v := _) rfl (by kernel_rfl) (by kernel_rfl) (by kernel_rfl) (by kernel_rfl) (by rfl) (by kernel_rfl) (fun _ _ _ h => h) (Or.inl ⟨by rfl, ?hy⟩) hHeld _
            case hy => (intro w0 hSw; (try dsimp only at hSw); simp only [List.getElem_toArray, List.getElem_cons_zero, List.getElem_cons_succ]; go_simp; first | done | with_reducible rfl)
            simp only [Act.put, List.getElem_toArray, List.getElem_cons_zero, List.getElem_cons_succ, List.setIfInBounds_toArray, List.set_cons_zero, List.set_cons_succ]
            refine' wpAnyF_takeT (i := 13) (v := _) rfl (by kernel_rfl) (by kernel_rfl) (by kernel_rfl) (by rfl) (fun _ _ _ h => h) (Or.inl ⟨by rfl, ?hy⟩) (fun _ => hHeld) _
            case hy => (intro w0 hSw; (try dsimp only at hSw); simp only [List.getElem_toArray, List.getElem_cons_zero, List.getElem_cons_succ]; go_simp; first | done | with_reducible rfl)
            simp only [Act.put, List.getElem_toArray, List.getElem_cons_zero, List.getElem_cons_succ, List.setIfInBounds_toArray, List.set_cons_zero, List.set_cons_succ]
            refine' wpAnyF_takeT (i := 14) (v := _) rfl (by kernel_rfl) (by kernel_rfl) (by kernel_rfl) (by rfl) (fun _ _ _ h => h) (Or.inl ⟨by rfl, ?hy⟩) (fun _ => hHeld) _
            case hy => (intro w0 hSw; (try dsimp only at hSw); simp only [List.getElem_toArray, List.getElem_cons_zero, List.getElem_cons_succ]; go_simp; first | done | with_reducible rfl)
            simp only [Act.put, List.getElem_toArray, List.getElem_cons_zero, List.getElem_cons_succ, List.setIfInBounds_toArray, List.set_cons_zero, List.set_cons_succ]
            refine' wpAnyF_takeT (i := 15) (v := _) rfl (by kernel_rfl) (by kernel_rfl) (by kernel_rfl) (by rfl) (fun _ _ _ h => h) (Or.inl ⟨by rfl, ?hy⟩) (fun _ => hHeld) _
            case hy => (intro w0 hSw; (try dsimp only at hSw); simp only [List.getElem_toArray, List.getElem_cons_zero, List.getElem_cons_succ]; go_simp; first | done | with_reducible rfl)
            simp only [Act.put, List.getElem_toArray, List.getElem_cons_zero, List.getElem_cons_succ, List.setIfInBounds_toArray, List.set_cons_zero, List.set_cons_succ]
            refine' wpAnyF_takeT (i := 16) (v := _) rfl (by kernel_rfl) (by kernel_rfl) (by kernel_rfl) (by rfl) (fun _ _ _ h => h) (Or.inl ⟨by rfl, ?hy⟩) (fun _ => hHeld) _
            case hy => (intro w0 hSw; (try dsimp only at hSw); simp only [List.getElem_toArray, List.getElem_cons_zero, List.getElem_cons_succ]; go_simp; first | done | with_reducible rfl)
            simp only [Act.put, List.getElem_toArray, List.getElem_cons_zero, List.getElem_cons_succ, List.setIfInBounds_toArray, List.set_cons_zero, List.set_cons_succ]
            refine' wpAnyF_takeT (i := 17) (v := _) rfl (by kernel_rfl) (by kernel_rfl) (by kernel_rfl) (by rfl) (fun _ _ _ h => h) (Or.inl ⟨by rfl, ?hy⟩) (fun _ => hHeld) _
            case hy => (intro w0 hSw; (try dsimp only at hSw); simp only [List.getElem_toArray, List.getElem_cons_zero, List.getElem_cons_succ]; go_simp; first | done | with_reducible rfl)
            simp only [Act.put, List.getElem_toArray, List.getElem_cons_zero, List.getElem_cons_succ, List.setIfInBounds_toArray, List.set_cons_zero, List.set_cons_succ]
            refine' wpAnyF_take (i := 18) (v := _) rfl (by kernel_rfl) (by kernel_rfl) (by kernel_rfl) (by kernel_rfl) (by rfl) (by kernel_rfl) (fun _ _ _ h => h) (Or.inl ⟨by rfl, ?hy⟩) hHeld _
            case hy => (intro w0 hSw; (try dsimp only at hSw); simp only [List.getElem_toArray, List.getElem_cons_zero, List.getElem_cons_succ]; go_simp; first | done | with_reducible rfl)
            simp only [Act.put, List.getElem_toArray, List.getElem_cons_zero, List.getElem_cons_succ, List.setIfInBounds_toArray, List.set_cons_zero, List.set_cons_succ]
            refine' wpAnyF_takeT (i := 19) (v := _) rfl (by kernel_rfl) (by kernel_rfl) (by kernel_rfl) (by rfl) (fun _ _ _ h => h) (Or.inl ⟨by rfl, ?hy⟩) (fun _ => hHeld) _
            case hy => (intro w0 hSw; (try dsimp only at hSw); simp only [List.getElem_toArray, List.getElem_cons_zero, List.getElem_cons_succ]; go_simp; first | done | with_reducible rfl)
            simp only [Act.put, List.getElem_toArray, List.getElem_cons_zero, List.getElem_cons_succ, List.setIfInBounds_toArray, List.set_cons_zero, List.set_cons_succ]
            refine wpAnyF_one (i := 7) (by kernel_rfl) rfl (fun K hK => ?_)
            go_simp
            refine HAI.out.mono ?_
            rintro e w9 ⟨rfl, rfl⟩
            go_wp2_with fail
            refine hK.out _ _ (fun _ => ?_) ?_
            · exact ⟨x0, x1⟩
            clear hK K
            try simp only [Act.put, List.getElem_toArray, List.getElem_cons_zero, List.getElem_cons_succ, List.setIfInBounds_toArray, List.set_cons_zero, List.set_cons_succ]
            refine' wpAnyF_takeT (i := 8) (v := _) rfl (by kernel_rfl) (by kernel_rfl) (by kernel_rfl) (by rfl) (fun _ _ _ h => h) (Or.inl ⟨by rfl, ?hy⟩) (fun _ => hHeld) _
            case hy => (intro w0 hSw; (try dsimp only at hSw); simp only [List.getElem_toArray, List.getElem_cons_zero, List.getElem_cons_succ]; go_simp; first | done | with_reducible rfl)
            simp only [Act.put, List.getElem_toArray, List.getElem_cons_zero, List.getElem_cons_succ, List.setIfInBounds_toArray, List.set_cons_zero, List.set_cons_succ]
            refine wpAnyF_one (i := 20) (by kernel_rfl) rfl (fun K hK => ?_)
            go_simp
            refine hK.out _ _ (fun _ => ?_) ?_
            · exact ⟨y0, y1⟩
            clear hK K
            try simp only [Act.put, List.getElem_toArray, List.getElem_cons_zero, List.getElem_cons_succ, List.setIfInBounds_toArray, List.set_cons_zero, List.set_cons_succ]
            refine wpAnyF_one (i := 21) (by kernel_rfl) rfl (fun K hK => ?_)
            refine step_appG (by rfl) (.tmp 86) (.tmp 106) _ rfl elem_put (by decide) sc_len sc_one q2 d2 xs [(A, aheadS left s i), (B, _), (A, P)] rfl HOW.out wr.heap.size 3 3 rfl rfl 122 (0, 0) (World.alloc_heap_new wr.drew _) (by simp) ⟨by have := HLN.out; omega, by simp⟩ ?_
            intro p9 c9 w9 happ
            have HAPP := Lib.hid happ
            have hbw : Below W4.heap.size W4 w9 := HBD.out.trans (happ.2.1.below (by have := HBD.out.size; exact this) (fun b hb => HQW.out b hb))
            have z0 := (hbw.cell (p := ⟨w.heap.size, 0, none⟩) HZ4.out).trans HC0.out
            have z1 := (hbw.cell (p := ⟨w.heap.size, 1, none⟩) HZ4.out).trans HC1.out
            have HBW := Lib.hid hbw
            clear happ hbw
            refine hK.out _ _ (fun _ => ?_) ?_
            · exact ⟨z0, z1⟩
            clear hK K
            try simp only [Act.put, List.getElem_toArray, List.getElem_cons_zero, List.getElem_cons_succ, List.setIfInBounds_toArray, List.set_cons_zero, List.set_cons_succ]
            refine wpAnyF_one (i := 22) (by kernel_rfl) rfl (fun K hK => ?_)
            go_simp
            refine hK.out _ _ (fun h => Bool.noConfusion (h.symm.trans (by kernel_rfl : _ = true))) ?_
            clear hK K
            try simp only [Act.put, List.getElem_toArray, List.getElem_cons_zero, List.getElem_cons_succ, List.setIfInBounds_toArray, List.set_cons_zero, List.set_cons_succ]
            refine wpAnyF_one (i := 23) (by kernel_rfl) rfl (fun K hK => ?_)
            go_simp
            refine hK.out _ _ (fun h => Bool.noConfusion (h.symm.trans (by kernel_rfl : _ = true))) ?_
            clear hK K
            try simp only [Act.put, List.getElem_toArray, List.getElem_cons_zero, List.getElem_cons_succ, List.setIfInBounds_toArray, List.set_cons_zero, List.set_cons_succ]
            refine wpAnyF_done (by kernel_rfl) ?_ _
            refine NoPanic.normal ?_
            clear hHeld x0 x1 y0 y1 z0 z1
            have hs1 := HAPP.out.2.2
            rw [HZZ.out] at hs1
            have hpk : PutsOk 1 left s w (.slice p9 (xs.length + 3) c9) 0 w9 := fun _ => ⟨putL left s n i 1 K P, p9, c9, by rw [HEND.out, List.length_append]; rfl, by rw [HEND.out]; exact HAPP.out.1, fun b' hb' => (hs1 b' hb').elim (fun h => Nat.le_trans HSZ.out (HST.out.2.1 b' h)) (fun h => by have := HST.out.2.2.size; have := HSZ.out; omega), by
              have h := good_put (i := i) (K := K) HS.out (by rw [HN.out.2]; exact HIN.out) (by rw [HN.out.2]; exact HNM.out) HPP.out.1 HPP.out.2.1 HPP.out.2.2 HK.out
              rw [HN.out.2] at h
              exact h⟩
            have HPK := Lib.hid hpk
            clear hs1 hpk
            go_wp2_with fail
            go_ret2
            exact ⟨_, 0, rfl, HPK.out, HBW4.out _ HBW.out⟩
  · have hv' : (v != 0) = true := bne_iff_ne.2 hv
    have HV := Lib.hid hv
    clear hv
    go_wp2_with fail
    go_ret2
    exact ⟨_, v, rfl, fun h => absurd h HV.out, HB2.out⟩
end Go.Proofs.Ytenmogokbelahaa
