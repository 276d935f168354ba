/- The law PlanHolds: behind a crash at any place of a plan the words are what they were, to which so many of the stores are applied. -/
import Derived.Test.YtaflbfmlajbjcaaHoldA
import Derived.Test.YtaflbfmlajbjcaaRunC
import Derived.Test.YtaflbfmlajbjcaaSame
namespace Go.Proofs.Ytaflbfmlajbjcaa
open Go Go.RowKit

def wsK (l : List (BitVec 64)) (ps : List Put2) (k : Nat) : List (BitVec 64) := applyL l (ps.take k)
theorem wsK_len (l : List (BitVec 64)) (ps : List Put2) (k : Nat) : (wsK l ps k).length = l.length := applyL_len _ _
theorem crash_lenH (m : Mem) (pk : List (BitVec 8)) : (m.crash pk).length = m.length := by unfold Mem.crash; rw [of_len, crashV_len]
/-- Evict, whatever line is named. -/
theorem evictH {O : Nat} {m : Mem} {N : Nat → Prop} {ws : Nat → List (BitVec 64)} {n f s : Nat} {line : Int} {fl : Bool} (a : Int) (W : World) (h : MAt W O m N) (hN : ∀ x, N x → x < W.heap.size) (hi : HInv m ws n f s line fl) :
    Calls Try.prog 23 #[.pointer (some ⟨O, 0, none⟩), .int .i64 a] W fun e w' => ∃ (r : Int) (m' : Mem), e = .returned (.int .i64 r) ∧ MAt w' O m' N ∧ HInv m' ws n f s line fl ∧ Frn N W w' := by
  by_cases hr : 0 ≤ a ∧ a < (m.length : Int)
  · obtain ⟨i, rfl⟩ : ∃ i : Nat, a = i := ⟨a.toNat, by omega⟩
    refine (evict_any i W h hN (by omega)).mono ?_
    rintro e w' ⟨rfl, hm, hf⟩
    exact ⟨0, _, rfl, hm, hi.evict i, hf⟩
  · refine (evict_bad a W h hN hr).mono ?_
    rintro e w' ⟨rfl, hb⟩
    exact ⟨4, m, rfl, h.below hb, hi, Frn.of_below hb⟩
/-- One act by Run, beside the plain law. -/
theorem run1H {O X : Nat} {m : Mem} {N : Nat → Prop} {ws : Nat → List (BitVec 64)} {n f s : Nat} {line l' : Int} {fl f' : Bool} (x : Act3) (W : World) (h : MAt W O m N) (hN : ∀ y, N y → y < W.heap.size) (hX : ¬ N X) (hrd : RdS W.heap.size W (some ⟨X, 0, none⟩) 1 3 ac3 [x]) (hi : HInv m ws n f s line fl)
    (hn : nextA line fl x = some (l', f')) (hx : fineA n x = true) (hw : x.1 = 1 → ws (s + 1) = (ws s).set x.2.1.toNat x.2.2) :
    Calls Try.prog 39 #[.pointer (some ⟨O, 0, none⟩), .slice (some ⟨X, 0, none⟩) 1 1] W fun e w' => e = .returned (.int .i64 0) ∧ MAt w' O (doA m x) N ∧ Frn N W w' ∧ HInv (doA m x) ws n (if x.1 = 3 then s else f) (if x.1 = 1 then s + 1 else s) l' f' := by
  refine (run_good (some ⟨X, 0, none⟩) 1 [x] W h hrd (fun y hy => by rw [List.mem_singleton] at hy; rw [hy, hi.len]; exact hx) hN (fun b hb => by obtain ⟨a, ha, rfl, -⟩ := hb; cases ha; exact hX)).mono ?_
  rintro e w' ⟨rfl, hm, hf⟩
  exact ⟨rfl, hm, hf, hi.act x hn hx hw⟩
theorem rd1 (W : World) (a b v : Int) (V : BitVec 64) (hv : (V.toNat : Int) = v) (t : TypeId) : RdS (W.alloc (.cells #[.int .i64 a, .int .i64 b, .int .u64 v] t)).heap.size (W.alloc (.cells #[.int .i64 a, .int .i64 b, .int .u64 v] t)) (some ⟨W.heap.size, 0, none⟩) 1 3 ac3 [(a, b, V)] := by
  subst hv
  exact pl_rd3 (g := W.heap.size) (ys := [(a, b, V)]) (by rw [World.alloc_heap_new]; rfl) (by simp) (by simp [maxLen])
set_option maxRecDepth 100000 in
set_option maxHeartbeats 16000000 in
theorem holds8_good {α : Type} (fe : α → Int) (p0 p1 p3 p4 : Option Addr) (c0 c1 c3 c4 : Nat) (l : List (BitVec 64)) (ps : List Put2) (acts : Int) (ev : List α) (pk : List (BitVec 8)) (W : World) (hr0 : RdL W.heap.size W p0 c0 vw l) (hr1 : RdS W.heap.size W p1 c1 2 pc2 ps) (hr3 : RdL W.heap.size W p3 c3 (fun y => .int .i64 (fe y)) ev) (hr4 : RdL W.heap.size W p4 c4 vb pk)
    (h8 : 8 ≤ l.length) (h64 : l.length ≤ 64) (hmd : l.length % 8 = 0) (h60 : ps.length ≤ 60) (h200 : ev.length ≤ 200) (h10 : pk.length ≤ 10) :
    Calls Try.prog 10 #[.slice p0 l.length c0, .slice p1 ps.length c1, .int .i64 acts, .slice p3 ev.length c3, .slice p4 pk.length c4] W fun e w' => e = .returned (.bool true) ∧ Below W.heap.size W w'  := by
  obtain ⟨n, hn⟩ : ∃ n, l.length = n := ⟨_, rfl⟩
  obtain ⟨K, hK⟩ : ∃ K, ps.length = K := ⟨_, rfl⟩
  obtain ⟨V0, hV⟩ : ∃ V, ev.length = V := ⟨_, rfl⟩
  obtain ⟨Q, hQ⟩ : ∃ Q, pk.length = Q := ⟨_, rfl⟩
  obtain ⟨L, hL⟩ : ∃ L, n / 8 = L := ⟨_, rfl⟩
  have HN := Lib.hid (And.intro hn (And.intro hK (And.intro hV hQ)))
  have H0 := Lib.hid (And.intro hr0 (And.intro hr1 (And.intro hr3 hr4)))
  rw [hn] at h8 h64 hmd
  rw [hK] at h60
  rw [hV] at h200
  rw [hQ] at h10
  rw [hn, hK, hV, hQ]
  clear hr0 hr1 hr3 hr4 hn hK hV hQ
  have HL8 := Lib.hid (show n = 8 * L ∧ 0 < L ∧ L ≤ 20000 ∧ n ≤ 64 by omega)
  have HQ10 := Lib.hid h10
  have HR := Lib.hid (right8_yes n W (by omega))
  have d1 : decide (64 < (n : Int)) = false := decide_eq_false (by omega)
  have d2 : decide (60 < (K : Int)) = false := decide_eq_false (by omega)
  have d3 : decide (200 < (V0 : Int)) = false := decide_eq_false (by omega)
  have d4 : decide (10 < (Q : Int)) = false := decide_eq_false (by omega)
  have hof := of_any p0 c0 l W H0.out.1 (by rw [HN.out.1]; omega) (by rw [HN.out.1]; omega) (by rw [HN.out.1]; omega)
  rw [HN.out.1] at hof
  have HOF := Lib.hid hof
  have hV200 : (V0 : Int) ≤ 200 := by omega
  clear hof h8 h64 hmd hL h200 h10
  go_enter Try.func10, Try.ntmps10
  go_wp2_with fail
  refine HR.out.mono ?_
  rintro e w' ⟨rfl, rfl⟩
  go_wp2_with fail
  go_loopw [11] (fun i9 wr => ∃ k : Nat, k ≤ K ∧ i9 = .int .i64 k ∧ wr = W ∧ ∀ j (hj : j < ps.length), j < k → 0 ≤ ps[j].1 ∧ ps[j].1 < (n : Int)) (fun i9 _ => K - (intOf i9).toNat)
  case atStart => exact ⟨0, Nat.zero_le _, rfl, rfl, fun j hj h => absurd h (Nat.not_lt_zero j)⟩
  case round =>
    obtain ⟨k, hk, rfl, hwr, hprev⟩ := hrel
    replace hwr := hwr.symm
    subst hwr
    by_cases hlt : k < K
    · have hlt' : (k : Int) < (K : Int) := by omega
      have hkK : k < ps.length := by rw [HN.out.2.1]; exact hlt
      obtain ⟨g, o, rfl, hg, a0, a1⟩ := H0.out.2.1.rows2 k hkK
      obtain ⟨a, ha⟩ : ∃ a, ps[k].1 = a := ⟨_, rfl⟩
      rw [ha] at a0
      have HA : Hid (∀ h : k < ps.length, ps[k].1 = a) := Lib.hid (fun _ => ha)
      have HPV := Lib.hid hprev
      clear a1 ha hprev hkK hg
      by_cases h1 : 0 ≤ a
      · have e1 : decide (a < 0) = false := decide_eq_false (by omega)
        by_cases h2 : a < (n : Int)
        · have e2 : decide ((n : Int) ≤ a) = false := decide_eq_false (by omega)
          have HAA := Lib.hid (And.intro h1 h2)
          clear h1 h2
          go_wp2_with fail
          go_roundw
          case rel => exact ⟨k + 1, hlt, by go_num, trivial, fun j hj hjk => (Nat.lt_succ_iff_lt_or_eq.1 hjk).elim (fun h => HPV.out j hj h) (fun h => by subst h; rw [HA.out hj]; exact HAA.out)⟩
          case measure => simp [intOf]; omega
        · have e2 : decide ((n : Int) ≤ a) = true := decide_eq_true (by omega)
          clear h1 h2
          go_wp2_with fail
          refine (works08_any _).mono ?_
          rintro e w' ⟨rfl, hb⟩
          have HB := Lib.hid hb
          clear hb
          go_wp2_with fail
          go_ret
          exact ⟨rfl, HB.out⟩
      · have e1 : decide (a < 0) = true := decide_eq_true (by omega)
        clear h1
        go_wp2_with fail
        refine (works08_any _).mono ?_
        rintro e w' ⟨rfl, hb⟩
        have HB := Lib.hid hb
        clear hb
        go_wp2_with fail
        go_ret
        exact ⟨rfl, HB.out⟩
    · obtain rfl : K = k := by omega
      have hnl : ¬ (K : Int) < (K : Int) := by omega
      have hps : ∀ p ∈ ps, 0 ≤ p.1 ∧ p.1 < (n : Int) := fun p hp => by obtain ⟨j, hj, rfl⟩ := List.mem_iff_getElem.1 hp; exact hprev j hj (by rw [← HN.out.2.1]; exact hj)
      have hps8 : ∀ p ∈ ps, 0 ≤ p.1 ∧ p.1 < ((8 * L : Nat) : Int) := fun p hp => by rw [← HL8.out.1]; exact hps p hp
      have hbad := badP_fine hps8
      have hthere := ordA_there HL8.out.2.1 hps8
      have hbad0 : noA ps = 0 := by unfold noA; rw [hbad]; rfl
      have hxl := ordA_len ps
      rw [HN.out.2.1] at hxl
      have HORD : Hid (∀ U, Below W.heap.size W U → Calls Try.prog 41 #[.slice p1 K c1] U fun e w' => ∃ q d, e = .returned (.tuple #[.slice q (ordA ps).length d, .int .i64 0]) ∧ OwnA w' q d (ordA ps) ∧ (∀ b, inP q d b → U.heap.size ≤ b) ∧ Below U.heap.size U w') := Lib.hid (fun U hU => by have h := order_any p1 c1 ps U ((H0.out.2.1.kept hU).wide hU.size) (by rw [HN.out.2.1]; omega) (fun p hp => by have := hps p hp; have := HL8.out.2.2.2; omega); unfold RetO at h; rw [HN.out.2.1, hbad0] at h; exact h)
      obtain ⟨xs, hxs⟩ : ∃ xs, ordA ps = xs := ⟨_, rfl⟩
      obtain ⟨J, hJ⟩ : ∃ J, xs.length = J := ⟨_, rfl⟩
      have HPL := Lib.hid (And.intro hps (And.intro hbad (And.intro hxs (And.intro hJ (hxs ▸ hthere)))))
      rw [hxs] at HORD hxl
      rw [hJ] at HORD hxl
      have hJs : (J : Int) ≤ 182 := by omega
      clear hps hps8 hbad hthere hbad0 hxs hJ hprev hlt hxl
      go_wp2_with fail
      refine HOF.out.mono ?_
      rintro e w1 ⟨O, N, rfl, hm1, hN1, hb1⟩
      have H1 := Lib.hid (And.intro hm1 (And.intro hN1 hb1))
      clear hm1 hN1 hb1 HOF
      go_wp2_with fail
      refine (HORD.out w1 H1.out.2.2).mono ?_
      rintro e w2 ⟨q, d, rfl, hown, hq, hb2⟩
      have H2 := Lib.hid (And.intro (H1.out.1.below hb2) (And.intro hown (And.intro hq (H1.out.2.2.trans (hb2.mono H1.out.2.2.size)))))
      have HSZ := Lib.hid hb2.size
      clear hown hq hb2 HORD
      go_wp2_with fail
      refine (num08_any _ _).mono ?_
      rintro e w3 ⟨rfl, hw3⟩
      replace hw3 := hw3.symm
      subst hw3
      go_wp2_with fail
      refine (num08_any _ _).mono ?_
      rintro e w3 ⟨rfl, hw3⟩
      replace hw3 := hw3.symm
      subst hw3
      go_wp2_with fail
      have HST : Hid (HInv (Mem.of (linesOf l)) (wsK l ps) L 0 0 (-1) false) := Lib.hid (hinv_start l (by rw [HN.out.1]; exact HL8.out.1) rfl (fun k => by rw [wsK_len, HN.out.1]; exact HL8.out.1))
      go_loopw [16, 17, 18] (fun x16 x17 x18 wr => ∃ (j f s : Nat) (M : Mem) (line : Int) (fl : Bool), j ≤ J ∧ x16 = .int .i64 f ∧ x17 = .int .i64 s ∧ x18 = .int .i64 j ∧ s ≤ K ∧ (MAt wr O M N ∧ HInv M (wsK l ps) L f s line fl ∧ runA (some (-1, false)) (xs.take j) = some (line, fl) ∧ s = cntA xs j ∧ OwnA wr q d xs ∧ Below W.heap.size W wr ∧ w2.heap.size ≤ wr.heap.size)) (fun _ _ x18 _ => J - (intOf x18).toNat)
      case atStart => exact ⟨0, 0, 0, _, -1, false, Nat.zero_le _, rfl, rfl, rfl, Nat.zero_le _, H2.out.1, HST.out, by rw [List.take_zero]; rfl, rfl, H2.out.2.1, H2.out.2.2.2, Nat.le_refl _⟩
      case round =>
        clear HST
        obtain ⟨j, f, s, M, line, fl, hj, rfl, rfl, rfl, hsK, hst⟩ := hrel
        have HS := Lib.hid hst
        have hfs := hst.2.1.fs
        have hjs : (s : Int) ≤ 60 := by omega
        clear hst
        by_cases hlt : j < J
        · have hlt' : (j : Int) < (J : Int) := by omega
          by_cases hac : (j : Int) < acts
          · have e1 : decide ((j : Int) < acts) = true := decide_eq_true hac
            have hjx : j < xs.length := by rw [HPL.out.2.2.2.1]; exact hlt
            obtain ⟨g, o, rfl, hg, a0, a1, a2⟩ := (OwnG.rds ac3_len HS.out.2.2.2.2.1).rows3 j hjx
            have hgq : inP (some ⟨g, o, none⟩) d g := ⟨_, rfl, rfl, by have := (OwnG.rds ac3_len HS.out.2.2.2.2.1).1; omega⟩
            have hgN : ¬ N g := fun h => by have := (H1.out.2.1 g h).2; have := H2.out.2.2.1 g hgq; omega
            have hkind : ∃ l' f', nextA line fl xs[j] = some (l', f') ∧ runA (some (-1, false)) (xs.take (j + 1)) = some (l', f') := by have hq9 := HPL.out.2.2.1; subst hq9; exact ord_next HPL.out.2.1 j hjx HS.out.2.2.1
            have hstore : xs[j].1 = 1 → ∃ h : s < ps.length, ps[s] = (xs[j].2.1, xs[j].2.2) := by have hq9 := HPL.out.2.2.1; subst hq9; intro h9; have h8 := ord_store HPL.out.2.1 j hjx h9; rw [← HS.out.2.2.2.1] at h8; exact h8
            have hcs := cntA_succ xs j hjx
            have hth := HPL.out.2.2.2.2 _ (List.getElem_mem hjx)
            obtain ⟨x, hx⟩ : ∃ x, xs[j] = x := ⟨_, rfl⟩
            rw [hx] at a0 a1 a2 hkind hstore hcs hth
            obtain ⟨l', f', hn9, hrun⟩ := hkind
            have hfine : fineA L x = true := by unfold fineA; rw [next_right hn9, hth]; rfl
            have hset : x.1 = 1 → wsK l ps (s + 1) = (wsK l ps s).set x.2.1.toNat x.2.2 := fun h9 => by obtain ⟨h8, h7⟩ := hstore h9; unfold wsK; rw [applyL_take _ _ _ h8, h7]
            have hsk1 : x.1 = 1 → s + 1 ≤ K := fun h9 => by obtain ⟨h8, h7⟩ := hstore h9; rw [HN.out.2.1] at h8; exact h8
            obtain ⟨kd, a, Vw⟩ := x
            simp only at a0 a1 a2
            obtain ⟨v, hv⟩ : ∃ v : Int, (Vw.toNat : Int) = v := ⟨_, rfl⟩
            replace a2 : wr.cell? ⟨g, o + j * 3 + 2, none⟩ = some (.int .u64 v) := by rw [← hv]; exact a2
            have hk3 : kd = 1 ∨ kd = 2 ∨ kd = 3 := by have h9 := hfine; simp only [fineA, rightA, Bool.and_eq_true, Bool.or_eq_true, decide_eq_true_eq] at h9; omega
            have hba := below_allocR wr (.cells #[.int .i64 kd, .int .i64 a, .int .u64 v] 79)
            have HRUN : Hid (Calls Try.prog 39 #[.pointer (some ⟨O, 0, none⟩), .slice (some ⟨wr.heap.size, 0, none⟩) 1 1] (wr.alloc (.cells #[.int .i64 kd, .int .i64 a, .int .u64 v] 79)) fun e w' => e = .returned (.int .i64 0) ∧ MAt w' O (doA M (kd, a, Vw)) N ∧ Frn N wr w' ∧ HInv (doA M (kd, a, Vw)) (wsK l ps) L (if kd = 3 then s else f) (if kd = 1 then s + 1 else s) l' f') := Lib.hid ((run1H (kd, a, Vw) _ (HS.out.1.below hba) (fun y hy => by have := (H1.out.2.1 y hy).2; have := HSZ.out; have := HS.out.2.2.2.2.2.2; have := hba.size; omega) (fun h => by have := (H1.out.2.1 _ h).2; have := HSZ.out; have := HS.out.2.2.2.2.2.2; omega) (rd1 wr kd a v Vw hv _) HS.out.2.1 hn9 hfine hset).mono (fun e w' h => ⟨h.1, h.2.1, (Frn.of_below hba).trans h.2.2.1, h.2.2.2⟩))
            have hgw : g < wr.heap.size := hg
            have HGN := Lib.hid (And.intro hgN hgw)
            have HRN := Lib.hid (And.intro hrun (And.intro hcs hsk1))
            have HA0 := Lib.hid a0
            clear hn9 hth hfine hset hstore hx hba hv hgN hgq hjx hrun hcs hsk1 hg
            rcases hk3 with rfl | rfl | rfl
            · as_aux_lemma =>
                go_wp2_with fail
                refine HRUN.out.mono ?_
                rintro e w5 ⟨rfl, hm5, hf5, hi5⟩
                have b0 := (World.cell?_of_block (w := wr) (a := ⟨g, o + j * 3, none⟩) (hf5.block g HGN.out.2 HGN.out.1)).trans HA0.out
                have H5 : Hid (MAt w5 O (doA M (1, a, Vw)) N ∧ HInv (doA M (1, a, Vw)) (wsK l ps) L f (s + 1) l' f' ∧ runA (some (-1, false)) (xs.take (j + 1)) = some (l', f') ∧ (s + 1) = cntA xs (j + 1) ∧ OwnA w5 (some ⟨g, o, none⟩) d xs ∧ Below W.heap.size W w5 ∧ w2.heap.size ≤ w5.heap.size) := Lib.hid ⟨hm5, by simpa using hi5, HRN.out.1, by rw [HRN.out.2.1, ← HS.out.2.2.2.1]; simp, OwnG.keep HS.out.2.2.2.2.1 (fun b hb => hf5.block b (OwnG.lt HS.out.2.2.2.2.1 hb) (fun h => by have := (H1.out.2.1 b h).2; have := H2.out.2.2.1 b hb; omega)), HS.out.2.2.2.2.2.1.trans (hf5.below HS.out.2.2.2.2.2.1.size (fun b h => (H1.out.2.1 b h).1)), Nat.le_trans HS.out.2.2.2.2.2.2 hf5.size⟩
                have HSK := Lib.hid (show (s + 1) ≤ K from (by first | exact HRN.out.2.2 rfl | exact HRN.out.2.2 trivial))
                have hgw5 : g < w5.heap.size := Nat.lt_of_lt_of_le hgw hf5.size
                clear hm5 hf5 hi5 HRUN a0 a1 a2 hgw
                go_wp2_with fail
                refine (num08_any _ _).mono ?_
                rintro e w6 ⟨rfl, rfl⟩
                by_cases hev : j < V0
                · have hev' : (j : Int) < (V0 : Int) := by omega
                  obtain ⟨ge, oe, rfl, hge, hce⟩ := H0.out.2.2.1.at j (by rw [HN.out.2.2.1]; exact hev)
                  obtain ⟨b9, hb9⟩ : ∃ b9, fe (ev[j]'(by rw [HN.out.2.2.1]; exact hev)) = b9 := ⟨_, rfl⟩
                  rw [hb9] at hce
                  have hce6 := (H5.out.2.2.2.2.2.1.cell (p := ⟨ge, oe + j, none⟩) hge).trans hce
                  have hge6 : ge < w6.heap.size := Nat.lt_of_lt_of_le hge H5.out.2.2.2.2.2.1.size
                  have HEV := Lib.hid (evictH b9 w6 H5.out.1 (fun y hy => by have := (H1.out.2.1 y hy).2; have := HSZ.out; have := H5.out.2.2.2.2.2.2; omega) H5.out.2.1)
                  clear hge hce hb9
                  go_wp2_with fail
                  refine HEV.out.mono ?_
                  rintro e w7 ⟨r7, m7, rfl, hm7, hi7, hf7⟩
                  have H7 : Hid (MAt w7 O m7 N ∧ HInv m7 (wsK l ps) L f (s + 1) l' f' ∧ runA (some (-1, false)) (xs.take (j + 1)) = some (l', f') ∧ (s + 1) = cntA xs (j + 1) ∧ OwnA w7 (some ⟨g, o, none⟩) d xs ∧ Below W.heap.size W w7 ∧ w2.heap.size ≤ w7.heap.size) := Lib.hid ⟨hm7, hi7, H5.out.2.2.1, H5.out.2.2.2.1, OwnG.keep H5.out.2.2.2.2.1 (fun b hb => hf7.block b (OwnG.lt H5.out.2.2.2.2.1 hb) (fun h => by have := (H1.out.2.1 b h).2; have := H2.out.2.2.1 b hb; omega)), H5.out.2.2.2.2.2.1.trans (hf7.below H5.out.2.2.2.2.2.1.size (fun b h => (H1.out.2.1 b h).1)), Nat.le_trans H5.out.2.2.2.2.2.2 hf7.size⟩
                  clear hm7 hi7 hf7 b0 hce6 hge6 hgw5
                  go_wp2_with fail
                  go_roundw
                  case rel => exact ⟨j + 1, f, (s + 1), _, l', f', hlt, rfl, by go_num, by go_num, HSK.out, H7.out⟩
                  case measure => simp [intOf]; omega
                · have hev' : ¬ (j : Int) < (V0 : Int) := by omega
                  go_wp2_with fail
                  go_roundw
                  case rel => exact ⟨j + 1, f, (s + 1), _, l', f', hlt, rfl, by go_num, by go_num, HSK.out, H5.out⟩
                  case measure => simp [intOf]; omega
            · as_aux_lemma =>
                go_wp2_with fail
                refine HRUN.out.mono ?_
                rintro e w5 ⟨rfl, hm5, hf5, hi5⟩
                have b0 := (World.cell?_of_block (w := wr) (a := ⟨g, o + j * 3, none⟩) (hf5.block g HGN.out.2 HGN.out.1)).trans HA0.out
                have H5 : Hid (MAt w5 O (doA M (2, a, Vw)) N ∧ HInv (doA M (2, a, Vw)) (wsK l ps) L f s l' f' ∧ runA (some (-1, false)) (xs.take (j + 1)) = some (l', f') ∧ s = cntA xs (j + 1) ∧ OwnA w5 (some ⟨g, o, none⟩) d xs ∧ Below W.heap.size W w5 ∧ w2.heap.size ≤ w5.heap.size) := Lib.hid ⟨hm5, by simpa using hi5, HRN.out.1, by rw [HRN.out.2.1, ← HS.out.2.2.2.1]; simp, OwnG.keep HS.out.2.2.2.2.1 (fun b hb => hf5.block b (OwnG.lt HS.out.2.2.2.2.1 hb) (fun h => by have := (H1.out.2.1 b h).2; have := H2.out.2.2.1 b hb; omega)), HS.out.2.2.2.2.2.1.trans (hf5.below HS.out.2.2.2.2.2.1.size (fun b h => (H1.out.2.1 b h).1)), Nat.le_trans HS.out.2.2.2.2.2.2 hf5.size⟩
                have HSK := Lib.hid (show s ≤ K from (hsK))
                have hgw5 : g < w5.heap.size := Nat.lt_of_lt_of_le hgw hf5.size
                clear hm5 hf5 hi5 HRUN a0 a1 a2 hgw
                go_wp2_with fail
                refine (num08_any _ _).mono ?_
                rintro e w6 ⟨rfl, rfl⟩
                by_cases hev : j < V0
                · have hev' : (j : Int) < (V0 : Int) := by omega
                  obtain ⟨ge, oe, rfl, hge, hce⟩ := H0.out.2.2.1.at j (by rw [HN.out.2.2.1]; exact hev)
                  obtain ⟨b9, hb9⟩ : ∃ b9, fe (ev[j]'(by rw [HN.out.2.2.1]; exact hev)) = b9 := ⟨_, rfl⟩
                  rw [hb9] at hce
                  have hce6 := (H5.out.2.2.2.2.2.1.cell (p := ⟨ge, oe + j, none⟩) hge).trans hce
                  have hge6 : ge < w6.heap.size := Nat.lt_of_lt_of_le hge H5.out.2.2.2.2.2.1.size
                  have HEV := Lib.hid (evictH b9 w6 H5.out.1 (fun y hy => by have := (H1.out.2.1 y hy).2; have := HSZ.out; have := H5.out.2.2.2.2.2.2; omega) H5.out.2.1)
                  clear hge hce hb9
                  go_wp2_with fail
                  refine HEV.out.mono ?_
                  rintro e w7 ⟨r7, m7, rfl, hm7, hi7, hf7⟩
                  have H7 : Hid (MAt w7 O m7 N ∧ HInv m7 (wsK l ps) L f s l' f' ∧ runA (some (-1, false)) (xs.take (j + 1)) = some (l', f') ∧ s = cntA xs (j + 1) ∧ OwnA w7 (some ⟨g, o, none⟩) d xs ∧ Below W.heap.size W w7 ∧ w2.heap.size ≤ w7.heap.size) := Lib.hid ⟨hm7, hi7, H5.out.2.2.1, H5.out.2.2.2.1, OwnG.keep H5.out.2.2.2.2.1 (fun b hb => hf7.block b (OwnG.lt H5.out.2.2.2.2.1 hb) (fun h => by have := (H1.out.2.1 b h).2; have := H2.out.2.2.1 b hb; omega)), H5.out.2.2.2.2.2.1.trans (hf7.below H5.out.2.2.2.2.2.1.size (fun b h => (H1.out.2.1 b h).1)), Nat.le_trans H5.out.2.2.2.2.2.2 hf7.size⟩
                  clear hm7 hi7 hf7 b0 hce6 hge6 hgw5
                  go_wp2_with fail
                  go_roundw
                  case rel => exact ⟨j + 1, f, s, _, l', f', hlt, rfl, rfl, by go_num, HSK.out, H7.out⟩
                  case measure => simp [intOf]; omega
                · have hev' : ¬ (j : Int) < (V0 : Int) := by omega
                  go_wp2_with fail
                  go_roundw
                  case rel => exact ⟨j + 1, f, s, _, l', f', hlt, rfl, rfl, by go_num, HSK.out, H5.out⟩
                  case measure => simp [intOf]; omega
            · as_aux_lemma =>
                go_wp2_with fail
                refine HRUN.out.mono ?_
                rintro e w5 ⟨rfl, hm5, hf5, hi5⟩
                have b0 := (World.cell?_of_block (w := wr) (a := ⟨g, o + j * 3, none⟩) (hf5.block g HGN.out.2 HGN.out.1)).trans HA0.out
                have H5 : Hid (MAt w5 O (doA M (3, a, Vw)) N ∧ HInv (doA M (3, a, Vw)) (wsK l ps) L s s l' f' ∧ runA (some (-1, false)) (xs.take (j + 1)) = some (l', f') ∧ s = cntA xs (j + 1) ∧ OwnA w5 (some ⟨g, o, none⟩) d xs ∧ Below W.heap.size W w5 ∧ w2.heap.size ≤ w5.heap.size) := Lib.hid ⟨hm5, by simpa using hi5, HRN.out.1, by rw [HRN.out.2.1, ← HS.out.2.2.2.1]; simp, OwnG.keep HS.out.2.2.2.2.1 (fun b hb => hf5.block b (OwnG.lt HS.out.2.2.2.2.1 hb) (fun h => by have := (H1.out.2.1 b h).2; have := H2.out.2.2.1 b hb; omega)), HS.out.2.2.2.2.2.1.trans (hf5.below HS.out.2.2.2.2.2.1.size (fun b h => (H1.out.2.1 b h).1)), Nat.le_trans HS.out.2.2.2.2.2.2 hf5.size⟩
                have HSK := Lib.hid (show s ≤ K from (hsK))
                have hgw5 : g < w5.heap.size := Nat.lt_of_lt_of_le hgw hf5.size
                clear hm5 hf5 hi5 HRUN a0 a1 a2 hgw
                go_wp2_with fail
                refine (num08_any _ _).mono ?_
                rintro e w6 ⟨rfl, rfl⟩
                by_cases hev : j < V0
                · have hev' : (j : Int) < (V0 : Int) := by omega
                  obtain ⟨ge, oe, rfl, hge, hce⟩ := H0.out.2.2.1.at j (by rw [HN.out.2.2.1]; exact hev)
                  obtain ⟨b9, hb9⟩ : ∃ b9, fe (ev[j]'(by rw [HN.out.2.2.1]; exact hev)) = b9 := ⟨_, rfl⟩
                  rw [hb9] at hce
                  have hce6 := (H5.out.2.2.2.2.2.1.cell (p := ⟨ge, oe + j, none⟩) hge).trans hce
                  have hge6 : ge < w6.heap.size := Nat.lt_of_lt_of_le hge H5.out.2.2.2.2.2.1.size
                  have HEV := Lib.hid (evictH b9 w6 H5.out.1 (fun y hy => by have := (H1.out.2.1 y hy).2; have := HSZ.out; have := H5.out.2.2.2.2.2.2; omega) H5.out.2.1)
                  clear hge hce hb9
                  go_wp2_with fail
                  refine HEV.out.mono ?_
                  rintro e w7 ⟨r7, m7, rfl, hm7, hi7, hf7⟩
                  have H7 : Hid (MAt w7 O m7 N ∧ HInv m7 (wsK l ps) L s s l' f' ∧ runA (some (-1, false)) (xs.take (j + 1)) = some (l', f') ∧ s = cntA xs (j + 1) ∧ OwnA w7 (some ⟨g, o, none⟩) d xs ∧ Below W.heap.size W w7 ∧ w2.heap.size ≤ w7.heap.size) := Lib.hid ⟨hm7, hi7, H5.out.2.2.1, H5.out.2.2.2.1, OwnG.keep H5.out.2.2.2.2.1 (fun b hb => hf7.block b (OwnG.lt H5.out.2.2.2.2.1 hb) (fun h => by have := (H1.out.2.1 b h).2; have := H2.out.2.2.1 b hb; omega)), H5.out.2.2.2.2.2.1.trans (hf7.below H5.out.2.2.2.2.2.1.size (fun b h => (H1.out.2.1 b h).1)), Nat.le_trans H5.out.2.2.2.2.2.2 hf7.size⟩
                  clear hm7 hi7 hf7 b0 hce6 hge6 hgw5
                  go_wp2_with fail
                  go_roundw
                  case rel => exact ⟨j + 1, s, s, _, l', f', hlt, rfl, rfl, by go_num, HSK.out, H7.out⟩
                  case measure => simp [intOf]; omega
                · have hev' : ¬ (j : Int) < (V0 : Int) := by omega
                  go_wp2_with fail
                  go_roundw
                  case rel => exact ⟨j + 1, s, s, _, l', f', hlt, rfl, rfl, by go_num, HSK.out, H5.out⟩
                  case measure => simp [intOf]; omega
          · have e1 : decide ((j : Int) < acts) = false := decide_eq_false hac
            as_aux_lemma =>
              have HCI := Lib.hid (HS.out.2.1.crash pk)
              have hcr := crash_any p4 c4 pk wr HS.out.1 (fun y hy => by have := (H1.out.2.1 y hy).2; have := HSZ.out; have := HS.out.2.2.2.2.2.2; omega) ((H0.out.2.2.2.below HS.out.2.2.2.2.2.1).wide HS.out.2.2.2.2.2.1.size) (by rw [HN.out.2.2.2]; have := HQ10.out; omega)
              rw [HN.out.2.2.2] at hcr
              have HCR := Lib.hid hcr
              clear hcr
              go_wp2_with fail
              refine HCR.out.mono ?_
              rintro e w4 ⟨O2, N2, rfl, hm4, hN4, hb4⟩
              have hm4l : (M.crash pk).length = L := by rw [crash_lenH]; exact HS.out.2.1.len
              have him := image_any w4 hm4
              rw [hm4l, ← HL8.out.1] at him
              have HIM := Lib.hid him
              have H4 := Lib.hid (HS.out.2.2.2.2.2.1.trans (hb4.mono HS.out.2.2.2.2.2.1.size))
              clear hm4 hN4 hb4 HCR hm4l him
              go_wp2_with fail
              refine (num08_any _ _).mono ?_
              rintro e w5 ⟨rfl, rfl⟩
              go_wp2_with fail
              refine HIM.out.mono ?_
              rintro e w6 ⟨q6, d6, rfl, hr6, hb6⟩
              obtain ⟨now, hnow⟩ : ∃ now, flatW (M.crash pk).nows = now := ⟨_, rfl⟩
              rw [hnow] at hr6
              have hci := HCI.out
              rw [hnow] at hci
              have HCJ := Lib.hid hci
              have hnl6 : now.length = n := by obtain ⟨k, h1, h2, h3⟩ := hci; rw [h3, wsK_len, HN.out.1]
              have H6 := Lib.hid (And.intro hr6 (And.intro (H4.out.trans (hb6.mono H4.out.size)) hnl6))
              clear hr6 hb6 HIM HCI hnow hci hnl6
              go_wp2_with fail
              go_loopw [22] (fun i9 wr => ∃ k : Nat, f ≤ k ∧ k ≤ s + 1 ∧ i9 = .int .i64 k ∧ (∃ k', k ≤ k' ∧ k' ≤ s ∧ now = wsK l ps k') ∧ Below W.heap.size W wr ∧ RdL wr.heap.size wr q6 d6 vw now) (fun i9 _ => s + 1 - (intOf i9).toNat)
              case atStart => exact ⟨f, Nat.le_refl _, by omega, rfl, HCJ.out, H6.out.2.1, H6.out.1⟩
              case round =>
                obtain ⟨k, hk0, hk1, rfl, hex, hb, hrn⟩ := hrel
                have hks : k ≤ s := by obtain ⟨k', h1, h2, -⟩ := hex; omega
                have hks' : (k : Int) ≤ (s : Int) := by omega
                have HX := Lib.hid (And.intro hex (And.intro hb hrn))
                have hap := apply_any p0 p1 c0 c1 l k ps wr ((H0.out.1.below hb).wide hb.size) ((H0.out.2.1.kept hb).wide hb.size) (by rw [HN.out.1]; have := HL8.out; omega) (by rw [HN.out.1]; have := HL8.out; omega) (by rw [HN.out.2.1]; omega) (by rw [HN.out.1]; exact HPL.out.1)
                rw [HN.out.1, HN.out.2.1] at hap
                have HAP := Lib.hid hap
                clear hex hb hrn hap hk1
                go_wp2_with fail
                refine HAP.out.mono ?_
                rintro e w7 ⟨q7, d7, rfl, hr7, hb7⟩
                have H7 := Lib.hid (And.intro (HX.out.2.1.trans (hb7.mono HX.out.2.1.size)) (And.intro hr7 ((HX.out.2.2.below hb7).wide hb7.size)))
                have hsm := same_any q7 q6 d7 d6 _ now w7 H7.out.2.1 H7.out.2.2
                rw [applyL_len, HN.out.1, H6.out.2.2] at hsm
                have HSM : Hid (Calls Try.prog 43 #[.slice q7 n d7, .slice q6 n d6] w7 fun e w' => e = .returned (.bool (sameB (wsK l ps k) now)) ∧ ∃ n, w7.drewN n = w') := Lib.hid hsm
                clear hr7 hb7 HAP hsm
                go_wp2_with fail
                refine (num08_any _ _).mono ?_
                rintro e w8 ⟨rfl, rfl⟩
                go_wp2_with fail
                refine HSM.out.mono ?_
                rintro e w9 ⟨rfl, n9, rfl⟩
                have H9 : Hid (Below W.heap.size W (w8.drewN n9) ∧ RdL (w8.drewN n9).heap.size (w8.drewN n9) q6 d6 vw now) := Lib.hid ⟨below_drewN H7.out.1 n9, H7.out.2.2.below (below_drewN (Below.refl _ _) n9)⟩
                obtain ⟨w9, hw9⟩ : ∃ w9, w8.drewN n9 = w9 := ⟨_, rfl⟩
                rw [hw9] at H9
                rw [hw9]
                clear hw9 HSM
                by_cases hse : wsK l ps k = now
                · rw [show sameB (wsK l ps k) now = true from decide_eq_true hse]
                  clear hse
                  go_wp2_with fail
                  refine (works08_any _).mono ?_
                  rintro e w' ⟨rfl, hb⟩
                  have HBB := Lib.hid (H9.out.1.trans (hb.mono H9.out.1.size))
                  clear hb
                  go_wp2_with fail
                  go_ret
                  exact ⟨rfl, HBB.out⟩
                · rw [show sameB (wsK l ps k) now = false from decide_eq_false hse]
                  have HSE := Lib.hid hse
                  clear hse
                  go_wp2_with fail
                  go_roundw
                  case rel => exact ⟨k + 1, by omega, by omega, by go_num, by obtain ⟨k', h1, h2, h3⟩ := HX.out.1; exact ⟨k', by rcases Nat.lt_or_eq_of_le h1 with h | h; exact h; subst h; exact absurd h3.symm HSE.out, h2, h3⟩, H9.out.1, H9.out.2⟩
                  case measure => simp [intOf]; omega
        · obtain rfl : J = j := by omega
          have hnl9 : ¬ (J : Int) < (J : Int) := by omega
          as_aux_lemma =>
            have HCI := Lib.hid (HS.out.2.1.crash pk)
            have hcr := crash_any p4 c4 pk wr HS.out.1 (fun y hy => by have := (H1.out.2.1 y hy).2; have := HSZ.out; have := HS.out.2.2.2.2.2.2; omega) ((H0.out.2.2.2.below HS.out.2.2.2.2.2.1).wide HS.out.2.2.2.2.2.1.size) (by rw [HN.out.2.2.2]; have := HQ10.out; omega)
            rw [HN.out.2.2.2] at hcr
            have HCR := Lib.hid hcr
            clear hcr
            go_wp2_with fail
            refine HCR.out.mono ?_
            rintro e w4 ⟨O2, N2, rfl, hm4, hN4, hb4⟩
            have hm4l : (M.crash pk).length = L := by rw [crash_lenH]; exact HS.out.2.1.len
            have him := image_any w4 hm4
            rw [hm4l, ← HL8.out.1] at him
            have HIM := Lib.hid him
            have H4 := Lib.hid (HS.out.2.2.2.2.2.1.trans (hb4.mono HS.out.2.2.2.2.2.1.size))
            clear hm4 hN4 hb4 HCR hm4l him
            go_wp2_with fail
            refine (num08_any _ _).mono ?_
            rintro e w5 ⟨rfl, rfl⟩
            go_wp2_with fail
            refine HIM.out.mono ?_
            rintro e w6 ⟨q6, d6, rfl, hr6, hb6⟩
            obtain ⟨now, hnow⟩ : ∃ now, flatW (M.crash pk).nows = now := ⟨_, rfl⟩
            rw [hnow] at hr6
            have hci := HCI.out
            rw [hnow] at hci
            have HCJ := Lib.hid hci
            have hnl6 : now.length = n := by obtain ⟨k, h1, h2, h3⟩ := hci; rw [h3, wsK_len, HN.out.1]
            have H6 := Lib.hid (And.intro hr6 (And.intro (H4.out.trans (hb6.mono H4.out.size)) hnl6))
            clear hr6 hb6 HIM HCI hnow hci hnl6
            go_wp2_with fail
            go_loopw [22] (fun i9 wr => ∃ k : Nat, f ≤ k ∧ k ≤ s + 1 ∧ i9 = .int .i64 k ∧ (∃ k', k ≤ k' ∧ k' ≤ s ∧ now = wsK l ps k') ∧ Below W.heap.size W wr ∧ RdL wr.heap.size wr q6 d6 vw now) (fun i9 _ => s + 1 - (intOf i9).toNat)
            case atStart => exact ⟨f, Nat.le_refl _, by omega, rfl, HCJ.out, H6.out.2.1, H6.out.1⟩
            case round =>
              obtain ⟨k, hk0, hk1, rfl, hex, hb, hrn⟩ := hrel
              have hks : k ≤ s := by obtain ⟨k', h1, h2, -⟩ := hex; omega
              have hks' : (k : Int) ≤ (s : Int) := by omega
              have HX := Lib.hid (And.intro hex (And.intro hb hrn))
              have hap := apply_any p0 p1 c0 c1 l k ps wr ((H0.out.1.below hb).wide hb.size) ((H0.out.2.1.kept hb).wide hb.size) (by rw [HN.out.1]; have := HL8.out; omega) (by rw [HN.out.1]; have := HL8.out; omega) (by rw [HN.out.2.1]; omega) (by rw [HN.out.1]; exact HPL.out.1)
              rw [HN.out.1, HN.out.2.1] at hap
              have HAP := Lib.hid hap
              clear hex hb hrn hap hk1
              go_wp2_with fail
              refine HAP.out.mono ?_
              rintro e w7 ⟨q7, d7, rfl, hr7, hb7⟩
              have H7 := Lib.hid (And.intro (HX.out.2.1.trans (hb7.mono HX.out.2.1.size)) (And.intro hr7 ((HX.out.2.2.below hb7).wide hb7.size)))
              have hsm := same_any q7 q6 d7 d6 _ now w7 H7.out.2.1 H7.out.2.2
              rw [applyL_len, HN.out.1, H6.out.2.2] at hsm
              have HSM : Hid (Calls Try.prog 43 #[.slice q7 n d7, .slice q6 n d6] w7 fun e w' => e = .returned (.bool (sameB (wsK l ps k) now)) ∧ ∃ n, w7.drewN n = w') := Lib.hid hsm
              clear hr7 hb7 HAP hsm
              go_wp2_with fail
              refine (num08_any _ _).mono ?_
              rintro e w8 ⟨rfl, rfl⟩
              go_wp2_with fail
              refine HSM.out.mono ?_
              rintro e w9 ⟨rfl, n9, rfl⟩
              have H9 : Hid (Below W.heap.size W (w8.drewN n9) ∧ RdL (w8.drewN n9).heap.size (w8.drewN n9) q6 d6 vw now) := Lib.hid ⟨below_drewN H7.out.1 n9, H7.out.2.2.below (below_drewN (Below.refl _ _) n9)⟩
              obtain ⟨w9, hw9⟩ : ∃ w9, w8.drewN n9 = w9 := ⟨_, rfl⟩
              rw [hw9] at H9
              rw [hw9]
              clear hw9 HSM
              by_cases hse : wsK l ps k = now
              · rw [show sameB (wsK l ps k) now = true from decide_eq_true hse]
                clear hse
                go_wp2_with fail
                refine (works08_any _).mono ?_
                rintro e w' ⟨rfl, hb⟩
                have HBB := Lib.hid (H9.out.1.trans (hb.mono H9.out.1.size))
                clear hb
                go_wp2_with fail
                go_ret
                exact ⟨rfl, HBB.out⟩
              · rw [show sameB (wsK l ps k) now = false from decide_eq_false hse]
                have HSE := Lib.hid hse
                clear hse
                go_wp2_with fail
                go_roundw
                case rel => exact ⟨k + 1, by omega, by omega, by go_num, by obtain ⟨k', h1, h2, h3⟩ := HX.out.1; exact ⟨k', by rcases Nat.lt_or_eq_of_le h1 with h | h; exact h; subst h; exact absurd h3.symm HSE.out, h2, h3⟩, H9.out.1, H9.out.2⟩
                case measure => simp [intOf]; omega
set_option maxRecDepth 100000 in
set_option maxHeartbeats 8000000 in
theorem lawPlanHolds {α : Type} (fe : α → Int) (p0 p1 p3 p4 : Option Addr) (c0 c1 c3 c4 : Nat) (l : List (BitVec 64)) (ps : List Put2) (acts : Int) (ev : List α) (pk : List (BitVec 8)) (W : World) (hr0 : RdL W.heap.size W p0 c0 vw l) (hr1 : RdS W.heap.size W p1 c1 2 pc2 ps) (hr3 : RdL W.heap.size W p3 c3 (fun y => .int .i64 (fe y)) ev) (hr4 : RdL W.heap.size W p4 c4 vb pk) :
    Calls Try.prog 10 #[.slice p0 l.length c0, .slice p1 ps.length c1, .int .i64 acts, .slice p3 ev.length c3, .slice p4 pk.length c4] W fun e w' => e = .returned (.bool true) ∧ Below W.heap.size W w'  := by
  by_cases hg : (8 ≤ l.length ∧ l.length ≤ 64 ∧ l.length % 8 = 0) ∧ ps.length ≤ 60 ∧ ev.length ≤ 200 ∧ pk.length ≤ 10
  · exact holds8_good fe p0 p1 p3 p4 c0 c1 c3 c4 l ps acts ev pk W hr0 hr1 hr3 hr4 hg.1.1 hg.1.2.1 hg.1.2.2 hg.2.1 hg.2.2.1 hg.2.2.2
  clear hr0 hr1 hr3 hr4
  obtain ⟨n, hn⟩ : ∃ n, l.length = n := ⟨_, rfl⟩
  obtain ⟨K, hK⟩ : ∃ K, ps.length = K := ⟨_, rfl⟩
  obtain ⟨V0, hV⟩ : ∃ V, ev.length = V := ⟨_, rfl⟩
  obtain ⟨Q, hQ⟩ : ∃ Q, pk.length = Q := ⟨_, rfl⟩
  rw [hn, hK, hV, hQ] at hg
  rw [hn, hK, hV, hQ]
  clear hn hK hV hQ
  by_cases h64 : 64 < n
  · have d1 : decide (64 < (n : Int)) = true := decide_eq_true (by omega)
    clear h64 hg
    go_enter Try.func10, Try.ntmps10
    go_wp2_with fail
    refine (works08_any _).mono ?_
    rintro e w' ⟨rfl, hb⟩
    have HB := Lib.hid hb
    clear hb
    go_wp2_with fail
    go_ret
    exact ⟨rfl, HB.out⟩
  · have d1 : decide (64 < (n : Int)) = false := decide_eq_false (by omega)
    by_cases hr : 8 ≤ n ∧ n ≤ 131072 ∧ n % 8 = 0
    · have HR := Lib.hid (right8_yes n W hr)
      by_cases h60 : 60 < K
      · have d2 : decide (60 < (K : Int)) = true := decide_eq_true (by omega)
        clear h64 hr hg h60
        go_enter Try.func10, Try.ntmps10
        go_wp2_with fail
        refine HR.out.mono ?_
        rintro e w' ⟨rfl, rfl⟩
        go_wp2_with fail
        refine (works08_any _).mono ?_
        rintro e w' ⟨rfl, hb⟩
        have HB := Lib.hid hb
        clear hb
        go_wp2_with fail
        go_ret
        exact ⟨rfl, HB.out⟩
      · have d2 : decide (60 < (K : Int)) = false := decide_eq_false (by omega)
        by_cases h200 : 200 < V0
        · have d3 : decide (200 < (V0 : Int)) = true := decide_eq_true (by omega)
          clear h64 hr hg h60 h200
          go_enter Try.func10, Try.ntmps10
          go_wp2_with fail
          refine HR.out.mono ?_
          rintro e w' ⟨rfl, rfl⟩
          go_wp2_with fail
          refine (works08_any _).mono ?_
          rintro e w' ⟨rfl, hb⟩
          have HB := Lib.hid hb
          clear hb
          go_wp2_with fail
          go_ret
          exact ⟨rfl, HB.out⟩
        · have d3 : decide (200 < (V0 : Int)) = false := decide_eq_false (by omega)
          have d4 : decide (10 < (Q : Int)) = true := decide_eq_true (by omega)
          clear h64 hr hg h60 h200
          go_enter Try.func10, Try.ntmps10
          go_wp2_with fail
          refine HR.out.mono ?_
          rintro e w' ⟨rfl, rfl⟩
          go_wp2_with fail
          refine (works08_any _).mono ?_
          rintro e w' ⟨rfl, hb⟩
          have HB := Lib.hid hb
          clear hb
          go_wp2_with fail
          go_ret
          exact ⟨rfl, HB.out⟩
    · have HR := Lib.hid (right8_no n W hr)
      clear h64 hr hg
      go_enter Try.func10, Try.ntmps10
      go_wp2_with fail
      refine HR.out.mono ?_
      rintro e w' ⟨rfl, rfl⟩
      go_wp2_with fail
      refine (works08_any _).mono ?_
      rintro e w' ⟨rfl, hb⟩
      have HB := Lib.hid hb
      clear hb
      go_wp2_with fail
      go_ret
      exact ⟨rfl, HB.out⟩
theorem lawPlanHolds_of {α β : Type} {enc : β → List Value} (fe : α → Int) (p0 p1 p3 p4 : Option Addr) (c0 c1 c3 c4 : Nat) (l : List (BitVec 64)) (ys : List β) (acts : Int) (ev : List α) (pk : List (BitVec 8)) (W : World) (hr0 : RdL W.heap.size W p0 c0 vw l) (hr1 : RdS W.heap.size W p1 c1 2 enc ys)
    (hr3 : RdL W.heap.size W p3 c3 (fun y => .int .i64 (fe y)) ev) (hr4 : RdL W.heap.size W p4 c4 vb pk) (f : β → Put2) (hf : ∀ y, enc y = pc2 (f y)) :
    Calls Try.prog 10 #[.slice p0 l.length c0, .slice p1 ys.length c1, .int .i64 acts, .slice p3 ev.length c3, .slice p4 pk.length c4] W fun e w' => e = .returned (.bool true) ∧ Below W.heap.size W w' := by
  have := lawPlanHolds fe p0 p1 p3 p4 c0 c1 c3 c4 l (ys.map f) acts ev pk W hr0 (hr1.mapR f hf) hr3 hr4
  rwa [List.length_map] at this
end Go.Proofs.Ytaflbfmlajbjcaa
