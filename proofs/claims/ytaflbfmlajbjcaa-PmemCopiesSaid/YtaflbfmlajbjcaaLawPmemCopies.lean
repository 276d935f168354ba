/- The law PmemCopies. -/
import Derived.Test.YtaflbfmlajbjcaaPmeE
namespace Go.Proofs.Ytaflbfmlajbjcaa
open Go Go.RowKit

/-- Another memory's blocks turn. -/
theorem Two.other {W W' : World} {O : Nat} {p : Option Addr} {c : Nat} {m : Mem} {N N2 : Nat → Prop} (h : Two W O p c m N) (hf : Frn N2 W W') (h1 : ∀ x, N2 x → ¬ N x) (h2 : ∀ b, inP p c b → ¬ N2 b) : Two W' O p c m N :=
  ⟨h.mat.keep (fun x hx hl => hf.block x hl (fun h3 => h1 x h3 hx)), fun x hx => Nat.lt_of_lt_of_le (h.bnd x hx) hf.size, (h.ref.keep (fun b hi => hf.block b (h.ref.inlt hi) (h2 b hi))).wideP hf.size, h.dis, h.le, h.pos⟩
theorem yields_eql_lnS {ops : Array Oper} {S : World → Prop} {o : Oper} {a : Act} (hw : Region.wanted o (yielded ops a.tmps) = true) (x y : Operand) {ty : TypeId} (ho : o.op = .binOp .eql 72 x y ty) {u v : Ln} {r : Bool} (hx : a.eval x = lnV u) (hy : a.eval y = lnV v) (hr : eqLn u v = r) :
    YieldsIf Try.prog ops S o (.bool r) a := (yields_eql_ln hw x y ho hx hy hr).imp (fun h => ⟨h.1, fun w _ => h.2 w trivial⟩) id
theorem yields_load_ln {ops : Array Oper} {S : World → Prop} {op : Oper} {a : Act} (hw : Region.wanted op (yielded ops a.tmps) = true) (x : Operand) (ho : op.op = .load 72 x) (g o : Nat) (hx : a.eval x = .pointer (some ⟨g, o, none⟩)) (v : Ln) (hS : ∀ w, S w → w.rangeAt g o (lc v)) :
    YieldsIf Try.prog ops S op (lnV v) a := by
  obtain ⟨⟨d, hu, hd⟩, hs⟩ := rowLn
  exact yieldsIf_load_mid hw 72 x ho g o hx (lc v) d hS hu hd (by rw [lc_len]; exact hs)
set_option maxRecDepth 100000 in
set_option maxHeartbeats 8000000 in
theorem lawPmemCopies (p0 p1 : Option Addr) (c0 c1 : Nat) (l : List (BitVec 64)) (sc : List ActA) (at' : Int) (v : BitVec 64) (W : World) (hr0 : RdL W.heap.size W p0 c0 vw l) (hr1 : RdS W.heap.size W p1 c1 3 ac sc) :
    Calls Try.prog 8 #[.slice p0 l.length c0, .slice p1 sc.length c1, .int .i64 at', vw v] W fun e w' => e = .returned (.bool true) ∧ Below W.heap.size W w' := by
  obtain ⟨n, hn⟩ : ∃ n, l.length = n := ⟨_, rfl⟩
  obtain ⟨K, hK⟩ : ∃ K, sc.length = K := ⟨_, rfl⟩
  have HN := Lib.hid (And.intro hn (And.intro hK True.intro))
  have H0 := Lib.hid (And.intro hr0 (And.intro hr1 True.intro))
  rw [hn, hK]
  clear hr0 hr1 hn hK
  by_cases h64 : 64 < n
  · have d1 : decide (64 < (n : Int)) = true := decide_eq_true (by omega)
    clear h64
    go_enter Try.func8, Try.ntmps8
    go_wp2_with fail
    refine (works7_any _).mono ?_
    rintro e w' ⟨rfl, hb⟩
    have HB := Lib.hid hb
    clear hb
    go_wp2_with fail
    go_ret
    exact ⟨rfl, HB.out⟩
  · have d1 : decide (64 < (n : Int)) = false := decide_eq_false (by omega)
    by_cases hr : 8 ≤ n ∧ n ≤ 131072 ∧ n % 8 = 0
    · have HR := Lib.hid (right7_yes n W hr)
      by_cases h60 : 40 < K
      · have d2 : decide (40 < (K : Int)) = true := decide_eq_true (by omega)
        clear h64 hr h60
        go_enter Try.func8, Try.ntmps8
        go_wp2_with fail
        refine HR.out.mono ?_
        rintro e w' ⟨rfl, rfl⟩
        go_wp2_with fail
        refine (works7_any _).mono ?_
        rintro e w' ⟨rfl, hb⟩
        have HB := Lib.hid hb
        clear hb
        go_wp2_with fail
        go_ret
        exact ⟨rfl, HB.out⟩
      · have d2 : decide (40 < (K : Int)) = false := decide_eq_false (by omega)
        by_cases ha0 : at' < 0
        · have d3 : decide (at' < 0) = true := decide_eq_true ha0
          clear h64 hr h60 ha0
          go_enter Try.func8, Try.ntmps8
          go_wp2_with fail
          refine HR.out.mono ?_
          rintro e w' ⟨rfl, rfl⟩
          go_wp2_with fail
          refine (works7_any _).mono ?_
          rintro e w' ⟨rfl, hb⟩
          have HB := Lib.hid hb
          clear hb
          go_wp2_with fail
          go_ret
          exact ⟨rfl, HB.out⟩
        · have d3 : decide (at' < 0) = false := decide_eq_false ha0
          by_cases han : (n : Int) ≤ at'
          · have d4 : decide ((n : Int) ≤ at') = true := decide_eq_true han
            clear h64 hr h60 ha0 han
            go_enter Try.func8, Try.ntmps8
            go_wp2_with fail
            refine HR.out.mono ?_
            rintro e w' ⟨rfl, rfl⟩
            go_wp2_with fail
            refine (works7_any _).mono ?_
            rintro e w' ⟨rfl, hb⟩
            have HB := Lib.hid hb
            clear hb
            go_wp2_with fail
            go_ret
            exact ⟨rfl, HB.out⟩
          · have d4 : decide ((n : Int) ≤ at') = false := decide_eq_false han
            have hK60 : K ≤ 60 := by omega
            obtain ⟨i, rfl⟩ : ∃ i : Nat, at' = i := ⟨at'.toNat, by omega⟩
            have hin : i < n := by omega
            have hn8 : 8 * (n / 8) = n := by omega
            have hof := of_any p0 c0 l W H0.out.1 (by rw [HN.out.1]; omega) (by rw [HN.out.1]; omega) (by rw [HN.out.1]; omega)
            rw [HN.out.1] at hof
            have HOF := Lib.hid hof
            have HST := Lib.hid (show 0 < (linesOf l).length ∧ (linesOf l).length ≤ 1000 by rw [linesOf_len, HN.out.1]; omega)
            have HMD := Lib.hid (show l.length % 8 = 0 ∧ l.length ≤ 1000 by rw [HN.out.1]; omega)
            clear hof
            clear h64 hr h60 ha0 han
            go_enter Try.func8, Try.ntmps8
            go_wp2_with fail
            refine HR.out.mono ?_
            rintro e w' ⟨rfl, rfl⟩
            go_wp2_with fail
            refine HOF.out.mono ?_
            rintro e w1 ⟨O, N, rfl, hm, hN, hb1⟩
            have H1 := Lib.hid (And.intro hm (And.intro hN hb1))
            have hrf := of7_any p0 c0 l w1 ((H0.out.1.below hb1).wide hb1.size) HMD.out.1 HMD.out.2
            rw [HN.out.1] at hrf
            have HRF := Lib.hid hrf
            clear hm hN hb1 hrf
            go_wp2_with fail
            refine HRF.out.mono ?_
            rintro e w2 ⟨p, c, rfl, ho, hp, hb2⟩
            have H2 := Lib.hid (And.intro (two_start HST.out.1 HST.out.2 H1.out.1 H1.out.2.1 ho hp hb2) (And.intro (show ∀ x, N x → W.heap.size ≤ x from fun x hx => (H1.out.2.1 x hx).1) (H1.out.2.2.trans (hb2.mono H1.out.2.2.size))))
            clear ho hp hb2
            go_wp2_with fail
            refine (num7_any _ _).mono ?_
            rintro e w3 ⟨rfl, rfl⟩
            go_wp2_with fail
            go_loopw [11, 12] (fun x9 i wr => ∃ (k : Nat) (p : Option Addr) (c : Nat) (m : Mem), k ≤ K ∧ i = .int .i64 k ∧ x9 = .slice p m.length c ∧ m.length = n / 8 ∧ Two wr O p c m N ∧ Below W.heap.size W wr) (fun _ i _ => K - (intOf i).toNat)
            case atStart => exact ⟨0, p, c, _, Nat.zero_le _, rfl, rfl, by rw [of_len, linesOf_len, HN.out.1], H2.out.1, H2.out.2.2⟩
            case round =>
              obtain ⟨k, p, c, m, hk, rfl, rfl, hml, ht, hb⟩ := hrel
              by_cases hlt : k < K
              · have hlt' : (k : Int) < (K : Int) := by omega
                have hk9 : (k : Int) ≤ 60 := by omega
                obtain ⟨g, o, rfl, hg, a0, a1, a2⟩ := act_at H0.out.2.1 k (by rw [HN.out.2.1]; exact hlt)
                obtain ⟨x, hx⟩ : ∃ x, sc[k]'(by rw [HN.out.2.1]; exact hlt) = x := ⟨_, rfl⟩
                rw [hx] at a0 a1 a2
                have b0 := (hb.cell (p := ⟨g, o + k * 3, none⟩) hg).trans a0
                have b1 := (hb.cell (p := ⟨g, o + k * 3 + 1, none⟩) hg).trans a1
                have b2 := (hb.cell (p := ⟨g, o + k * 3 + 2, none⟩) hg).trans a2
                have HT := Lib.hid (And.intro ht (And.intro hml hb))
                have HACT := Lib.hid (show Calls Try.prog 16 #[.pointer (some ⟨O, 0, none⟩), .slice p m.length c, .agg #[.int .i64 x.what, .int .i64 x.at_, vw x.value]] wr fun e w' => ActPost wr O (stepM m x) N e w' from act7_any x wr ht)
                clear ht hb hg a0 a1 a2 hx hml
                go_wp2_with fail
                refine HACT.out.mono ?_
                rintro e w5 ⟨p', c', rfl, ht5, hf5⟩
                have HB5 := Lib.hid (And.intro (show (stepM m x).length = n / 8 by rw [stepM_len]; exact HT.out.2.1) (And.intro ht5 (HT.out.2.2.trans (hf5.below HT.out.2.2.size H2.out.2.1))))
                clear ht5 hf5 b0 b1 b2 HACT
                go_wp2_with fail
                go_roundw
                case rel => exact ⟨k + 1, p', c', _, hlt, by go_num, rfl, HB5.out⟩
                case measure => simp [intOf]; omega
              · obtain rfl : k = K := by omega
                have hnl : ¬ (k : Int) < (k : Int) := by omega
                have HT := Lib.hid (And.intro ht (And.intro hml hb))
                clear ht hb hml
                obtain ⟨g, o, rfl⟩ := own_ptr HT.out.1.ref HT.out.1.pos
                have hil : i < 8 * m.length := by have := HT.out.2.1; omega
                obtain ⟨I, hI⟩ : ∃ I, i / 8 = I := ⟨_, rfl⟩
                obtain ⟨J, hJ⟩ : ∃ J, i % 8 = J := ⟨_, rfl⟩
                have hI8 : I < m.length := by omega
                have hJ8 : J < 8 := by omega
                have hq1 : (i : Int).tdiv 8 = (I : Int) := by rw [Int.tdiv_eq_ediv_of_nonneg (by omega)]; omega
                have hq3 : (i : Int) / 8 = (I : Int) := by omega
                have hr1 : (i : Int).tmod 8 = (J : Int) := by rw [Int.tmod_eq_emod_of_nonneg (by omega)]; omega
                have hr2 : (i : Int) % 8 = (J : Int) := by omega
                have hIb : I ≤ 1000 := by have := HT.out.1.le; omega
                have hw1 : IntKind.i64.wrap (I : Int) = (I : Int) := by rw [IntKind.wrap_i64]; omega
                have hw2 : IntKind.i64.wrap (J : Int) = (J : Int) := by rw [IntKind.wrap_i64]; omega
                have hIn : (I : Int) < (m.length : Int) := by omega
                have hJn : (J : Int) < 8 := by omega
                have HCP := Lib.hid (copyM_any wr HT.out.1.mat)
                clear hn8 hin
                go_wp2_with fail
                refine HCP.out.mono ?_
                rintro e w4 ⟨O2, rfl, hm4, hb4⟩
                have H4 := Lib.hid (And.intro hm4 (And.intro (HT.out.1.below hb4) (And.intro hb4 (HT.out.2.2.trans (hb4.mono HT.out.2.2.size)))))
                have HN2 := Lib.hid (show ∀ x, (wr.heap.size ≤ x ∧ x < w4.heap.size) → ¬ N x ∧ wr.heap.size ≤ x from fun x hx => ⟨fun h2 => by have := HT.out.1.bnd x h2; have := hx.1; omega, hx.1⟩)
                have HP2 := Lib.hid (show ∀ b, inP (some ⟨g, o, none⟩) c b → b < wr.heap.size from fun b hb => HT.out.1.ref.inlt hb)
                have HN2B := Lib.hid (show ∀ x, (wr.heap.size ≤ x ∧ x < w4.heap.size) → W.heap.size ≤ x from fun x hx => Nat.le_trans HT.out.2.2.size hx.1)
                obtain ⟨hr, hgw⟩ := rds_ln HT.out.1.ref I hI8
                obtain ⟨xm, hxm⟩ : ∃ x, m[I]'hI8 = x := ⟨_, rfl⟩
                rw [hxm] at hr
                obtain ⟨u, hu⟩ : ∃ u, xm.now[J] = u := ⟨_, rfl⟩
                have n0 : wr.cell? ⟨g, o + I * 25 + J, none⟩ = some (vw u) := (range_ln.1 hr).1 J (vw u) (by simp [ec, hJ8, hu])
                obtain ⟨V, hV⟩ : ∃ V : Int, (u.toNat : Int) = V := ⟨_, rfl⟩
                obtain ⟨Vv, hVv⟩ : ∃ V : Int, (v.toNat : Int) = V := ⟨_, rfl⟩
                have hvv : vw v = .int .u64 Vv := by rw [← hVv]
                have HSTO := Lib.hid (show ∀ V', MAt V' O2 m (fun x => wr.heap.size ≤ x ∧ x < w4.heap.size) → Calls Try.prog 20 #[.pointer (some ⟨O2, 0, none⟩), .int .i64 i, .int .u64 Vv] V' fun e w' => e = .returned (.int .i64 0) ∧ MAt w' O2 (m.store i v) (fun x => wr.heap.size ≤ x ∧ x < w4.heap.size) ∧ Frn (fun x => wr.heap.size ≤ x ∧ x < w4.heap.size) V' w' from fun V' hm => by
                  have h := store_any i v V' hm hil
                  rw [hvv] at h
                  exact h)
                have hcv : w4.drew.cell? ⟨g, o + I * 25 + J, none⟩ = some (.int .u64 V) := by
                  have h1 := (hb4.cell (p := ⟨g, o + I * 25 + J, none⟩) hgw).trans n0
                  rw [← hV]; exact h1
                have HCV := Lib.hid (show w4.cell? ⟨g, o + I * 25 + J, none⟩ = some (.int .u64 V) from hcv)
                have HG := Lib.hid (show g < w4.heap.size from Nat.lt_of_lt_of_le hgw hb4.size)
                have HGW := Lib.hid hgw
                have HS1 := Lib.hid (sameM_any w4.drew (hm4.below (Below.refl _ w4).drew) ((HT.out.1.below hb4).mat.below (Below.refl _ w4).drew) rfl)
                have hss := store_same m i v (by omega)
                have hnow : (m[i / 8]'(by omega)).now[i % 8]'(Nat.mod_lt _ (by decide)) = u := by simp only [hI, hJ, hxm, hu]
                rw [hnow] at hss
                have huv : u = v ↔ V = Vv := ⟨fun e => by rw [← hV, ← hVv, e], fun e => BitVec.eq_of_toNat_eq (by omega)⟩
                clear hm4 hb4 hr hxm hu n0 hV hVv hnow hgw
                clear hI hJ
                by_cases hse : m.store i v = m
                · have hbe : (V == Vv) = true := by rw [huv.1 (hss.1 hse)]; exact beq_self_eq_true _
                  clear hss huv
                  have HSE := Lib.hid hse
                  clear hse
                  go_wp2_with fail
                  refine wp_region_noPanic ?_
                  refine wp_region_held_drew (S := (fun w' => w'.cell? ⟨g, o + I * 25 + J, none⟩ = some (.int .u64 V))) (by kernel_rfl) ?_ (fun hHeld => ?_)
                  · exact hcv
                  refine' wpAnyH_take (i := 0) (v := _) rfl (by kernel_rfl) (by kernel_rfl) (by kernel_rfl) (fun _ _ _ h => h) (Or.inl ⟨by rfl, ?hy⟩) hHeld _
                  case hy => (intro w0 hSw; (try dsimp only at hSw); (try simp only [List.getElem_toArray, List.getElem_cons_zero, List.getElem_cons_succ]); go_simp; first | done | with_reducible rfl)
                  try simp only [Act.put, List.getElem_toArray, List.getElem_cons_zero, List.getElem_cons_succ, List.setIfInBounds_toArray, List.set_cons_zero, List.set_cons_succ]
                  refine' wpAnyH_take (i := 1) (v := _) rfl (by kernel_rfl) (by kernel_rfl) (by kernel_rfl) (fun _ _ _ h => h) (Or.inl ⟨by rfl, ?hy⟩) hHeld _
                  case hy => (intro w0 hSw; (try dsimp only at hSw); (try simp only [List.getElem_toArray, List.getElem_cons_zero, List.getElem_cons_succ]); go_simp; first | done | with_reducible rfl)
                  try simp only [Act.put, List.getElem_toArray, List.getElem_cons_zero, List.getElem_cons_succ, List.setIfInBounds_toArray, List.set_cons_zero, List.set_cons_succ]
                  refine wpAnyH_ready (rs := [2]) (by kernel_rfl) (by simp) ?_
                  refine AllReadyH.cons rfl (fun K hK => ?_) AllReadyH.nil
                  go_simp
                  refine HS1.out.mono ?_
                  rintro e w5 ⟨r1, rfl, hr1, hb5⟩
                  obtain rfl : r1 = true := hr1.2 (by first | trivial | rfl)
                  have H5 := Lib.hid (And.intro (H4.out.1.below ((Below.refl _ w4).drew.trans hb5)) (And.intro (H4.out.2.1.below ((Below.refl _ w4).drew.trans hb5)) (And.intro (show Below w4.heap.size w4 w5 from (Below.refl _ w4).drew.trans hb5) (H4.out.2.2.2.trans (((Below.refl w4.heap.size w4).drew.trans hb5).mono H4.out.2.2.2.size)))))
                  have hcv5 := ((Below.refl _ w4).drew.trans hb5).cell (p := ⟨g, o + I * 25 + J, none⟩) HG.out |>.trans HCV.out
                  have HCV5 := Lib.hid hcv5
                  clear hr1 hb5 hcv5
                  clear hHeld
                  refine hK.out _ _ ?_ (fun hHeld => ?_)
                  · exact HCV5.out
                  clear hK K
                  try simp only [Act.put, List.getElem_toArray, List.getElem_cons_zero, List.getElem_cons_succ, List.setIfInBounds_toArray, List.set_cons_zero, List.set_cons_succ]
                  refine' wpAnyH_take (i := 3) (v := _) rfl (by kernel_rfl) (by kernel_rfl) (by kernel_rfl) (fun _ _ _ h => h) (Or.inl ⟨by rfl, ?hy⟩) hHeld _
                  case hy => (intro w0 hSw; (try dsimp only at hSw); (try simp only [List.getElem_toArray, List.getElem_cons_zero, List.getElem_cons_succ]); go_simp; first | done | with_reducible rfl)
                  try simp only [Act.put, List.getElem_toArray, List.getElem_cons_zero, List.getElem_cons_succ, List.setIfInBounds_toArray, List.set_cons_zero, List.set_cons_succ]
                  refine' wpAnyH_take (i := 4) (v := _) rfl (by kernel_rfl) (by kernel_rfl) (by kernel_rfl) (fun _ _ _ h => h) (Or.inl ⟨by rfl, ?hy⟩) hHeld _
                  case hy => (intro w0 hSw; (try dsimp only at hSw); (try simp only [List.getElem_toArray, List.getElem_cons_zero, List.getElem_cons_succ]); go_simp; first | done | with_reducible rfl)
                  try simp only [Act.put, List.getElem_toArray, List.getElem_cons_zero, List.getElem_cons_succ, List.setIfInBounds_toArray, List.set_cons_zero, List.set_cons_succ]
                  refine' wpAnyH_take (i := 5) (v := _) rfl (by kernel_rfl) (by kernel_rfl) (by kernel_rfl) (fun _ _ _ h => h) (Or.inl ⟨by rfl, ?hy⟩) hHeld _
                  case hy => (intro w0 hSw; (try dsimp only at hSw); (try simp only [List.getElem_toArray, List.getElem_cons_zero, List.getElem_cons_succ]); go_simp; first | done | with_reducible rfl)
                  try simp only [Act.put, List.getElem_toArray, List.getElem_cons_zero, List.getElem_cons_succ, List.setIfInBounds_toArray, List.set_cons_zero, List.set_cons_succ]
                  refine' wpAnyH_take (i := 6) (v := _) rfl (by kernel_rfl) (by kernel_rfl) (by kernel_rfl) (fun _ _ _ h => h) (Or.inl ⟨by rfl, ?hy⟩) hHeld _
                  case hy => (intro w0 hSw; (try dsimp only at hSw); (try simp only [List.getElem_toArray, List.getElem_cons_zero, List.getElem_cons_succ]); go_simp; first | done | with_reducible rfl)
                  try simp only [Act.put, List.getElem_toArray, List.getElem_cons_zero, List.getElem_cons_succ, List.setIfInBounds_toArray, List.set_cons_zero, List.set_cons_succ]
                  refine' wpAnyH_take (i := 7) (v := _) rfl (by kernel_rfl) (by kernel_rfl) (by kernel_rfl) (fun _ _ _ h => h) (Or.inl ⟨by rfl, ?hy⟩) hHeld _
                  case hy => (intro w0 hSw; (try dsimp only at hSw); (try simp only [List.getElem_toArray, List.getElem_cons_zero, List.getElem_cons_succ]); go_simp; first | done | with_reducible rfl)
                  try simp only [Act.put, List.getElem_toArray, List.getElem_cons_zero, List.getElem_cons_succ, List.setIfInBounds_toArray, List.set_cons_zero, List.set_cons_succ]
                  refine wpAnyH_ready (rs := [8]) (by kernel_rfl) (by simp) ?_
                  refine AllReadyH.cons rfl (fun K hK => ?_) AllReadyH.nil
                  go_simp
                  refine (HSTO.out w5 H5.out.1).mono ?_
                  rintro e w6 ⟨rfl, hm6, hf6⟩
                  have H6 := Lib.hid (And.intro hm6 (And.intro (H5.out.2.1.other hf6 (fun x hx => (HN2.out x hx).1) (fun b hb h2 => by have := HP2.out b hb; have := h2.1; omega)) (And.intro (H5.out.2.2.2.trans (hf6.below H5.out.2.2.2.size HN2B.out)) (show w4.heap.size ≤ w6.heap.size from Nat.le_trans H5.out.2.2.1.size hf6.size))))
                  have hcv6 := (World.cell?_of_block (w := w5) (a := ⟨g, o + I * 25 + J, none⟩) (hf6.block g (Nat.lt_of_lt_of_le HG.out H5.out.2.2.1.size) (fun h => by have := (HN2.out g h).2; have := HGW.out; omega))).trans HCV5.out
                  have HCV6 := Lib.hid hcv6
                  clear hm6 hf6 hcv6
                  clear hHeld
                  refine hK.out _ _ ?_ (fun hHeld => ?_)
                  · exact HCV6.out
                  clear hK K
                  try simp only [Act.put, List.getElem_toArray, List.getElem_cons_zero, List.getElem_cons_succ, List.setIfInBounds_toArray, List.set_cons_zero, List.set_cons_succ]
                  refine wpAnyH_ready (rs := [9]) (by kernel_rfl) (by simp) ?_
                  refine AllReadyH.cons rfl (fun K hK => ?_) AllReadyH.nil
                  go_simp
                  refine (num7_any _ _).mono ?_
                  rintro e w7 ⟨rfl, rfl⟩
                  clear hHeld
                  refine hK.out _ _ ?_ (fun hHeld => ?_)
                  · exact HCV6.out
                  clear hK K
                  try simp only [Act.put, List.getElem_toArray, List.getElem_cons_zero, List.getElem_cons_succ, List.setIfInBounds_toArray, List.set_cons_zero, List.set_cons_succ]
                  refine' wpAnyH_take (i := 10) (v := _) rfl (by kernel_rfl) (by kernel_rfl) (by kernel_rfl) (fun _ _ _ h => h) (Or.inl ⟨by rfl, ?hy⟩) hHeld _
                  case hy => (intro w0 hSw; (try dsimp only at hSw); (try simp only [List.getElem_toArray, List.getElem_cons_zero, List.getElem_cons_succ]); go_simp; first | done | with_reducible rfl)
                  try simp only [Act.put, List.getElem_toArray, List.getElem_cons_zero, List.getElem_cons_succ, List.setIfInBounds_toArray, List.set_cons_zero, List.set_cons_succ]
                  refine' wpAnyH_take (i := 11) (v := _) rfl (by kernel_rfl) (by kernel_rfl) (by kernel_rfl) (fun _ _ _ h => h) (Or.inl ⟨by rfl, ?hy⟩) hHeld _
                  case hy => (intro w0 hSw; (try dsimp only at hSw); (try simp only [List.getElem_toArray, List.getElem_cons_zero, List.getElem_cons_succ]); go_simp; first | done | with_reducible rfl)
                  try simp only [Act.put, List.getElem_toArray, List.getElem_cons_zero, List.getElem_cons_succ, List.setIfInBounds_toArray, List.set_cons_zero, List.set_cons_succ]
                  refine' wpAnyH_take (i := 12) (v := _) rfl (by kernel_rfl) (by kernel_rfl) (by kernel_rfl) (fun _ _ _ h => h) (Or.inl ⟨by rfl, ?hy⟩) hHeld _
                  case hy => (intro w0 hSw; (try dsimp only at hSw); (try simp only [List.getElem_toArray, List.getElem_cons_zero, List.getElem_cons_succ]); go_simp; first | done | with_reducible rfl)
                  try simp only [Act.put, List.getElem_toArray, List.getElem_cons_zero, List.getElem_cons_succ, List.setIfInBounds_toArray, List.set_cons_zero, List.set_cons_succ]
                  refine' wpAnyH_take (i := 13) (v := _) rfl (by kernel_rfl) (by kernel_rfl) (by kernel_rfl) (fun _ _ _ h => h) (Or.inl ⟨by rfl, ?hy⟩) hHeld _
                  case hy => (intro w0 hSw; (try dsimp only at hSw); (try simp only [List.getElem_toArray, List.getElem_cons_zero, List.getElem_cons_succ]); go_simp; first | done | with_reducible rfl)
                  try simp only [Act.put, List.getElem_toArray, List.getElem_cons_zero, List.getElem_cons_succ, List.setIfInBounds_toArray, List.set_cons_zero, List.set_cons_succ]
                  refine' wpAnyH_take (i := 14) (v := _) rfl (by kernel_rfl) (by kernel_rfl) (by kernel_rfl) (fun _ _ _ h => h) (Or.inl ⟨by rfl, ?hy⟩) hHeld _
                  case hy => (intro w0 hSw; (try dsimp only at hSw); (try simp only [List.getElem_toArray, List.getElem_cons_zero, List.getElem_cons_succ]); go_simp; first | done | with_reducible rfl)
                  try simp only [Act.put, List.getElem_toArray, List.getElem_cons_zero, List.getElem_cons_succ, List.setIfInBounds_toArray, List.set_cons_zero, List.set_cons_succ]
                  refine' wpAnyH_take (i := 16) (v := _) rfl (by kernel_rfl) (by kernel_rfl) (by kernel_rfl) (fun _ _ _ h => h) (Or.inl ⟨by rfl, ?hy⟩) hHeld _
                  case hy => (intro w0 hSw; (try dsimp only at hSw); (try simp only [List.getElem_toArray, List.getElem_cons_zero, List.getElem_cons_succ]); go_simp; first | done | with_reducible rfl)
                  try simp only [Act.put, List.getElem_toArray, List.getElem_cons_zero, List.getElem_cons_succ, List.setIfInBounds_toArray, List.set_cons_zero, List.set_cons_succ]
                  refine' wpAnyH_take (i := 17) (v := _) rfl (by kernel_rfl) (by kernel_rfl) (by kernel_rfl) (fun _ _ _ h => h) (Or.inl ⟨by rfl, ?hy⟩) hHeld _
                  case hy => (intro w0 hSw; (try dsimp only at hSw); (try simp only [List.getElem_toArray, List.getElem_cons_zero, List.getElem_cons_succ]); go_simp; first | done | with_reducible rfl)
                  try simp only [Act.put, List.getElem_toArray, List.getElem_cons_zero, List.getElem_cons_succ, List.setIfInBounds_toArray, List.set_cons_zero, List.set_cons_succ]
                  refine' wpAnyH_take (i := 18) (v := _) rfl (by kernel_rfl) (by kernel_rfl) (by kernel_rfl) (fun _ _ _ h => h) (Or.inl ⟨by rfl, ?hy⟩) hHeld _
                  case hy => (intro w0 hSw; (try dsimp only at hSw); (try simp only [List.getElem_toArray, List.getElem_cons_zero, List.getElem_cons_succ]); go_simp; first | done | with_reducible rfl)
                  try simp only [Act.put, List.getElem_toArray, List.getElem_cons_zero, List.getElem_cons_succ, List.setIfInBounds_toArray, List.set_cons_zero, List.set_cons_succ]
                  refine' wpAnyH_take (i := 19) (v := _) rfl (by kernel_rfl) (by kernel_rfl) (by kernel_rfl) (fun _ _ _ h => h) (Or.inl ⟨by rfl, ?hy⟩) hHeld _
                  case hy => (intro w0 hSw; (try dsimp only at hSw); (try simp only [List.getElem_toArray, List.getElem_cons_zero, List.getElem_cons_succ]); go_simp; first | done | with_reducible rfl)
                  try simp only [Act.put, List.getElem_toArray, List.getElem_cons_zero, List.getElem_cons_succ, List.setIfInBounds_toArray, List.set_cons_zero, List.set_cons_succ]
                  refine' wpAnyH_take (i := 20) (v := _) rfl (by kernel_rfl) (by kernel_rfl) (by kernel_rfl) (fun _ _ _ h => h) (Or.inl ⟨by rfl, ?hy⟩) hHeld _
                  case hy => (intro w0 hSw; (try dsimp only at hSw); (try simp only [List.getElem_toArray, List.getElem_cons_zero, List.getElem_cons_succ]); go_simp; first | done | with_reducible rfl)
                  try simp only [Act.put, List.getElem_toArray, List.getElem_cons_zero, List.getElem_cons_succ, List.setIfInBounds_toArray, List.set_cons_zero, List.set_cons_succ]
                  refine' wpAnyH_take (i := 21) (v := _) rfl (by kernel_rfl) (by kernel_rfl) (by kernel_rfl) (fun _ _ _ h => h) (Or.inl ⟨by rfl, ?hy⟩) hHeld _
                  case hy => (intro w0 hSw; (try dsimp only at hSw); (try simp only [List.getElem_toArray, List.getElem_cons_zero, List.getElem_cons_succ]); go_simp; first | done | with_reducible rfl)
                  try simp only [Act.put, List.getElem_toArray, List.getElem_cons_zero, List.getElem_cons_succ, List.setIfInBounds_toArray, List.set_cons_zero, List.set_cons_succ]
                  refine' wpAnyH_take (i := 22) (v := _) rfl (by kernel_rfl) (by kernel_rfl) (by kernel_rfl) (fun _ _ _ h => h) (Or.inl ⟨by rfl, ?hy⟩) hHeld _
                  case hy => (intro w0 hSw; (try dsimp only at hSw); (try simp only [List.getElem_toArray, List.getElem_cons_zero, List.getElem_cons_succ]); go_simp; first | done | with_reducible rfl)
                  try simp only [Act.put, List.getElem_toArray, List.getElem_cons_zero, List.getElem_cons_succ, List.setIfInBounds_toArray, List.set_cons_zero, List.set_cons_succ]
                  refine' wpAnyH_take (i := 23) (v := _) rfl (by kernel_rfl) (by kernel_rfl) (by kernel_rfl) (fun _ _ _ h => h) (Or.inl ⟨by rfl, ?hy⟩) hHeld _
                  case hy => (intro w0 hSw; (try dsimp only at hSw); (try simp only [List.getElem_toArray, List.getElem_cons_zero, List.getElem_cons_succ]); go_simp; first | done | with_reducible rfl)
                  try simp only [Act.put, List.getElem_toArray, List.getElem_cons_zero, List.getElem_cons_succ, List.setIfInBounds_toArray, List.set_cons_zero, List.set_cons_succ]
                  refine' wpAnyH_take (i := 24) (v := _) rfl (by kernel_rfl) (by kernel_rfl) (by kernel_rfl) (fun _ _ _ h => h) (Or.inl ⟨by rfl, ?hy⟩) hHeld _
                  case hy => (intro w0 hSw; (try dsimp only at hSw); (try simp only [List.getElem_toArray, List.getElem_cons_zero, List.getElem_cons_succ]); go_simp; first | done | with_reducible rfl)
                  try simp only [Act.put, List.getElem_toArray, List.getElem_cons_zero, List.getElem_cons_succ, List.setIfInBounds_toArray, List.set_cons_zero, List.set_cons_succ]
                  refine' wpAnyH_take (i := 25) (v := _) rfl (by kernel_rfl) (by kernel_rfl) (by kernel_rfl) (fun _ _ _ h => h) (Or.inl ⟨by rfl, ?hy⟩) hHeld _
                  case hy => (intro w0 hSw; (try dsimp only at hSw); (try simp only [List.getElem_toArray, List.getElem_cons_zero, List.getElem_cons_succ]); go_simp; first | done | with_reducible rfl)
                  try simp only [Act.put, List.getElem_toArray, List.getElem_cons_zero, List.getElem_cons_succ, List.setIfInBounds_toArray, List.set_cons_zero, List.set_cons_succ]
                  refine' wpAnyH_take (i := 26) (v := _) rfl (by kernel_rfl) (by kernel_rfl) (by kernel_rfl) (fun _ _ _ h => h) (Or.inl ⟨by rfl, ?hy⟩) hHeld _
                  case hy => (intro w0 hSw; (try dsimp only at hSw); (try simp only [List.getElem_toArray, List.getElem_cons_zero, List.getElem_cons_succ]); go_simp; first | done | with_reducible rfl)
                  try simp only [Act.put, List.getElem_toArray, List.getElem_cons_zero, List.getElem_cons_succ, List.setIfInBounds_toArray, List.set_cons_zero, List.set_cons_succ]
                  refine wpAnyH_ready (rs := [15]) (by kernel_rfl) (by simp) ?_
                  refine AllReadyH.cons rfl (fun K hK => ?_) AllReadyH.nil
                  go_simp
                  refine (sameM_any w7 H6.out.1 H6.out.2.1.mat (store_len m i v)).mono ?_
                  rintro e w8 ⟨r2, rfl, hr2, hb8⟩
                  obtain rfl : r2 = true := hr2.2 HSE.out
                  have H8 := Lib.hid (And.intro (H6.out.2.1.below hb8) (H6.out.2.2.1.trans (hb8.mono H6.out.2.2.1.size)))
                  have HCV8 := Lib.hid ((hb8.cell (p := ⟨g, o + I * 25 + J, none⟩) (Nat.lt_of_lt_of_le HG.out H6.out.2.2.2)).trans HCV6.out)
                  have HG8 := Lib.hid (show g < w8.heap.size from Nat.lt_of_lt_of_le (Nat.lt_of_lt_of_le HG.out H6.out.2.2.2) hb8.size)
                  clear hr2 hb8
                  clear hHeld
                  refine hK.out _ _ ?_ (fun hHeld => ?_)
                  · exact HCV8.out
                  clear hK K
                  try simp only [Act.put, List.getElem_toArray, List.getElem_cons_zero, List.getElem_cons_succ, List.setIfInBounds_toArray, List.set_cons_zero, List.set_cons_succ]
                  refine' wpAnyH_take (i := 27) (v := _) rfl (by kernel_rfl) (by kernel_rfl) (by kernel_rfl) (fun _ _ _ h => h) (Or.inl ⟨by rfl, ?hy⟩) hHeld _
                  case hy => (intro w0 hSw; (try dsimp only at hSw); (try simp only [List.getElem_toArray, List.getElem_cons_zero, List.getElem_cons_succ]); go_simp; first | done | with_reducible rfl)
                  try simp only [Act.put, List.getElem_toArray, List.getElem_cons_zero, List.getElem_cons_succ, List.setIfInBounds_toArray, List.set_cons_zero, List.set_cons_succ]
                  refine' wpAnyH_take (i := 28) (v := _) rfl (by kernel_rfl) (by kernel_rfl) (by kernel_rfl) (fun _ _ _ h => h) (Or.inl ⟨by rfl, ?hy⟩) hHeld _
                  case hy => (intro w0 hSw; (try dsimp only at hSw); (try simp only [List.getElem_toArray, List.getElem_cons_zero, List.getElem_cons_succ]); go_simp; first | done | with_reducible rfl)
                  try simp only [Act.put, List.getElem_toArray, List.getElem_cons_zero, List.getElem_cons_succ, List.setIfInBounds_toArray, List.set_cons_zero, List.set_cons_succ]
                  refine' wpAnyH_take (i := 29) (v := _) rfl (by kernel_rfl) (by kernel_rfl) (by kernel_rfl) (fun _ _ _ h => h) (Or.inl ⟨by rfl, ?hy⟩) hHeld _
                  case hy => (intro w0 hSw; (try dsimp only at hSw); (try simp only [List.getElem_toArray, List.getElem_cons_zero, List.getElem_cons_succ]); go_simp; first | done | with_reducible rfl)
                  try simp only [Act.put, List.getElem_toArray, List.getElem_cons_zero, List.getElem_cons_succ, List.setIfInBounds_toArray, List.set_cons_zero, List.set_cons_succ]
                  refine' wpAnyH_take (i := 30) (v := _) rfl (by kernel_rfl) (by kernel_rfl) (by kernel_rfl) (fun _ _ _ h => h) (Or.inl ⟨by rfl, ?hy⟩) hHeld _
                  case hy => (intro w0 hSw; (try dsimp only at hSw); (try simp only [List.getElem_toArray, List.getElem_cons_zero, List.getElem_cons_succ]); go_simp; first | done | with_reducible rfl)
                  try simp only [Act.put, List.getElem_toArray, List.getElem_cons_zero, List.getElem_cons_succ, List.setIfInBounds_toArray, List.set_cons_zero, List.set_cons_succ]
                  refine' wpAnyH_take (i := 31) (v := _) rfl (by kernel_rfl) (by kernel_rfl) (by kernel_rfl) (fun _ _ _ h => h) (Or.inl ⟨by rfl, ?hy⟩) hHeld _
                  case hy => (intro w0 hSw; (try dsimp only at hSw); (try simp only [List.getElem_toArray, List.getElem_cons_zero, List.getElem_cons_succ]); go_simp; first | done | with_reducible rfl)
                  try simp only [Act.put, List.getElem_toArray, List.getElem_cons_zero, List.getElem_cons_succ, List.setIfInBounds_toArray, List.set_cons_zero, List.set_cons_succ]
                  refine wpAnyH_ready (rs := [32]) (by kernel_rfl) (by simp) ?_
                  refine AllReadyH.cons rfl (fun K hK => ?_) AllReadyH.nil
                  go_simp
                  refine (is7_any w8 H8.out.1).mono ?_
                  rintro e w9 ⟨rfl, hb9⟩
                  have H9 := Lib.hid (And.intro (H8.out.1.below hb9) (H8.out.2.trans (hb9.mono H8.out.2.size)))
                  have HCV9 := Lib.hid ((hb9.cell (p := ⟨g, o + I * 25 + J, none⟩) HG8.out).trans HCV8.out)
                  clear hb9
                  clear hHeld
                  refine hK.out _ _ ?_ (fun hHeld => ?_)
                  · exact HCV9.out
                  clear hK K
                  try simp only [Act.put, List.getElem_toArray, List.getElem_cons_zero, List.getElem_cons_succ, List.setIfInBounds_toArray, List.set_cons_zero, List.set_cons_succ]
                  refine' wpAnyH_take (i := 33) (v := _) rfl (by kernel_rfl) (by kernel_rfl) (by kernel_rfl) (fun _ _ _ h => h) (Or.inl ⟨by rfl, ?hy⟩) hHeld _
                  case hy => (intro w0 hSw; (try dsimp only at hSw); (try simp only [List.getElem_toArray, List.getElem_cons_zero, List.getElem_cons_succ]); go_simp; first | done | with_reducible rfl)
                  try simp only [Act.put, List.getElem_toArray, List.getElem_cons_zero, List.getElem_cons_succ, List.setIfInBounds_toArray, List.set_cons_zero, List.set_cons_succ]
                  refine' wpAnyH_take (i := 34) (v := _) rfl (by kernel_rfl) (by kernel_rfl) (by kernel_rfl) (fun _ _ _ h => h) (Or.inl ⟨by rfl, ?hy⟩) hHeld _
                  case hy => (intro w0 hSw; (try dsimp only at hSw); (try simp only [List.getElem_toArray, List.getElem_cons_zero, List.getElem_cons_succ]); go_simp; first | done | with_reducible rfl)
                  try simp only [Act.put, List.getElem_toArray, List.getElem_cons_zero, List.getElem_cons_succ, List.setIfInBounds_toArray, List.set_cons_zero, List.set_cons_succ]
                  refine wpAnyH_done (by kernel_rfl) ?_ _
                  refine NoPanic.normal ?_
                  clear hHeld
                  go_wp2_with fail
                  refine (copyM_any w9 H9.out.1.mat).mono ?_
                  rintro e w10 ⟨O3, rfl, hm10, hb10⟩
                  have H10 := Lib.hid (And.intro hm10 (And.intro (H9.out.1.below hb10) (And.intro (H9.out.2.trans (hb10.mono H9.out.2.size)) (And.intro (show ∀ b, inP (some ⟨g, o, none⟩) c b → b < w9.heap.size from fun b hb => H9.out.1.ref.inlt hb) (And.intro H9.out.1.bnd (show W.heap.size ≤ w9.heap.size from H9.out.2.size))))))
                  clear hm10 hb10
                  go_wp2_with fail
                  have hfl := flush_any I w10 H10.out.1 (fun x hx => hx.2) hI8
                  have HFL := Lib.hid hfl
                  clear hfl
                  refine HFL.out.mono ?_
                  rintro e w11 ⟨rfl, hm11, hf11⟩
                  have H11 := Lib.hid (And.intro hm11 (And.intro (H10.out.2.1.other hf11 (fun x hx h2 => by have := H10.out.2.2.2.2.1 x h2; have := hx.1; omega) (fun b hb h2 => by have := H10.out.2.2.2.1 b hb; have := h2.1; omega)) (H10.out.2.2.1.trans (hf11.below H10.out.2.2.1.size (fun b hb => Nat.le_trans H10.out.2.2.2.2.2 hb.1)))))
                  clear hm11 hf11
                  go_wp2_with fail
                  have hff := flush7_any (some ⟨g, o, none⟩) c m I w11 H11.out.2.1.ref hI8 (by have := H11.out.2.1.le; omega)
                  have HFF := Lib.hid hff
                  clear hff
                  refine HFF.out.mono ?_
                  rintro e w12 ⟨pq, cq, rfl, ho12, -, hb12⟩
                  obtain ⟨gq, oq, rfl⟩ := own_ptr (OwnG.rds lc_len ho12) (by rw [flush_len]; exact HT.out.1.pos)
                  have hrq := (rds_ln (OwnG.rds lc_len ho12) I (by rw [flush_len]; exact hI8)).1
                  have hrm := (rds_ln (H11.out.2.1.below hb12).ref I hI8).1
                  have hfs := flush_same m I hI8
                  obtain ⟨xq, hxq⟩ : ∃ x, (m.flush I)[I]'(by rw [flush_len]; exact hI8) = x := ⟨_, rfl⟩
                  obtain ⟨xm, hxm⟩ : ∃ x, m[I]'hI8 = x := ⟨_, rfl⟩
                  rw [hxq] at hrq hfs
                  rw [hxm] at hrm hfs
                  have HGQ := Lib.hid (show gq < w12.heap.size ∧ g < w12.heap.size from ⟨OwnG.lt ho12 ⟨_, rfl, rfl, by have := (OwnG.rds lc_len ho12).1; rw [flush_len] at this; have := HT.out.1.pos; omega⟩, (rds_ln (H11.out.2.1.below hb12).ref I hI8).2⟩)
                  have HRR := Lib.hid (show w12.drew.rangeAt gq (oq + I * 25) (lc xq) ∧ w12.drew.rangeAt g (o + I * 25) (lc xm) from ⟨hrq, hrm⟩)
                  have HSD := Lib.hid (sameM_any w12.drew ((H11.out.1.below hb12).below (Below.refl _ w12).drew) ((H11.out.2.1.below hb12).mat.below (Below.refl _ w12).drew) (flush_len m I))
                  have H12 := Lib.hid (H11.out.2.2.trans (hb12.mono H11.out.2.2.size))
                  have hc2 : eqLn xq xm = true ↔ m.flush I = m := by rw [eqLn_iff]; exact hfs.symm
                  clear ho12 hb12 hrq hrm hxq hxm hfs HFF HFL
                  by_cases hfe2 : m.flush I = m
                  · have heq2 : eqLn xq xm = true := hc2.2 hfe2
                    have HEQ := Lib.hid heq2
                    have HFE := Lib.hid hfe2
                    clear heq2 hfe2 hc2
                    go_wp2_with fail
                    refine wp_region_noPanic ?_
                    refine wp_region_held_drew (S := (fun w' => w'.rangeAt gq (oq + I * 25) (lc xq) ∧ w'.rangeAt g (o + I * 25) (lc xm))) (by kernel_rfl) ?_ (fun hHeld => ?_)
                    · exact HRR.out
                    refine' wpAnyH_take (i := 0) (v := _) rfl (by kernel_rfl) (by kernel_rfl) (by kernel_rfl) (fun _ _ _ h => h) (Or.inl ⟨by rfl, ?hy⟩) hHeld _
                    case hy => (intro w0 hSw; (try dsimp only at hSw); (try simp only [List.getElem_toArray, List.getElem_cons_zero, List.getElem_cons_succ]); go_simp; first | done | with_reducible rfl)
                    try simp only [Act.put, List.getElem_toArray, List.getElem_cons_zero, List.getElem_cons_succ, List.setIfInBounds_toArray, List.set_cons_zero, List.set_cons_succ]
                    refine' wpAnyH_take (i := 1) (v := _) rfl (by kernel_rfl) (by kernel_rfl) (by kernel_rfl) (fun _ _ _ h => h) (Or.inl ⟨by rfl, ?hy⟩) hHeld _
                    case hy => (intro w0 hSw; (try dsimp only at hSw); (try simp only [List.getElem_toArray, List.getElem_cons_zero, List.getElem_cons_succ]); go_simp; first | done | with_reducible rfl)
                    try simp only [Act.put, List.getElem_toArray, List.getElem_cons_zero, List.getElem_cons_succ, List.setIfInBounds_toArray, List.set_cons_zero, List.set_cons_succ]
                    refine' wpAnyH_take (i := 3) (v := _) rfl (by kernel_rfl) (by kernel_rfl) (by kernel_rfl) (fun _ _ _ h => h) (Or.inl ⟨by rfl, ?hy⟩) hHeld _
                    case hy => (intro w0 hSw; (try dsimp only at hSw); (try simp only [List.getElem_toArray, List.getElem_cons_zero, List.getElem_cons_succ]); go_simp; first | done | with_reducible rfl)
                    try simp only [Act.put, List.getElem_toArray, List.getElem_cons_zero, List.getElem_cons_succ, List.setIfInBounds_toArray, List.set_cons_zero, List.set_cons_succ]
                    refine' wpAnyH_take (i := 4) (v := _) rfl (by kernel_rfl) (by kernel_rfl) (by kernel_rfl) (fun _ _ _ h => h) (Or.inl ⟨by rfl, ?hy⟩) hHeld _
                    case hy => (intro w0 hSw; (try dsimp only at hSw); (try simp only [List.getElem_toArray, List.getElem_cons_zero, List.getElem_cons_succ]); go_simp; first | done | with_reducible rfl)
                    try simp only [Act.put, List.getElem_toArray, List.getElem_cons_zero, List.getElem_cons_succ, List.setIfInBounds_toArray, List.set_cons_zero, List.set_cons_succ]
                    refine' wpAnyH_take (i := 5) (v := _) rfl (by kernel_rfl) (by kernel_rfl) (by kernel_rfl) (fun _ _ _ h => h) (Or.inl ⟨by rfl, ?hy⟩) hHeld _
                    case hy => (intro w0 hSw; (try dsimp only at hSw); (try simp only [List.getElem_toArray, List.getElem_cons_zero, List.getElem_cons_succ]); go_simp; first | done | with_reducible rfl)
                    try simp only [Act.put, List.getElem_toArray, List.getElem_cons_zero, List.getElem_cons_succ, List.setIfInBounds_toArray, List.set_cons_zero, List.set_cons_succ]
                    refine' wpAnyH_take (i := 6) (v := _) rfl (by kernel_rfl) (by kernel_rfl) (by kernel_rfl) (fun _ _ _ h => h) (Or.inl ⟨by rfl, ?hy⟩) hHeld _
                    case hy => (intro w0 hSw; (try dsimp only at hSw); (try simp only [List.getElem_toArray, List.getElem_cons_zero, List.getElem_cons_succ]); go_simp; first | done | with_reducible rfl)
                    try simp only [Act.put, List.getElem_toArray, List.getElem_cons_zero, List.getElem_cons_succ, List.setIfInBounds_toArray, List.set_cons_zero, List.set_cons_succ]
                    refine' wpAnyH_take (i := 7) (v := lnV xq) rfl (by kernel_rfl) (by kernel_rfl) (by kernel_rfl) (fun _ _ _ h => h) (yields_load_ln (by rfl) (.tmp 125) rfl gq (oq + I * 25) rfl xq (fun _ h => h.1)) hHeld _
                    try simp only [Act.put, List.getElem_toArray, List.getElem_cons_zero, List.getElem_cons_succ, List.setIfInBounds_toArray, List.set_cons_zero, List.set_cons_succ]
                    refine' wpAnyH_take (i := 8) (v := _) rfl (by kernel_rfl) (by kernel_rfl) (by kernel_rfl) (fun _ _ _ h => h) (Or.inl ⟨by rfl, ?hy⟩) hHeld _
                    case hy => (intro w0 hSw; (try dsimp only at hSw); (try simp only [List.getElem_toArray, List.getElem_cons_zero, List.getElem_cons_succ]); go_simp; first | done | with_reducible rfl)
                    try simp only [Act.put, List.getElem_toArray, List.getElem_cons_zero, List.getElem_cons_succ, List.setIfInBounds_toArray, List.set_cons_zero, List.set_cons_succ]
                    refine' wpAnyH_take (i := 9) (v := _) rfl (by kernel_rfl) (by kernel_rfl) (by kernel_rfl) (fun _ _ _ h => h) (Or.inl ⟨by rfl, ?hy⟩) hHeld _
                    case hy => (intro w0 hSw; (try dsimp only at hSw); (try simp only [List.getElem_toArray, List.getElem_cons_zero, List.getElem_cons_succ]); go_simp; first | done | with_reducible rfl)
                    try simp only [Act.put, List.getElem_toArray, List.getElem_cons_zero, List.getElem_cons_succ, List.setIfInBounds_toArray, List.set_cons_zero, List.set_cons_succ]
                    refine' wpAnyH_take (i := 10) (v := _) rfl (by kernel_rfl) (by kernel_rfl) (by kernel_rfl) (fun _ _ _ h => h) (Or.inl ⟨by rfl, ?hy⟩) hHeld _
                    case hy => (intro w0 hSw; (try dsimp only at hSw); (try simp only [List.getElem_toArray, List.getElem_cons_zero, List.getElem_cons_succ]); go_simp; first | done | with_reducible rfl)
                    try simp only [Act.put, List.getElem_toArray, List.getElem_cons_zero, List.getElem_cons_succ, List.setIfInBounds_toArray, List.set_cons_zero, List.set_cons_succ]
                    refine' wpAnyH_take (i := 11) (v := _) rfl (by kernel_rfl) (by kernel_rfl) (by kernel_rfl) (fun _ _ _ h => h) (Or.inl ⟨by rfl, ?hy⟩) hHeld _
                    case hy => (intro w0 hSw; (try dsimp only at hSw); (try simp only [List.getElem_toArray, List.getElem_cons_zero, List.getElem_cons_succ]); go_simp; first | done | with_reducible rfl)
                    try simp only [Act.put, List.getElem_toArray, List.getElem_cons_zero, List.getElem_cons_succ, List.setIfInBounds_toArray, List.set_cons_zero, List.set_cons_succ]
                    refine' wpAnyH_take (i := 12) (v := lnV xm) rfl (by kernel_rfl) (by kernel_rfl) (by kernel_rfl) (fun _ _ _ h => h) (yields_load_ln (by rfl) (.tmp 130) rfl g (o + I * 25) rfl xm (fun _ h => h.2)) hHeld _
                    try simp only [Act.put, List.getElem_toArray, List.getElem_cons_zero, List.getElem_cons_succ, List.setIfInBounds_toArray, List.set_cons_zero, List.set_cons_succ]
                    refine' wpAnyH_take (i := 13) (v := .bool true) rfl (by kernel_rfl) (by kernel_rfl) (by kernel_rfl) (fun _ _ _ h => h) (yields_eql_lnS (by rfl) (.tmp 126) (.tmp 131) rfl rfl rfl HEQ.out) hHeld _
                    try simp only [Act.put, List.getElem_toArray, List.getElem_cons_zero, List.getElem_cons_succ, List.setIfInBounds_toArray, List.set_cons_zero, List.set_cons_succ]
                    refine wpAnyH_ready (rs := [2]) (by kernel_rfl) (by simp) ?_
                    refine AllReadyH.cons rfl (fun K hK => ?_) AllReadyH.nil
                    go_simp
                    refine HSD.out.mono ?_
                    rintro e w13 ⟨r3, rfl, hr3, hb13⟩
                    obtain rfl : r3 = true := hr3.2 HFE.out
                    have hbb13 : Below w12.heap.size w12.drew w13 := hb13
                    have H13 := Lib.hid (And.intro (H12.out.trans (((Below.refl w12.heap.size w12).drew.trans hbb13).mono H12.out.size)) hbb13)
                    clear hr3 hb13 hbb13
                    clear hHeld
                    refine hK.out _ _ ?_ (fun hHeld => ?_)
                    · exact ⟨fun j u hu => (H13.out.2.cell (p := ⟨gq, oq + I * 25 + j, none⟩) HGQ.out.1).trans (HRR.out.1 j u hu), fun j u hu => (H13.out.2.cell (p := ⟨g, o + I * 25 + j, none⟩) HGQ.out.2).trans (HRR.out.2 j u hu)⟩
                    clear hK K
                    try simp only [Act.put, List.getElem_toArray, List.getElem_cons_zero, List.getElem_cons_succ, List.setIfInBounds_toArray, List.set_cons_zero, List.set_cons_succ]
                    refine' wpAnyH_take (i := 14) (v := _) rfl (by kernel_rfl) (by kernel_rfl) (by kernel_rfl) (fun _ _ _ h => h) (Or.inl ⟨by rfl, ?hy⟩) hHeld _
                    case hy => (intro w0 hSw; (try dsimp only at hSw); (try simp only [List.getElem_toArray, List.getElem_cons_zero, List.getElem_cons_succ]); go_simp; first | done | with_reducible rfl)
                    try simp only [Act.put, List.getElem_toArray, List.getElem_cons_zero, List.getElem_cons_succ, List.setIfInBounds_toArray, List.set_cons_zero, List.set_cons_succ]
                    refine' wpAnyH_take (i := 15) (v := _) rfl (by kernel_rfl) (by kernel_rfl) (by kernel_rfl) (fun _ _ _ h => h) (Or.inl ⟨by rfl, ?hy⟩) hHeld _
                    case hy => (intro w0 hSw; (try dsimp only at hSw); (try simp only [List.getElem_toArray, List.getElem_cons_zero, List.getElem_cons_succ]); go_simp; first | done | with_reducible rfl)
                    try simp only [Act.put, List.getElem_toArray, List.getElem_cons_zero, List.getElem_cons_succ, List.setIfInBounds_toArray, List.set_cons_zero, List.set_cons_succ]
                    refine wpAnyH_ready (rs := [16]) (by kernel_rfl) (by simp) ?_
                    refine AllReadyH.cons rfl (fun K hK => ?_) AllReadyH.nil
                    go_simp
                    refine (works7_any _).mono ?_
                    rintro e w14 ⟨rfl, hb14⟩
                    have H14 := Lib.hid (And.intro (H13.out.1.trans (hb14.mono H13.out.1.size)) (H13.out.2.trans (hb14.mono H13.out.2.size)))
                    clear hb14
                    clear hHeld
                    refine hK.out _ _ ?_ (fun hHeld => ?_)
                    · exact ⟨fun j u hu => (H14.out.2.cell (p := ⟨gq, oq + I * 25 + j, none⟩) HGQ.out.1).trans (HRR.out.1 j u hu), fun j u hu => (H14.out.2.cell (p := ⟨g, o + I * 25 + j, none⟩) HGQ.out.2).trans (HRR.out.2 j u hu)⟩
                    clear hK K
                    try simp only [Act.put, List.getElem_toArray, List.getElem_cons_zero, List.getElem_cons_succ, List.setIfInBounds_toArray, List.set_cons_zero, List.set_cons_succ]
                    refine' wpAnyH_take (i := 17) (v := _) rfl (by kernel_rfl) (by kernel_rfl) (by kernel_rfl) (fun _ _ _ h => h) (Or.inl ⟨by rfl, ?hy⟩) hHeld _
                    case hy => (intro w0 hSw; (try dsimp only at hSw); (try simp only [List.getElem_toArray, List.getElem_cons_zero, List.getElem_cons_succ]); go_simp; first | done | with_reducible rfl)
                    try simp only [Act.put, List.getElem_toArray, List.getElem_cons_zero, List.getElem_cons_succ, List.setIfInBounds_toArray, List.set_cons_zero, List.set_cons_succ]
                    refine' wpAnyH_take (i := 18) (v := _) rfl (by kernel_rfl) (by kernel_rfl) (by kernel_rfl) (fun _ _ _ h => h) (Or.inl ⟨by rfl, ?hy⟩) hHeld _
                    case hy => (intro w0 hSw; (try dsimp only at hSw); (try simp only [List.getElem_toArray, List.getElem_cons_zero, List.getElem_cons_succ]); go_simp; first | done | with_reducible rfl)
                    try simp only [Act.put, List.getElem_toArray, List.getElem_cons_zero, List.getElem_cons_succ, List.setIfInBounds_toArray, List.set_cons_zero, List.set_cons_succ]
                    refine wpAnyH_done (by kernel_rfl) ?_ _
                    refine NoPanic.normal ?_
                    clear hHeld
                    go_wp2_with fail
                    go_ret
                    exact ⟨rfl, H14.out.1⟩
                  · have heq2 : eqLn xq xm = false := by cases h : eqLn xq xm with | false => rfl | true => exact absurd (hc2.1 h) hfe2
                    have HEQ := Lib.hid heq2
                    have HFE := Lib.hid hfe2
                    clear heq2 hfe2 hc2
                    go_wp2_with fail
                    refine wp_region_noPanic ?_
                    refine wp_region_held_drew (S := (fun w' => w'.rangeAt gq (oq + I * 25) (lc xq) ∧ w'.rangeAt g (o + I * 25) (lc xm))) (by kernel_rfl) ?_ (fun hHeld => ?_)
                    · exact HRR.out
                    refine' wpAnyH_take (i := 0) (v := _) rfl (by kernel_rfl) (by kernel_rfl) (by kernel_rfl) (fun _ _ _ h => h) (Or.inl ⟨by rfl, ?hy⟩) hHeld _
                    case hy => (intro w0 hSw; (try dsimp only at hSw); (try simp only [List.getElem_toArray, List.getElem_cons_zero, List.getElem_cons_succ]); go_simp; first | done | with_reducible rfl)
                    try simp only [Act.put, List.getElem_toArray, List.getElem_cons_zero, List.getElem_cons_succ, List.setIfInBounds_toArray, List.set_cons_zero, List.set_cons_succ]
                    refine' wpAnyH_take (i := 1) (v := _) rfl (by kernel_rfl) (by kernel_rfl) (by kernel_rfl) (fun _ _ _ h => h) (Or.inl ⟨by rfl, ?hy⟩) hHeld _
                    case hy => (intro w0 hSw; (try dsimp only at hSw); (try simp only [List.getElem_toArray, List.getElem_cons_zero, List.getElem_cons_succ]); go_simp; first | done | with_reducible rfl)
                    try simp only [Act.put, List.getElem_toArray, List.getElem_cons_zero, List.getElem_cons_succ, List.setIfInBounds_toArray, List.set_cons_zero, List.set_cons_succ]
                    refine' wpAnyH_take (i := 3) (v := _) rfl (by kernel_rfl) (by kernel_rfl) (by kernel_rfl) (fun _ _ _ h => h) (Or.inl ⟨by rfl, ?hy⟩) hHeld _
                    case hy => (intro w0 hSw; (try dsimp only at hSw); (try simp only [List.getElem_toArray, List.getElem_cons_zero, List.getElem_cons_succ]); go_simp; first | done | with_reducible rfl)
                    try simp only [Act.put, List.getElem_toArray, List.getElem_cons_zero, List.getElem_cons_succ, List.setIfInBounds_toArray, List.set_cons_zero, List.set_cons_succ]
                    refine' wpAnyH_take (i := 4) (v := _) rfl (by kernel_rfl) (by kernel_rfl) (by kernel_rfl) (fun _ _ _ h => h) (Or.inl ⟨by rfl, ?hy⟩) hHeld _
                    case hy => (intro w0 hSw; (try dsimp only at hSw); (try simp only [List.getElem_toArray, List.getElem_cons_zero, List.getElem_cons_succ]); go_simp; first | done | with_reducible rfl)
                    try simp only [Act.put, List.getElem_toArray, List.getElem_cons_zero, List.getElem_cons_succ, List.setIfInBounds_toArray, List.set_cons_zero, List.set_cons_succ]
                    refine' wpAnyH_take (i := 5) (v := _) rfl (by kernel_rfl) (by kernel_rfl) (by kernel_rfl) (fun _ _ _ h => h) (Or.inl ⟨by rfl, ?hy⟩) hHeld _
                    case hy => (intro w0 hSw; (try dsimp only at hSw); (try simp only [List.getElem_toArray, List.getElem_cons_zero, List.getElem_cons_succ]); go_simp; first | done | with_reducible rfl)
                    try simp only [Act.put, List.getElem_toArray, List.getElem_cons_zero, List.getElem_cons_succ, List.setIfInBounds_toArray, List.set_cons_zero, List.set_cons_succ]
                    refine' wpAnyH_take (i := 6) (v := _) rfl (by kernel_rfl) (by kernel_rfl) (by kernel_rfl) (fun _ _ _ h => h) (Or.inl ⟨by rfl, ?hy⟩) hHeld _
                    case hy => (intro w0 hSw; (try dsimp only at hSw); (try simp only [List.getElem_toArray, List.getElem_cons_zero, List.getElem_cons_succ]); go_simp; first | done | with_reducible rfl)
                    try simp only [Act.put, List.getElem_toArray, List.getElem_cons_zero, List.getElem_cons_succ, List.setIfInBounds_toArray, List.set_cons_zero, List.set_cons_succ]
                    refine' wpAnyH_take (i := 7) (v := lnV xq) rfl (by kernel_rfl) (by kernel_rfl) (by kernel_rfl) (fun _ _ _ h => h) (yields_load_ln (by rfl) (.tmp 125) rfl gq (oq + I * 25) rfl xq (fun _ h => h.1)) hHeld _
                    try simp only [Act.put, List.getElem_toArray, List.getElem_cons_zero, List.getElem_cons_succ, List.setIfInBounds_toArray, List.set_cons_zero, List.set_cons_succ]
                    refine' wpAnyH_take (i := 8) (v := _) rfl (by kernel_rfl) (by kernel_rfl) (by kernel_rfl) (fun _ _ _ h => h) (Or.inl ⟨by rfl, ?hy⟩) hHeld _
                    case hy => (intro w0 hSw; (try dsimp only at hSw); (try simp only [List.getElem_toArray, List.getElem_cons_zero, List.getElem_cons_succ]); go_simp; first | done | with_reducible rfl)
                    try simp only [Act.put, List.getElem_toArray, List.getElem_cons_zero, List.getElem_cons_succ, List.setIfInBounds_toArray, List.set_cons_zero, List.set_cons_succ]
                    refine' wpAnyH_take (i := 9) (v := _) rfl (by kernel_rfl) (by kernel_rfl) (by kernel_rfl) (fun _ _ _ h => h) (Or.inl ⟨by rfl, ?hy⟩) hHeld _
                    case hy => (intro w0 hSw; (try dsimp only at hSw); (try simp only [List.getElem_toArray, List.getElem_cons_zero, List.getElem_cons_succ]); go_simp; first | done | with_reducible rfl)
                    try simp only [Act.put, List.getElem_toArray, List.getElem_cons_zero, List.getElem_cons_succ, List.setIfInBounds_toArray, List.set_cons_zero, List.set_cons_succ]
                    refine' wpAnyH_take (i := 10) (v := _) rfl (by kernel_rfl) (by kernel_rfl) (by kernel_rfl) (fun _ _ _ h => h) (Or.inl ⟨by rfl, ?hy⟩) hHeld _
                    case hy => (intro w0 hSw; (try dsimp only at hSw); (try simp only [List.getElem_toArray, List.getElem_cons_zero, List.getElem_cons_succ]); go_simp; first | done | with_reducible rfl)
                    try simp only [Act.put, List.getElem_toArray, List.getElem_cons_zero, List.getElem_cons_succ, List.setIfInBounds_toArray, List.set_cons_zero, List.set_cons_succ]
                    refine' wpAnyH_take (i := 11) (v := _) rfl (by kernel_rfl) (by kernel_rfl) (by kernel_rfl) (fun _ _ _ h => h) (Or.inl ⟨by rfl, ?hy⟩) hHeld _
                    case hy => (intro w0 hSw; (try dsimp only at hSw); (try simp only [List.getElem_toArray, List.getElem_cons_zero, List.getElem_cons_succ]); go_simp; first | done | with_reducible rfl)
                    try simp only [Act.put, List.getElem_toArray, List.getElem_cons_zero, List.getElem_cons_succ, List.setIfInBounds_toArray, List.set_cons_zero, List.set_cons_succ]
                    refine' wpAnyH_take (i := 12) (v := lnV xm) rfl (by kernel_rfl) (by kernel_rfl) (by kernel_rfl) (fun _ _ _ h => h) (yields_load_ln (by rfl) (.tmp 130) rfl g (o + I * 25) rfl xm (fun _ h => h.2)) hHeld _
                    try simp only [Act.put, List.getElem_toArray, List.getElem_cons_zero, List.getElem_cons_succ, List.setIfInBounds_toArray, List.set_cons_zero, List.set_cons_succ]
                    refine' wpAnyH_take (i := 13) (v := .bool false) rfl (by kernel_rfl) (by kernel_rfl) (by kernel_rfl) (fun _ _ _ h => h) (yields_eql_lnS (by rfl) (.tmp 126) (.tmp 131) rfl rfl rfl HEQ.out) hHeld _
                    try simp only [Act.put, List.getElem_toArray, List.getElem_cons_zero, List.getElem_cons_succ, List.setIfInBounds_toArray, List.set_cons_zero, List.set_cons_succ]
                    refine wpAnyH_ready (rs := [2]) (by kernel_rfl) (by simp) ?_
                    refine AllReadyH.cons rfl (fun K hK => ?_) AllReadyH.nil
                    go_simp
                    refine HSD.out.mono ?_
                    rintro e w13 ⟨r3, rfl, hr3, hb13⟩
                    obtain rfl : r3 = false := by cases r3 with | false => rfl | true => exact absurd (hr3.1 rfl) HFE.out
                    have hbb13 : Below w12.heap.size w12.drew w13 := hb13
                    have H13 := Lib.hid (And.intro (H12.out.trans (((Below.refl w12.heap.size w12).drew.trans hbb13).mono H12.out.size)) hbb13)
                    clear hr3 hb13 hbb13
                    clear hHeld
                    refine hK.out _ _ ?_ (fun hHeld => ?_)
                    · exact ⟨fun j u hu => (H13.out.2.cell (p := ⟨gq, oq + I * 25 + j, none⟩) HGQ.out.1).trans (HRR.out.1 j u hu), fun j u hu => (H13.out.2.cell (p := ⟨g, o + I * 25 + j, none⟩) HGQ.out.2).trans (HRR.out.2 j u hu)⟩
                    clear hK K
                    try simp only [Act.put, List.getElem_toArray, List.getElem_cons_zero, List.getElem_cons_succ, List.setIfInBounds_toArray, List.set_cons_zero, List.set_cons_succ]
                    refine' wpAnyH_take (i := 14) (v := _) rfl (by kernel_rfl) (by kernel_rfl) (by kernel_rfl) (fun _ _ _ h => h) (Or.inl ⟨by rfl, ?hy⟩) hHeld _
                    case hy => (intro w0 hSw; (try dsimp only at hSw); (try simp only [List.getElem_toArray, List.getElem_cons_zero, List.getElem_cons_succ]); go_simp; first | done | with_reducible rfl)
                    try simp only [Act.put, List.getElem_toArray, List.getElem_cons_zero, List.getElem_cons_succ, List.setIfInBounds_toArray, List.set_cons_zero, List.set_cons_succ]
                    refine' wpAnyH_take (i := 15) (v := _) rfl (by kernel_rfl) (by kernel_rfl) (by kernel_rfl) (fun _ _ _ h => h) (Or.inl ⟨by rfl, ?hy⟩) hHeld _
                    case hy => (intro w0 hSw; (try dsimp only at hSw); (try simp only [List.getElem_toArray, List.getElem_cons_zero, List.getElem_cons_succ]); go_simp; first | done | with_reducible rfl)
                    try simp only [Act.put, List.getElem_toArray, List.getElem_cons_zero, List.getElem_cons_succ, List.setIfInBounds_toArray, List.set_cons_zero, List.set_cons_succ]
                    refine wpAnyH_ready (rs := [16]) (by kernel_rfl) (by simp) ?_
                    refine AllReadyH.cons rfl (fun K hK => ?_) AllReadyH.nil
                    go_simp
                    refine (works7_any _).mono ?_
                    rintro e w14 ⟨rfl, hb14⟩
                    have H14 := Lib.hid (And.intro (H13.out.1.trans (hb14.mono H13.out.1.size)) (H13.out.2.trans (hb14.mono H13.out.2.size)))
                    clear hb14
                    clear hHeld
                    refine hK.out _ _ ?_ (fun hHeld => ?_)
                    · exact ⟨fun j u hu => (H14.out.2.cell (p := ⟨gq, oq + I * 25 + j, none⟩) HGQ.out.1).trans (HRR.out.1 j u hu), fun j u hu => (H14.out.2.cell (p := ⟨g, o + I * 25 + j, none⟩) HGQ.out.2).trans (HRR.out.2 j u hu)⟩
                    clear hK K
                    try simp only [Act.put, List.getElem_toArray, List.getElem_cons_zero, List.getElem_cons_succ, List.setIfInBounds_toArray, List.set_cons_zero, List.set_cons_succ]
                    refine' wpAnyH_take (i := 17) (v := _) rfl (by kernel_rfl) (by kernel_rfl) (by kernel_rfl) (fun _ _ _ h => h) (Or.inl ⟨by rfl, ?hy⟩) hHeld _
                    case hy => (intro w0 hSw; (try dsimp only at hSw); (try simp only [List.getElem_toArray, List.getElem_cons_zero, List.getElem_cons_succ]); go_simp; first | done | with_reducible rfl)
                    try simp only [Act.put, List.getElem_toArray, List.getElem_cons_zero, List.getElem_cons_succ, List.setIfInBounds_toArray, List.set_cons_zero, List.set_cons_succ]
                    refine' wpAnyH_take (i := 18) (v := _) rfl (by kernel_rfl) (by kernel_rfl) (by kernel_rfl) (fun _ _ _ h => h) (Or.inl ⟨by rfl, ?hy⟩) hHeld _
                    case hy => (intro w0 hSw; (try dsimp only at hSw); (try simp only [List.getElem_toArray, List.getElem_cons_zero, List.getElem_cons_succ]); go_simp; first | done | with_reducible rfl)
                    try simp only [Act.put, List.getElem_toArray, List.getElem_cons_zero, List.getElem_cons_succ, List.setIfInBounds_toArray, List.set_cons_zero, List.set_cons_succ]
                    refine wpAnyH_done (by kernel_rfl) ?_ _
                    refine NoPanic.normal ?_
                    clear hHeld
                    go_wp2_with fail
                    go_ret
                    exact ⟨rfl, H14.out.1⟩
                · have hbe : (V == Vv) = false := beq_eq_false_iff_ne.2 (fun e => hse (hss.2 (huv.2 e)))
                  clear hss huv
                  have HSE := Lib.hid hse
                  clear hse
                  go_wp2_with fail
                  refine wp_region_noPanic ?_
                  refine wp_region_held_drew (S := (fun w' => w'.cell? ⟨g, o + I * 25 + J, none⟩ = some (.int .u64 V))) (by kernel_rfl) ?_ (fun hHeld => ?_)
                  · exact hcv
                  refine' wpAnyH_take (i := 0) (v := _) rfl (by kernel_rfl) (by kernel_rfl) (by kernel_rfl) (fun _ _ _ h => h) (Or.inl ⟨by rfl, ?hy⟩) hHeld _
                  case hy => (intro w0 hSw; (try dsimp only at hSw); (try simp only [List.getElem_toArray, List.getElem_cons_zero, List.getElem_cons_succ]); go_simp; first | done | with_reducible rfl)
                  try simp only [Act.put, List.getElem_toArray, List.getElem_cons_zero, List.getElem_cons_succ, List.setIfInBounds_toArray, List.set_cons_zero, List.set_cons_succ]
                  refine' wpAnyH_take (i := 1) (v := _) rfl (by kernel_rfl) (by kernel_rfl) (by kernel_rfl) (fun _ _ _ h => h) (Or.inl ⟨by rfl, ?hy⟩) hHeld _
                  case hy => (intro w0 hSw; (try dsimp only at hSw); (try simp only [List.getElem_toArray, List.getElem_cons_zero, List.getElem_cons_succ]); go_simp; first | done | with_reducible rfl)
                  try simp only [Act.put, List.getElem_toArray, List.getElem_cons_zero, List.getElem_cons_succ, List.setIfInBounds_toArray, List.set_cons_zero, List.set_cons_succ]
                  refine wpAnyH_ready (rs := [2]) (by kernel_rfl) (by simp) ?_
                  refine AllReadyH.cons rfl (fun K hK => ?_) AllReadyH.nil
                  go_simp
                  refine HS1.out.mono ?_
                  rintro e w5 ⟨r1, rfl, hr1, hb5⟩
                  obtain rfl : r1 = true := hr1.2 (by first | trivial | rfl)
                  have H5 := Lib.hid (And.intro (H4.out.1.below ((Below.refl _ w4).drew.trans hb5)) (And.intro (H4.out.2.1.below ((Below.refl _ w4).drew.trans hb5)) (And.intro (show Below w4.heap.size w4 w5 from (Below.refl _ w4).drew.trans hb5) (H4.out.2.2.2.trans (((Below.refl w4.heap.size w4).drew.trans hb5).mono H4.out.2.2.2.size)))))
                  have hcv5 := ((Below.refl _ w4).drew.trans hb5).cell (p := ⟨g, o + I * 25 + J, none⟩) HG.out |>.trans HCV.out
                  have HCV5 := Lib.hid hcv5
                  clear hr1 hb5 hcv5
                  clear hHeld
                  refine hK.out _ _ ?_ (fun hHeld => ?_)
                  · exact HCV5.out
                  clear hK K
                  try simp only [Act.put, List.getElem_toArray, List.getElem_cons_zero, List.getElem_cons_succ, List.setIfInBounds_toArray, List.set_cons_zero, List.set_cons_succ]
                  refine' wpAnyH_take (i := 3) (v := _) rfl (by kernel_rfl) (by kernel_rfl) (by kernel_rfl) (fun _ _ _ h => h) (Or.inl ⟨by rfl, ?hy⟩) hHeld _
                  case hy => (intro w0 hSw; (try dsimp only at hSw); (try simp only [List.getElem_toArray, List.getElem_cons_zero, List.getElem_cons_succ]); go_simp; first | done | with_reducible rfl)
                  try simp only [Act.put, List.getElem_toArray, List.getElem_cons_zero, List.getElem_cons_succ, List.setIfInBounds_toArray, List.set_cons_zero, List.set_cons_succ]
                  refine' wpAnyH_take (i := 4) (v := _) rfl (by kernel_rfl) (by kernel_rfl) (by kernel_rfl) (fun _ _ _ h => h) (Or.inl ⟨by rfl, ?hy⟩) hHeld _
                  case hy => (intro w0 hSw; (try dsimp only at hSw); (try simp only [List.getElem_toArray, List.getElem_cons_zero, List.getElem_cons_succ]); go_simp; first | done | with_reducible rfl)
                  try simp only [Act.put, List.getElem_toArray, List.getElem_cons_zero, List.getElem_cons_succ, List.setIfInBounds_toArray, List.set_cons_zero, List.set_cons_succ]
                  refine' wpAnyH_take (i := 5) (v := _) rfl (by kernel_rfl) (by kernel_rfl) (by kernel_rfl) (fun _ _ _ h => h) (Or.inl ⟨by rfl, ?hy⟩) hHeld _
                  case hy => (intro w0 hSw; (try dsimp only at hSw); (try simp only [List.getElem_toArray, List.getElem_cons_zero, List.getElem_cons_succ]); go_simp; first | done | with_reducible rfl)
                  try simp only [Act.put, List.getElem_toArray, List.getElem_cons_zero, List.getElem_cons_succ, List.setIfInBounds_toArray, List.set_cons_zero, List.set_cons_succ]
                  refine' wpAnyH_take (i := 6) (v := _) rfl (by kernel_rfl) (by kernel_rfl) (by kernel_rfl) (fun _ _ _ h => h) (Or.inl ⟨by rfl, ?hy⟩) hHeld _
                  case hy => (intro w0 hSw; (try dsimp only at hSw); (try simp only [List.getElem_toArray, List.getElem_cons_zero, List.getElem_cons_succ]); go_simp; first | done | with_reducible rfl)
                  try simp only [Act.put, List.getElem_toArray, List.getElem_cons_zero, List.getElem_cons_succ, List.setIfInBounds_toArray, List.set_cons_zero, List.set_cons_succ]
                  refine' wpAnyH_take (i := 7) (v := _) rfl (by kernel_rfl) (by kernel_rfl) (by kernel_rfl) (fun _ _ _ h => h) (Or.inl ⟨by rfl, ?hy⟩) hHeld _
                  case hy => (intro w0 hSw; (try dsimp only at hSw); (try simp only [List.getElem_toArray, List.getElem_cons_zero, List.getElem_cons_succ]); go_simp; first | done | with_reducible rfl)
                  try simp only [Act.put, List.getElem_toArray, List.getElem_cons_zero, List.getElem_cons_succ, List.setIfInBounds_toArray, List.set_cons_zero, List.set_cons_succ]
                  refine wpAnyH_ready (rs := [8]) (by kernel_rfl) (by simp) ?_
                  refine AllReadyH.cons rfl (fun K hK => ?_) AllReadyH.nil
                  go_simp
                  refine (HSTO.out w5 H5.out.1).mono ?_
                  rintro e w6 ⟨rfl, hm6, hf6⟩
                  have H6 := Lib.hid (And.intro hm6 (And.intro (H5.out.2.1.other hf6 (fun x hx => (HN2.out x hx).1) (fun b hb h2 => by have := HP2.out b hb; have := h2.1; omega)) (And.intro (H5.out.2.2.2.trans (hf6.below H5.out.2.2.2.size HN2B.out)) (show w4.heap.size ≤ w6.heap.size from Nat.le_trans H5.out.2.2.1.size hf6.size))))
                  have hcv6 := (World.cell?_of_block (w := w5) (a := ⟨g, o + I * 25 + J, none⟩) (hf6.block g (Nat.lt_of_lt_of_le HG.out H5.out.2.2.1.size) (fun h => by have := (HN2.out g h).2; have := HGW.out; omega))).trans HCV5.out
                  have HCV6 := Lib.hid hcv6
                  clear hm6 hf6 hcv6
                  clear hHeld
                  refine hK.out _ _ ?_ (fun hHeld => ?_)
                  · exact HCV6.out
                  clear hK K
                  try simp only [Act.put, List.getElem_toArray, List.getElem_cons_zero, List.getElem_cons_succ, List.setIfInBounds_toArray, List.set_cons_zero, List.set_cons_succ]
                  refine wpAnyH_ready (rs := [9]) (by kernel_rfl) (by simp) ?_
                  refine AllReadyH.cons rfl (fun K hK => ?_) AllReadyH.nil
                  go_simp
                  refine (num7_any _ _).mono ?_
                  rintro e w7 ⟨rfl, rfl⟩
                  clear hHeld
                  refine hK.out _ _ ?_ (fun hHeld => ?_)
                  · exact HCV6.out
                  clear hK K
                  try simp only [Act.put, List.getElem_toArray, List.getElem_cons_zero, List.getElem_cons_succ, List.setIfInBounds_toArray, List.set_cons_zero, List.set_cons_succ]
                  refine' wpAnyH_take (i := 10) (v := _) rfl (by kernel_rfl) (by kernel_rfl) (by kernel_rfl) (fun _ _ _ h => h) (Or.inl ⟨by rfl, ?hy⟩) hHeld _
                  case hy => (intro w0 hSw; (try dsimp only at hSw); (try simp only [List.getElem_toArray, List.getElem_cons_zero, List.getElem_cons_succ]); go_simp; first | done | with_reducible rfl)
                  try simp only [Act.put, List.getElem_toArray, List.getElem_cons_zero, List.getElem_cons_succ, List.setIfInBounds_toArray, List.set_cons_zero, List.set_cons_succ]
                  refine' wpAnyH_take (i := 11) (v := _) rfl (by kernel_rfl) (by kernel_rfl) (by kernel_rfl) (fun _ _ _ h => h) (Or.inl ⟨by rfl, ?hy⟩) hHeld _
                  case hy => (intro w0 hSw; (try dsimp only at hSw); (try simp only [List.getElem_toArray, List.getElem_cons_zero, List.getElem_cons_succ]); go_simp; first | done | with_reducible rfl)
                  try simp only [Act.put, List.getElem_toArray, List.getElem_cons_zero, List.getElem_cons_succ, List.setIfInBounds_toArray, List.set_cons_zero, List.set_cons_succ]
                  refine' wpAnyH_take (i := 12) (v := _) rfl (by kernel_rfl) (by kernel_rfl) (by kernel_rfl) (fun _ _ _ h => h) (Or.inl ⟨by rfl, ?hy⟩) hHeld _
                  case hy => (intro w0 hSw; (try dsimp only at hSw); (try simp only [List.getElem_toArray, List.getElem_cons_zero, List.getElem_cons_succ]); go_simp; first | done | with_reducible rfl)
                  try simp only [Act.put, List.getElem_toArray, List.getElem_cons_zero, List.getElem_cons_succ, List.setIfInBounds_toArray, List.set_cons_zero, List.set_cons_succ]
                  refine' wpAnyH_take (i := 13) (v := _) rfl (by kernel_rfl) (by kernel_rfl) (by kernel_rfl) (fun _ _ _ h => h) (Or.inl ⟨by rfl, ?hy⟩) hHeld _
                  case hy => (intro w0 hSw; (try dsimp only at hSw); (try simp only [List.getElem_toArray, List.getElem_cons_zero, List.getElem_cons_succ]); go_simp; first | done | with_reducible rfl)
                  try simp only [Act.put, List.getElem_toArray, List.getElem_cons_zero, List.getElem_cons_succ, List.setIfInBounds_toArray, List.set_cons_zero, List.set_cons_succ]
                  refine' wpAnyH_take (i := 14) (v := _) rfl (by kernel_rfl) (by kernel_rfl) (by kernel_rfl) (fun _ _ _ h => h) (Or.inl ⟨by rfl, ?hy⟩) hHeld _
                  case hy => (intro w0 hSw; (try dsimp only at hSw); (try simp only [List.getElem_toArray, List.getElem_cons_zero, List.getElem_cons_succ]); go_simp; first | done | with_reducible rfl)
                  try simp only [Act.put, List.getElem_toArray, List.getElem_cons_zero, List.getElem_cons_succ, List.setIfInBounds_toArray, List.set_cons_zero, List.set_cons_succ]
                  refine' wpAnyH_take (i := 16) (v := _) rfl (by kernel_rfl) (by kernel_rfl) (by kernel_rfl) (fun _ _ _ h => h) (Or.inl ⟨by rfl, ?hy⟩) hHeld _
                  case hy => (intro w0 hSw; (try dsimp only at hSw); (try simp only [List.getElem_toArray, List.getElem_cons_zero, List.getElem_cons_succ]); go_simp; first | done | with_reducible rfl)
                  try simp only [Act.put, List.getElem_toArray, List.getElem_cons_zero, List.getElem_cons_succ, List.setIfInBounds_toArray, List.set_cons_zero, List.set_cons_succ]
                  refine' wpAnyH_take (i := 17) (v := _) rfl (by kernel_rfl) (by kernel_rfl) (by kernel_rfl) (fun _ _ _ h => h) (Or.inl ⟨by rfl, ?hy⟩) hHeld _
                  case hy => (intro w0 hSw; (try dsimp only at hSw); (try simp only [List.getElem_toArray, List.getElem_cons_zero, List.getElem_cons_succ]); go_simp; first | done | with_reducible rfl)
                  try simp only [Act.put, List.getElem_toArray, List.getElem_cons_zero, List.getElem_cons_succ, List.setIfInBounds_toArray, List.set_cons_zero, List.set_cons_succ]
                  refine' wpAnyH_take (i := 18) (v := _) rfl (by kernel_rfl) (by kernel_rfl) (by kernel_rfl) (fun _ _ _ h => h) (Or.inl ⟨by rfl, ?hy⟩) hHeld _
                  case hy => (intro w0 hSw; (try dsimp only at hSw); (try simp only [List.getElem_toArray, List.getElem_cons_zero, List.getElem_cons_succ]); go_simp; first | done | with_reducible rfl)
                  try simp only [Act.put, List.getElem_toArray, List.getElem_cons_zero, List.getElem_cons_succ, List.setIfInBounds_toArray, List.set_cons_zero, List.set_cons_succ]
                  refine' wpAnyH_take (i := 19) (v := _) rfl (by kernel_rfl) (by kernel_rfl) (by kernel_rfl) (fun _ _ _ h => h) (Or.inl ⟨by rfl, ?hy⟩) hHeld _
                  case hy => (intro w0 hSw; (try dsimp only at hSw); (try simp only [List.getElem_toArray, List.getElem_cons_zero, List.getElem_cons_succ]); go_simp; first | done | with_reducible rfl)
                  try simp only [Act.put, List.getElem_toArray, List.getElem_cons_zero, List.getElem_cons_succ, List.setIfInBounds_toArray, List.set_cons_zero, List.set_cons_succ]
                  refine' wpAnyH_take (i := 20) (v := _) rfl (by kernel_rfl) (by kernel_rfl) (by kernel_rfl) (fun _ _ _ h => h) (Or.inl ⟨by rfl, ?hy⟩) hHeld _
                  case hy => (intro w0 hSw; (try dsimp only at hSw); (try simp only [List.getElem_toArray, List.getElem_cons_zero, List.getElem_cons_succ]); go_simp; first | done | with_reducible rfl)
                  try simp only [Act.put, List.getElem_toArray, List.getElem_cons_zero, List.getElem_cons_succ, List.setIfInBounds_toArray, List.set_cons_zero, List.set_cons_succ]
                  refine' wpAnyH_take (i := 21) (v := _) rfl (by kernel_rfl) (by kernel_rfl) (by kernel_rfl) (fun _ _ _ h => h) (Or.inl ⟨by rfl, ?hy⟩) hHeld _
                  case hy => (intro w0 hSw; (try dsimp only at hSw); (try simp only [List.getElem_toArray, List.getElem_cons_zero, List.getElem_cons_succ]); go_simp; first | done | with_reducible rfl)
                  try simp only [Act.put, List.getElem_toArray, List.getElem_cons_zero, List.getElem_cons_succ, List.setIfInBounds_toArray, List.set_cons_zero, List.set_cons_succ]
                  refine' wpAnyH_take (i := 22) (v := _) rfl (by kernel_rfl) (by kernel_rfl) (by kernel_rfl) (fun _ _ _ h => h) (Or.inl ⟨by rfl, ?hy⟩) hHeld _
                  case hy => (intro w0 hSw; (try dsimp only at hSw); (try simp only [List.getElem_toArray, List.getElem_cons_zero, List.getElem_cons_succ]); go_simp; first | done | with_reducible rfl)
                  try simp only [Act.put, List.getElem_toArray, List.getElem_cons_zero, List.getElem_cons_succ, List.setIfInBounds_toArray, List.set_cons_zero, List.set_cons_succ]
                  refine' wpAnyH_take (i := 23) (v := _) rfl (by kernel_rfl) (by kernel_rfl) (by kernel_rfl) (fun _ _ _ h => h) (Or.inl ⟨by rfl, ?hy⟩) hHeld _
                  case hy => (intro w0 hSw; (try dsimp only at hSw); (try simp only [List.getElem_toArray, List.getElem_cons_zero, List.getElem_cons_succ]); go_simp; first | done | with_reducible rfl)
                  try simp only [Act.put, List.getElem_toArray, List.getElem_cons_zero, List.getElem_cons_succ, List.setIfInBounds_toArray, List.set_cons_zero, List.set_cons_succ]
                  refine' wpAnyH_take (i := 24) (v := _) rfl (by kernel_rfl) (by kernel_rfl) (by kernel_rfl) (fun _ _ _ h => h) (Or.inl ⟨by rfl, ?hy⟩) hHeld _
                  case hy => (intro w0 hSw; (try dsimp only at hSw); (try simp only [List.getElem_toArray, List.getElem_cons_zero, List.getElem_cons_succ]); go_simp; first | done | with_reducible rfl)
                  try simp only [Act.put, List.getElem_toArray, List.getElem_cons_zero, List.getElem_cons_succ, List.setIfInBounds_toArray, List.set_cons_zero, List.set_cons_succ]
                  refine' wpAnyH_take (i := 25) (v := _) rfl (by kernel_rfl) (by kernel_rfl) (by kernel_rfl) (fun _ _ _ h => h) (Or.inl ⟨by rfl, ?hy⟩) hHeld _
                  case hy => (intro w0 hSw; (try dsimp only at hSw); (try simp only [List.getElem_toArray, List.getElem_cons_zero, List.getElem_cons_succ]); go_simp; first | done | with_reducible rfl)
                  try simp only [Act.put, List.getElem_toArray, List.getElem_cons_zero, List.getElem_cons_succ, List.setIfInBounds_toArray, List.set_cons_zero, List.set_cons_succ]
                  refine' wpAnyH_take (i := 26) (v := _) rfl (by kernel_rfl) (by kernel_rfl) (by kernel_rfl) (fun _ _ _ h => h) (Or.inl ⟨by rfl, ?hy⟩) hHeld _
                  case hy => (intro w0 hSw; (try dsimp only at hSw); (try simp only [List.getElem_toArray, List.getElem_cons_zero, List.getElem_cons_succ]); go_simp; first | done | with_reducible rfl)
                  try simp only [Act.put, List.getElem_toArray, List.getElem_cons_zero, List.getElem_cons_succ, List.setIfInBounds_toArray, List.set_cons_zero, List.set_cons_succ]
                  refine wpAnyH_ready (rs := [15]) (by kernel_rfl) (by simp) ?_
                  refine AllReadyH.cons rfl (fun K hK => ?_) AllReadyH.nil
                  go_simp
                  refine (sameM_any w7 H6.out.1 H6.out.2.1.mat (store_len m i v)).mono ?_
                  rintro e w8 ⟨r2, rfl, hr2, hb8⟩
                  obtain rfl : r2 = false := by cases r2 with | false => rfl | true => exact absurd (hr2.1 rfl) HSE.out
                  have H8 := Lib.hid (And.intro (H6.out.2.1.below hb8) (H6.out.2.2.1.trans (hb8.mono H6.out.2.2.1.size)))
                  have HCV8 := Lib.hid ((hb8.cell (p := ⟨g, o + I * 25 + J, none⟩) (Nat.lt_of_lt_of_le HG.out H6.out.2.2.2)).trans HCV6.out)
                  have HG8 := Lib.hid (show g < w8.heap.size from Nat.lt_of_lt_of_le (Nat.lt_of_lt_of_le HG.out H6.out.2.2.2) hb8.size)
                  clear hr2 hb8
                  clear hHeld
                  refine hK.out _ _ ?_ (fun hHeld => ?_)
                  · exact HCV8.out
                  clear hK K
                  try simp only [Act.put, List.getElem_toArray, List.getElem_cons_zero, List.getElem_cons_succ, List.setIfInBounds_toArray, List.set_cons_zero, List.set_cons_succ]
                  refine' wpAnyH_take (i := 27) (v := _) rfl (by kernel_rfl) (by kernel_rfl) (by kernel_rfl) (fun _ _ _ h => h) (Or.inl ⟨by rfl, ?hy⟩) hHeld _
                  case hy => (intro w0 hSw; (try dsimp only at hSw); (try simp only [List.getElem_toArray, List.getElem_cons_zero, List.getElem_cons_succ]); go_simp; first | done | with_reducible rfl)
                  try simp only [Act.put, List.getElem_toArray, List.getElem_cons_zero, List.getElem_cons_succ, List.setIfInBounds_toArray, List.set_cons_zero, List.set_cons_succ]
                  refine' wpAnyH_take (i := 28) (v := _) rfl (by kernel_rfl) (by kernel_rfl) (by kernel_rfl) (fun _ _ _ h => h) (Or.inl ⟨by rfl, ?hy⟩) hHeld _
                  case hy => (intro w0 hSw; (try dsimp only at hSw); (try simp only [List.getElem_toArray, List.getElem_cons_zero, List.getElem_cons_succ]); go_simp; first | done | with_reducible rfl)
                  try simp only [Act.put, List.getElem_toArray, List.getElem_cons_zero, List.getElem_cons_succ, List.setIfInBounds_toArray, List.set_cons_zero, List.set_cons_succ]
                  refine' wpAnyH_take (i := 29) (v := _) rfl (by kernel_rfl) (by kernel_rfl) (by kernel_rfl) (fun _ _ _ h => h) (Or.inl ⟨by rfl, ?hy⟩) hHeld _
                  case hy => (intro w0 hSw; (try dsimp only at hSw); (try simp only [List.getElem_toArray, List.getElem_cons_zero, List.getElem_cons_succ]); go_simp; first | done | with_reducible rfl)
                  try simp only [Act.put, List.getElem_toArray, List.getElem_cons_zero, List.getElem_cons_succ, List.setIfInBounds_toArray, List.set_cons_zero, List.set_cons_succ]
                  refine' wpAnyH_take (i := 30) (v := _) rfl (by kernel_rfl) (by kernel_rfl) (by kernel_rfl) (fun _ _ _ h => h) (Or.inl ⟨by rfl, ?hy⟩) hHeld _
                  case hy => (intro w0 hSw; (try dsimp only at hSw); (try simp only [List.getElem_toArray, List.getElem_cons_zero, List.getElem_cons_succ]); go_simp; first | done | with_reducible rfl)
                  try simp only [Act.put, List.getElem_toArray, List.getElem_cons_zero, List.getElem_cons_succ, List.setIfInBounds_toArray, List.set_cons_zero, List.set_cons_succ]
                  refine' wpAnyH_take (i := 31) (v := _) rfl (by kernel_rfl) (by kernel_rfl) (by kernel_rfl) (fun _ _ _ h => h) (Or.inl ⟨by rfl, ?hy⟩) hHeld _
                  case hy => (intro w0 hSw; (try dsimp only at hSw); (try simp only [List.getElem_toArray, List.getElem_cons_zero, List.getElem_cons_succ]); go_simp; first | done | with_reducible rfl)
                  try simp only [Act.put, List.getElem_toArray, List.getElem_cons_zero, List.getElem_cons_succ, List.setIfInBounds_toArray, List.set_cons_zero, List.set_cons_succ]
                  refine wpAnyH_ready (rs := [32]) (by kernel_rfl) (by simp) ?_
                  refine AllReadyH.cons rfl (fun K hK => ?_) AllReadyH.nil
                  go_simp
                  refine (is7_any w8 H8.out.1).mono ?_
                  rintro e w9 ⟨rfl, hb9⟩
                  have H9 := Lib.hid (And.intro (H8.out.1.below hb9) (H8.out.2.trans (hb9.mono H8.out.2.size)))
                  have HCV9 := Lib.hid ((hb9.cell (p := ⟨g, o + I * 25 + J, none⟩) HG8.out).trans HCV8.out)
                  clear hb9
                  clear hHeld
                  refine hK.out _ _ ?_ (fun hHeld => ?_)
                  · exact HCV9.out
                  clear hK K
                  try simp only [Act.put, List.getElem_toArray, List.getElem_cons_zero, List.getElem_cons_succ, List.setIfInBounds_toArray, List.set_cons_zero, List.set_cons_succ]
                  refine' wpAnyH_take (i := 33) (v := _) rfl (by kernel_rfl) (by kernel_rfl) (by kernel_rfl) (fun _ _ _ h => h) (Or.inl ⟨by rfl, ?hy⟩) hHeld _
                  case hy => (intro w0 hSw; (try dsimp only at hSw); (try simp only [List.getElem_toArray, List.getElem_cons_zero, List.getElem_cons_succ]); go_simp; first | done | with_reducible rfl)
                  try simp only [Act.put, List.getElem_toArray, List.getElem_cons_zero, List.getElem_cons_succ, List.setIfInBounds_toArray, List.set_cons_zero, List.set_cons_succ]
                  refine' wpAnyH_take (i := 34) (v := _) rfl (by kernel_rfl) (by kernel_rfl) (by kernel_rfl) (fun _ _ _ h => h) (Or.inl ⟨by rfl, ?hy⟩) hHeld _
                  case hy => (intro w0 hSw; (try dsimp only at hSw); (try simp only [List.getElem_toArray, List.getElem_cons_zero, List.getElem_cons_succ]); go_simp; first | done | with_reducible rfl)
                  try simp only [Act.put, List.getElem_toArray, List.getElem_cons_zero, List.getElem_cons_succ, List.setIfInBounds_toArray, List.set_cons_zero, List.set_cons_succ]
                  refine wpAnyH_done (by kernel_rfl) ?_ _
                  refine NoPanic.normal ?_
                  clear hHeld
                  go_wp2_with fail
                  refine (copyM_any w9 H9.out.1.mat).mono ?_
                  rintro e w10 ⟨O3, rfl, hm10, hb10⟩
                  have H10 := Lib.hid (And.intro hm10 (And.intro (H9.out.1.below hb10) (And.intro (H9.out.2.trans (hb10.mono H9.out.2.size)) (And.intro (show ∀ b, inP (some ⟨g, o, none⟩) c b → b < w9.heap.size from fun b hb => H9.out.1.ref.inlt hb) (And.intro H9.out.1.bnd (show W.heap.size ≤ w9.heap.size from H9.out.2.size))))))
                  clear hm10 hb10
                  go_wp2_with fail
                  have hfl := flush_any I w10 H10.out.1 (fun x hx => hx.2) hI8
                  have HFL := Lib.hid hfl
                  clear hfl
                  refine HFL.out.mono ?_
                  rintro e w11 ⟨rfl, hm11, hf11⟩
                  have H11 := Lib.hid (And.intro hm11 (And.intro (H10.out.2.1.other hf11 (fun x hx h2 => by have := H10.out.2.2.2.2.1 x h2; have := hx.1; omega) (fun b hb h2 => by have := H10.out.2.2.2.1 b hb; have := h2.1; omega)) (H10.out.2.2.1.trans (hf11.below H10.out.2.2.1.size (fun b hb => Nat.le_trans H10.out.2.2.2.2.2 hb.1)))))
                  clear hm11 hf11
                  go_wp2_with fail
                  have hff := flush7_any (some ⟨g, o, none⟩) c m I w11 H11.out.2.1.ref hI8 (by have := H11.out.2.1.le; omega)
                  have HFF := Lib.hid hff
                  clear hff
                  refine HFF.out.mono ?_
                  rintro e w12 ⟨pq, cq, rfl, ho12, -, hb12⟩
                  obtain ⟨gq, oq, rfl⟩ := own_ptr (OwnG.rds lc_len ho12) (by rw [flush_len]; exact HT.out.1.pos)
                  have hrq := (rds_ln (OwnG.rds lc_len ho12) I (by rw [flush_len]; exact hI8)).1
                  have hrm := (rds_ln (H11.out.2.1.below hb12).ref I hI8).1
                  have hfs := flush_same m I hI8
                  obtain ⟨xq, hxq⟩ : ∃ x, (m.flush I)[I]'(by rw [flush_len]; exact hI8) = x := ⟨_, rfl⟩
                  obtain ⟨xm, hxm⟩ : ∃ x, m[I]'hI8 = x := ⟨_, rfl⟩
                  rw [hxq] at hrq hfs
                  rw [hxm] at hrm hfs
                  have HGQ := Lib.hid (show gq < w12.heap.size ∧ g < w12.heap.size from ⟨OwnG.lt ho12 ⟨_, rfl, rfl, by have := (OwnG.rds lc_len ho12).1; rw [flush_len] at this; have := HT.out.1.pos; omega⟩, (rds_ln (H11.out.2.1.below hb12).ref I hI8).2⟩)
                  have HRR := Lib.hid (show w12.drew.rangeAt gq (oq + I * 25) (lc xq) ∧ w12.drew.rangeAt g (o + I * 25) (lc xm) from ⟨hrq, hrm⟩)
                  have HSD := Lib.hid (sameM_any w12.drew ((H11.out.1.below hb12).below (Below.refl _ w12).drew) ((H11.out.2.1.below hb12).mat.below (Below.refl _ w12).drew) (flush_len m I))
                  have H12 := Lib.hid (H11.out.2.2.trans (hb12.mono H11.out.2.2.size))
                  have hc2 : eqLn xq xm = true ↔ m.flush I = m := by rw [eqLn_iff]; exact hfs.symm
                  clear ho12 hb12 hrq hrm hxq hxm hfs HFF HFL
                  by_cases hfe2 : m.flush I = m
                  · have heq2 : eqLn xq xm = true := hc2.2 hfe2
                    have HEQ := Lib.hid heq2
                    have HFE := Lib.hid hfe2
                    clear heq2 hfe2 hc2
                    go_wp2_with fail
                    refine wp_region_noPanic ?_
                    refine wp_region_held_drew (S := (fun w' => w'.rangeAt gq (oq + I * 25) (lc xq) ∧ w'.rangeAt g (o + I * 25) (lc xm))) (by kernel_rfl) ?_ (fun hHeld => ?_)
                    · exact HRR.out
                    refine' wpAnyH_take (i := 0) (v := _) rfl (by kernel_rfl) (by kernel_rfl) (by kernel_rfl) (fun _ _ _ h => h) (Or.inl ⟨by rfl, ?hy⟩) hHeld _
                    case hy => (intro w0 hSw; (try dsimp only at hSw); (try simp only [List.getElem_toArray, List.getElem_cons_zero, List.getElem_cons_succ]); go_simp; first | done | with_reducible rfl)
                    try simp only [Act.put, List.getElem_toArray, List.getElem_cons_zero, List.getElem_cons_succ, List.setIfInBounds_toArray, List.set_cons_zero, List.set_cons_succ]
                    refine' wpAnyH_take (i := 1) (v := _) rfl (by kernel_rfl) (by kernel_rfl) (by kernel_rfl) (fun _ _ _ h => h) (Or.inl ⟨by rfl, ?hy⟩) hHeld _
                    case hy => (intro w0 hSw; (try dsimp only at hSw); (try simp only [List.getElem_toArray, List.getElem_cons_zero, List.getElem_cons_succ]); go_simp; first | done | with_reducible rfl)
                    try simp only [Act.put, List.getElem_toArray, List.getElem_cons_zero, List.getElem_cons_succ, List.setIfInBounds_toArray, List.set_cons_zero, List.set_cons_succ]
                    refine' wpAnyH_take (i := 3) (v := _) rfl (by kernel_rfl) (by kernel_rfl) (by kernel_rfl) (fun _ _ _ h => h) (Or.inl ⟨by rfl, ?hy⟩) hHeld _
                    case hy => (intro w0 hSw; (try dsimp only at hSw); (try simp only [List.getElem_toArray, List.getElem_cons_zero, List.getElem_cons_succ]); go_simp; first | done | with_reducible rfl)
                    try simp only [Act.put, List.getElem_toArray, List.getElem_cons_zero, List.getElem_cons_succ, List.setIfInBounds_toArray, List.set_cons_zero, List.set_cons_succ]
                    refine' wpAnyH_take (i := 4) (v := _) rfl (by kernel_rfl) (by kernel_rfl) (by kernel_rfl) (fun _ _ _ h => h) (Or.inl ⟨by rfl, ?hy⟩) hHeld _
                    case hy => (intro w0 hSw; (try dsimp only at hSw); (try simp only [List.getElem_toArray, List.getElem_cons_zero, List.getElem_cons_succ]); go_simp; first | done | with_reducible rfl)
                    try simp only [Act.put, List.getElem_toArray, List.getElem_cons_zero, List.getElem_cons_succ, List.setIfInBounds_toArray, List.set_cons_zero, List.set_cons_succ]
                    refine' wpAnyH_take (i := 5) (v := _) rfl (by kernel_rfl) (by kernel_rfl) (by kernel_rfl) (fun _ _ _ h => h) (Or.inl ⟨by rfl, ?hy⟩) hHeld _
                    case hy => (intro w0 hSw; (try dsimp only at hSw); (try simp only [List.getElem_toArray, List.getElem_cons_zero, List.getElem_cons_succ]); go_simp; first | done | with_reducible rfl)
                    try simp only [Act.put, List.getElem_toArray, List.getElem_cons_zero, List.getElem_cons_succ, List.setIfInBounds_toArray, List.set_cons_zero, List.set_cons_succ]
                    refine' wpAnyH_take (i := 6) (v := _) rfl (by kernel_rfl) (by kernel_rfl) (by kernel_rfl) (fun _ _ _ h => h) (Or.inl ⟨by rfl, ?hy⟩) hHeld _
                    case hy => (intro w0 hSw; (try dsimp only at hSw); (try simp only [List.getElem_toArray, List.getElem_cons_zero, List.getElem_cons_succ]); go_simp; first | done | with_reducible rfl)
                    try simp only [Act.put, List.getElem_toArray, List.getElem_cons_zero, List.getElem_cons_succ, List.setIfInBounds_toArray, List.set_cons_zero, List.set_cons_succ]
                    refine' wpAnyH_take (i := 7) (v := lnV xq) rfl (by kernel_rfl) (by kernel_rfl) (by kernel_rfl) (fun _ _ _ h => h) (yields_load_ln (by rfl) (.tmp 125) rfl gq (oq + I * 25) rfl xq (fun _ h => h.1)) hHeld _
                    try simp only [Act.put, List.getElem_toArray, List.getElem_cons_zero, List.getElem_cons_succ, List.setIfInBounds_toArray, List.set_cons_zero, List.set_cons_succ]
                    refine' wpAnyH_take (i := 8) (v := _) rfl (by kernel_rfl) (by kernel_rfl) (by kernel_rfl) (fun _ _ _ h => h) (Or.inl ⟨by rfl, ?hy⟩) hHeld _
                    case hy => (intro w0 hSw; (try dsimp only at hSw); (try simp only [List.getElem_toArray, List.getElem_cons_zero, List.getElem_cons_succ]); go_simp; first | done | with_reducible rfl)
                    try simp only [Act.put, List.getElem_toArray, List.getElem_cons_zero, List.getElem_cons_succ, List.setIfInBounds_toArray, List.set_cons_zero, List.set_cons_succ]
                    refine' wpAnyH_take (i := 9) (v := _) rfl (by kernel_rfl) (by kernel_rfl) (by kernel_rfl) (fun _ _ _ h => h) (Or.inl ⟨by rfl, ?hy⟩) hHeld _
                    case hy => (intro w0 hSw; (try dsimp only at hSw); (try simp only [List.getElem_toArray, List.getElem_cons_zero, List.getElem_cons_succ]); go_simp; first | done | with_reducible rfl)
                    try simp only [Act.put, List.getElem_toArray, List.getElem_cons_zero, List.getElem_cons_succ, List.setIfInBounds_toArray, List.set_cons_zero, List.set_cons_succ]
                    refine' wpAnyH_take (i := 10) (v := _) rfl (by kernel_rfl) (by kernel_rfl) (by kernel_rfl) (fun _ _ _ h => h) (Or.inl ⟨by rfl, ?hy⟩) hHeld _
                    case hy => (intro w0 hSw; (try dsimp only at hSw); (try simp only [List.getElem_toArray, List.getElem_cons_zero, List.getElem_cons_succ]); go_simp; first | done | with_reducible rfl)
                    try simp only [Act.put, List.getElem_toArray, List.getElem_cons_zero, List.getElem_cons_succ, List.setIfInBounds_toArray, List.set_cons_zero, List.set_cons_succ]
                    refine' wpAnyH_take (i := 11) (v := _) rfl (by kernel_rfl) (by kernel_rfl) (by kernel_rfl) (fun _ _ _ h => h) (Or.inl ⟨by rfl, ?hy⟩) hHeld _
                    case hy => (intro w0 hSw; (try dsimp only at hSw); (try simp only [List.getElem_toArray, List.getElem_cons_zero, List.getElem_cons_succ]); go_simp; first | done | with_reducible rfl)
                    try simp only [Act.put, List.getElem_toArray, List.getElem_cons_zero, List.getElem_cons_succ, List.setIfInBounds_toArray, List.set_cons_zero, List.set_cons_succ]
                    refine' wpAnyH_take (i := 12) (v := lnV xm) rfl (by kernel_rfl) (by kernel_rfl) (by kernel_rfl) (fun _ _ _ h => h) (yields_load_ln (by rfl) (.tmp 130) rfl g (o + I * 25) rfl xm (fun _ h => h.2)) hHeld _
                    try simp only [Act.put, List.getElem_toArray, List.getElem_cons_zero, List.getElem_cons_succ, List.setIfInBounds_toArray, List.set_cons_zero, List.set_cons_succ]
                    refine' wpAnyH_take (i := 13) (v := .bool true) rfl (by kernel_rfl) (by kernel_rfl) (by kernel_rfl) (fun _ _ _ h => h) (yields_eql_lnS (by rfl) (.tmp 126) (.tmp 131) rfl rfl rfl HEQ.out) hHeld _
                    try simp only [Act.put, List.getElem_toArray, List.getElem_cons_zero, List.getElem_cons_succ, List.setIfInBounds_toArray, List.set_cons_zero, List.set_cons_succ]
                    refine wpAnyH_ready (rs := [2]) (by kernel_rfl) (by simp) ?_
                    refine AllReadyH.cons rfl (fun K hK => ?_) AllReadyH.nil
                    go_simp
                    refine HSD.out.mono ?_
                    rintro e w13 ⟨r3, rfl, hr3, hb13⟩
                    obtain rfl : r3 = true := hr3.2 HFE.out
                    have hbb13 : Below w12.heap.size w12.drew w13 := hb13
                    have H13 := Lib.hid (And.intro (H12.out.trans (((Below.refl w12.heap.size w12).drew.trans hbb13).mono H12.out.size)) hbb13)
                    clear hr3 hb13 hbb13
                    clear hHeld
                    refine hK.out _ _ ?_ (fun hHeld => ?_)
                    · exact ⟨fun j u hu => (H13.out.2.cell (p := ⟨gq, oq + I * 25 + j, none⟩) HGQ.out.1).trans (HRR.out.1 j u hu), fun j u hu => (H13.out.2.cell (p := ⟨g, o + I * 25 + j, none⟩) HGQ.out.2).trans (HRR.out.2 j u hu)⟩
                    clear hK K
                    try simp only [Act.put, List.getElem_toArray, List.getElem_cons_zero, List.getElem_cons_succ, List.setIfInBounds_toArray, List.set_cons_zero, List.set_cons_succ]
                    refine' wpAnyH_take (i := 14) (v := _) rfl (by kernel_rfl) (by kernel_rfl) (by kernel_rfl) (fun _ _ _ h => h) (Or.inl ⟨by rfl, ?hy⟩) hHeld _
                    case hy => (intro w0 hSw; (try dsimp only at hSw); (try simp only [List.getElem_toArray, List.getElem_cons_zero, List.getElem_cons_succ]); go_simp; first | done | with_reducible rfl)
                    try simp only [Act.put, List.getElem_toArray, List.getElem_cons_zero, List.getElem_cons_succ, List.setIfInBounds_toArray, List.set_cons_zero, List.set_cons_succ]
                    refine' wpAnyH_take (i := 15) (v := _) rfl (by kernel_rfl) (by kernel_rfl) (by kernel_rfl) (fun _ _ _ h => h) (Or.inl ⟨by rfl, ?hy⟩) hHeld _
                    case hy => (intro w0 hSw; (try dsimp only at hSw); (try simp only [List.getElem_toArray, List.getElem_cons_zero, List.getElem_cons_succ]); go_simp; first | done | with_reducible rfl)
                    try simp only [Act.put, List.getElem_toArray, List.getElem_cons_zero, List.getElem_cons_succ, List.setIfInBounds_toArray, List.set_cons_zero, List.set_cons_succ]
                    refine wpAnyH_ready (rs := [16]) (by kernel_rfl) (by simp) ?_
                    refine AllReadyH.cons rfl (fun K hK => ?_) AllReadyH.nil
                    go_simp
                    refine (works7_any _).mono ?_
                    rintro e w14 ⟨rfl, hb14⟩
                    have H14 := Lib.hid (And.intro (H13.out.1.trans (hb14.mono H13.out.1.size)) (H13.out.2.trans (hb14.mono H13.out.2.size)))
                    clear hb14
                    clear hHeld
                    refine hK.out _ _ ?_ (fun hHeld => ?_)
                    · exact ⟨fun j u hu => (H14.out.2.cell (p := ⟨gq, oq + I * 25 + j, none⟩) HGQ.out.1).trans (HRR.out.1 j u hu), fun j u hu => (H14.out.2.cell (p := ⟨g, o + I * 25 + j, none⟩) HGQ.out.2).trans (HRR.out.2 j u hu)⟩
                    clear hK K
                    try simp only [Act.put, List.getElem_toArray, List.getElem_cons_zero, List.getElem_cons_succ, List.setIfInBounds_toArray, List.set_cons_zero, List.set_cons_succ]
                    refine' wpAnyH_take (i := 17) (v := _) rfl (by kernel_rfl) (by kernel_rfl) (by kernel_rfl) (fun _ _ _ h => h) (Or.inl ⟨by rfl, ?hy⟩) hHeld _
                    case hy => (intro w0 hSw; (try dsimp only at hSw); (try simp only [List.getElem_toArray, List.getElem_cons_zero, List.getElem_cons_succ]); go_simp; first | done | with_reducible rfl)
                    try simp only [Act.put, List.getElem_toArray, List.getElem_cons_zero, List.getElem_cons_succ, List.setIfInBounds_toArray, List.set_cons_zero, List.set_cons_succ]
                    refine' wpAnyH_take (i := 18) (v := _) rfl (by kernel_rfl) (by kernel_rfl) (by kernel_rfl) (fun _ _ _ h => h) (Or.inl ⟨by rfl, ?hy⟩) hHeld _
                    case hy => (intro w0 hSw; (try dsimp only at hSw); (try simp only [List.getElem_toArray, List.getElem_cons_zero, List.getElem_cons_succ]); go_simp; first | done | with_reducible rfl)
                    try simp only [Act.put, List.getElem_toArray, List.getElem_cons_zero, List.getElem_cons_succ, List.setIfInBounds_toArray, List.set_cons_zero, List.set_cons_succ]
                    refine wpAnyH_done (by kernel_rfl) ?_ _
                    refine NoPanic.normal ?_
                    clear hHeld
                    go_wp2_with fail
                    go_ret
                    exact ⟨rfl, H14.out.1⟩
                  · have heq2 : eqLn xq xm = false := by cases h : eqLn xq xm with | false => rfl | true => exact absurd (hc2.1 h) hfe2
                    have HEQ := Lib.hid heq2
                    have HFE := Lib.hid hfe2
                    clear heq2 hfe2 hc2
                    go_wp2_with fail
                    refine wp_region_noPanic ?_
                    refine wp_region_held_drew (S := (fun w' => w'.rangeAt gq (oq + I * 25) (lc xq) ∧ w'.rangeAt g (o + I * 25) (lc xm))) (by kernel_rfl) ?_ (fun hHeld => ?_)
                    · exact HRR.out
                    refine' wpAnyH_take (i := 0) (v := _) rfl (by kernel_rfl) (by kernel_rfl) (by kernel_rfl) (fun _ _ _ h => h) (Or.inl ⟨by rfl, ?hy⟩) hHeld _
                    case hy => (intro w0 hSw; (try dsimp only at hSw); (try simp only [List.getElem_toArray, List.getElem_cons_zero, List.getElem_cons_succ]); go_simp; first | done | with_reducible rfl)
                    try simp only [Act.put, List.getElem_toArray, List.getElem_cons_zero, List.getElem_cons_succ, List.setIfInBounds_toArray, List.set_cons_zero, List.set_cons_succ]
                    refine' wpAnyH_take (i := 1) (v := _) rfl (by kernel_rfl) (by kernel_rfl) (by kernel_rfl) (fun _ _ _ h => h) (Or.inl ⟨by rfl, ?hy⟩) hHeld _
                    case hy => (intro w0 hSw; (try dsimp only at hSw); (try simp only [List.getElem_toArray, List.getElem_cons_zero, List.getElem_cons_succ]); go_simp; first | done | with_reducible rfl)
                    try simp only [Act.put, List.getElem_toArray, List.getElem_cons_zero, List.getElem_cons_succ, List.setIfInBounds_toArray, List.set_cons_zero, List.set_cons_succ]
                    refine' wpAnyH_take (i := 3) (v := _) rfl (by kernel_rfl) (by kernel_rfl) (by kernel_rfl) (fun _ _ _ h => h) (Or.inl ⟨by rfl, ?hy⟩) hHeld _
                    case hy => (intro w0 hSw; (try dsimp only at hSw); (try simp only [List.getElem_toArray, List.getElem_cons_zero, List.getElem_cons_succ]); go_simp; first | done | with_reducible rfl)
                    try simp only [Act.put, List.getElem_toArray, List.getElem_cons_zero, List.getElem_cons_succ, List.setIfInBounds_toArray, List.set_cons_zero, List.set_cons_succ]
                    refine' wpAnyH_take (i := 4) (v := _) rfl (by kernel_rfl) (by kernel_rfl) (by kernel_rfl) (fun _ _ _ h => h) (Or.inl ⟨by rfl, ?hy⟩) hHeld _
                    case hy => (intro w0 hSw; (try dsimp only at hSw); (try simp only [List.getElem_toArray, List.getElem_cons_zero, List.getElem_cons_succ]); go_simp; first | done | with_reducible rfl)
                    try simp only [Act.put, List.getElem_toArray, List.getElem_cons_zero, List.getElem_cons_succ, List.setIfInBounds_toArray, List.set_cons_zero, List.set_cons_succ]
                    refine' wpAnyH_take (i := 5) (v := _) rfl (by kernel_rfl) (by kernel_rfl) (by kernel_rfl) (fun _ _ _ h => h) (Or.inl ⟨by rfl, ?hy⟩) hHeld _
                    case hy => (intro w0 hSw; (try dsimp only at hSw); (try simp only [List.getElem_toArray, List.getElem_cons_zero, List.getElem_cons_succ]); go_simp; first | done | with_reducible rfl)
                    try simp only [Act.put, List.getElem_toArray, List.getElem_cons_zero, List.getElem_cons_succ, List.setIfInBounds_toArray, List.set_cons_zero, List.set_cons_succ]
                    refine' wpAnyH_take (i := 6) (v := _) rfl (by kernel_rfl) (by kernel_rfl) (by kernel_rfl) (fun _ _ _ h => h) (Or.inl ⟨by rfl, ?hy⟩) hHeld _
                    case hy => (intro w0 hSw; (try dsimp only at hSw); (try simp only [List.getElem_toArray, List.getElem_cons_zero, List.getElem_cons_succ]); go_simp; first | done | with_reducible rfl)
                    try simp only [Act.put, List.getElem_toArray, List.getElem_cons_zero, List.getElem_cons_succ, List.setIfInBounds_toArray, List.set_cons_zero, List.set_cons_succ]
                    refine' wpAnyH_take (i := 7) (v := lnV xq) rfl (by kernel_rfl) (by kernel_rfl) (by kernel_rfl) (fun _ _ _ h => h) (yields_load_ln (by rfl) (.tmp 125) rfl gq (oq + I * 25) rfl xq (fun _ h => h.1)) hHeld _
                    try simp only [Act.put, List.getElem_toArray, List.getElem_cons_zero, List.getElem_cons_succ, List.setIfInBounds_toArray, List.set_cons_zero, List.set_cons_succ]
                    refine' wpAnyH_take (i := 8) (v := _) rfl (by kernel_rfl) (by kernel_rfl) (by kernel_rfl) (fun _ _ _ h => h) (Or.inl ⟨by rfl, ?hy⟩) hHeld _
                    case hy => (intro w0 hSw; (try dsimp only at hSw); (try simp only [List.getElem_toArray, List.getElem_cons_zero, List.getElem_cons_succ]); go_simp; first | done | with_reducible rfl)
                    try simp only [Act.put, List.getElem_toArray, List.getElem_cons_zero, List.getElem_cons_succ, List.setIfInBounds_toArray, List.set_cons_zero, List.set_cons_succ]
                    refine' wpAnyH_take (i := 9) (v := _) rfl (by kernel_rfl) (by kernel_rfl) (by kernel_rfl) (fun _ _ _ h => h) (Or.inl ⟨by rfl, ?hy⟩) hHeld _
                    case hy => (intro w0 hSw; (try dsimp only at hSw); (try simp only [List.getElem_toArray, List.getElem_cons_zero, List.getElem_cons_succ]); go_simp; first | done | with_reducible rfl)
                    try simp only [Act.put, List.getElem_toArray, List.getElem_cons_zero, List.getElem_cons_succ, List.setIfInBounds_toArray, List.set_cons_zero, List.set_cons_succ]
                    refine' wpAnyH_take (i := 10) (v := _) rfl (by kernel_rfl) (by kernel_rfl) (by kernel_rfl) (fun _ _ _ h => h) (Or.inl ⟨by rfl, ?hy⟩) hHeld _
                    case hy => (intro w0 hSw; (try dsimp only at hSw); (try simp only [List.getElem_toArray, List.getElem_cons_zero, List.getElem_cons_succ]); go_simp; first | done | with_reducible rfl)
                    try simp only [Act.put, List.getElem_toArray, List.getElem_cons_zero, List.getElem_cons_succ, List.setIfInBounds_toArray, List.set_cons_zero, List.set_cons_succ]
                    refine' wpAnyH_take (i := 11) (v := _) rfl (by kernel_rfl) (by kernel_rfl) (by kernel_rfl) (fun _ _ _ h => h) (Or.inl ⟨by rfl, ?hy⟩) hHeld _
                    case hy => (intro w0 hSw; (try dsimp only at hSw); (try simp only [List.getElem_toArray, List.getElem_cons_zero, List.getElem_cons_succ]); go_simp; first | done | with_reducible rfl)
                    try simp only [Act.put, List.getElem_toArray, List.getElem_cons_zero, List.getElem_cons_succ, List.setIfInBounds_toArray, List.set_cons_zero, List.set_cons_succ]
                    refine' wpAnyH_take (i := 12) (v := lnV xm) rfl (by kernel_rfl) (by kernel_rfl) (by kernel_rfl) (fun _ _ _ h => h) (yields_load_ln (by rfl) (.tmp 130) rfl g (o + I * 25) rfl xm (fun _ h => h.2)) hHeld _
                    try simp only [Act.put, List.getElem_toArray, List.getElem_cons_zero, List.getElem_cons_succ, List.setIfInBounds_toArray, List.set_cons_zero, List.set_cons_succ]
                    refine' wpAnyH_take (i := 13) (v := .bool false) rfl (by kernel_rfl) (by kernel_rfl) (by kernel_rfl) (fun _ _ _ h => h) (yields_eql_lnS (by rfl) (.tmp 126) (.tmp 131) rfl rfl rfl HEQ.out) hHeld _
                    try simp only [Act.put, List.getElem_toArray, List.getElem_cons_zero, List.getElem_cons_succ, List.setIfInBounds_toArray, List.set_cons_zero, List.set_cons_succ]
                    refine wpAnyH_ready (rs := [2]) (by kernel_rfl) (by simp) ?_
                    refine AllReadyH.cons rfl (fun K hK => ?_) AllReadyH.nil
                    go_simp
                    refine HSD.out.mono ?_
                    rintro e w13 ⟨r3, rfl, hr3, hb13⟩
                    obtain rfl : r3 = false := by cases r3 with | false => rfl | true => exact absurd (hr3.1 rfl) HFE.out
                    have hbb13 : Below w12.heap.size w12.drew w13 := hb13
                    have H13 := Lib.hid (And.intro (H12.out.trans (((Below.refl w12.heap.size w12).drew.trans hbb13).mono H12.out.size)) hbb13)
                    clear hr3 hb13 hbb13
                    clear hHeld
                    refine hK.out _ _ ?_ (fun hHeld => ?_)
                    · exact ⟨fun j u hu => (H13.out.2.cell (p := ⟨gq, oq + I * 25 + j, none⟩) HGQ.out.1).trans (HRR.out.1 j u hu), fun j u hu => (H13.out.2.cell (p := ⟨g, o + I * 25 + j, none⟩) HGQ.out.2).trans (HRR.out.2 j u hu)⟩
                    clear hK K
                    try simp only [Act.put, List.getElem_toArray, List.getElem_cons_zero, List.getElem_cons_succ, List.setIfInBounds_toArray, List.set_cons_zero, List.set_cons_succ]
                    refine' wpAnyH_take (i := 14) (v := _) rfl (by kernel_rfl) (by kernel_rfl) (by kernel_rfl) (fun _ _ _ h => h) (Or.inl ⟨by rfl, ?hy⟩) hHeld _
                    case hy => (intro w0 hSw; (try dsimp only at hSw); (try simp only [List.getElem_toArray, List.getElem_cons_zero, List.getElem_cons_succ]); go_simp; first | done | with_reducible rfl)
                    try simp only [Act.put, List.getElem_toArray, List.getElem_cons_zero, List.getElem_cons_succ, List.setIfInBounds_toArray, List.set_cons_zero, List.set_cons_succ]
                    refine' wpAnyH_take (i := 15) (v := _) rfl (by kernel_rfl) (by kernel_rfl) (by kernel_rfl) (fun _ _ _ h => h) (Or.inl ⟨by rfl, ?hy⟩) hHeld _
                    case hy => (intro w0 hSw; (try dsimp only at hSw); (try simp only [List.getElem_toArray, List.getElem_cons_zero, List.getElem_cons_succ]); go_simp; first | done | with_reducible rfl)
                    try simp only [Act.put, List.getElem_toArray, List.getElem_cons_zero, List.getElem_cons_succ, List.setIfInBounds_toArray, List.set_cons_zero, List.set_cons_succ]
                    refine wpAnyH_ready (rs := [16]) (by kernel_rfl) (by simp) ?_
                    refine AllReadyH.cons rfl (fun K hK => ?_) AllReadyH.nil
                    go_simp
                    refine (works7_any _).mono ?_
                    rintro e w14 ⟨rfl, hb14⟩
                    have H14 := Lib.hid (And.intro (H13.out.1.trans (hb14.mono H13.out.1.size)) (H13.out.2.trans (hb14.mono H13.out.2.size)))
                    clear hb14
                    clear hHeld
                    refine hK.out _ _ ?_ (fun hHeld => ?_)
                    · exact ⟨fun j u hu => (H14.out.2.cell (p := ⟨gq, oq + I * 25 + j, none⟩) HGQ.out.1).trans (HRR.out.1 j u hu), fun j u hu => (H14.out.2.cell (p := ⟨g, o + I * 25 + j, none⟩) HGQ.out.2).trans (HRR.out.2 j u hu)⟩
                    clear hK K
                    try simp only [Act.put, List.getElem_toArray, List.getElem_cons_zero, List.getElem_cons_succ, List.setIfInBounds_toArray, List.set_cons_zero, List.set_cons_succ]
                    refine' wpAnyH_take (i := 17) (v := _) rfl (by kernel_rfl) (by kernel_rfl) (by kernel_rfl) (fun _ _ _ h => h) (Or.inl ⟨by rfl, ?hy⟩) hHeld _
                    case hy => (intro w0 hSw; (try dsimp only at hSw); (try simp only [List.getElem_toArray, List.getElem_cons_zero, List.getElem_cons_succ]); go_simp; first | done | with_reducible rfl)
                    try simp only [Act.put, List.getElem_toArray, List.getElem_cons_zero, List.getElem_cons_succ, List.setIfInBounds_toArray, List.set_cons_zero, List.set_cons_succ]
                    refine' wpAnyH_take (i := 18) (v := _) rfl (by kernel_rfl) (by kernel_rfl) (by kernel_rfl) (fun _ _ _ h => h) (Or.inl ⟨by rfl, ?hy⟩) hHeld _
                    case hy => (intro w0 hSw; (try dsimp only at hSw); (try simp only [List.getElem_toArray, List.getElem_cons_zero, List.getElem_cons_succ]); go_simp; first | done | with_reducible rfl)
                    try simp only [Act.put, List.getElem_toArray, List.getElem_cons_zero, List.getElem_cons_succ, List.setIfInBounds_toArray, List.set_cons_zero, List.set_cons_succ]
                    refine wpAnyH_done (by kernel_rfl) ?_ _
                    refine NoPanic.normal ?_
                    clear hHeld
                    go_wp2_with fail
                    go_ret
                    exact ⟨rfl, H14.out.1⟩
    · have HR := Lib.hid (right7_no n W hr)
      clear h64 hr
      go_enter Try.func8, Try.ntmps8
      go_wp2_with fail
      refine HR.out.mono ?_
      rintro e w' ⟨rfl, rfl⟩
      go_wp2_with fail
      refine (works7_any _).mono ?_
      rintro e w' ⟨rfl, hb⟩
      have HB := Lib.hid hb
      clear hb
      go_wp2_with fail
      go_ret
      exact ⟨rfl, HB.out⟩
theorem lawPmemCopies_of {α : Type} {enc : α → List Value} (p0 : Option Addr) (c0 : Nat) (l : List (BitVec 64)) (p1 : Option Addr) (c1 : Nat) (ys : List α) (at' : Int) (v : BitVec 64) (W : World) (hr0 : RdL W.heap.size W p0 c0 vw l) (hr1 : RdS W.heap.size W p1 c1 3 enc ys) (f : α → ActA) (hf : ∀ y, enc y = ac (f y)) :
    Calls Try.prog 8 #[.slice p0 l.length c0, .slice p1 ys.length c1, .int .i64 at', vw v] W fun e w' => e = .returned (.bool true) ∧ Below W.heap.size W w' := by
  have := lawPmemCopies p0 p1 c0 c1 l (ys.map f) at' v W hr0 (hr1.mapE f hf)
  rwa [List.length_map] at this
end Go.Proofs.Ytaflbfmlajbjcaa
