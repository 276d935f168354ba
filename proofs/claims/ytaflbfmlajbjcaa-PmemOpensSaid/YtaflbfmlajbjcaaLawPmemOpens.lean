/- The law PmemOpens. -/
import Derived.Test.YtaflbfmlajbjcaaPmeD
import Derived.Sort.CutIn
import Derived.Sort.QuietIn
namespace Go.Proofs.Ytaflbfmlajbjcaa
open Go Go.RowKit
attribute [local go_sem] Oper.semAt_some

theorem box2 (w : World) (t u : TypeId) (x y : Value) : ∃ wa, (w.alloc (.cells #[x] t)).alloc (.cells #[y] u) = wa ∧ Box wa w.heap.size t x ∧ Box wa (w.heap.size + 1) u y ∧ Below w.heap.size w wa ∧ wa.heap.size = w.heap.size + 2 := by
  refine ⟨_, rfl, (Box.new _ _ _).alloc _, ?_, ((Below.refl _ _).alloc (Nat.le_refl _) _).alloc (by simp) _, by simp⟩
  have := Box.new (w.alloc (.cells #[x] t)) u y
  rwa [World.size_alloc] at this
def vnB (k : Nat) : Value := .int .i64 (k : Int)
def LeaveAtB (many : Int) (len m : Nat) : Prop := (many ≤ 1 ∧ m ≤ 1 ∧ m ≤ len ∧ (m = 1 ∨ m = len)) ∨ (1 < many ∧ (m : Int) ≤ many ∧ m ≤ len ∧ ((m : Int) = many ∨ m = len))
structure PO (w : World) (zs : List Nat) (many : Int) (Bw Bs bt O : Nat) (m : Mem) (N : Nat → Prop) (qw : Option Addr) (dw : Nat) (turn : Nat) (W : World) : Prop where
  at_ : At w.heap.size w W
  lw : w.heap.size + 2 ≤ Bw
  ls : w.heap.size + 2 ≤ Bs
  ltw : Bw < bt
  lts : Bs < bt
  ltN : ∀ x, N x → x < bt
  bm : Box W w.heap.size 3 (.int .i64 many)
  br : Box W (w.heap.size + 1) 4 (.bool false)
  bw : Box W Bw 39 (.slice qw zs.length dw)
  bs : Box W Bs 26 (.pointer (some ⟨O, 0, none⟩))
  mp : MAt W O m N
  tn : Box W bt 3 (vnB turn)
  rw : RdS bt W qw dw 1 ei zs
/-- Another block that turns. -/
theorem PO.kept {w : World} {zs : List Nat} {many : Int} {Bw Bs bt O : Nat} {m : Mem} {N : Nat → Prop} {qw : Option Addr} {dw : Nat} {turn : Nat} {W W' : World} {X T : Nat → Prop} (h : PO w zs many Bw Bs bt O m N qw dw turn W) (hk : Keep X W T W')
    (hX : ∀ b, X b → bt < b) : PO w zs many Bw Bs bt O m N qw dw turn W' := by
  have h1 := h.lw
  have h2 := h.ls
  have h3 := h.ltw
  have h4 := h.lts
  have nx : ∀ b, b ≤ bt → ¬ X b := fun b hb hx => by have := hX b hx; omega
  have hbl := h.tn.lt
  exact ⟨hk.at h.at_ (fun b hb => by have := hX b hb; omega), h1, h2, h3, h4, h.ltN, hk.box h.bm (nx _ (by omega)), hk.box h.br (nx _ (by omega)), hk.box h.bw (nx _ (by omega)), hk.box h.bs (nx _ (by omega)),
    h.mp.keep (fun x hx hl => hk.frn.block x hl (nx _ (Nat.le_of_lt (h.ltN x hx)))), hk.box h.tn (nx _ (Nat.le_refl _)),
    h.rw.keep fun b hb => hk.frn.block _ (by have := h.rw.inlt hb; omega) (nx _ (by have := h.rw.inlt hb; omega))⟩
/-- Another variable of turns. -/
theorem PO.next {w : World} {zs : List Nat} {many : Int} {Bw Bs bt O : Nat} {m : Mem} {N : Nat → Prop} {qw : Option Addr} {dw : Nat} {turn : Nat} {W : World} (h : PO w zs many Bw Bs bt O m N qw dw turn W) (t : Nat) :
    PO w zs many Bw Bs W.heap.size O m N qw dw t (W.alloc (.cells #[.int .i64 (t : Int)] 3)) := by
  have h2 := h.kept (X := fun _ => False) (T := fun _ => False) ((Keep.start _ _).alloc (Obj.cells #[Value.int IntKind.i64 t] 3)) (fun _ h => h.elim)
  have hl := h.tn.lt
  exact ⟨h2.at_, h2.lw, h2.ls, by have := h2.ltw; omega, by have := h2.lts; omega, fun x hx => by have := h2.ltN x hx; omega, h2.bm, h2.br, h2.bw, h2.bs, h2.mp, Box.new _ _ _, h2.rw.wideP (Nat.le_of_lt hl)⟩
theorem int_at {B : Nat} {w : World} {p : Option Addr} {cap : Nat} {zs : List Nat} (h : RdS B w p cap 1 ei zs) (k : Nat) (hk : k < zs.length) : ∃ g o, p = some ⟨g, o, none⟩ ∧ g < B ∧ w.cell? ⟨g, o + k, none⟩ = some (.int .i64 ((zs[k] : Nat) : Int)) := by
  obtain ⟨h1, h2, h3⟩ := h
  rcases h3 with h3 | ⟨g, o, hp, hb, hc⟩
  · omega
  · refine ⟨g, o, hp, hb, ?_⟩
    have := hc k hk 0 _ rfl
    rwa [Nat.mul_one, Nat.add_zero] at this
set_option maxRecDepth 100000 in
set_option maxHeartbeats 8000000 in
theorem popens_out (p0 p1 : Option Addr) (c0 c1 n K : Nat) (many : Int) (w : World) (hbad : ¬ (n ≤ 64 ∧ (8 ≤ n ∧ n ≤ 131072 ∧ n % 8 = 0) ∧ K ≤ 60)) :
    Calls Try.prog 3 #[.slice p0 n c0, .slice p1 K c1, .int .i64 many] w fun e w' => e = .returned (.bool true) ∧ Below w.heap.size w w' := by
  obtain ⟨wa, hwa, hM, hR, hba, hza⟩ := box2 w 3 4 (.int .i64 many) (.bool false)
  have HA := Lib.hid (And.intro hR hba)
  clear hM hR hba hza
  have fin : ∀ wz, Below wa.heap.size wa wz → Box wz (w.heap.size + 1) 4 (.bool false) ∧ Below w.heap.size w wz := fun wz hb => ⟨HA.out.1.below hb HA.out.1.lt, HA.out.2.trans (hb.mono HA.out.2.size)⟩
  have FIN := Lib.hid fin
  clear fin
  by_cases h64 : 64 < n
  · have d1 : decide (64 < (n : Int)) = true := decide_eq_true (by omega)
    clear h64 hbad
    go_enter Try.func3, Try.ntmps3
    go_wp2_with fail
    refine (works7_any _).mono ?_
    rintro e wz ⟨rfl, hbz⟩
    have HZ := Lib.hid (FIN.out wz hbz)
    have c9 := HZ.out.1.cell
    have f9 := HZ.out.1.free
    clear hbz
    go_wp2_with fail
    have hc9 := (HZ.out.1.set (.bool true)).cell
    refine bodyPost_ret (v := .bool true) (results_cell1 rfl _ _ rfl (v := .bool true) (by simp [go_sem, hc9])) rfl ⟨rfl, ?_⟩
    exact HZ.out.2.setCell (p := ⟨w.heap.size + 1, 0, none⟩) (by simp) _
  · have d1 : decide (64 < (n : Int)) = false := decide_eq_false (by omega)
    by_cases hr : 8 ≤ n ∧ n ≤ 131072 ∧ n % 8 = 0
    · have HR := Lib.hid (right7_yes n wa hr)
      have d2 : decide (60 < (K : Int)) = true := decide_eq_true (by omega)
      clear h64 hr hbad
      go_enter Try.func3, Try.ntmps3
      go_wp2_with fail
      refine HR.out.mono ?_
      rintro e w' ⟨rfl, rfl⟩
      clear hwa
      go_wp2_with fail
      refine (works7_any _).mono ?_
      rintro e wz ⟨rfl, hbz⟩
      have HZ := Lib.hid (FIN.out wz hbz)
      have c9 := HZ.out.1.cell
      have f9 := HZ.out.1.free
      clear hbz
      go_wp2_with fail
      have hc9 := (HZ.out.1.set (.bool true)).cell
      refine bodyPost_ret (v := .bool true) (results_cell1 rfl _ _ rfl (v := .bool true) (by simp [go_sem, hc9])) rfl ⟨rfl, ?_⟩
      exact HZ.out.2.setCell (p := ⟨w.heap.size + 1, 0, none⟩) (by simp) _
    · have HR := Lib.hid (right7_no n wa hr)
      clear h64 hr hbad
      go_enter Try.func3, Try.ntmps3
      go_wp2_with fail
      refine HR.out.mono ?_
      rintro e w' ⟨rfl, rfl⟩
      clear hwa
      go_wp2_with fail
      refine (works7_any _).mono ?_
      rintro e wz ⟨rfl, hbz⟩
      have HZ := Lib.hid (FIN.out wz hbz)
      have c9 := HZ.out.1.cell
      have f9 := HZ.out.1.free
      clear hbz
      go_wp2_with fail
      have hc9 := (HZ.out.1.set (.bool true)).cell
      refine bodyPost_ret (v := .bool true) (results_cell1 rfl _ _ rfl (v := .bool true) (by simp [go_sem, hc9])) rfl ⟨rfl, ?_⟩
      exact HZ.out.2.setCell (p := ⟨w.heap.size + 1, 0, none⟩) (by simp) _

set_option maxRecDepth 100000 in
set_option maxHeartbeats 8000000 in
theorem popens_in (p0 p1 : Option Addr) (c0 c1 : Nat) (l : List (BitVec 64)) (sc : List ActA) (many : Int) (w : World) (hr0 : RdL w.heap.size w p0 c0 vw l) (hr1 : RdS w.heap.size w p1 c1 3 ac sc) (n K : Nat) (hn : l.length = n) (hK : sc.length = K)
    (h64 : n ≤ 64) (hr : 8 ≤ n ∧ n ≤ 131072 ∧ n % 8 = 0) (h60 : K ≤ 60) :
    Calls Try.prog 3 #[.slice p0 n c0, .slice p1 K c1, .int .i64 many] w fun e w' => e = .returned (.bool true) ∧ Below w.heap.size w w' := by
  obtain ⟨wa, hwa, hM, hR, hba, hza⟩ := box2 w 3 4 (.int .i64 many) (.bool false)
  have HA := Lib.hid (And.intro hM (And.intro hR (And.intro hba hza)))
  have HN := Lib.hid (And.intro hn hK)
  have H0 := Lib.hid (And.intro ((hr0.below hba).wide hba.size) ((hr1.keep (fun b hb => hba.block b (hr1.inlt hb))).wideP hba.size))
  have d1 : decide (64 < (n : Int)) = false := decide_eq_false (by omega)
  have d2 : decide (60 < (K : Int)) = false := decide_eq_false (by omega)
  have HR := Lib.hid (right7_yes n wa hr)
  have hof := of_any p0 c0 l wa H0.out.1 (by rw [hn]; omega) (by rw [hn]; omega) (by rw [hn]; omega)
  rw [hn] at hof
  have HOF := Lib.hid hof
  have HST := Lib.hid (show 0 < (linesOf l).length ∧ (linesOf l).length ≤ 1000 by rw [linesOf_len, hn]; omega)
  have HMD := Lib.hid (show l.length % 8 = 0 ∧ l.length ≤ 1000 by rw [hn]; omega)
  clear hM hR hba hza hr0 hr1 hn hK h64 hr hof
  refine (callsIn_wide (n := 0)).1 ?_
  refine callsIn_of_wp_marks Try.func3 rfl trivial ?_ rfl
  simp only [Try.ntmps3, List.size_toArray, List.length_cons, List.length_nil, Nat.reduceAdd, Nat.reduceSub, Array.replicate_succ, Array.replicate_zero, List.push_toArray, List.append_toArray, List.nil_append, List.cons_append]
  refine wpIn_wide.2 ?_
  go_wp2_with fail
  refine HR.out.mono ?_
  rintro e w' ⟨rfl, rfl⟩
  clear hwa
  go_wp2_with fail
  refine HOF.out.mono ?_
  rintro e w1 ⟨O, N, rfl, hm, hN, hb1⟩
  have H1 := Lib.hid (And.intro hm (And.intro hN hb1))
  have hrf := of7_any p0 c0 l w1 ((H0.out.1.below hb1).wide hb1.size) HMD.out.1 HMD.out.2
  rw [HN.out.1] at hrf
  have HRF := Lib.hid hrf
  clear hm hN hb1 hrf
  go_wp2_with fail
  refine HRF.out.mono ?_
  rintro e w2 ⟨p, c, rfl, ho, hp, hb2⟩
  have H2 := Lib.hid (And.intro (two_start HST.out.1 HST.out.2 H1.out.1 H1.out.2.1 ho hp hb2) (And.intro (show ∀ x, N x → wa.heap.size ≤ x from fun x hx => (H1.out.2.1 x hx).1) (H1.out.2.2.trans (hb2.mono H1.out.2.2.size))))
  clear ho hp hb2
  go_wp2_with fail
  refine (num7_any _ _).mono ?_
  rintro e w3 ⟨rfl, rfl⟩
  go_wp2_with fail
  go_loopw [9, 10] (fun x9 i wr => ∃ (k : Nat) (p : Option Addr) (c : Nat) (m : Mem), k ≤ K ∧ i = .int .i64 k ∧ x9 = .slice p m.length c ∧ Two wr O p c m N ∧ Below wa.heap.size wa wr) (fun _ i _ => K - (intOf i).toNat)
  case atStart => exact ⟨0, p, c, _, Nat.zero_le _, rfl, rfl, H2.out.1, H2.out.2.2⟩
  case round =>
    obtain ⟨k, p, c, m, hk, rfl, rfl, ht, hb⟩ := hrel
    by_cases hlt : k < K
    · have hlt' : (k : Int) < (K : Int) := by omega
      have hk9 : (k : Int) ≤ 60 := by omega
      obtain ⟨g, o, rfl, hg, a0, a1, a2⟩ := act_at H0.out.2 k (by rw [HN.out.2]; exact hlt)
      obtain ⟨x, hx⟩ : ∃ x, sc[k]'(by rw [HN.out.2]; exact hlt) = x := ⟨_, rfl⟩
      rw [hx] at a0 a1 a2
      have b0 := (hb.cell (p := ⟨g, o + k * 3, none⟩) hg).trans a0
      have b1 := (hb.cell (p := ⟨g, o + k * 3 + 1, none⟩) hg).trans a1
      have b2 := (hb.cell (p := ⟨g, o + k * 3 + 2, none⟩) hg).trans a2
      have HT := Lib.hid (And.intro ht hb)
      have HACT := Lib.hid (show Calls Try.prog 16 #[.pointer (some ⟨O, 0, none⟩), .slice p m.length c, .agg #[.int .i64 x.what, .int .i64 x.at_, vw x.value]] wr fun e w' => ActPost wr O (stepM m x) N e w' from act7_any x wr ht)
      clear ht hb hg a0 a1 a2 hx
      go_wp2_with fail
      refine HACT.out.mono ?_
      rintro e w5 ⟨p', c', rfl, ht5, hf5⟩
      have HB5 := Lib.hid (And.intro ht5 (HT.out.2.trans (hf5.below HT.out.2.size H2.out.2.1)))
      clear ht5 hf5 b0 b1 b2 HACT
      go_wp2_with fail
      go_roundw
      case rel => exact ⟨k + 1, p', c', _, hlt, by go_num, rfl, HB5.out⟩
      case measure => simp [intOf]; omega
    · obtain rfl : k = K := by omega
      have hnl : ¬ (k : Int) < (k : Int) := by omega
      have HT := Lib.hid (And.intro ht hb)
      have hop := open7_any p c m wr ht.ref (by have := ht.le; omega)
      have hln9 : m.opens.length ≤ 1000 := by
        have := opens_lt m m.length
        rw [← opens_T] at this
        have := ht.le
        omega
      have HOP := Lib.hid hop
      clear ht hb hop
      go_wp2_with fail
      refine HOP.out.mono ?_
      rintro e w5 ⟨qw, dw, rfl, hown, -, hb5⟩
      obtain ⟨zs, hzs⟩ : ∃ zs, m.opens = zs := ⟨_, rfl⟩
      rw [hzs] at hown hln9 ⊢
      have hrdr := OwnG.rds ei_len hown
      have HNB := Lib.hid (show ∀ x, N x → x < w5.heap.size from fun x hx => Nat.lt_of_lt_of_le (HT.out.1.bnd x hx) hb5.size)
      have H5 : Hid (MAt w5 O m N ∧ Below w.heap.size w w5 ∧ Box w5 w.heap.size 3 (.int .i64 many) ∧ Box w5 (w.heap.size + 1) 4 (.bool false) ∧ w.heap.size + 2 ≤ w5.heap.size) := Lib.hid (by
        have hb : Below wa.heap.size wa w5 := HT.out.2.trans (hb5.mono HT.out.2.size)
        exact ⟨HT.out.1.mat.below hb5, HA.out.2.2.1.trans (hb.mono HA.out.2.2.1.size), HA.out.1.below hb HA.out.1.lt, HA.out.2.1.below hb HA.out.2.1.lt, by rw [← HA.out.2.2.2]; exact hb.size⟩)
      obtain ⟨w6, hw6⟩ : ∃ w6, w5.alloc (.cells #[.slice qw zs.length dw] 39) = w6 := ⟨_, rfl⟩
      have hb56 : Below w5.heap.size w5 w6 := by rw [← hw6]; exact (Below.refl _ _).alloc (Nat.le_refl _) _
      have hbx6 : Box w6 w5.heap.size 39 (.slice qw zs.length dw) := by rw [← hw6]; exact Box.new _ _ _
      obtain ⟨w7, hw7⟩ : ∃ w7, w6.alloc (.cells #[.pointer (some ⟨O, 0, none⟩)] 26) = w7 := ⟨_, rfl⟩
      have hb67 : Below w6.heap.size w6 w7 := by rw [← hw7]; exact (Below.refl _ _).alloc (Nat.le_refl _) _
      have hbx7 : Box w7 w6.heap.size 26 (.pointer (some ⟨O, 0, none⟩)) := by rw [← hw7]; exact Box.new _ _ _
      obtain ⟨W0, hW0⟩ : ∃ W0, w7.alloc (.cells #[.int .i64 0] 3) = W0 := ⟨_, rfl⟩
      have hb70 : Below w7.heap.size w7 W0 := by rw [← hW0]; exact (Below.refl _ _).alloc (Nat.le_refl _) _
      have hbn : Box W0 w7.heap.size 3 (vnB 0) := by rw [← hW0]; exact Box.new _ _ _
      have hz6 : w6.heap.size = w5.heap.size + 1 := by rw [← hw6]; simp
      have hz7 : w7.heap.size = w5.heap.size + 2 := by rw [← hw7, World.size_alloc, hz6]
      have hz0 : W0.heap.size = w5.heap.size + 3 := by rw [← hW0, World.size_alloc, hz7]
      have hb50 : Below w5.heap.size w5 W0 := hb56.trans ((hb67.mono (by omega)).trans (hb70.mono (by omega)))
      have hA0 : PO w zs many w5.heap.size (w5.heap.size + 1) (w5.heap.size + 2) O m N qw dw 0 W0 := by
        obtain ⟨h1, h2, h3, h4, h5⟩ := H5.out
        rw [hz6] at hbx7
        rw [hz7] at hbn
        exact ⟨⟨h2.trans (hb50.mono (by omega)), by omega⟩, by omega, by omega, by omega, by omega, fun x hx => by have := HNB.out x hx; omega, h3.below hb50 (by omega), h4.below hb50 (by omega), hbx6.below (hb67.trans (hb70.mono (by omega))) hbx6.lt, hbx7.below hb70 hbx7.lt, h1.below hb50, hbn, (hrdr.keep (fun b hb => hb50.block b (hrdr.inlt hb))).wideP (by omega)⟩
      have HZS := Lib.hid hzs
      have HA0 := Lib.hid hA0
      have HW0 := Lib.hid (And.intro hw6 (And.intro hw7 hW0))
      have hnil := seq_nil
      clear hown hb5 hzs hrdr hb56 hbx6 hb67 hbx7 hb70 hbn hb50 hw6 hw7 hW0 HOP H5 hA0
      go_wp2_with fail
      rw [HW0.out.1]
      refine (openS_any (some ⟨O, 0, none⟩) w6).mono ?_
      rintro e w' ⟨rfl, rfl⟩
      rw [HW0.out.2.1]
      go_wp2_with fail
      clear hnil
      rw [HW0.out.2.2]
      obtain ⟨Bw, hBw⟩ : ∃ B, w5.heap.size = B := ⟨_, rfl⟩
      rw [hBw] at HA0 hz0 ⊢
      clear HW0 hz6 hz7 hBw
      obtain ⟨Bs, hBs⟩ : ∃ B, Bw + 1 = B := ⟨_, rfl⟩
      rw [hBs] at HA0 ⊢
      obtain ⟨b0, hb0⟩ : ∃ B, Bw + 2 = B := ⟨_, rfl⟩
      rw [hb0] at HA0 ⊢
      clear hBs hb0 hz0 HT H2 H1
      refine (wpIn_wide (n := 0)).1 ?_
      refine wpIn_loop_rounds 3 ?_
      rw [roundsIn_succ]
      have hc0 : W0.cell? ⟨b0, 0, none⟩ = some (.int .i64 0) := HA0.out.tn.cell
      gi_wp2
      obtain ⟨U0, hU0⟩ : ∃ U, (W0.alloc (Obj.cells #[Value.int IntKind.i64 0] 3)) = U := ⟨_, rfl⟩
      obtain ⟨N0, hN0⟩ : ∃ N, W0.heap.size = N := ⟨_, rfl⟩
      have hV0 : PO w zs many Bw Bs b0 O m N qw dw 0 U0 := by rw [← hU0]; exact HA0.out.kept (X := fun _ => False) (T := fun _ => False) ((Keep.start _ _).alloc _) (fun _ h => h.elim)
      have hbn0 : Box U0 N0 3 (vnB 0) := by rw [← hU0, ← hN0]; exact Box.new _ _ _
      have hlb0 : b0 < N0 := by rw [← hN0]; exact HA0.out.tn.lt
      have hsU0 : U0.heap.size = N0 + 1 := by rw [← hU0, ← hN0]; simp
      have HV0 := Lib.hid hV0
      have HN0 := Lib.hid hbn0
      have HSU0 := Lib.hid hsU0
      rw [hU0, hN0]
      clear hV0 hbn0 hc0 hU0 hsU0
      have hit0 : Iter Try.prog 52 #[.pointer (some ⟨Bs, 0, none⟩)] (encI zs) (fun b => (b = Bs ∨ N b)) U0 := by rw [← HZS.out]; exact open1_iter Bs U0 HV0.out.bs HV0.out.mp (fun x hx => by have := HV0.out.ltN x hx; have := HN0.out.lt; omega)
      refine rf_brk (id := 4) (gf := 52) (lb := #[.pointer (some ⟨Bs, 0, none⟩)]) rfl (enters_of Try.func52 (by kernel_rfl) rfl)
        hit0 (by intro x hx; obtain ⟨y, _, rfl⟩ := List.mem_map.1 hx; rfl) ?hFP0
        (fun k T W => Keep (fun b => b = N0) U0 T W ∧ Box W N0 3 (vnB k) ∧ (k = 0 ∨ (k : Int) < many))
        (fun k T W => Keep (fun b => b = N0) U0 T W ∧ Box W N0 3 (vnB k) ∧ many ≤ k ∧ (k = 1 ∨ (k : Int) ≤ many)) ?hJ0 ?hJb0
        (fun D W => PO w zs many Bw Bs b0 O m N qw dw 0 W ∧ (∃ m, Box W N0 3 (vnB m) ∧ LeaveAtB many zs.length m) ∧ N0 < D ∧ W.heap[D]? = some (.deferred (some [])) ∧ Frn (fun b => b = N0) U0 W)
        ?h00 ?hround0 ?hdone0 ?hstop0 ?hrest0
      case hFP0 =>
        rintro b (rfl | hb)
        · exact HV0.out.bs.lt
        · have := HV0.out.ltN b hb; have := HN0.out.lt; omega
      case hJ0 =>
        rintro k T W W' ⟨h1, h2, h3⟩ hf
        exact ⟨h1.go hf, h2.kept (h1.own hf HN0.out.lt), h3⟩
      case hJb0 =>
        rintro k T W W' ⟨h1, h2, h3⟩ hf
        exact ⟨h1.go hf, h2.kept (h1.own hf HN0.out.lt), h3⟩
      case h00 => exact ⟨Keep.start _ _, HN0.out, .inl rfl⟩
      case hround0 =>
        clear hit0
        rintro l' k hk T W ⟨hs, hbox, hmk⟩ hTl hTW hkW
        have hk' : k < zs.length := by simpa [encI] using hk
        rw [encI_get]
        obtain ⟨y, hy⟩ : ∃ y, zs[k] = y := ⟨_, rfl⟩
        rw [hy]
        gi_wp2
        refine ⟨Kps.refl _ _, fun W2 hf hsz hk2 _ => ?_⟩
        have hs2 := hs.goSame hf hsz
        have hbox2 : Box W2 N0 3 (vnB k) := hbox.kept (hs.own hf HN0.out.lt)
        have hA2 := HV0.out.kept hs2 (by rintro b rfl; omega)
        have hcn : W2.cell? ⟨N0, 0, none⟩ = some (.int .i64 (k : Int)) := hbox2.cell
        have hfz : W2.frozen? ⟨N0, 0, none⟩ = false := hbox2.free
        have hcw := hA2.bw.cell
        have hct : W2.cell? ⟨b0, 0, none⟩ = some (.int .i64 0) := hA2.tn.cell
        have hcm := hA2.bm.cell
        obtain ⟨ob, off, hpo, hob, hcx⟩ := int_at hA2.rw k hk'
        rw [hpo] at hcw
        rw [hy] at hcx
        have hnf : ¬ (N0 = Bs ∨ N N0) ∧ ¬ T N0 := ⟨by
          have := HA0.out.lts
          rintro (h | h)
          · omega
          · have := HA0.out.ltN _ h; omega, hs2.notT (by have := HSU0.out; omega)⟩
        have hks : ∀ u, Kps (fun b => (b = Bs ∨ N b) ∨ T b) W2 (W2.setCell ⟨N0, 0, none⟩ u) := fun u => kps_set ⟨N0, 0, none⟩ hnf.1 hnf.2 u
        have HS2 := Lib.hid hs2
        have HB2 := Lib.hid hbox2
        have hk3 : (k : Int) < (zs.length : Int) := by omega
        have hk4 : (k : Int) ≤ 1000 := by omega
        have hle5 : decide (zs.length ≤ k) = false := decide_eq_false (by omega)
        have hne2 : b0 ≠ N0 := by omega
        have hne3 : w.heap.size ≠ N0 := by have := HA0.out.lw; have := HA0.out.ltw; omega
        clear hf hkW hk2 hs hbox hs2 hbox2 hA2 hpo hsz hnf
        by_cases hm : many ≤ (k : Int) + 1
        · skip
          gi_wp2
          refine ⟨⟨rfl, HS2.out.set ⟨N0, 0, none⟩ (.inl rfl) _, ?_, by omega⟩, ?_⟩
          · have := (HB2.out.set (vnB (k + 1)))
            have e : Value.int IntKind.i64 ((k : Int) + 1) = vnB (k + 1) := by simp [vnB]
            rw [e]; exact this
          · exact hks _
        · skip
          gi_wp2
          refine ⟨⟨HS2.out.set ⟨N0, 0, none⟩ (.inl rfl) _, ?_, .inr (by omega)⟩, ?_⟩
          · have := (HB2.out.set (vnB (k + 1)))
            have e : Value.int IntKind.i64 ((k : Int) + 1) = vnB (k + 1) := by simp [vnB]
            rw [e]; exact this
          · exact hks _
      case hdone0 =>
        rintro D T W ⟨hs, hbox, hmk⟩ hTD hTW hkW hD hK
        rw [encI_len] at hbox hmk
        have hD' : N0 + 1 ≤ D := by rw [← HSU0.out]; exact hD
        refine ⟨HV0.out.kept hs (by rintro b rfl; omega), ⟨_, hbox, by unfold LeaveAtB; omega⟩, by omega, hK, hs.frn⟩
      case hstop0 =>
        rintro D k T W hk hk1 ⟨hs, hbox, hmk⟩ hTD hTW hkW hD hK
        rw [encI_len] at hk
        have hD' : N0 + 1 ≤ D := by rw [← HSU0.out]; exact hD
        exact ⟨HV0.out.kept hs (by rintro b rfl; omega), ⟨_, hbox, by unfold LeaveAtB; omega⟩, by omega, hK, hs.frn⟩
      rintro D0 V1 ⟨hA1, ⟨m0, hN1', hmm⟩, hD0, hK0, hF0⟩
      clear hit0
      have hc1 : V1.cell? ⟨b0, 0, none⟩ = some (.int .i64 0) := hA1.tn.cell
      have hc2 := hA1.bm.cell
      have hc3 := hA1.bw.cell
      have hc4 : V1.cell? ⟨N0, 0, none⟩ = some (.int .i64 (m0 : Int)) := hN1'.cell
      have HA := Lib.hid hA1
      have HF0 := Lib.hid hF0
      have HM := Lib.hid hmm
      clear hA1 hN1' hF0 hmm
      gi_upto_region 28 with fail
      gi_cut [115] from 95 (fun s115 wx => s115 = .bool false ∧ wx = V1)
      case first =>
        skip
        skip
        gi_wp2
        all_goals first
          | (gi_meet; exact ⟨rfl, rfl⟩)
          | (exfalso; have hmm := HM.out; unfold LeaveAtB at hmm; omega)
      obtain ⟨rfl, rfl⟩ := hcut
      gi_wp2
      clear hc1 hc2 hc3 hc4
      obtain ⟨V1', hW1⟩ : ∃ V', wc.alloc (Obj.cells #[Value.int IntKind.i64 1] 3) = V' := ⟨_, rfl⟩
      have hA1 : PO w zs many Bw Bs wc.heap.size O m N qw dw 1 V1' := by rw [← hW1]; exact HA.out.next 1
      have hle0 : wc.heap.size + 1 = V1'.heap.size := by rw [← hW1, World.size_alloc]
      have hk0 : V1'.heap[D0]? = some (.deferred (some [])) := by rw [← hW1]; exact (Below.heap_alloc wc _ _ (Array.getElem?_eq_some_iff.1 hK0).1).trans hK0
      skip
      rw [hW1]
      obtain ⟨b1, hb1⟩ : ∃ b, wc.heap.size = b := ⟨_, rfl⟩
      rw [hb1] at hA1 hle0 ⊢
      have hD0' : D0 < b1 := by have := (Array.getElem?_eq_some_iff.1 hK0).1; omega
      have HA1 := Lib.hid hA1
      have HK0 := Lib.hid hk0
      clear hW1 HA hK0 hk0 
      clear hb1
      clear HF0 HM
      rw [roundsIn_succ]
      have hc1 : V1'.cell? ⟨b1, 0, none⟩ = some (.int .i64 1) := HA1.out.tn.cell
      gi_wp2
      obtain ⟨U1, hU1⟩ : ∃ U, (V1'.alloc (Obj.cells #[Value.int IntKind.i64 0] 3)) = U := ⟨_, rfl⟩
      obtain ⟨N1, hN1⟩ : ∃ N, V1'.heap.size = N := ⟨_, rfl⟩
      have hV1 : PO w zs many Bw Bs b1 O m N qw dw 1 U1 := by rw [← hU1]; exact HA1.out.kept (X := fun _ => False) (T := fun _ => False) ((Keep.start _ _).alloc _) (fun _ h => h.elim)
      have hbn1 : Box U1 N1 3 (vnB 0) := by rw [← hU1, ← hN1]; exact Box.new _ _ _
      have hlb1 : b1 < N1 := by rw [← hN1]; exact HA1.out.tn.lt
      have hsU1 : U1.heap.size = N1 + 1 := by rw [← hU1, ← hN1]; simp
      have HKU := Lib.hid (show U1.heap[D0]? = some (.deferred (some [])) from by rw [← hU1]; exact (Below.heap_alloc _ _ _ (Array.getElem?_eq_some_iff.1 HK0.out).1).trans HK0.out)
      have HV1 := Lib.hid hV1
      have HN1 := Lib.hid hbn1
      have HSU1 := Lib.hid hsU1
      rw [hU1, hN1]
      clear hV1 hbn1 hc1 hU1 hsU1
      have hit1 : Iter Try.prog 52 #[.pointer (some ⟨Bs, 0, none⟩)] (encI zs) (fun b => (b = Bs ∨ N b)) U1 := by rw [← HZS.out]; exact open1_iter Bs U1 HV1.out.bs HV1.out.mp (fun x hx => by have := HV1.out.ltN x hx; have := HN1.out.lt; omega)
      refine rf_brk (id := 4) (gf := 52) (lb := #[.pointer (some ⟨Bs, 0, none⟩)]) rfl (enters_of Try.func52 (by kernel_rfl) rfl)
        hit1 (by intro x hx; obtain ⟨y, _, rfl⟩ := List.mem_map.1 hx; rfl) ?hFP1
        (fun k T W => Keep (fun b => b = N1) U1 T W ∧ Box W N1 3 (vnB k) ∧ True)
        (fun k T W => Keep (fun b => b = N1) U1 T W ∧ Box W N1 3 (vnB k) ∧ False) ?hJ1 ?hJb1
        (fun D W => PO w zs many Bw Bs b1 O m N qw dw 1 W ∧ (∃ m, Box W N1 3 (vnB m) ∧ m = zs.length) ∧ N1 < D ∧ W.heap[D]? = some (.deferred (some [])) ∧ Frn (fun b => b = N1) U1 W)
        ?h01 ?hround1 ?hdone1 ?hstop1 ?hrest1
      case hFP1 =>
        rintro b (rfl | hb)
        · exact HV1.out.bs.lt
        · have := HV1.out.ltN b hb; have := HN1.out.lt; omega
      case hJ1 =>
        rintro k T W W' ⟨h1, h2, h3⟩ hf
        exact ⟨h1.go hf, h2.kept (h1.own hf HN1.out.lt), h3⟩
      case hJb1 =>
        rintro k T W W' ⟨h1, h2, h3⟩ hf
        exact ⟨h1.go hf, h2.kept (h1.own hf HN1.out.lt), h3⟩
      case h01 => exact ⟨Keep.start _ _, HN1.out, trivial⟩
      case hround1 =>
        clear hit1
        rintro l' k hk T W ⟨hs, hbox, hmk⟩ hTl hTW hkW
        have hk' : k < zs.length := by simpa [encI] using hk
        rw [encI_get]
        obtain ⟨y, hy⟩ : ∃ y, zs[k] = y := ⟨_, rfl⟩
        rw [hy]
        gi_wp2
        refine ⟨Kps.refl _ _, fun W2 hf hsz hk2 _ => ?_⟩
        have hs2 := hs.goSame hf hsz
        have hbox2 : Box W2 N1 3 (vnB k) := hbox.kept (hs.own hf HN1.out.lt)
        have hA2 := HV1.out.kept hs2 (by rintro b rfl; omega)
        have hcn : W2.cell? ⟨N1, 0, none⟩ = some (.int .i64 (k : Int)) := hbox2.cell
        have hfz : W2.frozen? ⟨N1, 0, none⟩ = false := hbox2.free
        have hcw := hA2.bw.cell
        have hct : W2.cell? ⟨b1, 0, none⟩ = some (.int .i64 1) := hA2.tn.cell
        have hcm := hA2.bm.cell
        obtain ⟨ob, off, hpo, hob, hcx⟩ := int_at hA2.rw k hk'
        rw [hpo] at hcw
        rw [hy] at hcx
        have hnf : ¬ (N1 = Bs ∨ N N1) ∧ ¬ T N1 := ⟨by
          have := HA1.out.lts
          rintro (h | h)
          · omega
          · have := HA1.out.ltN _ h; omega, hs2.notT (by have := HSU1.out; omega)⟩
        have hks : ∀ u, Kps (fun b => (b = Bs ∨ N b) ∨ T b) W2 (W2.setCell ⟨N1, 0, none⟩ u) := fun u => kps_set ⟨N1, 0, none⟩ hnf.1 hnf.2 u
        have HS2 := Lib.hid hs2
        have HB2 := Lib.hid hbox2
        have hk3 : (k : Int) < (zs.length : Int) := by omega
        have hk4 : (k : Int) ≤ 1000 := by omega
        have hle5 : decide (zs.length ≤ k) = false := decide_eq_false (by omega)
        have hne2 : b1 ≠ N1 := by omega
        have hne3 : w.heap.size ≠ N1 := by have := HA1.out.lw; have := HA1.out.ltw; omega
        clear hf hkW hk2 hs hbox hs2 hbox2 hA2 hpo hsz hnf
        gi_wp2
        refine ⟨⟨HS2.out.set ⟨N1, 0, none⟩ (.inl rfl) _, ?_, trivial⟩, ?_⟩
        · have := (HB2.out.set (vnB (k + 1)))
          have e : Value.int IntKind.i64 ((k : Int) + 1) = vnB (k + 1) := by simp [vnB]
          rw [e]; exact this
        · exact hks _
      case hdone1 =>
        rintro D T W ⟨hs, hbox, hmk⟩ hTD hTW hkW hD hK
        rw [encI_len] at hbox
        have hD' : N1 + 1 ≤ D := by rw [← HSU1.out]; exact hD
        refine ⟨HV1.out.kept hs (by rintro b rfl; omega), ⟨_, hbox, rfl⟩, by omega, hK, hs.frn⟩
      case hstop1 =>
        rintro D k T W hk hk1 ⟨hs, hbox, hmk⟩ hTD hTW hkW hD hK
        exact hmk.elim
      rintro D1 V2 ⟨hA2, ⟨m1, hN2', hmm⟩, hD1, hK1, hF1⟩
      clear hit1
      have hc1 : V2.cell? ⟨b1, 0, none⟩ = some (.int .i64 1) := hA2.tn.cell
      have hc2 := hA2.bm.cell
      have hc3 := hA2.bw.cell
      have hc4 : V2.cell? ⟨N1, 0, none⟩ = some (.int .i64 (m1 : Int)) := hN2'.cell
      have HA := Lib.hid hA2
      have HF1 := Lib.hid hF1
      have HM := Lib.hid hmm
      clear hA2 hN2' hF1 hmm
      gi_upto_region 28 with fail
      gi_cut [115] from 95 (fun s115 wx => s115 = .bool false ∧ wx = V2)
      case first =>
        have hz : m1 = zs.length := HM.out
        subst hz
        gi_wp2
        all_goals first
          | (gi_meet; exact ⟨rfl, rfl⟩)
          | (exfalso; have hmm := HM.out; unfold LeaveAtB at hmm; omega)
      obtain ⟨rfl, rfl⟩ := hcut
      gi_wp2
      clear hc1 hc2 hc3 hc4
      obtain ⟨V2', hW2⟩ : ∃ V', wc.alloc (Obj.cells #[Value.int IntKind.i64 2] 3) = V' := ⟨_, rfl⟩
      have hA2 : PO w zs many Bw Bs wc.heap.size O m N qw dw 2 V2' := by rw [← hW2]; exact HA.out.next 2
      have hle1 : wc.heap.size + 1 = V2'.heap.size := by rw [← hW2, World.size_alloc]
      have hk1 : V2'.heap[D1]? = some (.deferred (some [])) := by rw [← hW2]; exact (Below.heap_alloc wc _ _ (Array.getElem?_eq_some_iff.1 hK1).1).trans hK1
      have hk0' : V2'.heap[D0]? = some (.deferred (some [])) := by rw [← hW2]; exact (Below.heap_alloc wc _ _ (Nat.lt_of_lt_of_le (by have := HSU1.out; omega) HF1.out.size)).trans ((HF1.out.block D0 (by have := HSU1.out; omega) (by intro h; omega)).trans HKU.out)
      rw [hW2]
      obtain ⟨b2, hb2⟩ : ∃ b, wc.heap.size = b := ⟨_, rfl⟩
      rw [hb2] at hA2 hle1 ⊢
      have hD1' : D1 < b2 := by have := (Array.getElem?_eq_some_iff.1 hK1).1; omega
      have HA2 := Lib.hid hA2
      have HK1 := Lib.hid hk1
      clear hW2 HA hK1 hk1 HK0
      clear hb2
      clear HF1 HM
      rw [roundsIn_succ]
      have hc2 : V2'.cell? ⟨b2, 0, none⟩ = some (.int .i64 2) := HA2.out.tn.cell
      skip
      have HK0 := Lib.hid hk0'
      clear hk0'
      have e1 : D1 ≠ w.heap.size + 1 := by have := HA1.out.lw; have := HA1.out.ltw; omega
      have e0 : D0 ≠ w.heap.size + 1 := by have := HA0.out.lw; have := HA0.out.ltw; omega
      have fin : ∀ w4, Below V2'.heap.size V2' w4 → (w4.cell? ⟨w.heap.size + 1, 0, none⟩ = some (.bool false) ∧ w4.frozen? ⟨w.heap.size + 1, 0, none⟩ = false) ∧
          (w4.setCell ⟨w.heap.size + 1, 0, none⟩ (.bool true)).heap[D1]? = some (.deferred (some [])) ∧ (w4.setCell ⟨w.heap.size + 1, 0, none⟩ (.bool true)).heap[D0]? = some (.deferred (some [])) ∧
          (((w4.setCell ⟨w.heap.size + 1, 0, none⟩ (.bool true)).putObj D1 (.deferred none)).putObj D0 (.deferred none)).cell? ⟨w.heap.size + 1, 0, none⟩ = some (.bool true) ∧
          Below w.heap.size w (((w4.setCell ⟨w.heap.size + 1, 0, none⟩ (.bool true)).putObj D1 (.deferred none)).putObj D0 (.deferred none)) := by
        intro w4 hb4
        have hbr4 := HA2.out.br.below hb4 HA2.out.br.lt
        have hkD : ∀ D, D < V2'.heap.size → D ≠ w.heap.size + 1 → (w4.setCell ⟨w.heap.size + 1, 0, none⟩ (.bool true)).heap[D]? = V2'.heap[D]? := fun D hD hne =>
          (Below.heap_setCell w4 ⟨w.heap.size + 1, 0, none⟩ _ D hne).trans (hb4.block D hD)
        have hw : Below w.heap.size w (w4.setCell ⟨w.heap.size + 1, 0, none⟩ (.bool true)) := (HA2.out.at_.below hb4).1.setCell (p := ⟨w.heap.size + 1, 0, none⟩) (by simp) _
        have hbF := hbr4.set (.bool true)
        refine ⟨⟨hbr4.cell, hbr4.free⟩, (hkD D1 (by omega) e1).trans HK1.out, (hkD D0 (by omega) e0).trans HK0.out, ?_, ?_⟩
        · exact (cell_putObj (D := D0) (B := w.heap.size + 1) (o := .deferred none) e0 0).trans ((cell_putObj (o := .deferred none) e1 0).trans hbF.cell)
        · exact below_putObj (below_putObj hw (by have := HA1.out.lw; have := HA1.out.ltw; omega) _) (by have := HA0.out.lw; have := HA0.out.ltw; omega) _
      have FIN := Lib.hid fin
      clear fin
      gi_wp2
      go_wp2_with fail
      refine (works7_any V2').mono ?_
      rintro e w9 ⟨rfl, hb9⟩
      have HB9 := Lib.hid hb9
      obtain ⟨⟨hc9, hf9⟩, _⟩ := FIN.out w9 HB9.out
      clear hb9
      go_wp2_with fail
      obtain ⟨_, hd1, hd0, hc, hw⟩ := FIN.out w9 HB9.out
      exact leave2 rfl hd1 hd0 (by omega) (results_cell1 rfl _ _ rfl (v := .bool true) (by simp [go_sem, hc])) ⟨rfl, hw⟩
theorem lawPmemOpens_of {α : Type} {enc : α → List Value} (p0 : Option Addr) (c0 : Nat) (l : List (BitVec 64)) (p1 : Option Addr) (c1 : Nat) (ys : List α) (many : Int) (W : World) (hr0 : RdL W.heap.size W p0 c0 vw l) (hr1 : RdS W.heap.size W p1 c1 3 enc ys) (f : α → ActA) (hf : ∀ y, enc y = ac (f y)) :
    Calls Try.prog 3 #[.slice p0 l.length c0, .slice p1 ys.length c1, .int .i64 many] W fun e w' => e = .returned (.bool true) ∧ Below W.heap.size W w' := by
  by_cases h : l.length ≤ 64 ∧ (8 ≤ l.length ∧ l.length ≤ 131072 ∧ l.length % 8 = 0) ∧ ys.length ≤ 60
  · exact popens_in p0 p1 c0 c1 l (ys.map f) many W hr0 (hr1.mapE f hf) l.length ys.length rfl (by simp) h.1 h.2.1 h.2.2
  · exact popens_out p0 p1 c0 c1 l.length ys.length many W h
end Go.Proofs.Ytaflbfmlajbjcaa
