/- The walk of the chapter's rows: works; of is: a map stands as the document's. -/
import Derived.Test.YtljegehfdmgcbaaDoorBmI
import Derived.Sort.QuietIn
namespace Go.Proofs.YtljegehfdmgcbaaDoor
open Go Go.RowKit
attribute [local go_sem] Oper.semAt_some

set_option maxHeartbeats 400000 in
theorem num_any05 (n : Int) (w : World) : Calls Tryd.prog 11 #[.int .i64 n] w fun e w' => e = .returned (.int .i64 n) ∧ w = w' := by
  go_enter Tryd.func11, Tryd.ntmps11
  go_wp2
  go_ret
  exact ⟨rfl, rfl⟩

theorem w05_put : putL (List.replicate ((10 + 63) / 64) 0#64) 10 2 3 true = ([28#64], 0) := by decide +kernel
theorem w05_put2 : putL [28#64] 10 9 2 true = ([28#64], 4) := by decide +kernel
theorem w05_a : findR [28#64] 10 2 1 = (5, 0) := by decide +kernel
theorem w05_b : findR [28#64] 10 3 1 = (5, 0) := by decide +kernel
theorem w05_c : findR [28#64] 10 6 0 = (0, 5) := by decide +kernel
theorem w05_ones : onesW [28#64] = 3 := by decide +kernel
theorem TabAt.below {w w' : World} {n : Nat} (h : TabAt w) (hn : 0 < n) (hb : Below n w w') : TabAt w' := h.keep (hb.block 0 hn)
theorem frn_below {w W W' : World} {g n : Nat} (hb : Below n w W) (hn : n ≤ W.heap.size) (hf : Frn (fun b => b = g) W W') (hg : n ≤ g) : Below n w W' := hb.trans (hf.below hn (by rintro b rfl; exact hg))

set_option maxRecDepth 100000 in
set_option maxHeartbeats 4000000 in
theorem works05_any (w : World) (hT : TabAt w) : Calls Tryd.prog 8 #[] w fun e w' => e = .returned (.bool true) ∧ Below w.heap.size w w' := by
  have h0 := hT.lt
  have HT := Lib.hid hT
  clear hT
  go_enter Tryd.func8, Tryd.ntmps8
  go_wp2_with fail
  refine (new_bm 10 w (by decide) (by decide)).mono ?_
  rintro e w1 ⟨p, rfl, O, g, c, rfl, hb1, hO, hg, hbel⟩
  have HG := Lib.hid (And.intro hO hg)
  have HS := Lib.hid (set_bm 2 3 w1 hb1)
  have HB1 := Lib.hid hbel
  clear hb1 hbel hO hg
  rw [w05_put] at HS
  go_wp2_with fail
  refine HS.out.mono ?_
  rintro e w2 ⟨rfl, hb2, hf2⟩
  have HB2 : Hid (BmAt w2 O g c [28#64] 10 ∧ Below w.heap.size w w2) := Lib.hid ⟨hb2, frn_below HB1.out HB1.out.size hf2 HG.out.2⟩
  have HF1 := Lib.hid (find_bm 2 1 w2 hb2 (by decide))
  rw [w05_a] at HF1
  clear hb2 hf2 HS HB1
  go_wp2_with fail
  refine HF1.out.mono ?_
  rintro e w3 ⟨rfl, hb⟩
  have HB3 : Hid (BmAt w3 O g c [28#64] 10 ∧ Below w.heap.size w w3) := Lib.hid ⟨HB2.out.1.below hb, HB2.out.2.trans (hb.mono HB2.out.2.size)⟩
  have HF2 := Lib.hid (find_bm 3 1 w3 HB3.out.1 (by decide))
  rw [w05_b] at HF2
  clear hb HF1 HB2
  go_wp2_with fail
  refine HF2.out.mono ?_
  rintro e w4 ⟨rfl, hb⟩
  have HB4 : Hid (BmAt w4 O g c [28#64] 10 ∧ Below w.heap.size w w4) := Lib.hid ⟨HB3.out.1.below hb, HB3.out.2.trans (hb.mono HB3.out.2.size)⟩
  have HF3 := Lib.hid (find_bm 6 0 w4 HB4.out.1 (by decide))
  rw [w05_c] at HF3
  clear hb HF2 HB3
  go_wp2_with fail
  refine HF3.out.mono ?_
  rintro e w5 ⟨rfl, hb⟩
  have HB5 : Hid (BmAt w5 O g c [28#64] 10 ∧ Below w.heap.size w w5) := Lib.hid ⟨HB4.out.1.below hb, HB4.out.2.trans (hb.mono HB4.out.2.size)⟩
  have HS2 := Lib.hid (set_bm 9 2 w5 HB5.out.1)
  rw [w05_put2] at HS2
  clear hb HF3 HB4
  go_wp2_with (go_at_call 11; refine (num_any05 _ _).mono ?_; rintro e w' ⟨rfl, rfl⟩)
  refine HS2.out.mono ?_
  rintro e w6 ⟨rfl, hb6, hf6⟩
  have HB6 : Hid (BmAt w6 O g c [28#64] 10 ∧ Below w.heap.size w w6) := Lib.hid ⟨hb6, frn_below HB5.out.2 HB5.out.2.size hf6 HG.out.2⟩
  have HL := Lib.hid (left_bm w6 hb6 (HT.out.below h0 HB6.out.2))
  rw [w05_ones] at HL
  clear hb6 hf6 HS2 HB5
  go_wp2_with (go_at_call 11; refine (num_any05 _ _).mono ?_; rintro e w' ⟨rfl, rfl⟩)
  refine HL.out.mono ?_
  rintro e w7 ⟨rfl, hb⟩
  have HB7 : Hid (BmAt w7 O g c [28#64] 10 ∧ Below w.heap.size w w7) := Lib.hid ⟨HB6.out.1.below hb, HB6.out.2.trans (hb.mono HB6.out.2.size)⟩
  have HW := Lib.hid (words_bm w7 HB7.out.1)
  clear hb HL HB6
  go_wp2_with fail
  refine HW.out.mono ?_
  rintro e w8 ⟨v, rfl, hown, hb⟩
  obtain ⟨p1, c1, rfl, hr1, _⟩ := rdl_of_owns hown
  have HB8 := Lib.hid (HB7.out.2.trans (hb.mono HB7.out.2.size))
  have hbs : Below w8.heap.size w8 (w8.alloc (.cells #[.int .u64 28] 60)) := (Below.refl _ _).alloc (Nat.le_refl _) _
  have hr2 : RdL (w8.alloc (.cells #[.int .u64 28] 60)).heap.size (w8.alloc (.cells #[.int .u64 28] 60)) (some ⟨w8.heap.size, 0, none⟩) 1 vw [28#64] := rdl_new w8 60 vw [28#64] (by unfold maxLen; decide)
  have HSM := Lib.hid (same_any p1 (some ⟨w8.heap.size, 0, none⟩) c1 1 [28#64] [28#64] _ ((hr1.below hbs).wide (by simp)) hr2)
  clear hown hb hr1 hr2 hbs
  go_wp2_with fail
  refine HSM.out.mono ?_
  rintro e w9 ⟨rfl, nq, rfl⟩
  rw [sameB_self]
  go_wp2_with fail
  go_ret
  exact ⟨rfl, below_drewN (HB8.out.alloc HB8.out.size _) nq⟩

def vnB (k : Nat) : Value := .int .i64 (k : Int)
theorem func05_nil (W : World) (k : Nat) : (binOp .eql 36 (.func (.func 30) #[] #[.pointer (some ⟨k, 0, none⟩)]) .nilFunc).run Tryd.prog W = .ok (.bool false) W := by kernel_rfl
theorem run2_neq (x y : Int) (W : World) : (binOp .neq 39 (.agg #[.int .i64 x, .int .i64 y]) (.agg #[.int .i64 x, .int .i64 y])).run Tryd.prog W = .ok (.bool false) W := by
  simp [go_sem]
theorem RdS.runAt {W : World} {B : Nat} {q : Option Addr} {d : Nat} {rs : List Run2} (h : RdS B W q d 2 rc2 rs) (k : Nat) (hk : k < rs.length) :
    ∃ b off, q = some ⟨b, off, none⟩ ∧ b < B ∧ W.cell? ⟨b, off + k * 2, none⟩ = some (.int .i64 rs[k].1) ∧ W.cell? ⟨b, off + k * 2 + 1, none⟩ = some (.int .i64 rs[k].2) := by
  obtain ⟨h1, h2, h3⟩ := h
  rcases h3 with h3 | ⟨b, off, hp, hb, hc⟩
  · omega
  · exact ⟨b, off, hp, hb, hc k hk 0 _ rfl, hc k hk 1 _ rfl⟩

set_option maxRecDepth 100000 in
set_option maxHeartbeats 8000000 in
theorem is_any {O g c : Nat} {ws : List (BitVec 64)} {n : Nat} (q : Option Addr) (d : Nat) (w : World) (h : BmAt w O g c ws n) (hright : RightW n ws) (hT : TabAt w) (hrd : RdL w.heap.size w q d vbo (bitsB ws n)) :
    Calls Tryd.prog 25 #[.pointer (some ⟨O, 0, none⟩), .slice q n d] w fun e w' => e = .returned (.bool true) ∧ Below w.heap.size w w' := by
  obtain ⟨wa, hwa⟩ : ∃ wa, w.alloc (.cells #[.bool false] 4) = wa := ⟨_, rfl⟩
  have hba : Below w.heap.size w wa := by rw [← hwa]; exact (Below.refl _ _).alloc (Nat.le_refl _) _
  have hra : Box wa w.heap.size 4 (.bool false) := by rw [← hwa]; exact Box.new _ _ _
  have hza : wa.heap.size = w.heap.size + 1 := by rw [← hwa]; simp
  have hlw := hT.lt
  have hn1 := h.n1
  have hn2 := h.n2
  have hbm := h.below hba
  have HT := Lib.hid (hT.below hlw hba)
  have HR := Lib.hid (And.intro hrd hright)
  have HLEN := Lib.hid (len_bm wa hbm)
  have HLEFT := Lib.hid (left_bm wa hbm HT.out)
  rw [ones_right hright] at HLEFT
  have HA := Lib.hid (And.intro hbm (And.intro hba (And.intro hra hza)))
  have hlO := h.ltO
  have hlg := h.ltg
  have hcn := cntF_le (bitW ws) n
  obtain ⟨cc, hcc⟩ : ∃ cc, cntF (bitW ws) n = cc := ⟨_, rfl⟩
  rw [hcc] at HLEFT hcn
  have HCC := Lib.hid hcc
  clear hba hra hza h hbm hT hrd hright hcc
  refine (callsIn_wide (n := 0)).1 ?_
  refine callsIn_of_wp_marks Tryd.func25 rfl trivial ?_ rfl
  simp only [Tryd.ntmps25, List.size_toArray, List.length_cons, List.length_nil, Nat.reduceAdd, Nat.reduceSub, Array.replicate_succ, Array.replicate_zero, List.push_toArray, List.append_toArray, List.nil_append, List.cons_append]
  refine wpIn_wide.2 ?_
  go_wp2_with fail
  refine HLEN.out.mono ?_
  rintro e w' ⟨rfl, rfl⟩
  have hnn : ((n : Int) != (n : Int)) = false := by simp
  go_wp2_with fail
  refine HLEFT.out.mono ?_
  rintro e w1 ⟨rfl, hb1⟩
  have HB1 : Hid (BmAt w1 O g c ws n ∧ Below w.heap.size w w1 ∧ Box w1 w.heap.size 4 (.bool false) ∧ w.heap.size + 1 ≤ w1.heap.size) := Lib.hid ⟨HA.out.1.below hb1, HA.out.2.1.trans (hb1.mono HA.out.2.1.size), HA.out.2.2.1.below hb1 HA.out.2.2.1.lt, by have := hb1.size; have := HA.out.2.2.2; omega⟩
  have HRL := Lib.hid (refLeft05 q d ws n w1 ((HR.out.1.below HB1.out.2.1).wide HB1.out.2.1.size) hn2)
  rw [HCC.out] at HRL
  have hcn2 : ((n : Int) - cc != (n : Int) - cc) = false := by simp
  clear hb1 HLEFT HLEN hwa
  go_wp2_with fail
  refine HRL.out.mono ?_
  rintro e w' ⟨rfl, rfl⟩
  have HW := Lib.hid (words_bm w1 HB1.out.1)
  clear HRL
  go_wp2_with fail
  refine HW.out.mono ?_
  rintro e w2 ⟨v, rfl, hown, hb2⟩
  obtain ⟨p1, c1, rfl, hr1, _⟩ := rdl_of_owns hown
  have HB2 : Hid (BmAt w2 O g c ws n ∧ Below w.heap.size w w2 ∧ Box w2 w.heap.size 4 (.bool false) ∧ w.heap.size + 1 ≤ w2.heap.size) := Lib.hid ⟨HB1.out.1.below hb2, HB1.out.2.1.trans (hb2.mono HB1.out.2.1.size), HB1.out.2.2.1.below hb2 HB1.out.2.2.1.lt, by have := hb2.size; have := HB1.out.2.2.2; omega⟩
  have HR1 := Lib.hid hr1
  have HRW := Lib.hid (refWords05 q d ws n w2 ((HR.out.1.below HB2.out.2.1).wide HB2.out.2.1.size) hn1 hn2 HR.out.2)
  clear hown hb2 hr1 HW HB1 hnn hcn2
  go_wp2_with fail
  refine HRW.out.mono ?_
  rintro e w3 ⟨g2, rfl, hr2, _, hb3⟩
  have HB3 : Hid (BmAt w3 O g c ws n ∧ Below w.heap.size w w3 ∧ Box w3 w.heap.size 4 (.bool false) ∧ w.heap.size + 1 ≤ w3.heap.size) := Lib.hid ⟨HB2.out.1.below hb3, HB2.out.2.1.trans (hb3.mono HB2.out.2.1.size), HB2.out.2.2.1.below hb3 HB2.out.2.2.1.lt, by have := hb3.size; have := HB2.out.2.2.2; omega⟩
  have HSM := Lib.hid (same_any p1 (some ⟨g2, 0, none⟩) c1 ws.length ws ws w3 ((HR1.out.below hb3).wide hb3.size) hr2)
  rw [sameB_self] at HSM
  clear hr2 hb3 HRW HB2 HR1
  go_wp2_with fail
  refine HSM.out.mono ?_
  rintro e w4 ⟨rfl, nq, hw4⟩
  have hb4 : Below w3.heap.size w3 w4 := by rw [← hw4]; exact below_drewN (Below.refl _ _) nq
  have HB4 : Hid (BmAt w4 O g c ws n ∧ Below w.heap.size w w4 ∧ Box w4 w.heap.size 4 (.bool false) ∧ w.heap.size + 1 ≤ w4.heap.size) := Lib.hid ⟨HB3.out.1.below hb4, HB3.out.2.1.trans (hb4.mono HB3.out.2.1.size), HB3.out.2.2.1.below hb4 HB3.out.2.2.1.lt, by have := hb4.size; have := HB3.out.2.2.2; omega⟩
  have HRR := Lib.hid (refRuns05 q d ws n w4 ((HR.out.1.below HB4.out.2.1).wide HB4.out.2.1.size) hn2)
  clear hw4 hb4 HSM HB3
  go_wp2_with fail
  refine HRR.out.mono ?_
  rintro e w5 ⟨qr, dr, rfl, hown, _, hb5⟩
  obtain ⟨rs, hrs⟩ : ∃ rs, runsF (bitW ws) n = rs := ⟨_, rfl⟩
  have hrl := stR_len (bitW ws) n
  rw [hrs] at hown hrl ⊢
  have hrdr := hown.rds rc2_len
  have hb5B : BmAt w5 O g c ws n := HB4.out.1.below hb5
  obtain ⟨w6, hw6⟩ : ∃ w6, w5.alloc (.cells #[.slice qr rs.length dr] 33) = w6 := ⟨_, rfl⟩
  have hb56 : Below w5.heap.size w5 w6 := by rw [← hw6]; exact (Below.refl _ _).alloc (Nat.le_refl _) _
  have hbx6 : Box w6 w5.heap.size 33 (.slice qr rs.length dr) := by rw [← hw6]; exact Box.new _ _ _
  obtain ⟨w7, hw7⟩ : ∃ w7, w6.alloc (.cells #[.pointer (some ⟨O, 0, none⟩)] 24) = w7 := ⟨_, rfl⟩
  have hb67 : Below w6.heap.size w6 w7 := by rw [← hw7]; exact (Below.refl _ _).alloc (Nat.le_refl _) _
  have hbx7 : Box w7 w6.heap.size 24 (.pointer (some ⟨O, 0, none⟩)) := by rw [← hw7]; exact Box.new _ _ _
  obtain ⟨W0, hW0⟩ : ∃ W0, w7.alloc (.cells #[.int .i64 0] 3) = W0 := ⟨_, rfl⟩
  have hb70 : Below w7.heap.size w7 W0 := by rw [← hW0]; exact (Below.refl _ _).alloc (Nat.le_refl _) _
  have hbn : Box W0 w7.heap.size 3 (vnB 0) := by rw [← hW0]; exact Box.new _ _ _
  have hz6 : w6.heap.size = w5.heap.size + 1 := by rw [← hw6]; simp
  have hz7 : w7.heap.size = w5.heap.size + 2 := by rw [← hw7, World.size_alloc, hz6]
  have hz0 : W0.heap.size = w5.heap.size + 3 := by rw [← hW0, World.size_alloc, hz7]
  have hb50 : Below w5.heap.size w5 W0 := hb56.trans ((hb67.mono (by omega)).trans (hb70.mono (by omega)))
  have hb40 : Below w4.heap.size w4 W0 := hb5.trans (hb50.mono hb5.size)
  have HIT := Lib.hid (runs1_iter w6.heap.size W0 (hbx7.below hb70 hbx7.lt) (hb5B.below hb50))
  rw [hrs] at HIT
  have hs5 := hb5.size
  have HW0 := Lib.hid (And.intro hw6 (And.intro hw7 hW0))
  have H0 : Hid (Below w.heap.size w W0 ∧ Box W0 w.heap.size 4 (.bool false) ∧ Box W0 w5.heap.size 33 (.slice qr rs.length dr) ∧ Box W0 w7.heap.size 3 (vnB 0) ∧ RdS w5.heap.size W0 qr dr 2 rc2 rs ∧ w.heap.size + 1 ≤ w5.heap.size) :=
    Lib.hid ⟨HB4.out.2.1.trans (hb40.mono HB4.out.2.1.size), HB4.out.2.2.1.below hb40 HB4.out.2.2.1.lt, hbx6.below (hb67.trans (hb70.mono (by omega))) hbx6.lt, hbn, hrdr.keep (fun b hb => hb50.block b (hrdr.inlt hb)), by have := HB4.out.2.2.2; omega⟩
  have hnil := func05_nil
  clear hown hb5 hrs hrdr hb5B hb56 hbx6 hb67 hbx7 hb70 hbn hb50 hb40 hw6 hw7 hW0 HRR HB4 hs5
  go_wp2_with fail
  rw [HW0.out.1]
  refine (runs05_any (some ⟨O, 0, none⟩) w6).mono ?_
  rintro e w' ⟨rfl, rfl⟩
  rw [HW0.out.2.1]
  go_wp2_with fail
  clear hnil
  rw [HW0.out.2.2]
  rw [hz7] at H0
  rw [hz6] at HIT
  obtain ⟨B, hB⟩ : ∃ B, w5.heap.size = B := ⟨_, rfl⟩
  rw [hB] at H0 HIT hz0 ⊢
  clear HW0 hz6 hz7 hB HCC
  refine (wpIn_wide (n := 0)).1 ?_
  refine rf_law (gf := 30) (lb := #[.pointer (some ⟨B + 1, 0, none⟩)]) rfl (enters_of Tryd.func30 (by kernel_rfl) rfl)
    HIT.out (by intro x hx; obtain ⟨y, _, rfl⟩ := List.mem_map.1 hx; rfl) ?hFP
    (fun k T V => Keep (fun b => b = B + 2) W0 T V ∧ Box V (B + 2) 3 (vnB k)) (fun _ _ _ _ => False) ?hJ ?hJx ?h0 ?hround ?hdone ?hstop
  case hFP =>
    have := H0.out.2.2.2.2.2
    rintro b (rfl | rfl | rfl) <;> omega
  case hJ =>
    rintro k T V V' ⟨h1, h2⟩ hf
    exact ⟨h1.go hf, h2.kept (h1.own hf (by omega))⟩
  case hJx =>
    intro cc' k T V V' h hf
    exact h
  case h0 => exact ⟨Keep.start _ _, H0.out.2.2.2.1⟩
  case hround =>
    rintro l' k hk T V ⟨hs, hbox⟩ hTl hTW hkW
    have hk' : k < rs.length := by simpa [encR] using hk
    rw [encR_get]
    obtain ⟨r, hr⟩ : ∃ r, rs[k] = r := ⟨_, rfl⟩
    rw [hr]
    obtain ⟨a, m⟩ := r
    unfold rv2
    simp only
    gi_wp2
    have hWa : Kps (fun b => (b = B + 1 ∨ b = O ∨ b = g) ∨ T b) V (V.alloc (.cells #[.int .i64 a, .int .i64 m] 39)) := (Kps.refl _ _).alloc _
    refine ⟨hWa, fun W2 hf hsz hk2 _ => ?_⟩
    have hs1 := hs.alloc (.cells #[.int .i64 a, .int .i64 m] 39)
    have hs2 := hs1.goSame hf hsz
    have hlt9 := H0.out.2.2.2.2.2
    have hbox2 := (hbox.alloc (.cells #[.int .i64 a, .int .i64 m] 39)).kept (hs1.own hf (by omega))
    have hx2 : W2.heap[V.heap.size]? = some (.cells #[.int .i64 a, .int .i64 m] 39 (0, 0)) := (hf.block _ (by simp) (fun ht => Nat.lt_irrefl _ (hTW _ ht))).trans (World.alloc_heap_new V _)
    have hx0 : W2.cell? ⟨V.heap.size, 0, none⟩ = some (.int .i64 a) := by simp [World.cell?, hx2]
    have hx1 : W2.cell? ⟨V.heap.size, 1, none⟩ = some (.int .i64 m) := by simp [World.cell?, hx2]
    have hcn' : W2.cell? ⟨B + 2, 0, none⟩ = some (.int .i64 (k : Int)) := hbox2.cell
    have hcw := (hs2.box H0.out.2.2.1 (by omega)).cell
    obtain ⟨ob, off, hpo, hob, hcx, hcy⟩ := (H0.out.2.2.2.2.1.keep (w' := W2) (fun b hb => hs2.frn.block b (by have := H0.out.2.2.2.2.1.inlt hb; omega) (by have := H0.out.2.2.2.2.1.inlt hb; omega))).runAt k hk'
    rw [hpo] at hcw
    rw [hr] at hcx hcy
    simp only at hcx hcy
    have hnf : ¬ (B + 2 = B + 1 ∨ B + 2 = O ∨ B + 2 = g) ∧ ¬ T (B + 2) := ⟨by omega, hs2.notT (by omega)⟩
    have hks : ∀ nq u, Kps (fun b => (b = B + 1 ∨ b = O ∨ b = g) ∨ T b) W2 ((W2.drewN nq).setCell ⟨B + 2, 0, none⟩ u) := by
      intro nq u
      have h0 : Kps (fun b => (b = B + 1 ∨ b = O ∨ b = g) ∨ T b) W2 (W2.drewN nq) := ⟨rfl, rfl, rfl, Nat.le_refl _, fun _ _ _ => rfl⟩
      exact h0.trans (kps_set ⟨B + 2, 0, none⟩ hnf.1 hnf.2 _)
    have HS2 := Lib.hid hs2
    have HB2 := Lib.hid hbox2
    have hk3 : (k : Int) < (rs.length : Int) := by omega
    have hk4 : (k : Int) ≤ 65536 := by omega
    have hle5 : decide (rs.length ≤ k) = false := decide_eq_false (by omega)
    have hpn := run2_neq a m
    have HKS := Lib.hid hks
    clear hf hkW hk2 hs hs1 hbox hs2 hbox2 hWa hx2 hpo hsz hnf hks hr
    gi_wp2
    refine wpIn_region_quietR_lit (by kernel_rfl) (by kernel_rfl) (by kernel_rfl) ?_
    repeat (gi_big_quiet_step (fail))
    refine wpQuietIn_nil ?_
    rintro _ ⟨nq, rfl⟩
    clear hcn' hcw hcx hcy hx0 hx1 hpn
    have hfz : (W2.drewN nq).frozen? ⟨B + 2, 0, none⟩ = false := HB2.out.free
    have hcn' : (W2.drewN nq).cell? ⟨B + 2, 0, none⟩ = some (.int .i64 (k : Int)) := HB2.out.cell
    gi_wp2
    refine ⟨⟨((HS2.out.drewN nq : Keep (fun b => b = B + 2) W0 T (W2.drewN nq))).set ⟨B + 2, 0, none⟩ (.inl rfl) _, ?_⟩, HKS.out nq _⟩
    have := ((show Box (W2.drewN nq) (B + 2) 3 (vnB k) from HB2.out).set (vnB (k + 1)))
    have e : Value.int IntKind.i64 ((k : Int) + 1) = vnB (k + 1) := by simp [vnB]
    rw [e]; exact this
  case hdone =>
    rintro D T V ⟨hs, hbox⟩ hTD hTW hkW hD hK
    rw [encR_len] at hbox
    have hlt9 := H0.out.2.2.2.2.2
    have a1 : V.cell? ⟨B + 2, 0, none⟩ = some (.int .i64 (rs.length : Int)) := hbox.cell
    have a2 := (hs.box H0.out.2.2.1 (by omega)).cell
    have hrb := hs.box H0.out.2.1 (by omega)
    have a3 := hrb.cell
    have a4 := hrb.free
    have hbel : Below w.heap.size w V := H0.out.1.trans (hs.frn.below (by omega) (by rintro b rfl; omega))
    have HV := Lib.hid (And.intro hrb (And.intro hbel (And.intro hK (show w.heap.size + 1 ≤ D by omega))))
    clear hs hbox hTD hTW hkW hD hK hrb hbel HIT
    gi_wp2
    go_wp2_with fail
    obtain ⟨hrb, hbel, hK, hD⟩ := HV.out
    have hb9 := hrb.set (.bool true)
    have hc9 := (hb9.kept (World.putObj_heap_other (o := .deferred none) (show w.heap.size ≠ D by omega))).cell
    refine leave1 rfl ((Below.heap_setCell V ⟨w.heap.size, 0, none⟩ _ D (by show D ≠ w.heap.size; omega)).trans hK) (results_cell1 rfl _ _ rfl (v := .bool true) (by simp [go_sem, hc9])) ⟨rfl, ?_⟩
    exact below_putObj (hbel.setCell (p := ⟨w.heap.size, 0, none⟩) (Nat.le_refl _) _) (by omega) _
  case hstop =>
    intro D c' k T V _ _ h
    exact h.elim
end Go.Proofs.YtljegehfdmgcbaaDoor
