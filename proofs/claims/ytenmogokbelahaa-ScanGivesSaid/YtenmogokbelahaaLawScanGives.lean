/- ScanGives: what a reader wants, and finds, whatever it is given. -/
import Derived.Test.YtenmogokbelahaaScanN
import Derived.Test.YtenmogokbelahaaRegF
namespace Go.Proofs.Ytenmogokbelahaa
open Go Go.RowKit

/-- A reader behind some values. -/
def gvn (r : Rd) : List (BitVec 64) → Rd
  | [] => r
  | v :: l => gvn (if r.done then r else r.give v) l
theorem gvn_snoc (r : Rd) (l : List (BitVec 64)) (v : BitVec 64) : gvn r (l ++ [v]) = if (gvn r l).done then gvn r l else (gvn r l).give v := by
  induction l generalizing r with
  | nil => rfl
  | cons a l ih => exact ih _
theorem gvn_ok {r : Rd} (h : OkR r) (l : List (BitVec 64)) : OkR (gvn r l) ∧ (gvn r l).slots = r.slots := by
  induction l generalizing r with
  | nil => exact ⟨h, rfl⟩
  | cons a l ih =>
    show OkR (gvn (if r.done then r else r.give a) l) ∧ (gvn (if r.done then r else r.give a) l).slots = r.slots
    by_cases hd : r.done = true
    · rw [if_pos hd]; exact ih h
    · rw [if_neg hd]
      have := ih (give_ok h (by simpa using hd) a).1
      exact ⟨this.1, this.2.trans (give_same r a).2.1⟩
theorem RAt.other {W W' : World} {O O' : Nat} {r r' : Rd} {N N' : Nat → Prop} (h : RAt W O r N) (h' : RAt W O' r' N') (hne : O' ≠ O) (hf : Frn (fun b => b = O') W W') : RAt W' O r N := by
  obtain ⟨a, nx, B, h1, h2, h3, h4, h5⟩ := h
  obtain ⟨a', nx', h1', -⟩ := h'.raw
  refine ⟨a, nx, B, h1.kept (hf.block _ h1.lt (Ne.symm hne)), h2, h3, Nat.lt_of_lt_of_le h4 hf.size, ?_⟩
  rcases h5 with h5 | ⟨q1, q2, q3, q4⟩
  · exact .inl h5
  · refine .inr ⟨q1, q2, q3, fun x y => ?_⟩
    have hb := q4 x y
    refine hb.kept (hf.block _ h4 ?_)
    rintro rfl
    have h' : W.heap[B]? = _ := h1'
    rw [show W.heap[B]? = _ from hb] at h'
    simp at h'
theorem RAt.mono' {W W' : World} {O : Nat} {r : Rd} {n B : Nat} (h : RAt W' O r (fun b => n ≤ b)) (h0 : RAt W O r (fun b => n ≤ b)) (hb : Below W.heap.size W W') (hB : W.heap.size ≤ B) : RAt W' O r (fun b => n ≤ b ∧ b ≠ B) := by
  obtain ⟨a, nx, C, h1, h2, h3, h4, h5⟩ := h0
  have h1' := h1.kept (hb.block _ h1.lt)
  refine ⟨a, nx, C, h1', ⟨h2, by have := h1.lt; omega⟩, ⟨h3, by omega⟩, Nat.lt_of_lt_of_le h4 hb.size, ?_⟩
  rcases h5 with h5 | ⟨q1, q2, q3, q4⟩
  · exact .inl h5
  · exact .inr ⟨q1, q2, q3, fun x y => (q4 x y).below hb h4⟩
theorem Frn.cell? {T : Nat → Prop} {W W' : World} (h : Frn T W W') {p : Addr} (hl : p.block < W.heap.size) (hn : ¬ T p.block) : W'.cell? p = W.cell? p := World.cell?_of_block (h.block _ hl hn)
set_option maxRecDepth 100000 in
set_option maxHeartbeats 8000000 in
theorem lawScanGives (way slots : Int) (key : BitVec 64) (p : Option Addr) (cap : Nat) (ys : List (BitVec 64)) (w : World) (hrd : RdL w.heap.size w p cap vw ys) :
    Calls Try.prog 6 #[.int .i64 way, .int .i64 slots, vw key, .slice p ys.length cap] w fun e w' => e = .returned (.bool true) ∧ Below w.heap.size w w' := by
  have HR := Lib.hid hrd
  clear hrd
  by_cases hlen : ys.length ≤ 130
  · by_cases hok : (way = 1 ∨ way = 2) ∧ 2 ≤ slots ∧ slots ≤ 28
    · skip
      obtain ⟨h1, h2, h3⟩ := hok
      obtain ⟨wn, rfl⟩ : ∃ n : Nat, way = n := ⟨way.toNat, by omega⟩
      obtain ⟨sn, rfl⟩ : ∃ n : Nat, slots = n := ⟨slots.toNat, by omega⟩
      have HNEW := Lib.hid (new_ok wn sn key w (by omega) (by omega) (by omega))
      have HQ := Lib.hid (refRight_any (wn : Int) (sn : Int))
      rw [show rightRS (wn : Int) (sn : Int) = true by unfold rightRS; exact decide_eq_true ⟨h1, h2, h3⟩] at HQ
      have HRN := Lib.hid (fun W => refNew_any wn sn key W (by omega) (by omega))
      have hok0 : OkR (newR wn sn key) := newR_ok (by omega) (by omega) (by omega)
      have hsl : (newR wn sn key).slots = sn := rfl
      obtain ⟨r0, hr0⟩ : ∃ r0, newR wn sn key = r0 := ⟨_, rfl⟩
      rw [hr0] at HNEW HRN hok0 hsl
      have HOK := Lib.hid (And.intro hok0 hsl)
      have hle : (ys.length : Int) ≤ 130 := by omega
      have hwr : IntKind.i64.wrap (4 * (sn : Int)) = 4 * (sn : Int) := by rw [IntKind.wrap_i64]; omega
      clear h1 h2 h3 hok0 hsl hr0
      unfold rdV rdC at HRN
      go_enter Try.func6, Try.ntmps6
      go_wp2_with fail
      refine HNEW.out.mono ?_
      rintro e w1 ⟨O, rfl, hr1, hb1⟩
      have H1 := Lib.hid (And.intro hr1 hb1)
      clear hr1 hb1
      go_wp2_with fail
      refine (HQ.out _).mono ?_
      rintro e w' ⟨rfl, rfl⟩
      go_wp2_with fail
      refine (HRN.out w1).mono ?_
      rintro e w2 ⟨rfl, hb2⟩
      obtain ⟨w3, hw3⟩ : ∃ w3, w2.alloc (.cells (rdC r0) 29) = w3 := ⟨_, rfl⟩
      have hb3 : Below w2.heap.size w2 w3 := by rw [← hw3]; exact (Below.refl _ _).alloc (Nat.le_refl _) _
      have hB3 : w3.heap[w2.heap.size]? = some (.cells (rdC r0) 29 (0, 0)) := by rw [← hw3]; exact World.alloc_heap_new _ _
      unfold rdC at hw3 hB3
      have hb13 : Below w1.heap.size w1 w3 := hb2.trans (hb3.mono hb2.size)
      have hr3 : RAt w3 O r0 (fun b => w.heap.size ≤ b ∧ b ≠ w2.heap.size) := (H1.out.1.keep hb13.size (fun b _ hl => hb13.block b hl)).mono' H1.out.1 hb13 (by have := hb2.size; omega)
      have hlb : w2.heap.size < w3.heap.size := by rw [← hw3]; simp
      have hwB : w.heap.size ≤ w2.heap.size := Nat.le_trans H1.out.2.size hb2.size
      obtain ⟨B, hB⟩ : ∃ B, w2.heap.size = B := ⟨_, rfl⟩
      rw [hB] at hB3 hr3 hlb hwB
      have H3 := Lib.hid (And.intro hr3 (And.intro hB3 (And.intro (H1.out.2.trans (hb13.mono H1.out.2.size)) (And.intro hlb hwB))))
      obtain ⟨c0, c1, c2, c3, c4, c5, c6, c7, c8, c9, -⟩ := cells10 hB3
      have HW3 := Lib.hid (And.intro hw3 hB)
      have HS3 := Lib.hid (same10_any w3 hr3 HOK.out.1)
      unfold rdV rdC at HS3
      clear hb2 hb3 hB3 hb13 hr3 hlb hwB hw3 hB
      go_wp2_with fail
      rw [HW3.out.1, HW3.out.2]
      refine (num10_any _ _).mono ?_
      rintro e w' ⟨rfl, rfl⟩
      go_wp2_with fail
      refine HS3.out.mono ?_
      rintro e w4 ⟨rfl, hb4⟩
      have H4 : Hid (RAt w4 O r0 (fun b => w.heap.size ≤ b ∧ b ≠ B) ∧ w4.heap[B]? = some (.cells (rdC r0) 29 (0, 0)) ∧ Below w.heap.size w w4) :=
        Lib.hid ⟨H3.out.1.keep hb4.size (fun b _ hl => hb4.block b hl), (hb4.block B H3.out.2.2.2.1).trans H3.out.2.1, H3.out.2.2.1.trans (hb4.mono (Nat.le_trans H3.out.2.2.2.2 (Nat.le_of_lt H3.out.2.2.2.1)))⟩
      have HBW := Lib.hid H3.out.2.2.2.2
      clear hb4 c0 c1 c2 c3 c4 c5 c6 c7 c8 c9 HS3 HW3 HNEW HQ HRN H1
      go_wp2_with fail
      go_loopw [12] (fun i wr => ∃ k : Nat, k ≤ ys.length ∧ i = .int .i64 k ∧ RAt wr O (gvn r0 (ys.take k)) (fun b => w.heap.size ≤ b ∧ b ≠ B) ∧ wr.heap[B]? = some (.cells (rdC (gvn r0 (ys.take k))) 29 (0, 0)) ∧ Below w.heap.size w wr)
        (fun i _ => ys.length - (intOf i).toNat)
      case atStart => exact ⟨0, Nat.zero_le _, rfl, H4.out⟩
      case round =>
        obtain ⟨k, hk, rfl, hrk, hBk, hbk⟩ := hrel
        clear H4 H3
        by_cases hlt : k < ys.length
        · have hts : ys.take (k + 1) = ys.take k ++ [ys[k]] := List.take_succ_eq_append_getElem hlt
          have hgs := gvn_snoc r0 (ys.take k) ys[k]
          rw [← hts] at hgs
          have hokq := gvn_ok HOK.out.1 (ys.take k)
          rw [HOK.out.2] at hokq
          obtain ⟨q, hq⟩ : ∃ q, gvn r0 (ys.take k) = q := ⟨_, rfl⟩
          rw [hq] at hrk hBk hgs hokq
          obtain ⟨v, hv⟩ : ∃ v, ys[k] = v := ⟨_, rfl⟩
          obtain ⟨b, off, hpo, hbl, hcv⟩ := HR.out.at k hlt
          rw [hv] at hgs hcv
          have hcv1 := (hbk.cell (p := ⟨b, off + k, none⟩) hbl).trans hcv
          have HCO := Lib.hid (copyR_any wr hrk)
          have hlBr : B < wr.heap.size := (Array.getElem?_eq_some_iff.1 hBk).1
          have HK := Lib.hid (And.intro hrk (And.intro hBk (And.intro hbk (And.intro hgs (And.intro hokq hlBr)))))
          have hlt' : (k : Int) < (ys.length : Int) := by omega
          have hwl := hbk.size
          have HC := Lib.hid hcv1
          subst hpo
          clear hts hrk hBk hbk hgs hokq hq hv hcv hcv1 hlBr
          go_wp2_with fail
          refine HCO.out.mono ?_
          rintro e w3 ⟨rfl, hr', hb3, hz3⟩
          have hcb := (hb3.cell (p := ⟨b, off + k, none⟩) (by show b < wr.heap.size; omega)).trans HC.out
          have hrO : RAt w3 O q (fun b => w.heap.size ≤ b ∧ b ≠ B) := HK.out.1.keep hb3.size (fun b _ hl => hb3.block b hl)
          have hB3 := (hb3.block B HK.out.2.2.2.2.2).trans HK.out.2.1
          have H3 := Lib.hid (And.intro hr' (And.intro hb3 (And.intro hrO hB3)))
          clear hr' hb3 hrO hB3 hz3 HCO HC
          cases hd : q.done with
          | true =>
            have HGD := Lib.hid (give_done v w3 H3.out.2.2.1 hd)
            have hgs' : gvn r0 (ys.take (k + 1)) = q := by rw [HK.out.2.2.2.1, if_pos hd]
            have c7 : w3.cell? ⟨B, 7, none⟩ = some (.bool true) := by
              have h := H3.out.2.2.2
              unfold rdC at h
              rw [← hd]
              exact (cells10 h).2.2.2.2.2.2.2.1
            have HG' := Lib.hid hgs'
            clear hd hgs'
            go_wp2_with fail
            refine HGD.out.mono ?_
            rintro e w' ⟨rfl, rfl⟩
            go_wp2_with fail
            refine (num10_any _ _).mono ?_
            rintro e w' ⟨rfl, rfl⟩
            go_wp2_with fail
            go_roundw
            case rel => exact ⟨k + 1, hlt, by go_num, by rw [HG'.out]; exact H3.out.2.2.1, by rw [HG'.out]; exact H3.out.2.2.2, HK.out.2.2.1.trans (H3.out.2.1.mono HK.out.2.2.1.size)⟩
            case measure => simp [intOf]; omega
          | false =>
            have HGA := Lib.hid (give_any v w3 H3.out.2.2.1 HK.out.2.2.2.2.1.1 hd)
            have hgs' : gvn r0 (ys.take (k + 1)) = q.give v := by rw [HK.out.2.2.2.1, if_neg (by simp [hd])]
            have HGV := Lib.hid (fun W => refGive_any q v W HK.out.2.2.2.2.1.1 hd)
            have hgok := give_ok HK.out.2.2.2.2.1.1 hd v
            have hgsl := (give_same q v).2.1
            obtain ⟨qq, hqq⟩ : ∃ qq, q.give v = qq := ⟨_, rfl⟩
            rw [hqq] at HGA hgs' HGV hgok hgsl
            rw [HK.out.2.2.2.2.1.2] at hgsl
            have hqrem := hgok.1.rem
            rw [hgsl] at hqrem
            have HG' := Lib.hid (And.intro hgs' hgok.1)
            have hle2 : (qq.loads : Int) ≤ 4 * (sn : Int) := by omega
            have hd9 := Lib.hid hd
            unfold rdV rdC at HGV
            clear hgs' hgok hgsl hqq hqrem
            go_wp2_with fail
            refine HGA.out.mono ?_
            rintro e w4 ⟨rfl, hr4, hf4⟩
            have hOB : O ≠ B := H3.out.2.2.1.own.2
            have hB4 := (hf4.block B (by have := H3.out.2.1.size; have := HK.out.2.2.2.2.2; omega) (Ne.symm hOB)).trans H3.out.2.2.2
            have hOO : O ≠ wr.heap.size := by have := HK.out.1.lt; omega
            have hrc4 : RAt w4 wr.heap.size q _ := H3.out.1.other H3.out.2.2.1 hOO hf4
            have hr4' : RAt w4 O qq (fun b => w.heap.size ≤ b ∧ b ≠ B) := hr4.mono (fun b hb _ => hb.elim id (fun hb => ⟨by have := H3.out.2.1.size; omega, by have := H3.out.2.1.size; have := HK.out.2.2.2.2.2; omega⟩))
            have hcb4 := (hf4.cell? (p := ⟨b, off + k, none⟩) (by show b < w3.heap.size; have := H3.out.2.1.size; omega) (by show b ≠ O; have := HK.out.1.own.1; omega)).trans hcb
            have h7 := hB4
            unfold rdC at h7
            obtain ⟨d0, d1, d2, d3, d4, d5, d6, d7, d8, d9, -⟩ := cells10 h7
            rw [hd] at d7
            have hB4l : B < w4.heap.size := (Array.getElem?_eq_some_iff.1 hB4).1
            have hbw4 : Below w.heap.size w w4 := (HK.out.2.2.1.trans (H3.out.2.1.mono HK.out.2.2.1.size)).trans (hf4.below (Nat.le_trans HK.out.2.2.1.size H3.out.2.1.size) (by rintro b rfl; exact HK.out.1.own.1))
            have HSM := Lib.hid (same10_any w4 hrc4 HK.out.2.2.2.2.1.1)
            unfold rdV rdC at HSM
            rw [hd] at HSM
            have H4 := Lib.hid (And.intro hr4' (And.intro hB4 (And.intro hcb4 (And.intro hbw4 hB4l))))
            clear hr4 hf4 hB4 hrc4 hr4' hcb4 h7 hB4l hbw4 hcb hd
            go_wp2_with fail
            refine (num10_any _ _).mono ?_
            rintro e w' ⟨rfl, rfl⟩
            go_wp2_with fail
            refine HSM.out.mono ?_
            rintro e w5 ⟨rfl, hb5⟩
            have HB5 := Lib.hid ((hb5.block B H4.out.2.2.2.2).trans H4.out.2.1)
            have h7 := HB5.out
            unfold rdC at h7 HB5
            obtain ⟨e0, e1, e2, e3, e4, e5, e6, e7, e8, e9, -⟩ := cells10 h7
            have eb := (hb5.cell (p := ⟨b, off + k, none⟩) (by show b < w4.heap.size; have := H4.out.2.2.2.1.size; omega)).trans H4.out.2.2.1
            have H5 : Hid (RAt w5 O qq (fun b => w.heap.size ≤ b ∧ b ≠ B) ∧ Below w.heap.size w w5) := Lib.hid ⟨H4.out.1.keep hb5.size (fun b _ hl => hb5.block b hl), H4.out.2.2.2.1.trans (hb5.mono H4.out.2.2.2.1.size)⟩
            have hl5 : B < w5.heap.size ∧ b < w5.heap.size := ⟨by have := H4.out.2.2.2.2; have := hb5.size; omega, by have := H5.out.2.size; omega⟩
            clear d0 d1 d2 d3 d4 d5 d6 d7 d8 d9 h7 hb5 HSM
            go_wp2_with fail
            refine wp_region_noPanic ?_
            refine wp_region_F 6 (fun w' => w'.cell? ⟨B, 0, none⟩ = some (.int .i64 q.way) ∧ w'.cell? ⟨B, 1, none⟩ = some (.int .i64 q.slots) ∧ w'.cell? ⟨B, 2, none⟩ = some (.int .i64 q.slot) ∧ w'.cell? ⟨B, 3, none⟩ = some (.int .i64 q.step) ∧ w'.cell? ⟨B, 4, none⟩ = some (vw q.key) ∧ w'.cell? ⟨B, 5, none⟩ = some (vw q.ptr) ∧ w'.cell? ⟨B, 6, none⟩ = some (vw q.ahead) ∧ w'.cell? ⟨B, 7, none⟩ = some (.bool q.done) ∧ w'.cell? ⟨B, 8, none⟩ = some (.bool q.is) ∧ w'.cell? ⟨B, 9, none⟩ = some (.int .i64 q.loads) ∧ w'.cell? ⟨b, off + k, none⟩ = some (vw v)) (by kernel_rfl) ?_ (fun hHeld => ?_)
            · exact ⟨e0, e1, e2, e3, e4, e5, e6, e7, e8, e9, eb⟩
            refine' wpAnyF_take (i := 0) (v := _) rfl (by kernel_rfl) (by kernel_rfl) (by kernel_rfl) (by kernel_rfl) (by rfl) (by kernel_rfl) (fun _ _ _ h => h) (Or.inl ⟨by rfl, ?hy⟩) hHeld _
            case hy => (intro w0 hSw; (try dsimp only at hSw); simp only [List.getElem_toArray, List.getElem_cons_zero]; go_simp; first | done | with_reducible rfl)
            simp only [Act.put, List.getElem_toArray, List.getElem_cons_zero, List.setIfInBounds_toArray, List.set_cons_zero, List.set_cons_succ]
            refine' wpAnyF_takeT (i := 1) (v := _) rfl (by kernel_rfl) (by kernel_rfl) (by kernel_rfl) (by rfl) (fun _ _ _ h => h) (Or.inl ⟨by rfl, ?hy⟩) (fun _ => hHeld) _
            case hy => (intro w0 hSw; (try dsimp only at hSw); simp only [List.getElem_toArray, List.getElem_cons_zero, List.getElem_cons_succ]; go_simp; first | done | with_reducible rfl)
            simp only [Act.put, List.getElem_toArray, List.getElem_cons_zero, List.getElem_cons_succ, List.setIfInBounds_toArray, List.set_cons_zero, List.set_cons_succ]
            refine' wpAnyF_takeT (i := 2) (v := _) rfl (by kernel_rfl) (by kernel_rfl) (by kernel_rfl) (by rfl) (fun _ _ _ h => h) (Or.inl ⟨by rfl, ?hy⟩) (fun _ => hHeld) _
            case hy => (intro w0 hSw; (try dsimp only at hSw); simp only [List.getElem_toArray, List.getElem_cons_zero, List.getElem_cons_succ]; go_simp; first | done | with_reducible rfl)
            simp only [Act.put, List.getElem_toArray, List.getElem_cons_zero, List.getElem_cons_succ, List.setIfInBounds_toArray, List.set_cons_zero, List.set_cons_succ]
            refine' wpAnyF_takeT (i := 3) (v := _) rfl (by kernel_rfl) (by kernel_rfl) (by kernel_rfl) (by rfl) (fun _ _ _ h => h) (Or.inl ⟨by rfl, ?hy⟩) (fun _ => hHeld) _
            case hy => (intro w0 hSw; (try dsimp only at hSw); simp only [List.getElem_toArray, List.getElem_cons_zero, List.getElem_cons_succ]; go_simp; first | done | with_reducible rfl)
            simp only [Act.put, List.getElem_toArray, List.getElem_cons_zero, List.getElem_cons_succ, List.setIfInBounds_toArray, List.set_cons_zero, List.set_cons_succ]
            refine' wpAnyF_take (i := 4) (v := _) rfl (by kernel_rfl) (by kernel_rfl) (by kernel_rfl) (by kernel_rfl) (by rfl) (by kernel_rfl) (fun _ _ _ h => h) (Or.inl ⟨by rfl, ?hy⟩) hHeld _
            case hy => (intro w0 hSw; (try dsimp only at hSw); simp only [List.getElem_toArray, List.getElem_cons_zero, List.getElem_cons_succ]; go_simp; first | done | with_reducible rfl)
            simp only [Act.put, List.getElem_toArray, List.getElem_cons_zero, List.getElem_cons_succ, List.setIfInBounds_toArray, List.set_cons_zero, List.set_cons_succ]
            refine wpAnyF_one (i := 5) (by kernel_rfl) rfl (fun K hK => ?_)
            go_simp
            refine (HGV.out _).mono ?_
            rintro e w7 ⟨rfl, hb7⟩
            have hB7 := (hb7.block B (by show B < w5.heap.size; omega)).trans HB5.out
            obtain ⟨g0, g1, g2, g3, g4, g5, g6, g7, g8, g9, gf⟩ := cells10 hB7
            have gb := (hb7.cell (p := ⟨b, off + k, none⟩) (by show b < w5.heap.size; omega)).trans eb
            go_wp2_with fail
            refine hK.out _ _ (fun _ => ?_) ?_
            · exact ⟨g0, g1, g2, g3, g4, g5, g6, g7, g8, g9, gb⟩
            clear hK K
            try simp only [Act.put, List.getElem_toArray, List.getElem_cons_zero, List.getElem_cons_succ, List.setIfInBounds_toArray, List.set_cons_zero, List.set_cons_succ]
            have gf0 := gf 0
            have gf1 := gf 1
            have gf2 := gf 2
            have gf3 := gf 3
            have gf4 := gf 4
            have gf5 := gf 5
            have gf6 := gf 6
            have gf7 := gf 7
            have gf8 := gf 8
            have gf9 := gf 9
            refine wpAnyF_one (i := 6) (by kernel_rfl) rfl (fun K hK => ?_)
            go_simp
            refine hK.out _ _ (fun h => Bool.noConfusion (h.symm.trans (by kernel_rfl : _ = true))) ?_
            clear hK K
            try simp only [Act.put, List.getElem_toArray, List.getElem_cons_zero, List.getElem_cons_succ, List.setIfInBounds_toArray, List.set_cons_zero, List.set_cons_succ]
            refine wpAnyF_done (by kernel_rfl) ?_ _
            refine NoPanic.normal ?_
            obtain ⟨W, hW, hWB, hWo, hWb⟩ := sets10 hB7 (.int .i64 qq.way) (.int .i64 qq.slots) (.int .i64 qq.slot) (.int .i64 qq.step) (vw qq.key) (vw qq.ptr) (vw qq.ahead) (.bool qq.done) (.bool qq.is) (.int .i64 qq.loads)
            unfold vw at hW
            rw [hW]
            have hw5 := H5.out.2.size
            have hrW : RAt W O qq (fun b => w.heap.size ≤ b ∧ b ≠ B) := (H5.out.1.keep hb7.size (fun b _ hl => hb7.block b hl)).keep (by rw [← hW]; simp [World.setCell]) (fun b hb _ => hWo b hb.2)
            have hbW : Below w.heap.size w W := hWb _ _ HBW.out (H5.out.2.trans (Below.trans (b := w5.drew) (below_drewN (Below.refl _ _) 1) (hb7.mono hw5)))
            have HW := Lib.hid (And.intro hrW (And.intro hWB hbW))
            have HSW := Lib.hid (same10_any W hrW HG'.out.2)
            unfold rdV rdC at HSW
            obtain ⟨g0, g1, g2, g3, g4, g5, g6, g7, g8, g9, -⟩ := cells10 hWB
            have hlW : B < W.heap.size := (Array.getElem?_eq_some_iff.1 hWB).1
            clear hrW hbW hWB hWo hWb hW hb7 hB7 e0 e1 e2 e3 e4 e5 e6 e7 e8 e9 eb hHeld
            go_wp2_with fail
            refine HSW.out.mono ?_
            rintro e w8 ⟨rfl, hb8⟩
            have hB8 := (hb8.block B hlW).trans HW.out.2.1
            have g9 := (cells10 hB8).2.2.2.2.2.2.2.2.2.1
            have H8 : Hid (RAt w8 O qq (fun b => w.heap.size ≤ b ∧ b ≠ B) ∧ w8.heap[B]? = some (.cells (rdC qq) 29 (0, 0)) ∧ Below w.heap.size w w8) := Lib.hid ⟨HW.out.1.keep hb8.size (fun b _ hl => hb8.block b hl), hB8, HW.out.2.2.trans (hb8.mono HW.out.2.2.size)⟩
            clear hb8 hB8
            go_wp2_with fail
            go_roundw
            case rel => exact ⟨k + 1, hlt, by go_num, by rw [HG'.out.1]; exact H8.out.1, by rw [HG'.out.1]; exact H8.out.2.1, H8.out.2.2⟩
            case measure => simp [intOf]; omega
        · clear hrk hBk
          have hlt' : (ys.length : Int) ≤ (k : Int) := by omega
          go_wp2_with fail
          refine (works10_any _).mono ?_
          rintro e w2' ⟨rfl, hb2⟩
          go_wp2_with fail
          go_ret
          exact ⟨rfl, hbk.trans (hb2.mono hbk.size)⟩
    · have HB := Lib.hid (new_bad way slots key w hok)
      have hrr : rightRS way slots = false := by unfold rightRS; exact decide_eq_false hok
      have HQ := Lib.hid (refRight_any way slots)
      rw [hrr] at HQ
      have hle : (ys.length : Int) ≤ 130 := by omega
      clear hok hrr
      go_enter Try.func6, Try.ntmps6
      go_wp2_with fail
      refine HB.out.mono ?_
      rintro e w1 ⟨rfl, hb1⟩
      have H1 := Lib.hid hb1
      clear hb1
      go_wp2_with fail
      refine (HQ.out _).mono ?_
      rintro e w' ⟨rfl, rfl⟩
      go_wp2_with fail
      refine (num10_any _ _).mono ?_
      rintro e w' ⟨rfl, rfl⟩
      go_wp2_with fail
      refine (works10_any _).mono ?_
      rintro e w2 ⟨rfl, hb2⟩
      go_wp2_with fail
      go_ret
      exact ⟨rfl, H1.out.trans (hb2.mono H1.out.size)⟩
  · have hlen' : 130 < (ys.length : Int) := by omega
    clear hlen
    go_enter Try.func6, Try.ntmps6
    go_wp2_with fail
    refine (works10_any _).mono ?_
    rintro e w2 ⟨rfl, hb2⟩
    go_wp2_with fail
    go_ret
    exact ⟨rfl, hb2⟩
end Go.Proofs.Ytenmogokbelahaa
