/- The walks of a bitmap's Left, Words, Copy, Same, New. -/
import Derived.Test.YtljegehfdmgcbaaDoorBmE
import Derived.Test.YtljegehfdmgcbaaDoorWordsF
import Derived.Test.YtljegehfdmgcbaaDoorSame
import Derived.Deep.RegionHeld3
import Derived.Laws.MakeOwn
namespace Go.Proofs.YtljegehfdmgcbaaDoor
open Go Go.RowKit

set_option maxHeartbeats 1000000 in
theorem cloneQ_any (p : Option Addr) (cap : Nat) (xs : List (BitVec 64)) (w : World) (hrd : RdL w.heap.size w p cap vw xs) (hx : xs.length ≤ 1000000) :
    Calls Tryd.prog 28 #[.slice p xs.length cap] w (RetOwn 60 vw xs w) := by
  have hlen := hrd.len
  have hnil := fun (w : World) (a : Option Addr) (n c : Nat) => Lib.run_eql_slice_nil (P := Tryd.prog) w 22 60 a n c 0 0 Tryd.underlying22
  have hsrc := src_rdl (hrd.below ((Below.refl _ w).alloc (Nat.le_refl _) (.cells #[] 60)))
  rcases p with _ | x
  · obtain ⟨rfl, rfl⟩ := hrd.isNil
    go_enter Tryd.func28, Tryd.ntmps28
    go_wp2
    go_ret
    exact ⟨.slice none 0 0, rfl, World.ownsRow_nil _ _ _ _, Below.refl _ _⟩
  · clear hrd
    go_enter Tryd.func28, Tryd.ntmps28
    go_wp2_with (at_builtin; refine wpList_append_src rfl _ _ _ rfl elem_w64 w.heap.size _ 0 [] rfl (own_empty w _ _ _ (Nat.le_refl _)) _ xs.length (xs.map vw) rfl hsrc ?_ ?_ ?_ ?_ ?_ ?_
                 · simp
                 · simp [Value.oneCell']
                 · unfold maxLen; omega
                 · omega
                 · simp
                 intro v w1 hown hg _ _)
    go_ret
    refine ⟨v, rfl, by simpa using hown, ?_⟩
    exact below_grown ((Below.refl _ w).alloc (Nat.le_refl _) _) hg (by simp) (by intro b hb; cases hb; exact Nat.le_refl _)

set_option maxHeartbeats 1000000 in
theorem cloneB_any (p : Option Addr) (cap : Nat) (xs : List (BitVec 64)) (w : World) (hrd : RdL w.heap.size w p cap vw xs) (hx : xs.length ≤ 1000000) :
    Calls Tryd.prog 35 #[.slice p xs.length cap] w (RetOwn 60 vw xs w) := by
  have hlen := hrd.len
  have hnil := fun (w : World) (a : Option Addr) (n c : Nat) => Lib.run_eql_slice_nil (P := Tryd.prog) w 49 60 a n c 0 0 Tryd.underlying49
  have hsrc := src_rdl (hrd.below ((Below.refl _ w).alloc (Nat.le_refl _) (.cells #[] 60)))
  rcases p with _ | x
  · obtain ⟨rfl, rfl⟩ := hrd.isNil
    go_enter Tryd.func35, Tryd.ntmps35
    go_wp2
    go_ret
    exact ⟨.slice none 0 0, rfl, World.ownsRow_nil _ _ _ _, Below.refl _ _⟩
  · clear hrd
    go_enter Tryd.func35, Tryd.ntmps35
    go_wp2_with (at_builtin; refine wpList_append_src rfl _ _ _ rfl elem_bits w.heap.size _ 0 [] rfl (own_empty w _ _ _ (Nat.le_refl _)) _ xs.length (xs.map vw) rfl hsrc ?_ ?_ ?_ ?_ ?_ ?_
                 · simp
                 · simp [Value.oneCell']
                 · unfold maxLen; omega
                 · omega
                 · simp
                 intro v w1 hown hg _ _)
    go_ret
    refine ⟨v, rfl, by simpa using hown, ?_⟩
    exact below_grown ((Below.refl _ w).alloc (Nat.le_refl _) _) hg (by simp) (by intro b hb; cases hb; exact Nat.le_refl _)

set_option maxRecDepth 100000 in
set_option maxHeartbeats 1000000 in
theorem equalB_any (p q : Option Addr) (cp cq : Nat) (xs ys : List (BitVec 64)) (w : World) (hx : RdL w.heap.size w p cp vw xs) (hy : RdL w.heap.size w q cq vw ys) :
    Calls Tryd.prog 36 #[.slice p xs.length cp, .slice q ys.length cq] w fun e w' => e = .returned (.bool (sameB xs ys)) ∧ ∃ n, w.drewN n = w' := by
  have hlx := hx.len
  have hly := hy.len
  have HX := Lib.hid hx
  have HY := Lib.hid hy
  clear hx hy
  by_cases hl : xs.length = ys.length
  · have hl0 : ((xs.length : Int) != (ys.length : Int)) = false := by rw [hl]; simp
    have HL := Lib.hid hl
    clear hl
    go_enter Tryd.func36, Tryd.ntmps36
    go_wp2
    clear hl0
    go_loopw [13] (fun i wr => ∃ k n : Nat, k ≤ xs.length ∧ i = .int .i64 k ∧ sameTo xs ys k ∧ w.drewN n = wr) (fun i _ => xs.length - (intOf i).toNat)
    case atStart => exact ⟨0, 0, Nat.zero_le _, rfl, sameTo_zero _ _, rfl⟩
    case round =>
      obtain ⟨k, n, hk, rfl, hs, rfl⟩ := hrel
      by_cases hlt : k < xs.length
      · have hlt2 : k < ys.length := by rw [← HL.out]; exact hlt
        obtain ⟨b, off, rfl, hb, hcx⟩ := HX.out.at k hlt
        obtain ⟨b', off', rfl, hb', hcy⟩ := HY.out.at k hlt2
        have hcx' : (w.drewN n).cell? ⟨b, off + k, none⟩ = some (vw xs[k]) := hcx
        have hcy' : (w.drewN n).cell? ⟨b', off' + k, none⟩ = some (vw ys[k]) := hcy
        have h1 : (k : Int) < (xs.length : Int) := by omega
        have h2 : (k : Int) < (ys.length : Int) := by omega
        go_wp2
        go_quiet (fail)
        by_cases he : xs[k] = ys[k]
        · have hne : ((xs[k].toNat : Int) != (ys[k].toNat : Int)) = false := by rw [he]; simp
          have HE := Lib.hid he
          clear he
          go_wp2
          go_roundw
          case rel => exact ⟨k + 1, n + nq, by omega, by go_num, sameTo_succ hs hlt hlt2 HE.out, by first | rfl | rw [World.drewN_drewN]⟩
          case measure => simp [intOf]; omega
        · have hne : ((xs[k].toNat : Int) != (ys[k].toNat : Int)) = true := by
            simp only [bne_iff_ne, ne_eq, Int.natCast_inj]
            exact fun h => he (BitVec.eq_of_toNat_eq h)
          have HE := Lib.hid (sameB_at hlt hlt2 he)
          clear he
          go_wp2
          go_ret
          exact ⟨by rw [HE.out]; rfl, n + nq, by first | rfl | rw [World.drewN_drewN]⟩
      · obtain rfl : k = xs.length := by omega
        have HE := Lib.hid (sameB_all HL.out hs)
        go_wp2
        go_ret
        exact ⟨by rw [HE.out]; rfl, n, rfl⟩
  · have hl0 : ((xs.length : Int) != (ys.length : Int)) = true := by
      simp only [bne_iff_ne, ne_eq, Int.natCast_inj]; exact hl
    have HE := Lib.hid (sameB_len hl)
    clear hl
    go_enter Tryd.func36, Tryd.ntmps36
    go_wp2
    go_ret
    exact ⟨by rw [HE.out]; rfl, 0, rfl⟩


/-- Is a word out of 1 to 2048? -/
def offW (x : BitVec 64) : Bool := !(decide (1 ≤ x.toNat) && decide (x.toNat ≤ 2048))

set_option maxHeartbeats 1000000 in
theorem left_no (v : Value) (w : World) (h : NoBm w v) : Calls Tryd.prog 14 #[v] w fun e w' => e = .returned (.int .i64 0) ∧ w = w' := by
  have HN := Lib.hid (none_no v w h)
  have HL := Lib.hid (len_no v w h)
  clear h
  go_enter Tryd.func14, Tryd.ntmps14
  go_wp2_with fail
  refine HL.out.mono ?_
  rintro e w' ⟨rfl, rfl⟩
  go_wp2_with fail
  refine HN.out.mono ?_
  rintro e w' ⟨rfl, rfl⟩
  go_wp2_with fail
  go_ret
  exact ⟨rfl, rfl⟩
theorem onesW_snoc (ws : List (BitVec 64)) (k : Nat) (hk : k < ws.length) : onesW (ws.take (k + 1)) = onesW (ws.take k) + (bitsL ws[k]).length := by
  unfold onesW
  rw [List.take_succ_eq_append_getElem hk, List.map_append, List.sum_append]
  simp
theorem onesW_le (ws : List (BitVec 64)) (k : Nat) (hk : k ≤ ws.length) : onesW (ws.take k) ≤ 64 * k := by
  rw [ones_cnt ws k hk]
  exact cntF_le _ _
set_option maxRecDepth 100000 in
set_option maxHeartbeats 2000000 in
theorem left_bm {O g c : Nat} {ws : List (BitVec 64)} {n : Nat} (w : World) (h : BmAt w O g c ws n) (hT : TabAt w) :
    Calls Tryd.prog 14 #[.pointer (some ⟨O, 0, none⟩)] w fun e w' => e = .returned (.int .i64 ((n : Int) - onesW ws)) ∧ Below w.heap.size w w' := by
  have HN := Lib.hid (none_bm w h)
  have HL := Lib.hid (len_bm w h)
  have H0 := Lib.hid (And.intro h hT)
  have c0 := h.c0
  have hn2 := h.n2
  have hl : ws.length ≤ 1024 := by have := h.len; omega
  clear h hT
  go_enter Tryd.func14, Tryd.ntmps14
  go_wp2_with fail
  refine HL.out.mono ?_
  rintro e w' ⟨rfl, rfl⟩
  go_wp2_with fail
  refine HN.out.mono ?_
  rintro e w' ⟨rfl, rfl⟩
  go_wp2_with fail
  go_loopw [3, 15] (fun x i wr => ∃ k : Nat, k ≤ ws.length ∧ i = .int .i64 k ∧ x = .int .i64 ((n : Int) - onesW (ws.take k)) ∧ Below w.heap.size w wr) (fun _ i _ => ws.length - (intOf i).toNat)
  case atStart => exact ⟨0, Nat.zero_le _, rfl, by simp [onesW], Below.refl _ _⟩
  case round =>
    obtain ⟨k, hk, rfl, rfl, hb⟩ := hrel
    have HB := Lib.hid hb
    by_cases hlt : k < ws.length
    · have q1 := (hb.cell (p := ⟨g, k, none⟩) H0.out.1.ltg).trans (H0.out.1.word k hlt)
      have HO := Lib.hid (ones_any ws[k] wr (H0.out.2.keep (hb.block 0 H0.out.2.lt)))
      have hlen := bitsL_len ws[k]
      have hsn := onesW_snoc ws k hlt
      have hle := onesW_le ws k hk
      have HSN := Lib.hid hsn
      obtain ⟨z, hz⟩ : ∃ z, ws[k] = z := ⟨_, rfl⟩
      rw [hz] at q1 HO hlen HSN
      obtain ⟨o, ho⟩ : ∃ o, onesW (ws.take k) = o := ⟨_, rfl⟩
      rw [ho] at hle HSN
      rw [ho]
      obtain ⟨b, hbl⟩ : ∃ b, (bitsL z).length = b := ⟨_, rfl⟩
      rw [hbl] at HO hlen HSN
      have hk2 : (k : Int) < (ws.length : Int) := by omega
      have hw : IntKind.i64.wrap ((n : Int) - o - b) = (n : Int) - o - b := by rw [IntKind.wrap_i64]; omega
      clear hb hsn hz ho hbl
      go_wp2_with fail
      refine HO.out.mono ?_
      rintro e w2 ⟨rfl, hb2⟩
      have HB2 := Lib.hid (HB.out.trans (hb2.mono HB.out.size))
      clear hb2 HO
      go_wp2_with fail
      go_roundw
      case rel => exact ⟨k + 1, by omega, by go_num, by rw [HSN.out]; congr 1; push_cast; omega, HB2.out⟩
      case measure => simp [intOf]; omega
    · obtain rfl : k = ws.length := by omega
      clear hb
      rw [List.take_length]
      go_wp2_with fail
      go_ret
      exact ⟨rfl, HB.out⟩
set_option maxHeartbeats 1000000 in
theorem words_no (v : Value) (w : World) (h : NoBm w v) : Calls Tryd.prog 22 #[v] w fun e w' => e = .returned (.slice none 0 0) ∧ w = w' := by
  have HN := Lib.hid (none_no v w h)
  clear h
  go_enter Tryd.func22, Tryd.ntmps22
  go_wp2_with fail
  refine HN.out.mono ?_
  rintro e w' ⟨rfl, rfl⟩
  go_wp2_with fail
  go_ret
  exact ⟨rfl, rfl⟩
set_option maxHeartbeats 1000000 in
theorem words_bm {O g c : Nat} {ws : List (BitVec 64)} {n : Nat} (w : World) (h : BmAt w O g c ws n) :
    Calls Tryd.prog 22 #[.pointer (some ⟨O, 0, none⟩)] w (RetOwn 60 vw ws w) := by
  have HN := Lib.hid (none_bm w h)
  have c0 := h.c0
  have HC := Lib.hid (cloneB_any (some ⟨g, 0, none⟩) c ws w h.rdl (by have := h.len; have := h.n2; omega))
  clear h
  go_enter Tryd.func22, Tryd.ntmps22
  go_wp2_with fail
  refine HN.out.mono ?_
  rintro e w' ⟨rfl, rfl⟩
  go_wp2_with fail
  refine HC.out.mono ?_
  rintro e w' ⟨v, rfl, h1, h2⟩
  have H := Lib.hid (And.intro h1 h2)
  clear h1 h2
  go_wp2_with fail
  go_ret
  exact ⟨v, rfl, H.out⟩
/-- A new map. -/
def NewBm (ws : List (BitVec 64)) (n : Nat) (w : World) (p : Value) (w' : World) : Prop := ∃ O g c, p = .pointer (some ⟨O, 0, none⟩) ∧ BmAt w' O g c ws n ∧ w.heap.size ≤ O ∧ w.heap.size ≤ g ∧ Below w.heap.size w w'
theorem bm_made {base : Nat} {W : World} {v : Value} {ws : List (BitVec 64)} {n : Nat} (hown : W.ownsRow base 60 1 v ws.length (ws.map vw)) (hl : ws.length = (n + 63) / 64) (h1 : 1 ≤ n) (h2 : n ≤ 65536) :
    ∃ g c, v = .slice (some ⟨g, 0, none⟩) ws.length c ∧ base ≤ g ∧ g < W.heap.size ∧ BmAt (W.alloc (.cells #[v, .int .i64 n] 51)) W.heap.size g c ws n := by
  have hp : 0 < ws.length := by omega
  obtain ⟨g, c, rfl, hg, _⟩ := own_pos hown hp
  have hlt := (hown.lt g rfl).2
  have ho := OwnO.of_owns hown
  refine ⟨g, c, rfl, hg, hlt, World.alloc_heap_new _ _, ho.keep ?_, by omega, hl, h1, h2⟩
  rintro b ⟨a, ha, rfl, _⟩
  cases ha
  exact Below.heap_alloc _ _ _ hlt
set_option maxHeartbeats 1000000 in
theorem copy_no (v : Value) (w : World) (h : NoBm w v) : Calls Tryd.prog 23 #[v] w fun e w' => e = .returned (.pointer none) ∧ w = w' := by
  have HN := Lib.hid (none_no v w h)
  clear h
  go_enter Tryd.func23, Tryd.ntmps23
  go_wp2_with fail
  refine HN.out.mono ?_
  rintro e w' ⟨rfl, rfl⟩
  go_wp2_with fail
  go_ret
  exact ⟨rfl, rfl⟩
set_option maxRecDepth 100000 in
set_option maxHeartbeats 2000000 in
theorem copy_bm {O g c : Nat} {ws : List (BitVec 64)} {n : Nat} (w : World) (h : BmAt w O g c ws n) :
    Calls Tryd.prog 23 #[.pointer (some ⟨O, 0, none⟩)] w fun e w' => ∃ p, e = .returned p ∧ NewBm ws n w p w' := by
  have HN := Lib.hid (none_bm w h)
  have H0 := Lib.hid h
  have c0 : w.drew.cell? ⟨O, 0, none⟩ = some (.slice (some ⟨g, 0, none⟩) ws.length c) := h.c0
  have c1 : w.drew.cell? ⟨O, 1, none⟩ = some (.int .i64 n) := h.c1
  have HC := Lib.hid (cloneB_any (some ⟨g, 0, none⟩) c ws w.drew (h.rdl.below (Below.refl _ w).drew) (by have := h.len; have := h.n2; omega))
  clear h
  go_enter Tryd.func23, Tryd.ntmps23
  go_wp2_with fail
  refine HN.out.mono ?_
  rintro e w' ⟨rfl, rfl⟩
  go_wp2_with fail
  go_region_held3 (fun w' => w'.cell? ⟨O, 0, none⟩ = some (.slice (some ⟨g, 0, none⟩) ws.length c) ∧ w'.cell? ⟨O, 1, none⟩ = some (.int .i64 n))
    (first | exact ⟨c0, c1⟩ | exact ⟨d0, d1⟩ | exact ⟨e0, e1⟩)
    (first
     | (go_at_call 35
        refine HC.out.mono ?_
        rintro e w1 ⟨v, rfl, hown, hb⟩
        obtain ⟨g', c', hv, hg', hlg', hbm⟩ := bm_made hown H0.out.len H0.out.n1 H0.out.n2
        have hb1 : Below w.heap.size w w1 := (Below.refl _ w).drew.trans hb
        have d0 := (H0.out.below hb1).c0
        have d1 := (H0.out.below hb1).c1
        have e0 := (H0.out.below (hb1.alloc hb1.size (.cells #[v, .int .i64 n] 51))).c0
        have e1 := (H0.out.below (hb1.alloc hb1.size (.cells #[v, .int .i64 n] 51))).c1
        subst hv
        have HB := Lib.hid (And.intro hbm (And.intro hb1 hg'))
        clear hown hb hbm hb1 hg'))
  go_wp2_with fail
  go_ret
  obtain ⟨h1, h2, h3⟩ := HB.out
  exact ⟨_, rfl, _, _, _, rfl, h1.keep rfl rfl, h2.size, h3, h2.alloc h2.size _⟩
set_option maxHeartbeats 1000000 in
theorem same_nn (u v : Value) (w : World) (h : NoBm w u) (h2 : NoBm w v) : Calls Tryd.prog 24 #[u, v] w fun e w' => e = .returned (.bool true) ∧ w = w' := by
  have HN := Lib.hid (none_no u w h)
  have HM := Lib.hid (none_no v w h2)
  clear h h2
  go_enter Tryd.func24, Tryd.ntmps24
  go_wp2_with fail
  refine HN.out.mono ?_
  rintro e w' ⟨rfl, rfl⟩
  go_wp2_with fail
  refine HN.out.mono ?_
  rintro e w' ⟨rfl, rfl⟩
  go_wp2_with fail
  refine HM.out.mono ?_
  rintro e w' ⟨rfl, rfl⟩
  go_wp2_with fail
  go_ret
  exact ⟨rfl, rfl⟩
set_option maxHeartbeats 1000000 in
theorem same_nb {O g c : Nat} {ws : List (BitVec 64)} {n : Nat} (u : Value) (w : World) (h : NoBm w u) (h2 : BmAt w O g c ws n) : Calls Tryd.prog 24 #[u, .pointer (some ⟨O, 0, none⟩)] w fun e w' => e = .returned (.bool false) ∧ w = w' := by
  have HN := Lib.hid (none_no u w h)
  have HM := Lib.hid (none_bm w h2)
  clear h h2
  go_enter Tryd.func24, Tryd.ntmps24
  go_wp2_with fail
  refine HN.out.mono ?_
  rintro e w' ⟨rfl, rfl⟩
  go_wp2_with fail
  refine HN.out.mono ?_
  rintro e w' ⟨rfl, rfl⟩
  go_wp2_with fail
  refine HM.out.mono ?_
  rintro e w' ⟨rfl, rfl⟩
  go_wp2_with fail
  go_ret
  exact ⟨rfl, rfl⟩
set_option maxHeartbeats 1000000 in
theorem same_bn {O g c : Nat} {ws : List (BitVec 64)} {n : Nat} (v : Value) (w : World) (h : BmAt w O g c ws n) (h2 : NoBm w v) : Calls Tryd.prog 24 #[.pointer (some ⟨O, 0, none⟩), v] w fun e w' => e = .returned (.bool false) ∧ w = w' := by
  have HN := Lib.hid (none_bm w h)
  have HM := Lib.hid (none_no v w h2)
  clear h h2
  go_enter Tryd.func24, Tryd.ntmps24
  go_wp2_with fail
  refine HN.out.mono ?_
  rintro e w' ⟨rfl, rfl⟩
  go_wp2_with fail
  refine HM.out.mono ?_
  rintro e w' ⟨rfl, rfl⟩
  go_wp2_with fail
  refine HN.out.mono ?_
  rintro e w' ⟨rfl, rfl⟩
  go_wp2_with fail
  go_ret
  exact ⟨rfl, rfl⟩
theorem sameW_bm {n m : Nat} {xs ys : List (BitVec 64)} : (decide (n = m) && sameB xs ys) = decide (n = m ∧ xs = ys) := by simp [sameB]
set_option maxRecDepth 100000 in
set_option maxHeartbeats 2000000 in
theorem same_bm {O g c O' g' c' : Nat} {ws ws' : List (BitVec 64)} {n n' : Nat} (w : World) (h : BmAt w O g c ws n) (h2 : BmAt w O' g' c' ws' n') :
    Calls Tryd.prog 24 #[.pointer (some ⟨O, 0, none⟩), .pointer (some ⟨O', 0, none⟩)] w fun e w' => e = .returned (.bool (decide (n = n' ∧ ws = ws'))) ∧ Below w.heap.size w w' := by
  have HN := Lib.hid (none_bm w h)
  have HM := Lib.hid (none_bm w h2)
  have a0 : w.drew.cell? ⟨O, 0, none⟩ = some (.slice (some ⟨g, 0, none⟩) ws.length c) := h.c0
  have a1 : w.drew.cell? ⟨O, 1, none⟩ = some (.int .i64 n) := h.c1
  have b0 : w.drew.cell? ⟨O', 0, none⟩ = some (.slice (some ⟨g', 0, none⟩) ws'.length c') := h2.c0
  have b1 : w.drew.cell? ⟨O', 1, none⟩ = some (.int .i64 n') := h2.c1
  have HE := Lib.hid (equalB_any (some ⟨g, 0, none⟩) (some ⟨g', 0, none⟩) c c' ws ws' w.drew (h.rdl.below (Below.refl _ w).drew) (h2.rdl.below (Below.refl _ w).drew))
  have a1w := h.c1
  have b1w := h2.c1
  clear h h2
  rw [← sameW_bm]
  by_cases hn : n = n'
  · subst hn
    rw [decide_eq_true rfl, Bool.true_and]
    have HR := Lib.hid HE.out
    go_enter Tryd.func24, Tryd.ntmps24
    go_wp2_with fail
    refine HN.out.mono ?_
    rintro e w' ⟨rfl, rfl⟩
    go_wp2_with fail
    refine HM.out.mono ?_
    rintro e w' ⟨rfl, rfl⟩
    go_wp2_with fail
    go_region_held3 (fun w' => w'.cell? ⟨O, 0, none⟩ = some (.slice (some ⟨g, 0, none⟩) ws.length c) ∧ w'.cell? ⟨O, 1, none⟩ = some (.int .i64 n) ∧ w'.cell? ⟨O', 0, none⟩ = some (.slice (some ⟨g', 0, none⟩) ws'.length c') ∧ w'.cell? ⟨O', 1, none⟩ = some (.int .i64 n))
      (first | exact ⟨a0, a1, b0, b1⟩ | exact ⟨e0, e1, e2, e3⟩)
      (first
       | (go_at_call 36
          refine HE.out.mono ?_
          rintro e w1 ⟨rfl, k, rfl⟩
          have e0 : (w.drew.drewN k).cell? ⟨O, 0, none⟩ = some (.slice (some ⟨g, 0, none⟩) ws.length c) := a0
          have e1 : (w.drew.drewN k).cell? ⟨O, 1, none⟩ = some (.int .i64 n) := a1
          have e2 : (w.drew.drewN k).cell? ⟨O', 0, none⟩ = some (.slice (some ⟨g', 0, none⟩) ws'.length c') := b0
          have e3 : (w.drew.drewN k).cell? ⟨O', 1, none⟩ = some (.int .i64 n) := b1))
    go_wp2_with fail
    go_ret
    exact ⟨rfl, below_drewN (Below.refl _ w) (1 + k)⟩
  · rw [decide_eq_false hn, Bool.false_and]
    have hn2 : ((n : Int) == (n' : Int)) = false := by simp; omega
    have hn3 : ¬ (n : Int) = n' := by omega
    go_enter Tryd.func24, Tryd.ntmps24
    go_wp2_with fail
    refine HN.out.mono ?_
    rintro e w' ⟨rfl, rfl⟩
    go_wp2_with fail
    refine HM.out.mono ?_
    rintro e w' ⟨rfl, rfl⟩
    go_wp2_with fail
    go_quiet (fail)
    go_wp2_with fail
    go_ret
    exact ⟨rfl, below_drewN (Below.refl _ w) nq⟩
theorem made_w64 (k : Nat) (hk : k ≤ 10000) (w : World) : (Instr.makeSlice 22 (.int .i64 (k : Int)) (.int .i64 (k : Int))).run Tryd.prog w =
    .ok (.slice (some ⟨w.heap.size, 0, none⟩) k k) (w.alloc (.cells (Array.replicate k (vw 0#64)) 60)) := by
  obtain ⟨i0, hi0, hz0, hz1, hz2⟩ := info_parts (elem_w64).info
  have h := run_makeSlice (P := Tryd.prog) (w := w) 22 60 i0 (.int .u64 0) (elem_w64).under hi0 hz0 .i64 .i64 (k : Int) (k : Int) (by omega) (by omega) (by rw [hz1]; simp; omega) (by rw [hz2]; simp; omega) (by omega)
  rw [h, hz1]
  have e : madeCells (Value.int .u64 0).cells ((k : Int).toNat * 1) = Array.replicate k (vw 0#64) := by
    apply Array.ext
    · simp [madeCells]
    · intro i h1 h2
      simp [madeCells, Value.cells, Nat.mod_one]
  rw [e]
  simp
set_option maxHeartbeats 1000000 in
theorem new_bad (bits : Int) (w : World) (h : ¬ (1 ≤ bits ∧ bits ≤ 65536)) : Calls Tryd.prog 17 #[.int .i64 bits] w fun e w' => e = .returned (.tuple #[.pointer none, .int .i64 2]) ∧ w = w' := by
  by_cases h1 : bits < 1
  · go_enter Tryd.func17, Tryd.ntmps17
    go_wp2
    go_ret2
    exact ⟨rfl, rfl⟩
  · have h2 : 65536 < bits := by omega
    go_enter Tryd.func17, Tryd.ntmps17
    go_wp2
    go_ret2
    exact ⟨rfl, rfl⟩
set_option maxHeartbeats 2000000 in
theorem new_bm (n : Nat) (w : World) (h1 : 1 ≤ n) (h2 : n ≤ 65536) : Calls Tryd.prog 17 #[.int .i64 n] w fun e w' => ∃ p, e = .returned (.tuple #[p, .int .i64 0]) ∧ NewBm (List.replicate ((n + 63) / 64) 0#64) n w p w' := by
  obtain ⟨k, hk⟩ : ∃ k, (n + 63) / 64 = k := ⟨_, rfl⟩
  have hmk := made_w64 k (by omega)
  have hq : ((n : Int) + 64 - 1).tdiv 64 = (k : Int) := by rw [Int.tdiv_eq_ediv_of_nonneg (by omega)]; omega
  have hq2 : ((n : Int) + 63).tdiv 64 = (k : Int) := by rw [Int.tdiv_eq_ediv_of_nonneg (by omega)]; omega
  have hk2 : (k : Int) ≤ 10000 := by omega
  have hw1 : IntKind.i64.wrap ((n : Int) + 64) = (n : Int) + 64 := by rw [IntKind.wrap_i64]; omega
  have hw2 : IntKind.i64.wrap ((n : Int) + 64 - 1) = (n : Int) + 64 - 1 := by rw [IntKind.wrap_i64]; omega
  have hw3 : IntKind.i64.wrap (k : Int) = (k : Int) := by rw [IntKind.wrap_i64]; omega
  have hn1 : (1 : Int) ≤ n := by omega
  have hn2 : (n : Int) ≤ 65536 := by omega
  obtain ⟨wa, hwa⟩ : ∃ wa, w.alloc (.cells (Array.replicate k (vw 0#64)) 60) = wa := ⟨_, rfl⟩
  have hg : wa.heap[w.heap.size]? = some (.cells (Array.replicate k (vw 0#64)) 60 (0, 0)) := by rw [← hwa]; exact World.alloc_heap_new _ _
  have hza : wa.heap.size = w.heap.size + 1 := by rw [← hwa]; simp
  have hba : Below w.heap.size w wa := by rw [← hwa]; exact (Below.refl _ _).alloc (Nat.le_refl _) _
  have hbm : BmAt (wa.alloc (.cells #[.slice (some ⟨w.heap.size, 0, none⟩) k k, .int .i64 n] 51)) wa.heap.size w.heap.size k (List.replicate k 0#64) n := by
    refine ⟨?_, ⟨by simp, by simp, by unfold maxLen; omega, .inr ⟨_, _, _, rfl, (Below.heap_alloc _ _ _ (by omega)).trans hg, by simp, by simp⟩⟩, by omega, by simp [hk], h1, h2⟩
    have := World.alloc_heap_new wa (.cells #[.slice (some ⟨w.heap.size, 0, none⟩) k k, .int .i64 n] 51)
    rw [List.length_replicate]
    exact this
  have HB := Lib.hid (And.intro hbm (And.intro hba hza))
  have HWA := Lib.hid hwa
  have HK := Lib.hid hk
  rw [hk]
  clear hbm hba hza hg hk hwa
  go_enter Tryd.func17, Tryd.ntmps17
  go_wp2_with fail
  rw [HWA.out]
  go_ret2
  obtain ⟨h1, h2, h3⟩ := HB.out
  rw [h3] at h1
  exact ⟨_, rfl, _, _, _, rfl, h1, by omega, Nat.le_refl _, h2.alloc h2.size _⟩
end Go.Proofs.YtljegehfdmgcbaaDoor
