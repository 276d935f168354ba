/- The walks of the bits of a word. -/
import Derived.Test.YtljegehfdmgcbaaDoorBitsLaw
import Derived.Test.YtljegehfdmgcbaaDoorKeep
import Derived.Test.YtljegehfdmgcbaaDoorRows
namespace Go.Proofs.YtljegehfdmgcbaaDoor
open Go Go.RowKit
attribute [local go_sem] Oper.semAt_some

/-- The library's table lies in its variable. -/
def TabAt (w : World) : Prop := ∀ j, j < 64 → w.cell? ⟨0, j, none⟩ = some (.int .u8 (Lib.deBruijn64tab.getD j 0 : Nat))
theorem TabAt.keep {w w' : World} (h : TabAt w) (hb : w'.heap[0]? = w.heap[0]?) : TabAt w' := fun j hj => (World.cell?_of_block (w := w) (a := ⟨0, j, none⟩) hb).trans (h j hj)
theorem TabAt.lt {w : World} (h : TabAt w) : 0 < w.heap.size := World.block_lt_of_cell? w ⟨0, 0, none⟩ (h 0 (by omega))

set_option maxHeartbeats 1000000 in
theorem tz_core (x k idx : Nat) (w : World) (hx0 : ((x : Int) == 0) = false)
    (key : IntKind.u64.wrap (bits BinOp.and IntKind.u64 (x : Int) (IntKind.u64.wrap (-(x : Int))) * 285870213051353865) / 288230376151711744 = (idx : Int))
    (hi : idx < 64) (hk : k < 64) (hcell : w.cell? ⟨0, idx, none⟩ = some (.int .u8 k)) :
    Calls Tryd.prog 45 #[.int .u64 x] w fun e w' => e = .returned (.int .i64 k) ∧ w = w' := by
  go_enter Tryd.func45, Tryd.ntmps45
  go_wp2_with (simp only [key])
  go_ret
  exact ⟨rfl, rfl⟩
theorem tz_key (x a : Nat) (hx : x < 18446744073709551616) (hx0 : x ≠ 0) (hlow : x &&& (18446744073709551616 - x) = a) :
    IntKind.u64.wrap (bits BinOp.and IntKind.u64 (x : Int) (IntKind.u64.wrap (-(x : Int))) * 285870213051353865) / 288230376151711744 = ((a * 285870213051353865 % 18446744073709551616 / 288230376151711744 : Nat) : Int) := by
  have e1 : IntKind.u64.wrap (-(x : Int)) = ((18446744073709551616 - x : Nat) : Int) := by rw [IntKind.wrap_u64]; omega
  rw [e1, u64_and_nat x _ hx (by omega), hlow, IntKind.wrap_u64]
  omega
theorem tz_any (x : BitVec 64) (hx : x ≠ 0#64) (w : World) (hT : TabAt w) :
    Calls Tryd.prog 45 #[vw x] w fun e w' => e = .returned (.int .i64 (ctzW x)) ∧ w = w' := by
  have h0 : x.toNat ≠ 0 := fun h => hx (BitVec.eq_of_toNat_eq (by simpa using h))
  obtain ⟨hlow, hk⟩ := Lib.lowest_bit 64 x.toNat h0 x.isLt
  obtain ⟨hi, htab⟩ := Lib.deBruijn64_at _ hk
  have hcell := hT _ hi
  rw [htab] at hcell
  exact tz_core x.toNat _ _ w (by simp; omega) (tz_key x.toNat _ x.isLt h0 hlow) hi hk hcell

theorem dec_w (x : BitVec 64) : IntKind.u64.wrap ((x.toNat : Int) - 1) = ((decw x).toNat : Int) := by
  have hx := x.isLt
  unfold decw
  rw [IntKind.wrap_u64, BitVec.toNat_sub]
  simp
  omega
def bitsLeft (v : Value) : Nat := (bitsL (BitVec.ofInt 64 (intOf v))).length
theorem bitsLeft_w (y : BitVec 64) : bitsLeft (vw y) = (bitsL y).length := by
  have : BitVec.ofInt 64 (intOf (vw y)) = y := by simp [intOf]
  rw [bitsLeft, this]
abbrev vn (i : Nat) : Value := .int .i64 (i : Int)

set_option maxRecDepth 100000 in
set_option maxHeartbeats 1000000 in
theorem bits1_iter (Bs : Nat) (x : BitVec 64) (w : World) (hBs : w.cell? ⟨Bs, 0, none⟩ = some (vw x)) (hT : TabAt w) :
    Iter Tryd.prog 44 #[.pointer (some ⟨Bs, 0, none⟩)] ((bitsL x).map fun i => #[vn i]) (fun b => b = Bs ∨ b = 0) w := by
  intro l J Jx W T hW hTT hJ hJx hY h0
  have hlt := World.block_lt_of_cell? w _ hBs
  have hBs' : W.cell? ⟨Bs, 0, none⟩ = some (vw x) := (World.cell?_of_block (w := w) (a := ⟨Bs, 0, none⟩) (hW.block Bs (.inl rfl) hlt)).trans hBs
  have hT' : TabAt W := hT.keep (hW.block 0 (.inr rfl) hT.lt)
  have hlen := bitsL_len x
  have hY' : ∀ k (hk : k < (bitsL x).length) T' W1, (∀ b, T' b → b < W1.heap.size) → J k T' W1 → YieldAt Fence.wide 0 Tryd.prog l #[vn (bitsL x)[k]] W1 fun e W' =>
      (e = .returned (.bool true) ∧ J (k + 1) T' W' ∧ Kps (fun b => (b = Bs ∨ b = 0) ∨ T' b) W1 W') ∨
      (e = .returned (.bool false) ∧ Jx (k + 1) T' W' ∧ Kps (fun b => (b = Bs ∨ b = 0) ∨ T' b) W1 W') := by
    intro k hk T' W1 h1 h2
    have := hY k (by simpa using hk) T' W1 h1 h2
    simpa using this
  rw [List.length_map]
  clear hY
  have HY := Lib.hid hY'
  have HT := Lib.hid hT'
  clear hY' hJ hJx hBs hT hT' hlt
  refine callsIn_of_wp Tryd.func44 rfl trivial ?_ rfl
  simp only [Tryd.ntmps44, List.size_toArray, List.length_cons, List.length_nil, Nat.reduceAdd, Nat.reduceSub, Array.replicate_succ, Array.replicate_zero, List.push_toArray, List.append_toArray, List.nil_append, List.cons_append]
  gi_wp2
  apply wpIn_scope_wide
  gi_wp2
  apply wpIn_label
  gi_wp2
  gi_loopw [3] (fun v wr => ∃ (k : Nat) (y : BitVec 64), k ≤ (bitsL x).length ∧ v = vw y ∧ Hid (leftOk x k y) ∧ J k T wr ∧ Kps (fun b => (b = Bs ∨ b = 0) ∨ T b) W wr)
    (fun v _ => bitsLeft v)
  case atStart => exact ⟨0, x, Nat.zero_le _, rfl, Lib.hid (leftOk_zero x), h0, Kps.refl _ _⟩
  case round =>
    obtain ⟨k, y, hk, rfl, hl, hJs, hnx⟩ := hrel
    by_cases hy : y = 0#64
    · have he := leftOk_end hl.out hk hy
      have hz : (((y.toNat : Int)) != 0) = false := by rw [hy]; rfl
      obtain rfl : k = (bitsL x).length := he
      clear hy
      clear HY
      gi_wp2
      rw [Exit.noGoto_normal]
      gi_wp2
      go_end0
      exact ⟨⟨_, rfl⟩, .inl ⟨T, hJs, fun b hb => Nat.lt_of_lt_of_le (hTT b hb) hnx.size⟩⟩
    · obtain ⟨hlt, hck, hl2⟩ := leftOk_lt hl.out hy
      have hz : (((y.toNat : Int)) != 0) = true := by
        simp only [bne_iff_ne, ne_eq]
        exact fun h => hy (BitVec.eq_of_toNat_eq (by simpa using h))
      have HL2 := Lib.hid hl2
      have hwt : TabAt wr := HT.out.keep (hnx.block 0 (.inl (.inr rfl)) HT.out.lt)
      have htz := tz_any y hy wr hwt
      rw [← hck] at htz
      have HTZ := Lib.hid htz
      have hm1 : (bitsL y).length = (bitsL (clr y)).length + 1 := by rw [bitsL_cons y hy]; rfl
      have HM1 := Lib.hid hm1
      have e1 := dec_w y
      have e2 := bits_and_w y (decw y)
      clear hl2 hwt htz hck hy hm1
      gi_wp2
      refine wcall HTZ.out ?_
      rintro e w1 ⟨rfl, rfl⟩
      obtain ⟨fn, tmps, assign, body, hyy, hR⟩ := HY.out k hlt T wr (fun b hb => Nat.lt_of_lt_of_le (hTT b hb) hnx.size) hJs
      clear HY
      gi_wp2
      refine ⟨rfl, hR.mono ?_⟩
      clear hR hyy
      rintro e W3 (⟨rfl, hJ3, hk3⟩ | ⟨rfl, hJx3, hk3⟩)
      · gi_wp2
        go_roundw
        case rel => exact ⟨k + 1, clr y, by omega, rfl, HL2, hJ3, hnx.trans hk3⟩
        case measure =>
          have := HM1.out
          show bitsLeft (vw (clr y)) < bitsLeft (vw y)
          rw [bitsLeft_w, bitsLeft_w]; omega
      · gi_wp2
        rw [Exit.noGoto_normal]
        gi_wp2
        go_end0
        exact ⟨⟨_, rfl⟩, .inr ⟨k + 1, T, by omega, by omega, hJx3, fun b hb => Nat.lt_of_lt_of_le (hTT b hb) (hnx.trans hk3).size⟩⟩

set_option maxHeartbeats 400000 in
theorem bits_any (x : BitVec 64) (w : World) :
    Calls Tryd.prog 39 #[vw x] w fun e w' => e = .returned (.func (.func 44) #[] #[.pointer (some ⟨w.heap.size, 0, none⟩)]) ∧ w.alloc (.cells #[vw x] 60) = w' := by
  go_enter Tryd.func39, Tryd.ntmps39
  go_wp2
  go_ret
  exact ⟨rfl, rfl⟩

set_option maxRecDepth 100000 in
set_option maxHeartbeats 1000000 in
theorem ones_any (x : BitVec 64) (w : World) (hT : TabAt w) :
    Calls Tryd.prog 32 #[vw x] w fun e w' => e = .returned (vn (bitsL x).length) ∧ Below w.heap.size w w' := by
  have hlen := bitsL_len x
  have hT0 := hT.lt
  refine (callsIn_wide (n := 0)).1 ?_
  refine callsIn_of_wp_marks Tryd.func32 rfl trivial ?_ rfl
  simp only [Tryd.ntmps32, List.size_toArray, List.length_cons, List.length_nil, Nat.reduceAdd, Nat.reduceSub, Array.replicate_succ, Array.replicate_zero, List.push_toArray, List.append_toArray, List.nil_append, List.cons_append]
  gi_wp2
  refine wcall (bits_any _ _) ?_
  rintro e w' ⟨rfl, rfl⟩
  gi_wp2
  obtain ⟨W0, hW0⟩ : ∃ W0, (w.alloc (Obj.cells #[vn 0] 3)).alloc (Obj.cells #[vw x] 60) = W0 := ⟨_, rfl⟩
  have hA0 : At w.heap.size w W0 := by rw [← hW0]; exact ((At.start w).alloc _).alloc _
  have hB0 : Box W0 w.heap.size 3 (vn 0) := by rw [← hW0]; exact (Box.new _ _ _).alloc _
  have hB1 : Box W0 (w.heap.size + 1) 60 (vw x) := by rw [← hW0]; have := Box.new (w.alloc (Obj.cells #[vn 0] 3)) 60 (vw x); rwa [World.size_alloc] at this
  have hT1 : TabAt W0 := hT.keep (hA0.1.block 0 hT0)
  have HA := Lib.hid hA0
  have HT1 := Lib.hid hT1
  have HW := Lib.hid hW0
  have hs0 := hB1.lt
  rw [show vn 0 = Value.int IntKind.i64 0 from rfl] at hW0
  rw [hW0]
  clear hW0 hA0 hT1 hT
  refine rf_law (gf := 44) (lb := #[.pointer (some ⟨w.heap.size + 1, 0, none⟩)]) rfl (enters_of Tryd.func44 (by kernel_rfl) rfl)
    (bits1_iter (w.heap.size + 1) x W0 hB1.cell HT1.out) (by simp) ?hFP
    (fun k T W => Keep (fun b => b = w.heap.size) W0 T W ∧ Box W w.heap.size 3 (vn k))
    (fun _ _ _ _ => False) ?hJ (fun _ _ _ _ _ h _ => h) ?h0 ?hround ?hdone ?hstop
  case hFP =>
    rintro b (rfl | rfl) <;> omega
  case hJ =>
    rintro k T W W' ⟨h1, h2⟩ hf
    exact ⟨h1.go hf, h2.kept (h1.own hf hB0.lt)⟩
  case h0 => exact ⟨Keep.start _ _, hB0⟩
  case hround =>
    rintro l k hk T W ⟨hs, hbox⟩ hTl hTW hkW
    have hk' : k < (bitsL x).length := by simpa using hk
    gi_wp2
    refine ⟨Kps.refl _ _, fun W2 hf hsz hk2 _ => ?_⟩
    have hs2 := hs.goSame hf hsz
    have hbox2 := hbox.kept (hs.own hf hB0.lt)
    have hc := hbox2.cell
    have hfz := hbox2.free
    have HS2 := Lib.hid hs2
    have HB2 := Lib.hid hbox2
    clear hf hkW hk2 hs hbox hs2 hbox2 hB0 hB1
    gi_wp2
    refine ⟨⟨HS2.out.set ⟨w.heap.size, 0, none⟩ (.inl rfl) _, ?_⟩, ?_⟩
    · have := HB2.out.set (vn (k + 1))
      have e : Value.int IntKind.i64 ((k : Int) + 1) = vn (k + 1) := by simp [vn]
      rw [e]; exact this
    · refine kps_set ⟨w.heap.size, 0, none⟩ ?_ (HS2.out.notT (b := w.heap.size) (by omega)) _
      intro h
      have h' : w.heap.size = w.heap.size + 1 ∨ w.heap.size = 0 := h
      omega
  case hdone =>
    rintro D T W ⟨hs, hbox⟩ hTD hTW hkW hD hK
    rw [List.length_map] at hbox
    have hc := hbox.cell
    have hfz := hbox.free
    have HS := Lib.hid hs
    clear hkW hB0 hB1 hs
    gi_wp2
    have hne : D ≠ w.heap.size := by omega
    refine ⟨by simp, .inl ⟨_, _, rfl, run_takeDeferred ((Below.heap_setCell W ⟨w.heap.size, 0, none⟩ _ D hne).trans hK), ?_⟩⟩
    have hc2 := (hbox.set (vn (bitsL x).length)).cell
    refine ⟨_, results_cell1 rfl _ _ rfl (v := vn (bitsL x).length) ?_, rfl, ?_⟩
    · have hc3 := (cell_putObj (o := .deferred none) hne 0).trans hc2
      simp [go_sem, hc3]
    · exact below_putObj ((HS.out.at HA.out (by rintro b rfl; exact Nat.le_refl _)).1.setCell (p := ⟨w.heap.size, 0, none⟩) (Nat.le_refl _) _) (by have := HA.out.2; omega) _
  case hstop =>
    intro D c k T W _ _ h
    exact h.elim

end Go.Proofs.YtljegehfdmgcbaaDoor
