/- The walk of the law WordsBits. -/
import Derived.Test.YtifmhgfijjjfeaaDoorWordsF
import Derived.Test.YtifmhgfijjjfeaaDoorWordsD
import Derived.Sort.CutIn
import Derived.Deep.RegionWith
namespace Go.Proofs.YtifmhgfijjjfeaaDoor
open Go Go.RowKit
attribute [local go_sem] Oper.semAt_some

theorem elem_int : ElemIs Tryd.prog 23 3 (.int .i64 0) 1 8 := ⟨by kernel_rfl, by kernel_rfl, rfl, by decide⟩
theorem half_w (x : BitVec 64) (k : Nat) : ((shrw x k).toNat : Int) / (2 : Int) = ((shrw x (k + 1)).toNat : Int) := by
  rw [shr1_w]; unfold shrw
  rw [BitVec.shiftRight_add]
theorem odd_w (x : BitVec 64) (k : Nat) : (((shrw x k).toNat : Int) % (2 : Int) == 1) = decide ((shrw x k).toNat % 2 = 1) := by
  have e : ((shrw x k).toNat : Int) % (2 : Int) = (((shrw x k).toNat % 2 : Nat) : Int) := by simp
  rw [e]
  by_cases h : (shrw x k).toNat % 2 = 1
  · rw [h]; rfl
  · have : (shrw x k).toNat % 2 = 0 := by omega
    rw [this]; rfl

set_option maxRecDepth 100000 in
set_option maxHeartbeats 1000000 in
theorem refBits_any (x : BitVec 64) (w : World) :
    Calls Tryd.prog 4 #[vw x] w (RetOwn 3 vn (bitsL x) w) := by
  have h0 : vw x = vw (shrw x 0) := by simp [shrw]
  have H0 := Lib.hid h0
  clear h0
  go_enter Tryd.func4, Tryd.ntmps4
  go_wp2
  go_loopw [0, 3, 4] (fun v o i wr => ∃ k : Nat, k ≤ 64 ∧ i = .int .i64 k ∧ v = vw (shrw x k) ∧ wr.ownsRow w.heap.size 3 1 o (bitsTo x k).length ((bitsTo x k).map vn) ∧ Below w.heap.size w wr ∧ w.heap.size ≤ wr.heap.size) (fun _ _ i _ => 64 - (intOf i).toNat)
  case atStart => exact ⟨0, by omega, rfl, H0.out, World.ownsRow_nil _ _ _ _, Below.refl _ _, Nat.le_refl _⟩
  case round =>
    obtain ⟨k, hk, rfl, rfl, hown, hb, hsz⟩ := hrel
    by_cases hlt : k < 64
    · have h1 := odd_w x k
      have h2 := half_w x k
      have hl := bitsTo_len x k
      have HS := Lib.hid (bitsTo_succ x k)
      by_cases ho : (shrw x k).toNat % 2 = 1
      · rw [show decide ((shrw x k).toNat % 2 = 1) = true by simp [ho]] at h1
        have HE := Lib.hid (show bitsTo x (k + 1) = bitsTo x k ++ [k] by rw [HS.out, if_pos ho])
        clear ho
        go_wp2_with (
          at_builtin
          refine wpList_append1 rfl _ _ _ rfl elem_int vn w.heap.size (bitsTo x k) k _ rfl _ _ rfl (hown.alloc _) 3 (Box.new _ 3 (vn k)) rfl ?_ ?_ ?_ ?_
          · omega
          · omega
          · simp; omega
          intro v' w3 hown3 hg _ _)
        refine ⟨⟨k + 1, by omega, by go_num, rfl, by rw [HE.out]; exact hown3, ?_, ?_⟩, by simp [intOf]; omega⟩
        · exact below_grown (hb.alloc hsz _) hg (by simp; omega) (fun b hb => (hown.lt b hb).1)
        · have := hg.size; simp at this; omega
      · rw [show decide ((shrw x k).toNat % 2 = 1) = false by simp [ho]] at h1
        have HE := Lib.hid (show bitsTo x (k + 1) = bitsTo x k by rw [HS.out, if_neg ho]; simp)
        clear ho
        go_wp2
        refine ⟨⟨k + 1, by omega, by go_num, rfl, by rw [HE.out]; exact hown, hb, hsz⟩, by simp [intOf]; omega⟩
    · obtain rfl : k = 64 := by omega
      go_wp2
      go_ret
      exact ⟨_, rfl, hown, hb⟩

/-- How many rounds there are where one leaves behind so many. -/
def LeaveAt (many : Int) (len m : Nat) : Prop := (many ≤ 1 ∧ m ≤ 1 ∧ m ≤ len ∧ (m = 1 ∨ m = len)) ∨ (1 < many ∧ (m : Int) ≤ many ∧ m ≤ len ∧ ((m : Int) = many ∨ m = len))

/-- What the two loops know between them: the variables' boxes. -/
structure BitsAt (w : World) (x : BitVec 64) (many : Int) (p : Option Addr) (cap : Nat) (b1 bt : Nat) (turn : Nat) (W : World) : Prop where
  at_ : At w.heap.size w W
  le : w.heap.size + 2 ≤ b1
  lt : b1 + 1 < bt
  bm : Box W w.heap.size 3 (.int .i64 many)
  br : Box W (w.heap.size + 1) 4 (.bool false)
  bw : Box W b1 23 (.slice p (bitsL x).length cap)
  bs : Box W (b1 + 1) 22 (vw x)
  bt : Box W bt 3 (vn turn)
  rd : RdL b1 W p cap vn (bitsL x)
  tab : TabAt W
/-- Another block that turns. -/
theorem BitsAt.kept {w : World} {x : BitVec 64} {many : Int} {p : Option Addr} {cap : Nat} {b1 bt : Nat} {turn : Nat} {W W' : World} {X : Nat → Prop} {T : Nat → Prop} (h : BitsAt w x many p cap b1 bt turn W) (hk : Keep X W T W')
    (hX : ∀ b, X b → bt < b) : BitsAt w x many p cap b1 bt turn W' := by
  have hl := h.lt
  have hle := h.le
  have nx : ∀ b, b ≤ bt → ¬ X b := fun b hb hx => by have := hX b hx; omega
  refine ⟨hk.at h.at_ (fun b hb => by have := hX b hb; omega), h.le, h.lt, hk.box h.bm (nx _ (by omega)), hk.box h.br (nx _ (by omega)), hk.box h.bw (nx _ (by omega)), hk.box h.bs (nx _ (by omega)), hk.box h.bt (nx _ (by omega)), ?_, ?_⟩
  · exact h.rd.keep fun a ha h0 => hk.frn.block _ (by have := h.rd.lt ha h0; have := h.bw.lt; omega) (nx _ (by have := h.rd.lt ha h0; omega))
  · exact h.tab.keep (hk.frn.block 0 h.tab.lt (nx 0 (by omega)))

set_option maxRecDepth 100000 in
set_option maxHeartbeats 4000000 in
theorem lawWordsBits (x : BitVec 64) (many : Int) (w : World) (hT : TabAt w) :
    Calls Tryd.prog 3 #[vw x, .int .i64 many] w fun e w' => e = .returned (.bool true) ∧ Below w.heap.size w w' := by
  have hlen := bitsL_len x
  have hT0 := hT.lt
  have HT := Lib.hid hT
  clear hT
  have hfn : ∀ (W : World) (k : Nat), (binOp .eql 26 (.func (.func 8) #[] #[.pointer (some ⟨k, 0, none⟩)]) .nilFunc).run Tryd.prog W = .ok (.bool false) W := fun _ _ => by kernel_rfl
  refine (callsIn_wide (n := 0)).1 ?_
  refine callsIn_of_wp_marks Tryd.func3 rfl trivial ?_ rfl
  simp only [Tryd.ntmps3, List.size_toArray, List.length_cons, List.length_nil, Nat.reduceAdd, Nat.reduceSub, Array.replicate_succ, Array.replicate_zero, List.push_toArray, List.append_toArray, List.nil_append, List.cons_append]
  gi_wp2
  refine wcall (refBits_any x _) ?_
  rintro e w1 ⟨v, rfl, hown, hb⟩
  obtain ⟨p, cap, rfl, hr, hpb⟩ := rdl_of_owns hown
  have HR := Lib.hid hr
  have HB := Lib.hid hb
  clear hr hb hown
  gi_wp2
  refine wcall (bits_any x _) ?_
  rintro e w2 ⟨rfl, rfl⟩
  gi_wp2
  obtain ⟨W0, hW0⟩ : ∃ W0, ((w1.alloc (Obj.cells #[Value.slice p (bitsL x).length cap] 23)).alloc (Obj.cells #[vw x] 22)).alloc (Obj.cells #[Value.int IntKind.i64 0] 3) = W0 := ⟨_, rfl⟩
  have hA0 : BitsAt w x many p cap w1.heap.size (w1.heap.size + 2) 0 W0 := by
    have hB := HB.out
    have hA1 : At w.heap.size w w1 := (((At.start w).alloc (Obj.cells #[Value.int IntKind.i64 many] 3)).alloc (Obj.cells #[Value.bool false] 4)).below hB
    have hs1 := hB.size
    have b0 : Box w1 w.heap.size 3 (.int .i64 many) := ((Box.new w 3 (.int .i64 many)).alloc _).below hB (by simp only [World.size_alloc]; omega)
    have b1 : Box w1 (w.heap.size + 1) 4 (.bool false) := by
      have := Box.new (w.alloc (Obj.cells #[Value.int IntKind.i64 many] 3)) 4 (.bool false)
      rw [World.size_alloc] at this
      exact this.below hB (by simp [World.size_alloc])
    have b2 := Box.new w1 23 (.slice p (bitsL x).length cap)
    have b3 := Box.new (w1.alloc (Obj.cells #[Value.slice p (bitsL x).length cap] 23)) 22 (vw x)
    have b4 := Box.new ((w1.alloc (Obj.cells #[Value.slice p (bitsL x).length cap] 23)).alloc (Obj.cells #[vw x] 22)) 3 (vn 0)
    rw [World.size_alloc] at b3
    rw [World.size_alloc, World.size_alloc] at b4
    rw [← hW0]
    simp only [World.size_alloc] at hs1
    have hb : Below w1.heap.size w1 (((w1.alloc (Obj.cells #[Value.slice p (bitsL x).length cap] 23)).alloc (Obj.cells #[vw x] 22)).alloc (Obj.cells #[Value.int IntKind.i64 0] 3)) :=
      (((Below.refl _ _).alloc (Nat.le_refl _) _).alloc (by simp) _).alloc (by simp only [World.size_alloc]; omega) _
    exact ⟨hA1.below hb, by omega, by omega, ((b0.alloc _).alloc _).alloc _, ((b1.alloc _).alloc _).alloc _, (b2.alloc _).alloc _, b3.alloc _, b4, HR.out.below hb, HT.out.keep ((hA1.below hb).1.block 0 hT0)⟩
  rw [hW0]
  have HA0 := Lib.hid hA0
  clear hA0 hW0 HB HR
  refine wpIn_loop_rounds 3 ?_
  rw [roundsIn_succ]
  obtain ⟨b0, hb0⟩ : ∃ b0, w1.heap.size + 2 = b0 := ⟨_, rfl⟩
  rw [hb0] at HA0 ⊢
  have hc0 := HA0.out.bt.cell
  gi_wp2
  have hV0 : BitsAt w x many p cap w1.heap.size b0 0 (W0.alloc (Obj.cells #[Value.int IntKind.i64 0] 3)) := HA0.out.kept (X := fun _ => False) (T := fun _ => False) ((Keep.start _ _).alloc _) (fun _ h => h.elim)
  have hbn0 : Box (W0.alloc (Obj.cells #[Value.int IntKind.i64 0] 3)) W0.heap.size 3 (vn 0) := Box.new _ _ _
  have HV0 := Lib.hid hV0
  have HN0 := Lib.hid hbn0
  have hlb0 : b0 < W0.heap.size := HA0.out.bt.lt
  clear hV0 hbn0 hc0
  refine rf_brk (id := 2) (gf := 8) (lb := #[.pointer (some ⟨w1.heap.size + 1, 0, none⟩)]) rfl (enters_of Tryd.func8 (by kernel_rfl) rfl)
    (bits1_iter (w1.heap.size + 1) x _ HV0.out.bs.cell HV0.out.tab) (by simp) ?hFP0
    (fun k T W => Keep (fun b => b = W0.heap.size) (W0.alloc (Obj.cells #[Value.int IntKind.i64 0] 3)) T W ∧ Box W W0.heap.size 3 (vn k) ∧ (k = 0 ∨ (k : Int) < many))
    (fun k T W => Keep (fun b => b = W0.heap.size) (W0.alloc (Obj.cells #[Value.int IntKind.i64 0] 3)) T W ∧ Box W W0.heap.size 3 (vn k) ∧ many ≤ k ∧ (k = 1 ∨ (k : Int) ≤ many)) ?hJ0 ?hJb0
    (fun D W => BitsAt w x many p cap w1.heap.size b0 0 W ∧ (∃ m, Box W W0.heap.size 3 (vn m) ∧ LeaveAt many (bitsL x).length m) ∧ W0.heap.size < D ∧ W.heap[D]? = some (.deferred (some [])) ∧ Frn (fun b => b = W0.heap.size) (W0.alloc (Obj.cells #[Value.int IntKind.i64 0] 3)) W)
    ?h00 ?hround0 ?hdone0 ?hstop0 ?hrest0
  case hFP0 =>
    have h1 := HV0.out.bs.lt
    have h2 := HV0.out.tab.lt
    rintro b (rfl | rfl)
    · exact h1
    · exact h2
  case hJ0 =>
    rintro k T W W' ⟨h1, h2, h3⟩ hf
    exact ⟨h1.go hf, h2.kept (h1.own hf HN0.out.lt), h3⟩
  case hJb0 =>
    rintro k T W W' ⟨h1, h2, h3⟩ hf
    exact ⟨h1.go hf, h2.kept (h1.own hf HN0.out.lt), h3⟩
  case h00 => exact ⟨Keep.start _ _, HN0.out, .inl rfl⟩
  case hround0 =>
    rintro l k hk T W ⟨hs, hbox, hmk⟩ hTl hTW hkW
    have hk' : k < (bitsL x).length := by simpa using hk
    gi_wp2
    refine ⟨Kps.refl _ _, fun W2 hf hsz hk2 _ => ?_⟩
    have hs2 := hs.goSame hf hsz
    have hbox2 := hbox.kept (hs.own hf HN0.out.lt)
    have hA2 := HV0.out.kept hs2 (by rintro b rfl; exact hlb0)
    have hcn := hbox2.cell
    have hfz := hbox2.free
    have hcw := hA2.bw.cell
    have hct := hA2.bt.cell
    have hcm := hA2.bm.cell
    obtain ⟨ob, off, rfl, hob, hcx⟩ := hA2.rd.at k hk'
    have hks : ∀ u, Kps (fun b => (b = w1.heap.size + 1 ∨ b = 0) ∨ T b) W2 (W2.setCell ⟨W0.heap.size, 0, none⟩ u) := by
      intro u
      refine kps_set ⟨W0.heap.size, 0, none⟩ ?_ (hs2.notT (b := W0.heap.size) HN0.out.lt) _
      intro h
      have h' : W0.heap.size = w1.heap.size + 1 ∨ W0.heap.size = 0 := h
      have := HA0.out.bs.lt
      omega
    have HS2 := Lib.hid hs2
    have HB2 := Lib.hid hbox2
    have hk3 : (k : Int) < ((bitsL x).length : Int) := by omega
    have hne1 : w1.heap.size ≠ W0.heap.size := by have := HA0.out.bw.lt; omega
    have hne2 : b0 ≠ W0.heap.size := by omega
    have hne3 : w.heap.size ≠ W0.heap.size := by have := HA0.out.bm.lt; omega
    have hne4 : ob ≠ W0.heap.size := by have := HA0.out.bw.lt; omega
    clear hf hkW hk2 hs hbox hs2 hbox2 hA2
    by_cases hm : many ≤ (k : Int) + 1
    · gi_wp2
      refine ⟨⟨rfl, HS2.out.set ⟨W0.heap.size, 0, none⟩ (.inl rfl) _, ?_, by omega⟩, ?_⟩
      · have := HB2.out.set (vn (k + 1))
        have e : Value.int IntKind.i64 ((k : Int) + 1) = vn (k + 1) := by simp [vn]
        rw [e]; exact this
      · exact hks _
    · gi_wp2
      refine ⟨⟨HS2.out.set ⟨W0.heap.size, 0, none⟩ (.inl rfl) _, ?_, .inr (by omega)⟩, ?_⟩
      · have := HB2.out.set (vn (k + 1))
        have e : Value.int IntKind.i64 ((k : Int) + 1) = vn (k + 1) := by simp [vn]
        rw [e]; exact this
      · exact hks _
  case hdone0 =>
    rintro D T W ⟨hs, hbox, hmk⟩ hTD hTW hkW hD hK
    rw [List.length_map] at hbox hmk
    have hD' : W0.heap.size + 1 ≤ D := by simpa using hD
    refine ⟨HV0.out.kept hs (by rintro b rfl; exact hlb0), ⟨_, hbox, by unfold LeaveAt; omega⟩, by omega, hK, hs.frn⟩
  case hstop0 =>
    rintro D k T W hk hk1 ⟨hs, hbox, hmk⟩ hTD hTW hkW hD hK
    rw [List.length_map] at hk
    have hD' : W0.heap.size + 1 ≤ D := by simpa using hD
    exact ⟨HV0.out.kept hs (by rintro b rfl; exact hlb0), ⟨_, hbox, by unfold LeaveAt; omega⟩, by omega, hK, hs.frn⟩
  rintro D0 V1 ⟨hA1, ⟨m0, hN1, hmm⟩, hD0, hK0, hF0⟩
  have hc1 := hA1.bt.cell
  have hc2 := hA1.bm.cell
  have hc3 := hA1.bw.cell
  have hc4 := hN1.cell
  have HA := Lib.hid hA1
  have HF0 := Lib.hid hF0
  have HM := Lib.hid hmm
  clear hA1 hN1 hF0 hmm
  gi_upto_region 15 with fail
  gi_cut [63] from 43 (fun s63 wx => s63 = .bool false ∧ wx = V1)
  case first =>
    skip
    skip
    gi_wp2
    all_goals first
      | (gi_meet; exact ⟨rfl, rfl⟩)
      | (exfalso; have hmm := HM.out; unfold LeaveAt at hmm; omega)
  obtain ⟨rfl, rfl⟩ := hcut
  gi_wp2
  clear hc1 hc2 hc3 hc4
  obtain ⟨V1', hW1⟩ : ∃ V', wc.alloc (Obj.cells #[Value.int IntKind.i64 1] 3) = V' := ⟨_, rfl⟩
  have hA1 : BitsAt w x many p cap w1.heap.size wc.heap.size 1 V1' := by
    have h := HA.out
    have hl := h.bt.lt
    have h2 := h.kept (X := fun _ => False) (T := fun _ => False) ((Keep.start _ _).alloc (Obj.cells #[Value.int IntKind.i64 1] 3)) (fun _ h => h.elim)
    rw [← hW1]
    exact ⟨h2.at_, h2.le, by have := h2.lt; omega, h2.bm, h2.br, h2.bw, h2.bs, Box.new _ _ _, h2.rd, h2.tab⟩
  have hle0 : wc.heap.size + 1 = V1'.heap.size := by rw [← hW1, World.size_alloc]
  have hk0 : V1'.heap[D0]? = some (.deferred (some [])) := by rw [← hW1]; exact (Below.heap_alloc wc _ _ (Array.getElem?_eq_some_iff.1 hK0).1).trans hK0
  skip
  rw [hW1]
  obtain ⟨b1, hb1⟩ : ∃ b, wc.heap.size = b := ⟨_, rfl⟩
  rw [hb1] at hA1 hle0 ⊢
  have hD0' : D0 < b1 := by have := (Array.getElem?_eq_some_iff.1 hK0).1; omega
  have HA1 := Lib.hid hA1
  have HK0 := Lib.hid hk0
  clear hW1 HA hK0 hk0 
  clear hb1
  clear HF0 HM
  rw [roundsIn_succ]
  have hc1 := HA1.out.bt.cell
  gi_wp2
  have hV1 : BitsAt w x many p cap w1.heap.size b1 1 (V1'.alloc (Obj.cells #[Value.int IntKind.i64 0] 3)) := HA1.out.kept (X := fun _ => False) (T := fun _ => False) ((Keep.start _ _).alloc _) (fun _ h => h.elim)
  have hbn1 : Box (V1'.alloc (Obj.cells #[Value.int IntKind.i64 0] 3)) V1'.heap.size 3 (vn 0) := Box.new _ _ _
  have HV1 := Lib.hid hV1
  have HN1 := Lib.hid hbn1
  have hlb1 : b1 < V1'.heap.size := HA1.out.bt.lt
  clear hV1 hbn1 hc1
  refine rf_brk (id := 2) (gf := 8) (lb := #[.pointer (some ⟨w1.heap.size + 1, 0, none⟩)]) rfl (enters_of Tryd.func8 (by kernel_rfl) rfl)
    (bits1_iter (w1.heap.size + 1) x _ HV1.out.bs.cell HV1.out.tab) (by simp) ?hFP1
    (fun k T W => Keep (fun b => b = V1'.heap.size) (V1'.alloc (Obj.cells #[Value.int IntKind.i64 0] 3)) T W ∧ Box W V1'.heap.size 3 (vn k) ∧ True)
    (fun k T W => Keep (fun b => b = V1'.heap.size) (V1'.alloc (Obj.cells #[Value.int IntKind.i64 0] 3)) T W ∧ Box W V1'.heap.size 3 (vn k) ∧ False) ?hJ1 ?hJb1
    (fun D W => BitsAt w x many p cap w1.heap.size b1 1 W ∧ (∃ m, Box W V1'.heap.size 3 (vn m) ∧ m = (bitsL x).length) ∧ V1'.heap.size < D ∧ W.heap[D]? = some (.deferred (some [])) ∧ Frn (fun b => b = V1'.heap.size) (V1'.alloc (Obj.cells #[Value.int IntKind.i64 0] 3)) W)
    ?h01 ?hround1 ?hdone1 ?hstop1 ?hrest1
  case hFP1 =>
    have h1 := HV1.out.bs.lt
    have h2 := HV1.out.tab.lt
    rintro b (rfl | rfl)
    · exact h1
    · exact h2
  case hJ1 =>
    rintro k T W W' ⟨h1, h2, h3⟩ hf
    exact ⟨h1.go hf, h2.kept (h1.own hf HN1.out.lt), h3⟩
  case hJb1 =>
    rintro k T W W' ⟨h1, h2, h3⟩ hf
    exact ⟨h1.go hf, h2.kept (h1.own hf HN1.out.lt), h3⟩
  case h01 => exact ⟨Keep.start _ _, HN1.out, trivial⟩
  case hround1 =>
    rintro l k hk T W ⟨hs, hbox, hmk⟩ hTl hTW hkW
    have hk' : k < (bitsL x).length := by simpa using hk
    gi_wp2
    refine ⟨Kps.refl _ _, fun W2 hf hsz hk2 _ => ?_⟩
    have hs2 := hs.goSame hf hsz
    have hbox2 := hbox.kept (hs.own hf HN1.out.lt)
    have hA2 := HV1.out.kept hs2 (by rintro b rfl; exact hlb1)
    have hcn := hbox2.cell
    have hfz := hbox2.free
    have hcw := hA2.bw.cell
    have hct := hA2.bt.cell
    have hcm := hA2.bm.cell
    obtain ⟨ob, off, rfl, hob, hcx⟩ := hA2.rd.at k hk'
    have hks : ∀ u, Kps (fun b => (b = w1.heap.size + 1 ∨ b = 0) ∨ T b) W2 (W2.setCell ⟨V1'.heap.size, 0, none⟩ u) := by
      intro u
      refine kps_set ⟨V1'.heap.size, 0, none⟩ ?_ (hs2.notT (b := V1'.heap.size) HN1.out.lt) _
      intro h
      have h' : V1'.heap.size = w1.heap.size + 1 ∨ V1'.heap.size = 0 := h
      have := HA1.out.bs.lt
      omega
    have HS2 := Lib.hid hs2
    have HB2 := Lib.hid hbox2
    have hk3 : (k : Int) < ((bitsL x).length : Int) := by omega
    have hne1 : w1.heap.size ≠ V1'.heap.size := by have := HA1.out.bw.lt; omega
    have hne2 : b1 ≠ V1'.heap.size := by omega
    have hne3 : w.heap.size ≠ V1'.heap.size := by have := HA1.out.bm.lt; omega
    have hne4 : ob ≠ V1'.heap.size := by have := HA1.out.bw.lt; omega
    clear hf hkW hk2 hs hbox hs2 hbox2 hA2
    · gi_wp2
      refine ⟨⟨HS2.out.set ⟨V1'.heap.size, 0, none⟩ (.inl rfl) _, ?_, trivial⟩, ?_⟩
      · have := HB2.out.set (vn (k + 1))
        have e : Value.int IntKind.i64 ((k : Int) + 1) = vn (k + 1) := by simp [vn]
        rw [e]; exact this
      · exact hks _
  case hdone1 =>
    rintro D T W ⟨hs, hbox, hmk⟩ hTD hTW hkW hD hK
    rw [List.length_map] at hbox
    have hD' : V1'.heap.size + 1 ≤ D := by simpa using hD
    refine ⟨HV1.out.kept hs (by rintro b rfl; exact hlb1), ⟨_, hbox, rfl⟩, by omega, hK, hs.frn⟩
  case hstop1 =>
    rintro D k T W hk hk1 ⟨hs, hbox, hmk⟩ hTD hTW hkW hD hK
    exact hmk.elim
  rintro D1 V2 ⟨hA2, ⟨m1, hN2, hmm⟩, hD1, hK1, hF1⟩
  have hc1 := hA2.bt.cell
  have hc2 := hA2.bm.cell
  have hc3 := hA2.bw.cell
  have hc4 := hN2.cell
  have HA := Lib.hid hA2
  have HF1 := Lib.hid hF1
  have HM := Lib.hid hmm
  clear hA2 hN2 hF1 hmm
  gi_upto_region 15 with fail
  gi_cut [63] from 43 (fun s63 wx => s63 = .bool false ∧ wx = V2)
  case first =>
    have hz : m1 = (bitsL x).length := HM.out
    subst hz
    gi_wp2
    all_goals first
      | (gi_meet; exact ⟨rfl, rfl⟩)
      | (exfalso; have hmm := HM.out; unfold LeaveAt at hmm; omega)
  obtain ⟨rfl, rfl⟩ := hcut
  gi_wp2
  clear hc1 hc2 hc3 hc4
  obtain ⟨V2', hW2⟩ : ∃ V', wc.alloc (Obj.cells #[Value.int IntKind.i64 2] 3) = V' := ⟨_, rfl⟩
  have hA2 : BitsAt w x many p cap w1.heap.size wc.heap.size 2 V2' := by
    have h := HA.out
    have hl := h.bt.lt
    have h2 := h.kept (X := fun _ => False) (T := fun _ => False) ((Keep.start _ _).alloc (Obj.cells #[Value.int IntKind.i64 2] 3)) (fun _ h => h.elim)
    rw [← hW2]
    exact ⟨h2.at_, h2.le, by have := h2.lt; omega, h2.bm, h2.br, h2.bw, h2.bs, Box.new _ _ _, h2.rd, h2.tab⟩
  have hle1 : wc.heap.size + 1 = V2'.heap.size := by rw [← hW2, World.size_alloc]
  have hk1 : V2'.heap[D1]? = some (.deferred (some [])) := by rw [← hW2]; exact (Below.heap_alloc wc _ _ (Array.getElem?_eq_some_iff.1 hK1).1).trans hK1
  have hk0' : V2'.heap[D0]? = some (.deferred (some [])) := by rw [← hW2]; exact (Below.heap_alloc wc _ _ (Nat.lt_of_lt_of_le (by have := HV1.out.bt.lt; omega) HF1.out.size)).trans ((HF1.out.block D0 (by have := HV1.out.bt.lt; omega) (by intro h; have h' : D0 = V1'.heap.size := h; omega)).trans ((Below.heap_alloc V1' _ _ (by omega)).trans HK0.out))
  rw [hW2]
  obtain ⟨b2, hb2⟩ : ∃ b, wc.heap.size = b := ⟨_, rfl⟩
  rw [hb2] at hA2 hle1 ⊢
  have hD1' : D1 < b2 := by have := (Array.getElem?_eq_some_iff.1 hK1).1; omega
  have HA2 := Lib.hid hA2
  have HK1 := Lib.hid hk1
  clear hW2 HA hK1 hk1 HK0
  clear hb2
  clear HF1 HM
  rw [roundsIn_succ]
  have hc2 := HA2.out.bt.cell
  gi_wp2
  have hcw := HA2.out.bw.cell
  have hT2 : TabAt V2'.drew := HA2.out.tab
  have HT2 := Lib.hid hT2
  have HK0 := Lib.hid hk0'
  clear hc2 hk0' hT2
  refine wpIn_cutF (fun a' W' => a'.defers = [{ target := .collected D1, args := #[] }, { target := .collected D0, args := #[] }] ∧ a'.tmps.getD 4 undef = .pointer (some ⟨w.heap.size + 1, 0, none⟩) ∧
    Box W' (w.heap.size + 1) 4 (.bool true) ∧ Below w.heap.size w W' ∧ W'.heap[D1]? = some (.deferred (some [])) ∧ W'.heap[D0]? = some (.deferred (some []))) ?afterR ?inR
  case afterR =>
    rintro a' W' ⟨hd, hp, hb, hw, h1, h0⟩
    gi_wp2
    have e1 : D1 ≠ w.heap.size + 1 := by have := HA2.out.le; have := HA2.out.lt; have := HA1.out.lt; omega
    have e0 : D0 ≠ w.heap.size + 1 := by have := HA0.out.le; have := HA0.out.lt; omega
    have hc := (cell_putObj (W := W'.putObj D1 (.deferred none)) (D := D0) (B := w.heap.size + 1) (o := .deferred none) e0 0).trans ((cell_putObj (W := W') (o := .deferred none) e1 0).trans hb.cell)
    refine leave2 hd h1 h0 (by omega) (results_cell1 rfl _ _ hp (v := .bool true) (by simp [go_sem, hc])) ⟨rfl, ?_⟩
    exact below_putObj (below_putObj hw (by have := HA2.out.le; have := HA2.out.lt; have := HA1.out.lt; omega) _) (by have := HA0.out.le; have := HA0.out.lt; omega) _
  case inR =>
   intro K' hK'
   refine wpIn_wide.2 ?_
   have heq : (((bitsL x).length : Int) == ((bitsL x).length : Int)) = true := by simp
   go_region_with (first
     | (go_at_call 6
        refine (ones_any x V2'.drew HT2.out).mono ?_
        rintro e w3 ⟨rfl, hb3⟩
        have hcw3 := (Box.below (W := V2'.drew) HA2.out.bw hb3 HA2.out.bw.lt).cell
        have HB3 := Lib.hid hb3
        clear hb3)
     | (go_at_call 7
        refine (works1_any _).mono ?_
        rintro e w4 ⟨rfl, hb4⟩
        have hbr4 := (Box.below (W := V2'.drew) HA2.out.br HB3.out HA2.out.br.lt).below hb4 (Nat.lt_of_lt_of_le HA2.out.br.lt HB3.out.size)
        have hc4 := hbr4.cell
        have hf4 := hbr4.free
        have HBR := Lib.hid hbr4
        have HB4 := Lib.hid hb4
        clear hb4 hbr4))
   all_goals
     have e1 : D1 ≠ w.heap.size + 1 := by have := HA2.out.le; have := HA2.out.lt; have := HA1.out.lt; omega
     have e0 : D0 ≠ w.heap.size + 1 := by have := HA0.out.le; have := HA0.out.lt; omega
     have hs3 : V2'.heap.size ≤ w3.heap.size := HB3.out.size
     have hk : ∀ D, D < V2'.heap.size → D ≠ w.heap.size + 1 → (w4.setCell ⟨w.heap.size + 1, 0, none⟩ (.bool true)).heap[D]? = V2'.heap[D]? := fun D hD hne =>
       (Below.heap_setCell w4 ⟨w.heap.size + 1, 0, none⟩ _ D hne).trans ((HB4.out.block D (by omega)).trans (HB3.out.block D hD))
     refine hK' _ _ ⟨rfl, rfl, HBR.out.set _, ?_, (hk D1 (by omega) e1).trans HK1.out, (hk D0 (by omega) e0).trans HK0.out⟩
     exact ((HA2.out.at_.drew.below HB3.out).below HB4.out).1.setCell (p := ⟨w.heap.size + 1, 0, none⟩) (Nat.le_succ _) _

end Go.Proofs.YtifmhgfijjjfeaaDoor
