/- The walks of a hash state's rounds. -/
import Derived.Test.YthhdipfadnihjaaApp
import Derived.Test.YthhdipfadnihjaaRows
import Derived.Deep.QuietTactic
import Derived.BigQuiet
import Derived.StillTailTactics
namespace Go.Proofs.Ythhdipfadnihjaa
open Go Go.RowKit

def hget (vs : List (BitVec 64)) (i : Nat) : BitVec 64 := vs.getD i 0#64
/-- A block whose first cells are words; the rest. -/
def Hd (W : World) (B : Nat) (t : TypeId) (vs : List (BitVec 64)) (rest : List Value) : Prop := W.heap[B]? = some (.cells ((vs.map vw) ++ rest).toArray t (0, 0))
theorem Hd.cell {W : World} {B : Nat} {t : TypeId} {vs : List (BitVec 64)} {rest : List Value} (h : Hd W B t vs rest) (i : Nat) (hi : i < vs.length) : W.cell? ⟨B, i, none⟩ = some (vw (hget vs i)) := by
  unfold Hd at h
  simp only [World.cell?, h]
  simp [hget, List.getElem?_append_left, hi]
theorem Hd.rest {W : World} {B : Nat} {t : TypeId} {vs : List (BitVec 64)} {rest : List Value} (h : Hd W B t vs rest) (i : Nat) : W.cell? ⟨B, vs.length + i, none⟩ = rest[i]? := by
  unfold Hd at h
  simp only [World.cell?, h]
  simp [List.getElem?_append_right]
theorem Hd.free {W : World} {B : Nat} {t : TypeId} {vs : List (BitVec 64)} {rest : List Value} (h : Hd W B t vs rest) (i : Nat) : W.frozen? ⟨B, i, none⟩ = false := by
  unfold Hd at h
  simp [World.frozen?, h]
theorem Hd.lt {W : World} {B : Nat} {t : TypeId} {vs : List (BitVec 64)} {rest : List Value} (h : Hd W B t vs rest) : B < W.heap.size := (Array.getElem?_eq_some_iff.1 h).1
theorem Hd.kept {W W' : World} {B : Nat} {t : TypeId} {vs : List (BitVec 64)} {rest : List Value} (h : Hd W B t vs rest) (e : W'.heap[B]? = W.heap[B]?) : Hd W' B t vs rest := e.trans h
theorem Hd.set {W : World} {B : Nat} {t : TypeId} {vs : List (BitVec 64)} {rest : List Value} (h : Hd W B t vs rest) (i : Nat) (hi : i < vs.length) (x : BitVec 64) : Hd (W.setCell ⟨B, i, none⟩ (vw x)) B t (vs.set i x) rest := by
  unfold Hd at *
  show (W.heap.modify B _)[B]? = _
  rw [Array.getElem?_modify, if_pos rfl, h]
  simp [List.map_set, hi]

def rotw (x : BitVec 64) (r : Nat) : BitVec 64 := orw (shlw x r) (shrw x (64 - r))
def halfL (vs : List (BitVec 64)) (a b r : Nat) : List (BitVec 64) := (vs.set a (addw (hget vs a) (hget vs b))).set b (xorw (rotw (hget vs b) r) (addw (hget vs a) (hget vs b)))
def rotL (vs : List (BitVec 64)) (i r : Nat) : List (BitVec 64) := vs.set i (rotw (hget vs i) r)
def roundL (vs : List (BitVec 64)) : List (BitVec 64) := rotL (halfL (halfL (halfL (rotL (halfL vs 0 1 13) 0 32) 2 3 16) 0 3 21) 2 1 17) 2 32
def roundsL : Nat → List (BitVec 64) → List (BitVec 64)
  | 0, vs => vs
  | n + 1, vs => roundL (roundsL n vs)
theorem halfL_len (vs : List (BitVec 64)) (a b r : Nat) : (halfL vs a b r).length = vs.length := by simp [halfL]
theorem rotL_len (vs : List (BitVec 64)) (i r : Nat) : (rotL vs i r).length = vs.length := by simp [rotL]
theorem roundL_len (vs : List (BitVec 64)) : (roundL vs).length = vs.length := by simp [roundL, halfL_len, rotL_len]
theorem roundsL_len (n : Nat) (vs : List (BitVec 64)) : (roundsL n vs).length = vs.length := by
  induction n with
  | zero => rfl
  | succ n ih => simp [roundsL, roundL_len, ih]

theorem and63 (r : Nat) (h : r < 64) : bits .and .u64 (r : Int) 63 = (r : Int) := by
  rw [show (63 : Int) = ((63 : Nat) : Int) from rfl, u64_and_nat _ _ (by omega) (by decide)]
  congr 1
  have : r &&& 63 = r % 64 := Nat.and_two_pow_sub_one_eq_mod r 6
  omega

set_option maxHeartbeats 400000 in
theorem rot_any (x : BitVec 64) (r : Nat) (hr : r < 64) (w : World) :
    Calls Try.prog 110 #[vw x, .int .i64 r] w fun e w' => e = .returned (vw (rotw x r)) ∧ w = w' := by
  have h1 := and63 r hr
  have h2 := shl_w x r
  have h3 : (x.toNat : Int) / 2 ^ (64 - r) = ((shrw x (64 - r)).toNat : Int) := by simpa using shr_w x (64 - r)
  have h4 := bits_or_w (shlw x r) (shrw x (64 - r))
  have h5 : IntKind.u64.wrap (r : Int) = (r : Int) := by rw [wrap_u64]; omega
  have hb : (r : Int) < 64 := by omega
  have h6 : IntKind.u64.wrap (64 - (r : Int)) = ((64 - r : Nat) : Int) := by rw [wrap_u64]; omega
  go_enter Try.func110, Try.ntmps110
  go_wp2
  go_ret
  exact ⟨rfl, rfl⟩

set_option maxRecDepth 100000 in
set_option maxHeartbeats 1000000 in
theorem half_any (B Bv By a b k r : Nat) (t : TypeId) (vs : List (BitVec 64)) (rest : List Value) (w : World) (hv : Box w Bv 183 (.pointer (some ⟨B, 0, none⟩))) (hd : Hd w B t vs rest) (hl : vs.length = 4)
    (ha : a < 4) (hb : b < 4) (hne : a ≠ b) (hk : k < 6) (hr : r < 64) (hy : w.cell? ⟨By, k, none⟩ = some (.int .i64 r)) (hB1 : B ≠ Bv) (hB2 : B ≠ By) :
    Calls Try.prog 109 #[.int .i64 a, .int .i64 b, .int .i64 k, .pointer (some ⟨Bv, 0, none⟩), .pointer (some ⟨By, 0, none⟩)] w fun e w' =>
      e = .returned (.tuple #[]) ∧ Hd w' B t (halfL vs a b r) rest ∧ Frn (fun b => b = B) w w' := by
  have hc := hv.cell
  have ca := hd.cell a (by omega)
  have cb := hd.cell b (by omega)
  have fa := hd.free a
  have fb := hd.free b
  have b1 : (0 : Int) ≤ (a : Int) := by omega
  have b2 : (a : Int) < 4 := by omega
  have b3 : (0 : Int) ≤ (b : Int) := by omega
  have b4 : (b : Int) < 4 := by omega
  have b5 : (0 : Int) ≤ (k : Int) := by omega
  have b6 : (k : Int) < 6 := by omega
  have e1 := add_w (hget vs a) (hget vs b)
  go_enter Try.func109, Try.ntmps109
  go_wp2
  go_still_tail 13, (by kernel_rfl)
  go_wp2
  obtain ⟨w2, hw2⟩ : ∃ w2, (w.setCell ⟨B, a, none⟩ (Value.int IntKind.u64 ((addw (hget vs a) (hget vs b)).toNat : Int))).drew = w2 := ⟨_, rfl⟩
  have hd2 : Hd w2 B t (vs.set a (addw (hget vs a) (hget vs b))) rest := by rw [← hw2]; exact hd.set a (by omega) _
  have hv2 : Box w2 Bv 183 (.pointer (some ⟨B, 0, none⟩)) := by rw [← hw2]; exact hv.other (Ne.symm hB1) _ _
  have hy2 : w2.cell? ⟨By, k, none⟩ = some (.int .i64 r) := by
    rw [← hw2]; exact (World.cell?_of_block (w := w) (a := ⟨By, k, none⟩) (Below.heap_setCell w ⟨B, a, none⟩ _ By (Ne.symm hB2))).trans hy
  have hf2 : Frn (fun b => b = B) w w2 := by rw [← hw2]; exact (Frn.setCell (Frn.refl (fun b => b = B) w) ⟨B, a, none⟩ (.inl rfl) _).drew
  have hl2 : (vs.set a (addw (hget vs a) (hget vs b))).length = 4 := by simp [hl]
  rw [hw2]
  have hg : hget (vs.set a (addw (hget vs a) (hget vs b))) b = hget vs b := by unfold hget; simp [List.getD, hne]
  have hg2 : hget (vs.set a (addw (hget vs a) (hget vs b))) a = addw (hget vs a) (hget vs b) := by simp [hget, hl, ha]
  have da := hd2.cell a (by omega)
  have db := hd2.cell b (by omega)
  rw [hg] at db
  rw [hg2] at da
  have ga := hd2.free a
  have gb := hd2.free b
  have hc2 := hv2.cell
  have HD := Lib.hid hd2
  have HF := Lib.hid hf2
  have e2 := bits_xor_w (rotw (hget vs b) r) (addw (hget vs a) (hget vs b))
  clear hw2 hd2 hf2 hv2 hg hg2 e1 ca cb fa fb hc hl2 hv hd hy
  go_still_tail 19, (by kernel_rfl)
  still_call ((rot_any _ r hr _).mono fun _ _ ⟨h1, h2⟩ => ⟨h1, h2.symm⟩)
  repeat still_step
  refine wpStill_nil ?_
  go_wp2
  go_end0
  refine ⟨rfl, ?_, ?_⟩
  · exact HD.out.set b (by simp [hl, hb]) _
  · exact HF.out.drew.setCell ⟨B, b, none⟩ (.inl rfl) _

/-- What the state's rounds read and write. -/
structure RSt (B Bv By : Nat) (t : TypeId) (rest : List Value) (W0 : World) (vs : List (BitVec 64)) (w : World) : Prop where
  hd : Hd w B t vs rest
  len : vs.length = 4
  hv : Box w Bv 183 (.pointer (some ⟨B, 0, none⟩))
  hy : w.heap[By]? = some (.cells #[.int .i64 13, .int .i64 32, .int .i64 16, .int .i64 21, .int .i64 17, .int .i64 32] 184 (0, 0))
  frn : Frn (fun b => b = B) W0 w
  nv : B ≠ Bv
  ny : B ≠ By
theorem RSt.ycell {B Bv By : Nat} {t : TypeId} {rest : List Value} {W0 : World} {vs : List (BitVec 64)} {w : World} (h : RSt B Bv By t rest W0 vs w) (k : Nat) : w.cell? ⟨By, k, none⟩ = (#[Value.int .i64 13, .int .i64 32, .int .i64 16, .int .i64 21, .int .i64 17, .int .i64 32])[k]? := by
  simp [World.cell?, h.hy]
theorem RSt.next {B Bv By : Nat} {t : TypeId} {rest : List Value} {W0 : World} {vs vs' : List (BitVec 64)} {w w' : World} (h : RSt B Bv By t rest W0 vs w) (hd : Hd w' B t vs' rest) (hl : vs'.length = vs.length) (hf : Frn (fun b => b = B) w w') : RSt B Bv By t rest W0 vs' w' :=
  ⟨hd, hl.trans h.len, h.hv.kept (hf.block Bv h.hv.lt (Ne.symm h.nv)), (hf.block By (Array.getElem?_eq_some_iff.1 h.hy).1 (Ne.symm h.ny)).trans h.hy, h.frn.trans hf, h.nv, h.ny⟩
theorem half1 {B Bv By : Nat} {t : TypeId} {rest : List Value} {W0 : World} {vs : List (BitVec 64)} {w : World} (h : RSt B Bv By t rest W0 vs w) :
    Calls Try.prog 109 #[.int .i64 0, .int .i64 1, .int .i64 0, .pointer (some ⟨Bv, 0, none⟩), .pointer (some ⟨By, 0, none⟩)] w fun e w' => e = .returned (.tuple #[]) ∧ RSt B Bv By t rest W0 (halfL vs 0 1 13) w' :=
  (half_any B Bv By 0 1 0 13 t vs rest w h.hv h.hd h.len (by decide) (by decide) (by decide) (by decide) (by decide) (h.ycell 0) h.nv h.ny).mono fun _ _ ⟨he, h1, h2⟩ => ⟨he, h.next h1 (halfL_len _ _ _ _) h2⟩
theorem half2 {B Bv By : Nat} {t : TypeId} {rest : List Value} {W0 : World} {vs : List (BitVec 64)} {w : World} (h : RSt B Bv By t rest W0 vs w) :
    Calls Try.prog 109 #[.int .i64 2, .int .i64 3, .int .i64 2, .pointer (some ⟨Bv, 0, none⟩), .pointer (some ⟨By, 0, none⟩)] w fun e w' => e = .returned (.tuple #[]) ∧ RSt B Bv By t rest W0 (halfL vs 2 3 16) w' :=
  (half_any B Bv By 2 3 2 16 t vs rest w h.hv h.hd h.len (by decide) (by decide) (by decide) (by decide) (by decide) (h.ycell 2) h.nv h.ny).mono fun _ _ ⟨he, h1, h2⟩ => ⟨he, h.next h1 (halfL_len _ _ _ _) h2⟩
theorem half3 {B Bv By : Nat} {t : TypeId} {rest : List Value} {W0 : World} {vs : List (BitVec 64)} {w : World} (h : RSt B Bv By t rest W0 vs w) :
    Calls Try.prog 109 #[.int .i64 0, .int .i64 3, .int .i64 3, .pointer (some ⟨Bv, 0, none⟩), .pointer (some ⟨By, 0, none⟩)] w fun e w' => e = .returned (.tuple #[]) ∧ RSt B Bv By t rest W0 (halfL vs 0 3 21) w' :=
  (half_any B Bv By 0 3 3 21 t vs rest w h.hv h.hd h.len (by decide) (by decide) (by decide) (by decide) (by decide) (h.ycell 3) h.nv h.ny).mono fun _ _ ⟨he, h1, h2⟩ => ⟨he, h.next h1 (halfL_len _ _ _ _) h2⟩
theorem half4 {B Bv By : Nat} {t : TypeId} {rest : List Value} {W0 : World} {vs : List (BitVec 64)} {w : World} (h : RSt B Bv By t rest W0 vs w) :
    Calls Try.prog 109 #[.int .i64 2, .int .i64 1, .int .i64 4, .pointer (some ⟨Bv, 0, none⟩), .pointer (some ⟨By, 0, none⟩)] w fun e w' => e = .returned (.tuple #[]) ∧ RSt B Bv By t rest W0 (halfL vs 2 1 17) w' :=
  (half_any B Bv By 2 1 4 17 t vs rest w h.hv h.hd h.len (by decide) (by decide) (by decide) (by decide) (by decide) (h.ycell 4) h.nv h.ny).mono fun _ _ ⟨he, h1, h2⟩ => ⟨he, h.next h1 (halfL_len _ _ _ _) h2⟩
theorem rot32 (x : BitVec 64) (w : World) : Calls Try.prog 110 #[vw x, .int .i64 32] w fun e w' => e = .returned (vw (rotw x 32)) ∧ w' = w :=
  (rot_any x 32 (by decide) w).mono fun _ _ ⟨h1, h2⟩ => ⟨h1, h2.symm⟩

set_option maxHeartbeats 400000 in
theorem turns_any (w : World) : Calls Try.prog 108 #[] w fun e w' =>
    e = .returned (.agg #[.int .i64 13, .int .i64 32, .int .i64 16, .int .i64 21, .int .i64 17, .int .i64 32]) ∧ w.alloc (.cells #[.int .i64 13, .int .i64 32, .int .i64 16, .int .i64 21, .int .i64 17, .int .i64 32] 184) = w' := by
  go_enter Try.func108, Try.ntmps108
  go_wp2
  exact bodyPost_ret (v := .agg #[.int .i64 13, .int .i64 32, .int .i64 16, .int .i64 21, .int .i64 17, .int .i64 32]) (by simp [results, Try.results108, go_sem]) rfl ⟨rfl, rfl⟩

theorem rst_start (B : Nat) (t : TypeId) (rest : List Value) (vs : List (BitVec 64)) (w : World) (hd : Hd w B t vs rest) (hl : vs.length = 4) :
    RSt B w.heap.size (w.heap.size + 2) t rest w vs (((w.alloc (.cells #[.pointer (some ⟨B, 0, none⟩)] 183)).alloc (.cells #[.int .i64 13, .int .i64 32, .int .i64 16, .int .i64 21, .int .i64 17, .int .i64 32] 184)).alloc (.cells #[.int .i64 13, .int .i64 32, .int .i64 16, .int .i64 21, .int .i64 17, .int .i64 32] 184)) := by
  have hlt := hd.lt
  refine ⟨?_, hl, ((Box.new _ _ _).alloc _).alloc _, ?_, (((Frn.refl _ w).allocR _).allocR _).allocR _, by omega, by omega⟩
  · exact hd.kept ((Below.heap_alloc _ _ _ (by simp; omega)).trans ((Below.heap_alloc _ _ _ (by simp; omega)).trans (Below.heap_alloc _ _ _ hlt)))
  · have := World.alloc_heap_new ((w.alloc (.cells #[.pointer (some ⟨B, 0, none⟩)] 183)).alloc (.cells #[.int .i64 13, .int .i64 32, .int .i64 16, .int .i64 21, .int .i64 17, .int .i64 32] 184)) (.cells #[.int .i64 13, .int .i64 32, .int .i64 16, .int .i64 21, .int .i64 17, .int .i64 32] 184)
    simpa using this

set_option maxRecDepth 100000 in
set_option maxHeartbeats 2000000 in
theorem rounds_any (B n : Nat) (t : TypeId) (vs : List (BitVec 64)) (rest : List Value) (w : World) (hd : Hd w B t vs rest) (hl : vs.length = 4) (hn : n ≤ 1000) :
    Calls Try.prog 77 #[.pointer (some ⟨B, 0, none⟩), .int .i64 n] w fun e w' =>
      e = .returned (.tuple #[]) ∧ Hd w' B t (roundsL n vs) rest ∧ Frn (fun b => b = B) w w' := by
  have HS := Lib.hid (rst_start B t rest vs w hd hl)
  clear hd hl
  go_enter Try.func77, Try.ntmps77
  go_wp2_with fail
  refine (turns_any _).mono ?_
  rintro e w1 ⟨rfl, rfl⟩
  go_wp2_with fail
  go_loopw [9] (fun i wr => ∃ k : Nat, k ≤ n ∧ i = .int .i64 k ∧ RSt B w.heap.size (w.heap.size + 2) t rest w (roundsL k vs) wr) (fun i _ => n - (intOf i).toNat)
  case atStart => exact ⟨0, Nat.zero_le _, rfl, HS.out⟩
  case round =>
    obtain ⟨k, hk, rfl, hs⟩ := hrel
    clear HS
    by_cases hlt : k < n
    · have HS := Lib.hid hs
      clear hs
      go_wp2_with fail
      refine (half1 HS.out).mono ?_
      rintro e w1 ⟨rfl, h1⟩
      go_wp2_with fail
      have hc := h1.hv.cell
      have hy : w1.cell? ⟨w.heap.size + 1 + 1, 1, none⟩ = some (.int .i64 32) := h1.ycell 1
      have c0 := h1.hd.cell 0 (by have := h1.len; omega)
      have f0 := h1.hd.free 0
      have H := Lib.hid h1
      clear h1
      go_still_tail 10, (by kernel_rfl)
      still_call (rot32 _ _)
      repeat still_step
      refine wpStill_nil ?_
      go_wp2_with fail
      obtain ⟨w2, hw⟩ : ∃ w', (w1.setCell ⟨B, 0, none⟩ (vw (rotw (hget (halfL (roundsL k vs) 0 1 13) 0) 32))).drew = w' := ⟨_, rfl⟩
      have g1 : RSt B w.heap.size (w.heap.size + 2) t rest w (rotL (halfL (roundsL k vs) 0 1 13) 0 32) w2 := by
        rw [← hw]
        exact H.out.next (H.out.hd.set 0 (by have := H.out.len; omega) _) (rotL_len _ _ _) ((Frn.setCell (Frn.refl (fun b => b = B) w1) ⟨B, 0, none⟩ (.inl rfl) _).drew)
      rw [hw]
      have G := Lib.hid g1
      clear hc hy c0 f0 H hw g1
      go_wp2_with fail
      refine (half2 G.out).mono ?_
      rintro e w3 ⟨rfl, h3⟩
      clear G
      have G := Lib.hid h3
      clear h3
      go_wp2_with fail
      refine (half3 G.out).mono ?_
      rintro e w4 ⟨rfl, h4⟩
      clear G
      have G := Lib.hid h4
      clear h4
      go_wp2_with fail
      refine (half4 G.out).mono ?_
      rintro e w5 ⟨rfl, h5⟩
      clear G
      go_wp2_with fail
      have hc := h5.hv.cell
      have hy : w5.cell? ⟨w.heap.size + 1 + 1, 5, none⟩ = some (.int .i64 32) := h5.ycell 5
      have c0 := h5.hd.cell 2 (by have := h5.len; omega)
      have f0 := h5.hd.free 2
      have H := Lib.hid h5
      clear h5
      go_still_tail 10, (by kernel_rfl)
      still_call (rot32 _ _)
      repeat still_step
      refine wpStill_nil ?_
      go_wp2_with fail
      obtain ⟨w6, hw⟩ : ∃ w', (w5.setCell ⟨B, 2, none⟩ (vw (rotw (hget (halfL (halfL (halfL (rotL (halfL (roundsL k vs) 0 1 13) 0 32) 2 3 16) 0 3 21) 2 1 17) 2) 32))).drew = w' := ⟨_, rfl⟩
      have g1 : RSt B w.heap.size (w.heap.size + 2) t rest w (rotL (halfL (halfL (halfL (rotL (halfL (roundsL k vs) 0 1 13) 0 32) 2 3 16) 0 3 21) 2 1 17) 2 32) w6 := by
        rw [← hw]
        exact H.out.next (H.out.hd.set 2 (by have := H.out.len; omega) _) (rotL_len _ _ _) ((Frn.setCell (Frn.refl (fun b => b = B) w5) ⟨B, 2, none⟩ (.inl rfl) _).drew)
      rw [hw]
      have G := Lib.hid g1
      clear hc hy c0 f0 H hw g1
      go_wp2_with fail
      go_roundw
      case rel => exact ⟨k + 1, by omega, by go_num, G.out⟩
      case measure => simp [intOf]; omega
    · obtain rfl : k = n := by omega
      go_wp2_with fail
      go_end0
      exact ⟨rfl, hs.hd, hs.frn⟩

end Go.Proofs.Ythhdipfadnihjaa
