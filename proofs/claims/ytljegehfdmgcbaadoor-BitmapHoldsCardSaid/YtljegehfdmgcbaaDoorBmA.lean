/- The walks of a bitmap's small functions: none, has, Len, there, Get. -/
import Derived.Test.YtljegehfdmgcbaaDoorBmLaw
import Derived.Test.YtljegehfdmgcbaaDoorOwnG
import Derived.Test.YtljegehfdmgcbaaDoorRows
namespace Go.Proofs.YtljegehfdmgcbaaDoor
open Go Go.RowKit

theorem elem_w64 : ElemIs Tryd.prog 22 60 (.int .u64 0) 1 8 := ⟨by kernel_rfl, by kernel_rfl, rfl, by decide⟩
theorem elem_bits : ElemIs Tryd.prog 49 60 (.int .u64 0) 1 8 := ⟨by kernel_rfl, by kernel_rfl, rfl, by decide⟩
/-- A map of n bits in block O, whose words lie in block g. -/
structure BmAt (W : World) (O g c : Nat) (ws : List (BitVec 64)) (n : Nat) : Prop where
  hd : W.heap[O]? = some (.cells #[.slice (some ⟨g, 0, none⟩) ws.length c, .int .i64 n] 51 (0, 0))
  own : OwnO W 60 1 (some ⟨g, 0, none⟩) c ws.length (ws.map vw)
  ne : O ≠ g
  len : ws.length = (n + 63) / 64
  n1 : 1 ≤ n
  n2 : n ≤ 65536
theorem BmAt.pos {W : World} {O g c : Nat} {ws : List (BitVec 64)} {n : Nat} (h : BmAt W O g c ws n) : 0 < ws.length := by have := h.len; have := h.n1; omega
theorem BmAt.cpos {W : World} {O g c : Nat} {ws : List (BitVec 64)} {n : Nat} (h : BmAt W O g c ws n) : 0 < c := by have := h.pos; have := h.own.le; omega
theorem BmAt.ltO {W : World} {O g c : Nat} {ws : List (BitVec 64)} {n : Nat} (h : BmAt W O g c ws n) : O < W.heap.size := (Array.getElem?_eq_some_iff.1 h.hd).1
theorem BmAt.ltg {W : World} {O g c : Nat} {ws : List (BitVec 64)} {n : Nat} (h : BmAt W O g c ws n) : g < W.heap.size := h.own.lt ⟨_, rfl, rfl, h.cpos⟩
theorem BmAt.keep {W W' : World} {O g c : Nat} {ws : List (BitVec 64)} {n : Nat} (h : BmAt W O g c ws n) (h1 : W'.heap[O]? = W.heap[O]?) (h2 : W'.heap[g]? = W.heap[g]?) : BmAt W' O g c ws n :=
  ⟨h1.trans h.hd, h.own.keep (by rintro b ⟨a, ha, rfl, _⟩; cases ha; exact h2), h.ne, h.len, h.n1, h.n2⟩
theorem BmAt.below {W W' : World} {O g c : Nat} {ws : List (BitVec 64)} {n : Nat} (h : BmAt W O g c ws n) (hb : Below W.heap.size W W') : BmAt W' O g c ws n := h.keep (hb.block _ h.ltO) (hb.block _ h.ltg)
theorem BmAt.on {W W' : World} {O g c k : Nat} {ws : List (BitVec 64)} {n : Nat} (h : BmAt W O g c ws n) (h1 : O < k) (h2 : g < k) (hb : Below k W W') : BmAt W' O g c ws n := h.keep (hb.block _ h1) (hb.block _ h2)
theorem BmAt.c0 {W : World} {O g c : Nat} {ws : List (BitVec 64)} {n : Nat} (h : BmAt W O g c ws n) : W.cell? ⟨O, 0, none⟩ = some (.slice (some ⟨g, 0, none⟩) ws.length c) := by simp [World.cell?, h.hd]
theorem BmAt.c1 {W : World} {O g c : Nat} {ws : List (BitVec 64)} {n : Nat} (h : BmAt W O g c ws n) : W.cell? ⟨O, 1, none⟩ = some (.int .i64 n) := by simp [World.cell?, h.hd]
theorem BmAt.word {W : World} {O g c : Nat} {ws : List (BitVec 64)} {n : Nat} (h : BmAt W O g c ws n) (k : Nat) (hk : k < ws.length) : W.cell? ⟨g, k, none⟩ = some (vw ws[k]) := by
  have := h.own.cellAt k (by omega)
  rw [Nat.zero_add] at this
  rw [this]
  simp [hk]
theorem BmAt.rdl {W : World} {O g c : Nat} {ws : List (BitVec 64)} {n : Nat} (h : BmAt W O g c ws n) : RdL W.heap.size W (some ⟨g, 0, none⟩) c vw ws :=
  ⟨h.own.le, h.own.max, .inr ⟨g, 0, rfl, h.ltg, fun i hi => by rw [Nat.zero_add]; exact h.word i hi⟩⟩
/-- No map: nil, or one of no bits. -/
def NoBm (W : World) (v : Value) : Prop := v = .pointer none ∨ ∃ O, v = .pointer (some ⟨O, 0, none⟩) ∧ W.heap[O]? = some (.cells #[.slice none 0 0, .int .i64 0] 51 (0, 0))
theorem NoBm.below {W W' : World} {v : Value} (h : NoBm W v) (hb : Below W.heap.size W W') : NoBm W' v := h.imp id fun ⟨O, h1, h2⟩ => ⟨O, h1, (hb.block O (Array.getElem?_eq_some_iff.1 h2).1).trans h2⟩

set_option maxHeartbeats 1000000 in
theorem none_no (v : Value) (w : World) (h : NoBm w v) : Calls Tryd.prog 31 #[v] w fun e w' => e = .returned (.bool true) ∧ w = w' := by
  rcases h with rfl | ⟨O, rfl, h⟩
  · go_enter Tryd.func31, Tryd.ntmps31
    go_wp2
    go_ret
    exact ⟨rfl, rfl⟩
  · have h1 : w.cell? ⟨O, 1, none⟩ = some (.int .i64 0) := by simp [World.cell?, h]
    clear h
    go_enter Tryd.func31, Tryd.ntmps31
    go_wp2
    go_ret
    exact ⟨rfl, rfl⟩
set_option maxHeartbeats 1000000 in
theorem none_bm {O g c : Nat} {ws : List (BitVec 64)} {n : Nat} (w : World) (h : BmAt w O g c ws n) : Calls Tryd.prog 31 #[.pointer (some ⟨O, 0, none⟩)] w fun e w' => e = .returned (.bool false) ∧ w = w' := by
  have h1 := h.c1
  have h2 := h.n1
  have h3 := h.n2
  have h4 : ((n : Int) == 0) = false := by simp; omega
  have h5 : ¬ n = 0 := by omega
  clear h
  go_enter Tryd.func31, Tryd.ntmps31
  go_wp2
  go_ret
  exact ⟨rfl, rfl⟩

theorem bit_val (x : BitVec 64) (r : Nat) : bits BinOp.and IntKind.u64 ((x.toNat : Int) / 2 ^ r) 1 = (((shrw x r).toNat % 2 : Nat) : Int) := by
  have h3 : (x.toNat : Int) / 2 ^ r = ((shrw x r).toNat : Int) := by simpa using shr_w x r
  rw [h3, and1_w]

set_option maxHeartbeats 1000000 in
theorem has_any (p : Option Addr) (cap : Nat) (ws : List (BitVec 64)) (i : Nat) (w : World) (hrd : RdL w.heap.size w p cap vw ws) (hi : i < 64 * ws.length) (hl : ws.length ≤ 100000) :
    Calls Tryd.prog 27 #[.slice p ws.length cap, .int .i64 i] w fun e w' => e = .returned (.bool (bitW ws i)) ∧ w = w' := by
  obtain ⟨b, off, rfl, _, hc⟩ := hrd.at (i / 64) (by omega)
  obtain ⟨x, hx⟩ : ∃ x, ws[i / 64]'(by omega) = x := ⟨_, rfl⟩
  rw [hx] at hc
  have hb := bit_val x (i % 64)
  have e : bitW ws i = decide ((shrw x (i % 64)).toNat % 2 = 1) := by
    unfold bitW
    rw [← hx]
    simp [show i / 64 < ws.length by omega]
  rw [e]
  have hq : (i : Int).tdiv 64 = ((i / 64 : Nat) : Int) := by rw [Int.tdiv_eq_ediv_of_nonneg (by omega)]; omega
  have hr : (i : Int).tmod 64 = ((i % 64 : Nat) : Int) := by rw [Int.tmod_eq_emod_of_nonneg (by omega)]; omega
  have hq1 : ((i / 64 : Nat) : Int) < ((ws.length : Nat) : Int) := by omega
  have hr1 : ((i % 64 : Nat) : Int) < 64 := by omega
  have hi2 : (i : Int) ≤ 6400000 := by omega
  clear hrd hx e
  go_enter Tryd.func27, Tryd.ntmps27
  have e2 : ((((shrw x (i % 64)).toNat : Int) % 2) == 1) = decide ((shrw x (i % 64)).toNat % 2 = 1) := by
    rw [show ((shrw x (i % 64)).toNat : Int) % 2 = (((shrw x (i % 64)).toNat % 2 : Nat) : Int) by omega]
    by_cases h : (shrw x (i % 64)).toNat % 2 = 1
    · simp [h]
    · simp [h]; omega
  have HE := Lib.hid e2
  clear e2
  go_wp2
  rw [HE.out]
  go_ret
  exact ⟨rfl, rfl⟩

set_option maxHeartbeats 1000000 in
theorem len_no (v : Value) (w : World) (h : NoBm w v) : Calls Tryd.prog 21 #[v] w fun e w' => e = .returned (.int .i64 0) ∧ w = w' := by
  have HN := Lib.hid (none_no v w h)
  clear h
  go_enter Tryd.func21, Tryd.ntmps21
  go_wp2_with (go_at_call 31; refine HN.out.mono ?_; rintro e w' ⟨rfl, rfl⟩)
  go_ret
  exact ⟨rfl, rfl⟩
set_option maxHeartbeats 1000000 in
theorem len_bm {O g c : Nat} {ws : List (BitVec 64)} {n : Nat} (w : World) (h : BmAt w O g c ws n) : Calls Tryd.prog 21 #[.pointer (some ⟨O, 0, none⟩)] w fun e w' => e = .returned (.int .i64 n) ∧ w = w' := by
  have HN := Lib.hid (none_bm w h)
  have h1 := h.c1
  clear h
  go_enter Tryd.func21, Tryd.ntmps21
  go_wp2_with (go_at_call 31; refine HN.out.mono ?_; rintro e w' ⟨rfl, rfl⟩)
  go_ret
  exact ⟨rfl, rfl⟩

/-- Are so many bits there? -/
def thereB (n : Nat) (at_ many : Int) : Bool := decide (0 ≤ at_ ∧ at_ ≤ n ∧ 0 ≤ many ∧ many ≤ n - at_)
set_option maxHeartbeats 1000000 in
theorem there_bm {O g c : Nat} {ws : List (BitVec 64)} {n : Nat} (at_ many : Int) (w : World) (h : BmAt w O g c ws n) : Calls Tryd.prog 41 #[.pointer (some ⟨O, 0, none⟩), .int .i64 at_, .int .i64 many] w fun e w' => e = .returned (.bool (thereB n at_ many)) ∧ w = w' := by
  have h1 := h.c1
  have h2 := h.n2
  clear h
  unfold thereB
  by_cases h3 : 0 ≤ at_
  · by_cases h4 : at_ ≤ n
    · by_cases h5 : 0 ≤ many
      · have h6 : IntKind.i64.wrap ((n : Int) - at_) = n - at_ := by rw [IntKind.wrap_i64]; omega
        go_enter Tryd.func41, Tryd.ntmps41
        go_wp2
        go_ret
        exact ⟨by simp [h3, h4, h5], rfl⟩
      · have e : decide (0 ≤ at_ ∧ at_ ≤ n ∧ 0 ≤ many ∧ many ≤ n - at_) = false := decide_eq_false (by omega)
        rw [e]
        clear e
        go_enter Tryd.func41, Tryd.ntmps41
        go_wp2
        go_ret
        exact ⟨rfl, rfl⟩
    · have e : decide (0 ≤ at_ ∧ at_ ≤ n ∧ 0 ≤ many ∧ many ≤ n - at_) = false := decide_eq_false (by omega)
      rw [e]
      clear e
      go_enter Tryd.func41, Tryd.ntmps41
      go_wp2
      go_ret
      exact ⟨rfl, rfl⟩
  · have e : decide (0 ≤ at_ ∧ at_ ≤ n ∧ 0 ≤ many ∧ many ≤ n - at_) = false := decide_eq_false (by omega)
    rw [e]
    clear e
    go_enter Tryd.func41, Tryd.ntmps41
    go_wp2
    go_ret
    exact ⟨rfl, rfl⟩

/-- What Get tells. -/
def getL (ws : List (BitVec 64)) (n : Nat) (at_ : Int) : Bool × Int := if 0 ≤ at_ ∧ at_ < n then (bitW ws at_.toNat, 0) else (false, 4)
set_option maxHeartbeats 1000000 in
theorem get_no (v : Value) (at_ : Int) (w : World) (h : NoBm w v) : Calls Tryd.prog 16 #[v, .int .i64 at_] w fun e w' => e = .returned (.tuple #[.bool false, .int .i64 1]) ∧ w = w' := by
  have HN := Lib.hid (none_no v w h)
  clear h
  go_enter Tryd.func16, Tryd.ntmps16
  go_wp2_with (go_at_call 31; refine HN.out.mono ?_; rintro e w' ⟨rfl, rfl⟩)
  go_ret2
  exact ⟨rfl, rfl⟩
set_option maxHeartbeats 1000000 in
theorem get_bm {O g c : Nat} {ws : List (BitVec 64)} {n : Nat} (at_ : Int) (w : World) (h : BmAt w O g c ws n) : Calls Tryd.prog 16 #[.pointer (some ⟨O, 0, none⟩), .int .i64 at_] w fun e w' =>
    e = .returned (.tuple #[.bool (getL ws n at_).1, .int .i64 (getL ws n at_).2]) ∧ w = w' := by
  have HN := Lib.hid (none_bm w h)
  have h0 := h.c0
  have h1 := h.c1
  have hl := h.len
  have h2 := h.n2
  have HR := Lib.hid h.rdl
  clear h
  unfold getL
  by_cases h3 : at_ < 0
  · rw [if_neg (by omega)]
    clear hl
    go_enter Tryd.func16, Tryd.ntmps16
    go_wp2_with (go_at_call 31; refine HN.out.mono ?_; rintro e w' ⟨rfl, rfl⟩)
    go_ret2
    exact ⟨rfl, rfl⟩
  by_cases h4 : at_ < n
  · rw [if_pos (by omega)]
    obtain ⟨i, rfl⟩ : ∃ i : Nat, at_ = i := ⟨at_.toNat, by omega⟩
    have HH := Lib.hid (has_any (some ⟨g, 0, none⟩) c ws i w HR.out (by omega) (by omega))
    rw [Int.toNat_natCast]
    clear hl
    go_enter Tryd.func16, Tryd.ntmps16
    go_wp2_with (go_at_call 31; refine HN.out.mono ?_; rintro e w' ⟨rfl, rfl⟩)
    refine HH.out.mono ?_
    rintro e w' ⟨rfl, rfl⟩
    go_wp2_with fail
    go_ret2
    exact ⟨rfl, rfl⟩
  · rw [if_neg (by omega)]
    clear hl
    go_enter Tryd.func16, Tryd.ntmps16
    go_wp2_with (go_at_call 31; refine HN.out.mono ?_; rintro e w' ⟨rfl, rfl⟩)
    go_ret2
    exact ⟨rfl, rfl⟩
end Go.Proofs.YtljegehfdmgcbaaDoor
