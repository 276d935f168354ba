/- The walks of package latch's small functions, and of the slices' functions at turns. -/
import Derived.Test.YthhdipfadnihjaaLatchA
namespace Go.Proofs.Ythhdipfadnihjaa
open Go Go.RowKit

set_option maxHeartbeats 400000 in
theorem there_any (c : Int) (w : World) : Calls Try.prog 63 #[.int .i64 c] w fun e w' => e = .returned (.bool (decide (0 ≤ c ∧ c < 8))) ∧ w = w' := by
  go_enter Try.func63, Try.ntmps63
  by_cases h1 : 0 ≤ c
  · by_cases h2 : c < 8
    · have h : decide (0 ≤ c ∧ c < 8) = true := decide_eq_true ⟨h1, h2⟩
      rw [h]
      go_wp2
      go_ret
      exact ⟨rfl, rfl⟩
    · have h : decide (0 ≤ c ∧ c < 8) = false := decide_eq_false (fun h => h2 h.2)
      rw [h]
      go_wp2
      go_ret
      exact ⟨rfl, rfl⟩
  · have h : decide (0 ≤ c ∧ c < 8) = false := decide_eq_false (fun h => h1 h.1)
    rw [h]
    go_wp2
    go_ret
    exact ⟨rfl, rfl⟩
set_option maxHeartbeats 400000 in
theorem of1_any (g : Nat) (c : Int) (t : Turn) (w : World) (hg : w.cell? ⟨g, 0, none⟩ = some (.int .i64 c)) (hgl : g < w.heap.size) :
    Calls Try.prog 127 #[.agg #[.int .i64 t.1, .bool t.2], .pointer (some ⟨g, 0, none⟩)] w fun e w' => e = .returned (.bool (decide (t.1 = c))) ∧ Below w.heap.size w w' := by
  have h1 : (w.alloc (.cells #[.int .i64 t.1, .bool t.2] 53)).cell? ⟨g, 0, none⟩ = some (.int .i64 c) := (World.cell?_of_block (a := ⟨g, 0, none⟩) (Below.heap_alloc _ _ g hgl)).trans hg
  go_enter Try.func127, Try.ntmps127
  go_wp2
  go_ret
  exact ⟨rfl, (Below.refl _ _).alloc (Nat.le_refl _) _⟩
set_option maxHeartbeats 400000 in
theorem reads1_any (t : Turn) (w : World) :
    Calls Try.prog 130 #[.agg #[.int .i64 t.1, .bool t.2]] w fun e w' => e = .returned (.bool t.2) ∧ Below w.heap.size w w' := by
  go_enter Try.func130, Try.ntmps130
  go_wp2
  go_ret
  exact ⟨rfl, (Below.refl _ _).alloc (Nat.le_refl _) _⟩
def tv (t : Turn) : Value := .agg #[.int .i64 t.1, .bool t.2]
def idxT (f : Turn → Bool) (ys : List Turn) : Int := if ys.any f then ((ys.findIdx f : Nat) : Int) else -1
set_option maxRecDepth 100000 in
set_option maxHeartbeats 1000000 in
theorem indexF_any (F : FuncId) (caps : Array Value) (f : Turn → Bool) (p : Option Addr) (cap : Nat) (ys : List Turn) (w : World) (hrd : RdS w.heap.size w p cap 2 tc ys)
    (hent : ∀ args W, (callFunc F args).run Try.prog W = .ok (.enter F args) W)
    (hf : ∀ t W, Below w.heap.size w W → Calls Try.prog F (#[tv t] ++ caps) W fun e W' => e = .returned (.bool (f t)) ∧ Below W.heap.size W W') :
    Calls Try.prog 126 #[.slice p ys.length cap, .func (.func F) #[] caps] w fun e w' => e = .returned (.int .i64 (idxT f ys)) ∧ Below w.heap.size w w' := by
  have hlen := hrd.len
  have HR := Lib.hid hrd
  have HF := Lib.hid hf
  clear hrd hf
  go_enter Try.func126, Try.ntmps126
  go_wp2_with fail
  go_loopw [8] (fun i wr => ∃ k : Nat, k ≤ ys.length ∧ i = .int .i64 k ∧ (ys.take k).any f = false ∧ Below w.heap.size w wr) (fun i _ => ys.length - (intOf i).toNat)
  case atStart => exact ⟨0, Nat.zero_le _, rfl, rfl, Below.refl _ _⟩
  case round =>
    obtain ⟨k, hk, rfl, hno, hb⟩ := hrel
    have HNO := Lib.hid hno
    have HB := Lib.hid hb
    clear hno hb
    by_cases hlt : k < ys.length
    · obtain ⟨b, off, rfl, hbl, h0, h1⟩ := HR.out.rows k hlt
      have h0' := (HB.out.cell (p := ⟨b, off + k * 2, none⟩) hbl).trans h0
      have h1' := (HB.out.cell (p := ⟨b, off + k * 2 + 1, none⟩) hbl).trans h1
      have hlt' : (k : Int) < (ys.length : Int) := by omega
      clear h0 h1
      obtain ⟨y, hy⟩ : ∃ y, ys[k] = y := ⟨_, rfl⟩
      rw [hy] at h0' h1'
      have hys : ys.take (k + 1) = ys.take k ++ [y] := by rw [List.take_succ_eq_append_getElem hlt, hy]
      have hidx : f y = true → idxT f ys = (k : Int) := by
        intro hfy
        have hno := HNO.out
        have hany : ys.any f = true := List.any_eq_true.2 ⟨y, by rw [← hy]; exact List.getElem_mem hlt, hfy⟩
        unfold idxT
        rw [if_pos hany]
        have : ys.findIdx f = k := by
          rw [List.findIdx_eq hlt]
          refine ⟨by rw [hy]; exact hfy, fun j hj => ?_⟩
          have hm : ys[j] ∈ ys.take k := by
            rw [List.mem_take_iff_getElem]
            exact ⟨j, by omega, rfl⟩
          have := List.any_eq_false.1 hno _ hm
          simpa using this
        rw [this]
      have HYS := Lib.hid hys
      have HIDX := Lib.hid hidx
      clear hys hidx hy
      go_wp2_with fail
      refine (HF.out y wr HB.out).mono ?_
      rintro e w1 ⟨rfl, hb1⟩
      have HB1 := Lib.hid (HB.out.trans (hb1.mono HB.out.size))
      clear hb1
      cases hfy : f y with
      | true =>
        have HI := Lib.hid (HIDX.out hfy)
        clear hfy
        go_wp2_with fail
        go_ret
        exact ⟨by rw [HI.out]; rfl, HB1.out⟩
      | false =>
        have HN := Lib.hid (show (ys.take (k + 1)).any f = false by rw [HYS.out, List.any_append, HNO.out]; simp [hfy])
        clear hfy
        go_wp2_with fail
        refine ⟨⟨k + 1, by omega, by go_num, HN.out, HB1.out⟩, by simp [intOf]; omega⟩
    · obtain rfl : k = ys.length := by omega
      have h := HNO.out
      rw [List.take_length] at h
      have HI := Lib.hid (show idxT f ys = -1 by unfold idxT; rw [if_neg (by simp [h])])
      clear h
      go_wp2_with fail
      go_ret
      exact ⟨by rw [HI.out]; rfl, HB.out⟩
set_option maxRecDepth 100000 in
set_option maxHeartbeats 1000000 in
theorem indexG_any (F : FuncId) (caps : Array Value) (f : Turn → Bool) (p : Option Addr) (cap : Nat) (ys : List Turn) (w : World) (hrd : RdS w.heap.size w p cap 2 tc ys)
    (hent : ∀ args W, (callFunc F args).run Try.prog W = .ok (.enter F args) W)
    (hf : ∀ t W, Below w.heap.size w W → Calls Try.prog F (#[tv t] ++ caps) W fun e W' => e = .returned (.bool (f t)) ∧ Below W.heap.size W W') :
    Calls Try.prog 137 #[.slice p ys.length cap, .func (.func F) #[] caps] w fun e w' => e = .returned (.int .i64 (idxT f ys)) ∧ Below w.heap.size w w' := by
  have hlen := hrd.len
  have HR := Lib.hid hrd
  have HF := Lib.hid hf
  clear hrd hf
  go_enter Try.func137, Try.ntmps137
  go_wp2_with fail
  go_loopw [8] (fun i wr => ∃ k : Nat, k ≤ ys.length ∧ i = .int .i64 k ∧ (ys.take k).any f = false ∧ Below w.heap.size w wr) (fun i _ => ys.length - (intOf i).toNat)
  case atStart => exact ⟨0, Nat.zero_le _, rfl, rfl, Below.refl _ _⟩
  case round =>
    obtain ⟨k, hk, rfl, hno, hb⟩ := hrel
    have HNO := Lib.hid hno
    have HB := Lib.hid hb
    clear hno hb
    by_cases hlt : k < ys.length
    · obtain ⟨b, off, rfl, hbl, h0, h1⟩ := HR.out.rows k hlt
      have h0' := (HB.out.cell (p := ⟨b, off + k * 2, none⟩) hbl).trans h0
      have h1' := (HB.out.cell (p := ⟨b, off + k * 2 + 1, none⟩) hbl).trans h1
      have hlt' : (k : Int) < (ys.length : Int) := by omega
      clear h0 h1
      obtain ⟨y, hy⟩ : ∃ y, ys[k] = y := ⟨_, rfl⟩
      rw [hy] at h0' h1'
      have hys : ys.take (k + 1) = ys.take k ++ [y] := by rw [List.take_succ_eq_append_getElem hlt, hy]
      have hidx : f y = true → idxT f ys = (k : Int) := by
        intro hfy
        have hno := HNO.out
        have hany : ys.any f = true := List.any_eq_true.2 ⟨y, by rw [← hy]; exact List.getElem_mem hlt, hfy⟩
        unfold idxT
        rw [if_pos hany]
        have : ys.findIdx f = k := by
          rw [List.findIdx_eq hlt]
          refine ⟨by rw [hy]; exact hfy, fun j hj => ?_⟩
          have hm : ys[j] ∈ ys.take k := by
            rw [List.mem_take_iff_getElem]
            exact ⟨j, by omega, rfl⟩
          have := List.any_eq_false.1 hno _ hm
          simpa using this
        rw [this]
      have HYS := Lib.hid hys
      have HIDX := Lib.hid hidx
      clear hys hidx hy
      go_wp2_with fail
      refine (HF.out y wr HB.out).mono ?_
      rintro e w1 ⟨rfl, hb1⟩
      have HB1 := Lib.hid (HB.out.trans (hb1.mono HB.out.size))
      clear hb1
      cases hfy : f y with
      | true =>
        have HI := Lib.hid (HIDX.out hfy)
        clear hfy
        go_wp2_with fail
        go_ret
        exact ⟨by rw [HI.out]; rfl, HB1.out⟩
      | false =>
        have HN := Lib.hid (show (ys.take (k + 1)).any f = false by rw [HYS.out, List.any_append, HNO.out]; simp [hfy])
        clear hfy
        go_wp2_with fail
        refine ⟨⟨k + 1, by omega, by go_num, HN.out, HB1.out⟩, by simp [intOf]; omega⟩
    · obtain rfl : k = ys.length := by omega
      have h := HNO.out
      rw [List.take_length] at h
      have HI := Lib.hid (show idxT f ys = -1 by unfold idxT; rw [if_neg (by simp [h])])
      clear h
      go_wp2_with fail
      go_ret
      exact ⟨by rw [HI.out]; rfl, HB.out⟩
set_option maxHeartbeats 1000000 in
theorem containsF_any (F : FuncId) (caps : Array Value) (f : Turn → Bool) (p : Option Addr) (cap : Nat) (ys : List Turn) (w : World) (hrd : RdS w.heap.size w p cap 2 tc ys)
    (hent : ∀ args W, (callFunc F args).run Try.prog W = .ok (.enter F args) W)
    (hf : ∀ t W, Below w.heap.size w W → Calls Try.prog F (#[tv t] ++ caps) W fun e W' => e = .returned (.bool (f t)) ∧ Below W.heap.size W W') :
    Calls Try.prog 129 #[.slice p ys.length cap, .func (.func F) #[] caps] w fun e w' => e = .returned (.bool (ys.any f)) ∧ Below w.heap.size w w' := by
  have HI := Lib.hid (indexF_any F caps f p cap ys w hrd hent hf)
  clear hrd hf hent
  go_enter Try.func129, Try.ntmps129
  go_wp2_with fail
  refine HI.out.mono ?_
  rintro e w1 ⟨rfl, b1⟩
  have HB := Lib.hid b1
  clear b1
  cases h : ys.any f with
  | true =>
    have hi : (0 : Int) ≤ idxT f ys := by unfold idxT; rw [if_pos h]; omega
    have H := Lib.hid h
    clear h
    go_wp2_with fail
    go_ret
    exact ⟨by rw [H.out]; rfl, HB.out⟩
  | false =>
    have hi : ¬ (0 : Int) ≤ idxT f ys := by unfold idxT; rw [if_neg (by simp [h])]; decide
    have H := Lib.hid h
    have HI := Lib.hid (Int.not_le.1 hi)
    clear h
    go_wp2_with fail
    go_ret
    exact ⟨by rw [H.out, ← decide_eq_false (Int.not_le.2 HI.out)]; rfl, HB.out⟩
set_option maxHeartbeats 1000000 in
theorem containsG_any (F : FuncId) (caps : Array Value) (f : Turn → Bool) (p : Option Addr) (cap : Nat) (ys : List Turn) (w : World) (hrd : RdS w.heap.size w p cap 2 tc ys)
    (hent : ∀ args W, (callFunc F args).run Try.prog W = .ok (.enter F args) W)
    (hf : ∀ t W, Below w.heap.size w W → Calls Try.prog F (#[tv t] ++ caps) W fun e W' => e = .returned (.bool (f t)) ∧ Below W.heap.size W W') :
    Calls Try.prog 128 #[.slice p ys.length cap, .func (.func F) #[] caps] w fun e w' => e = .returned (.bool (ys.any f)) ∧ Below w.heap.size w w' := by
  have HI := Lib.hid (indexG_any F caps f p cap ys w hrd hent hf)
  clear hrd hf hent
  go_enter Try.func128, Try.ntmps128
  go_wp2_with fail
  refine HI.out.mono ?_
  rintro e w1 ⟨rfl, b1⟩
  have HB := Lib.hid b1
  clear b1
  cases h : ys.any f with
  | true =>
    have hi : (0 : Int) ≤ idxT f ys := by unfold idxT; rw [if_pos h]; omega
    have H := Lib.hid h
    clear h
    go_wp2_with fail
    go_ret
    exact ⟨by rw [H.out]; rfl, HB.out⟩
  | false =>
    have hi : ¬ (0 : Int) ≤ idxT f ys := by unfold idxT; rw [if_neg (by simp [h])]; decide
    have H := Lib.hid h
    have HI := Lib.hid (Int.not_le.1 hi)
    clear h
    go_wp2_with fail
    go_ret
    exact ⟨by rw [H.out, ← decide_eq_false (Int.not_le.2 HI.out)]; rfl, HB.out⟩
def readsT (ys : List Turn) : Bool := !(ys.any fun t => t.2)
theorem enters {P : Program} {f : FuncId} {fn : Func} {c : Code} (hf : P.funcs[f]? = some fn) (hname : (fn.name == "runtime.NumGoroutine") = false) (hb : fn.body = some c) (args : Array Value) (w : World) :
    (callFunc f args).run P w = .ok (.enter f args) w := by
  have h1 : fn.name ≠ "runtime.NumGoroutine" := by simpa using hname
  simp [callFunc, hf, h1, hb]
theorem reads1_enters (args : Array Value) (W : World) : (callFunc 130 args).run Try.prog W = .ok (.enter 130 args) W := by
  exact enters Try.func130 (by kernel_rfl) rfl args W
set_option maxHeartbeats 1000000 in
theorem reads_any (p : Option Addr) (cap : Nat) (ys : List Turn) (w : World) (hrd : RdS w.heap.size w p cap 2 tc ys) :
    Calls Try.prog 100 #[.slice p ys.length cap] w fun e w' => e = .returned (.bool (readsT ys)) ∧ Below w.heap.size w w' := by
  have HC := Lib.hid (containsF_any 130 #[] (fun t => t.2) p cap ys w hrd reads1_enters (fun t W _ => reads1_any t W))
  clear hrd
  go_enter Try.func100, Try.ntmps100
  go_wp2_with fail
  refine HC.out.mono ?_
  rintro e w1 ⟨rfl, b1⟩
  have HB := Lib.hid b1
  clear b1
  go_wp2_with fail
  go_ret
  exact ⟨rfl, HB.out⟩
end Go.Proofs.Ythhdipfadnihjaa
