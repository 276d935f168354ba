/- The walks of package latch: has, of, none, New, asked. -/
import Derived.Test.YthhdipfadnihjaaLatchB
namespace Go.Proofs.Ythhdipfadnihjaa
open Go Go.RowKit

abbrev TurnsAt := Option Addr × Nat × List Turn
def encT (z : TurnsAt) : Value := .slice z.1 z.2.2.length z.2.1
theorem RdS.kept {α : Type} {B : Nat} {w w' : World} {p : Option Addr} {cap c : Nat} {enc : α → List Value} {ys : List α} (h : RdS B w p cap c enc ys) (hb : Below B w w') : RdS B w' p cap c enc ys := by
  obtain ⟨h1, h2, h3⟩ := h
  refine ⟨h1, h2, h3.imp id ?_⟩
  rintro ⟨b, off, hp, hbl, hc⟩
  exact ⟨b, off, hp, hbl, fun i hi j v hv => (hb.cell (p := ⟨b, off + (i * c + j), none⟩) hbl).trans (hc i hi j v hv)⟩
theorem RdS.wide {α : Type} {B B' : Nat} {w : World} {p : Option Addr} {cap c : Nat} {enc : α → List Value} {ys : List α} (h : RdS B w p cap c enc ys) (hB : B ≤ B') : RdS B' w p cap c enc ys := by
  obtain ⟨h1, h2, h3⟩ := h
  refine ⟨h1, h2, h3.imp id ?_⟩
  rintro ⟨b, off, hp, hb, hc⟩
  exact ⟨b, off, hp, Nat.lt_of_lt_of_le hb hB, hc⟩
set_option maxRecDepth 100000 in
set_option maxHeartbeats 1000000 in
theorem has_any (F : FuncId) (caps : Array Value) (f : Turn → Bool) (p : Option Addr) (cap : Nat) (zs : List TurnsAt) (w : World) (hrd : RdL w.heap.size w p cap encT zs) (hz : ∀ z ∈ zs, RdS w.heap.size w z.1 z.2.1 2 tc z.2.2)
    (hent : ∀ args W, (callFunc F args).run Try.prog W = .ok (.enter F args) W)
    (hf : ∀ t W, Below w.heap.size w W → Calls Try.prog F (#[tv t] ++ caps) W fun e W' => e = .returned (.bool (f t)) ∧ Below W.heap.size W W') :
    Calls Try.prog 99 #[.func (.func F) #[] caps, .slice p zs.length cap] w fun e w' => e = .returned (.bool (zs.any fun z => z.2.2.any f)) ∧ Below w.heap.size w w' := by
  have hlen := hrd.len
  have HR := Lib.hid hrd
  have HZ := Lib.hid hz
  have HF := Lib.hid hf
  have HE := Lib.hid hent
  clear hrd hf hz hent
  go_enter Try.func99, Try.ntmps99
  go_wp2_with fail
  go_loopw [9] (fun i wr => ∃ k : Nat, k ≤ zs.length ∧ i = .int .i64 k ∧ ((zs.take k).any fun z => z.2.2.any f) = false ∧ Below w.heap.size w wr) (fun i _ => zs.length - (intOf i).toNat)
  case atStart => exact ⟨0, Nat.zero_le _, rfl, rfl, Below.refl _ _⟩
  case round =>
    obtain ⟨k, hk, rfl, hno, hb⟩ := hrel
    have HNO := Lib.hid hno
    have HB := Lib.hid hb
    clear hno hb
    by_cases hlt : k < zs.length
    · obtain ⟨b, off, rfl, hbl, h0⟩ := HR.out.at k hlt
      have h0' := (HB.out.cell (p := ⟨b, off + k, none⟩) hbl).trans h0
      have hlt' : (k : Int) < (zs.length : Int) := by omega
      obtain ⟨z, hzz⟩ : ∃ z, zs[k] = z := ⟨_, rfl⟩
      rw [hzz] at h0'
      unfold encT at h0'
      have hzm : z ∈ zs := by rw [← hzz]; exact List.getElem_mem hlt
      have hzs : zs.take (k + 1) = zs.take k ++ [z] := by rw [List.take_succ_eq_append_getElem hlt, hzz]
      have HZM := Lib.hid hzm
      have HZS := Lib.hid hzs
      have HC := Lib.hid (containsG_any F caps f z.1 z.2.1 z.2.2 wr (((HZ.out z hzm).kept HB.out).wide HB.out.size) HE.out (fun t W hW => HF.out t W (HB.out.trans (hW.mono HB.out.size))))
      clear h0 hzz hzm hzs
      go_wp2_with fail
      refine HC.out.mono ?_
      rintro e w1 ⟨rfl, hb1⟩
      have HB1 := Lib.hid (HB.out.trans (hb1.mono HB.out.size))
      clear hb1
      cases hfy : z.2.2.any f with
      | true =>
        have HI := Lib.hid (show (zs.any fun z => z.2.2.any f) = true from List.any_eq_true.2 ⟨z, HZM.out, hfy⟩)
        clear hfy
        go_wp2_with fail
        go_ret
        exact ⟨by rw [HI.out]; rfl, HB1.out⟩
      | false =>
        have HN := Lib.hid (show ((zs.take (k + 1)).any fun z => z.2.2.any f) = false by rw [HZS.out, List.any_append, HNO.out]; simp [hfy])
        clear hfy
        go_wp2_with fail
        refine ⟨⟨k + 1, by omega, by go_num, HN.out, HB1.out⟩, by simp [intOf]; omega⟩
    · obtain rfl : k = zs.length := by omega
      have h := HNO.out
      rw [List.take_length] at h
      have HI := Lib.hid h
      clear h
      go_wp2_with fail
      go_ret
      exact ⟨by rw [HI.out]; rfl, HB.out⟩
end Go.Proofs.Ythhdipfadnihjaa
