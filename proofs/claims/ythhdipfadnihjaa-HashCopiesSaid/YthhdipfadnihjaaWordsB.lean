/- The walks of words.Lay, words.Words, and of the reference's Word and Lay. -/
import Derived.Test.YthhdipfadnihjaaWordsLaw
import Derived.Test.YthhdipfadnihjaaRefBytes
import Derived.Deep.RegionLaw
namespace Go.Proofs.Ythhdipfadnihjaa
open Go Go.RowKit

theorem elem_u64' : ElemIs Try.prog 78 36 (.int .u64 0) 1 8 := ⟨by kernel_rfl, by kernel_rfl, rfl, by decide⟩

set_option maxRecDepth 100000 in
set_option maxHeartbeats 2000000 in
theorem lay_any (p : Option Addr) (cap : Nat) (bs : List (BitVec 8)) (w : World) (hrd : RdL w.heap.size w p cap vb bs) (hx : bs.length ≤ 1000000) :
    Calls Try.prog 76 #[.slice p bs.length cap] w (RetOwn 36 vw (layL bs) w) := by
  have hlen := hrd.len
  have HR := Lib.hid hrd
  clear hrd
  go_enter Try.func76, Try.ntmps76
  go_wp2
  go_loopw [3, 8] (fun v i wr => ∃ (k : Nat), k ≤ bs.length ∧ i = .int .i64 k ∧ wr.ownsRow w.heap.size 36 1 v (layL (bs.take k)).length ((layL (bs.take k)).map vw) ∧ Below w.heap.size w wr) (fun _ i _ => bs.length - (intOf i).toNat)
  case atStart => exact ⟨0, Nat.zero_le _, rfl, by simpa [layL_nil] using World.ownsRow_nil w w.heap.size 36 1, Below.refl _ _⟩
  case round =>
    obtain ⟨k, hk, rfl, hown, hb⟩ := hrel
    by_cases hlt : k < bs.length
    · obtain ⟨b, off, rfl, hbb, hcx⟩ := HR.out.at k hlt
      have hcx' : wr.cell? ⟨b, off + k, none⟩ = some (vb bs[k]) := (hb.cell (p := ⟨b, off + k, none⟩) hbb).trans hcx
      obtain ⟨x, hxk⟩ : ∃ x, bs[k] = x := ⟨_, rfl⟩
      rw [hxk] at hcx'
      have htl : (bs.take k).length = k := by simp; omega
      have HTL := Lib.hid htl
      have HO := Lib.hid hown
      have HB := Lib.hid hb
      have HX := Lib.hid hxk
      have hm8 : (k : Int) % 8 = ((k % 8 : Nat) : Int) := by omega
      by_cases h8 : k % 8 = 0
      · have h8' : (((k : Int) % 8) == 0) = true := by rw [hm8, h8]; rfl
        have H8 := Lib.hid h8
        clear hown hb hcx htl hm8 h8 hxk
        go_wp2_with (
          at_builtin
          refine wpList_append1 rfl (.tmp 16) (.tmp 17) _ rfl elem_u64' vw w.heap.size (layL (bs.take k)) 0#64 _ rfl _ _ rfl (HO.out.alloc _) 36 (Box.new wr 36 (vw 0#64)) rfl ?_ ?_ ?_ ?_
          · rw [layL_length, HTL.out]; omega
          · omega
          · have := HB.out.size; simp; omega
          intro v2 w2 hown2 hg _ _
          have HB2 := Lib.hid (below_grown (HB.out.alloc HB.out.size _) hg (by have := HB.out.size; simp; omega) (fun b hb => (HO.out.lt b hb).1))
          have HO2 := Lib.hid hown2
          clear hg hown2)
        obtain ⟨g, c2, rfl, hg0, hc2, hc3⟩ := own_pos HO2.out (by simp)
        have hL : k / 8 < (layL (bs.take k) ++ [0#64]).length := by
          rw [List.length_append, layL_length, HTL.out]; simp; have := H8.out; omega
        have hend : layL (bs.take (k + 1)) = (layL (bs.take k) ++ [0#64]).set (k / 8) (orw ((layL (bs.take k) ++ [0#64])[k / 8]'hL) (shlw (ofb x) (8 * (k % 8)))) := by
          have e : (layL (bs.take k)).length = k / 8 := by rw [layL_length, HTL.out]; have := H8.out; omega
          rw [List.take_succ_eq_append_getElem hlt, HX.out, layL_new _ _ (by rw [HTL.out]; exact H8.out), HTL.out]
          congr 2
          rw [List.getElem_append_right (by omega)]
          simp [e]
        generalize (layL (bs.take k) ++ [0#64]) = L1 at *
        obtain ⟨z, hz⟩ : ∃ z, L1[k / 8]'hL = z := ⟨_, rfl⟩
        rw [hz] at hend
        have hcell := own_at HO2.out (k / 8) hL
        rw [hz] at hcell
        have hfree := HO2.out.frozenAt (k / 8)
        have HE := Lib.hid hend
        clear hend hz
        have hq2 : (0 : Int) ≤ (k : Int) / 8 := by omega
        have hq3 : (k : Int) / 8 < (L1.length : Int) := by omega
        have hq4 : ((k : Int) / 8).toNat = k / 8 := by omega
        have hr2 : (0 : Int) ≤ 8 * ((k : Int) % 8) := by omega
        have hr3 : 8 * ((k : Int) % 8) < 64 := by omega
        have hr4 : IntKind.i64.wrap (8 * ((k : Int) % 8)) = 8 * ((k : Int) % 8) := IntWalk.i64_in _ (by omega)
        have hs1 := shl_b x (8 * (k % 8))
        have hs2 := bits_or_w z (shlw (ofb x) (8 * (k % 8)))
        go_region
        all_goals
          clear hs1 hs2 hq2 hq3 hq4 hr2 hr3 hr4 hcell hfree
          go_wp2
          refine ⟨⟨k + 1, by omega, by go_num, ?_, (HB2.out.setCell (p := ⟨g, k / 8, none⟩) hg0 _).drew⟩, by simp [intOf]; omega⟩
          rw [HE.out, List.length_set]
          exact own_set HO2.out (k / 8) (orw z (shlw (ofb x) (8 * (k % 8))))
      · have h8' : (((k : Int) % 8) == 0) = false := by rw [hm8]; simp; omega
        have H8 := Lib.hid h8
        obtain ⟨w2, rfl⟩ : ∃ w2, w2 = wr := ⟨_, rfl⟩
        have HB2 := HB
        have hL : k / 8 < (layL (bs.take k)).length := by
          rw [layL_length, htl]; omega
        obtain ⟨g, c2, rfl, hg0, hc2, hc3⟩ := own_pos hown (by omega)
        have HO2 := HO
        have hend : layL (bs.take (k + 1)) = (layL (bs.take k)).set (k / 8) (orw ((layL (bs.take k))[k / 8]'hL) (shlw (ofb x) (8 * (k % 8)))) := by
          have h2 : (bs.take k).length / 8 < (layL (bs.take k)).length := by rw [htl]; exact hL
          have h3 := layL_more (bs.take k) x (by rw [htl]; exact h8) h2
          rw [List.take_succ_eq_append_getElem hlt, hxk, h3]
          simp only [htl]
        clear hown hb hcx htl hm8 h8 hxk HO HB
        generalize layL (bs.take k) = L1 at *
        have HD := Lib.hid hend
        clear hend
        go_wp2
        have hend := HD.out
        obtain ⟨z, hz⟩ : ∃ z, L1[k / 8]'hL = z := ⟨_, rfl⟩
        rw [hz] at hend
        have hcell := own_at HO2.out (k / 8) hL
        rw [hz] at hcell
        have hfree := HO2.out.frozenAt (k / 8)
        have HE := Lib.hid hend
        clear hend hz
        have hq2 : (0 : Int) ≤ (k : Int) / 8 := by omega
        have hq3 : (k : Int) / 8 < (L1.length : Int) := by omega
        have hq4 : ((k : Int) / 8).toNat = k / 8 := by omega
        have hr2 : (0 : Int) ≤ 8 * ((k : Int) % 8) := by omega
        have hr3 : 8 * ((k : Int) % 8) < 64 := by omega
        have hr4 : IntKind.i64.wrap (8 * ((k : Int) % 8)) = 8 * ((k : Int) % 8) := IntWalk.i64_in _ (by omega)
        have hs1 := shl_b x (8 * (k % 8))
        have hs2 := bits_or_w z (shlw (ofb x) (8 * (k % 8)))
        go_region
        all_goals
          clear hs1 hs2 hq2 hq3 hq4 hr2 hr3 hr4 hcell hfree
          go_wp2
          refine ⟨⟨k + 1, by omega, by go_num, ?_, (HB2.out.setCell (p := ⟨g, k / 8, none⟩) hg0 _).drew⟩, by simp [intOf]; omega⟩
          rw [HE.out, List.length_set]
          exact own_set HO2.out (k / 8) (orw z (shlw (ofb x) (8 * (k % 8))))
    · obtain rfl : k = bs.length := by omega
      rw [List.take_length] at hown
      go_wp2
      go_ret
      exact ⟨_, rfl, hown, hb⟩

/-- Two results: a slice of the call's own that reads as ys, and a number. -/
def RetOwn2 {α : Type} (E : TypeId) (enc : α → Value) (ys : List α) (u : Value) (w : World) (e : Ending) (w' : World) : Prop :=
  ∃ v, e = .returned (.tuple #[v, u]) ∧ w'.ownsRow w.heap.size E 1 v ys.length (ys.map enc) ∧ Below w.heap.size w w'

theorem wordN_drop (l : List (BitVec 8)) (k : Nat) (h : k < l.length) : wordN (l.drop k) = l[k].toNat + 256 * wordN (l.drop (k + 1)) := by
  rw [List.drop_eq_getElem_cons h]; rfl

theorem layL_take_succ (bs : List (BitVec 8)) (m : Nat) (h : 8 * m < bs.length) : (layL bs).take (m + 1) = (layL bs).take m ++ [wordOf ((bs.drop (8 * m)).take 8)] := by
  have h2 : m < (layL bs).length := by rw [layL_length]; omega
  rw [List.take_succ_eq_append_getElem h2]
  simp [layL]

/-- What is taken of words: the first n of their bytes, where the others are noughts and n ends in the last word. -/
def takeOk (xs : List (BitVec 64)) (n : Int) : Bool := decide (0 ≤ n ∧ n ≤ 8 * xs.length ∧ (8 * (xs.length : Int) - 8 < n)) && ((bytesL xs).drop n.toNat).all (· == 0#8)
def takeL (xs : List (BitVec 64)) (n : Int) : List (BitVec 8) := if takeOk xs n then (bytesL xs).take n.toNat else []
def takeNo (xs : List (BitVec 64)) (n : Int) : Int := if takeOk xs n then 0 else 2
def RetTake (xs : List (BitVec 64)) (n : Int) (w : World) (e : Ending) (w' : World) : Prop :=
  ∃ p cap, e = .returned (.tuple #[.slice p (takeL xs n).length cap, .int .i64 (takeNo xs n)]) ∧ RdL w'.heap.size w' p cap vb (takeL xs n) ∧ Below w.heap.size w w'

theorem takeOk_out (xs : List (BitVec 64)) (n : Int) (h : ¬ (0 ≤ n ∧ n ≤ 8 * xs.length ∧ (8 * (xs.length : Int) - 8 < n))) : takeOk xs n = false := by
  unfold takeOk; rw [decide_eq_false h]; rfl
theorem takeOk_in (xs : List (BitVec 64)) (k : Nat) (h : k ≤ 8 * xs.length) (h2 : 8 * (xs.length : Int) - 8 < k) : takeOk xs (k : Int) = ((bytesL xs).drop k).all (· == 0#8) := by
  unfold takeOk; rw [decide_eq_true ⟨by omega, by omega, by omega⟩]; rfl
theorem all_no (l : List (BitVec 8)) (j : Nat) (hj : j < l.length) (h : l[j] ≠ 0#8) : l.all (· == 0#8) = false := by
  rw [List.all_eq_false]
  exact ⟨l[j], List.getElem_mem hj, by simpa using h⟩
theorem all_yes (l : List (BitVec 8)) (h : ∀ j (hj : j < l.length), l[j] = 0#8) : l.all (· == 0#8) = true := by
  rw [List.all_eq_true]
  intro x hx
  obtain ⟨j, hj, rfl⟩ := List.getElem_of_mem hx
  simpa using h j hj

end Go.Proofs.Ythhdipfadnihjaa
