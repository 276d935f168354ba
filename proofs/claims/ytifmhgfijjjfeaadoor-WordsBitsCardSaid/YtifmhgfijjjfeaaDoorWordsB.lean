/- The walks of words.Lay, words.Words, and of the reference's Word and Lay. -/
import Derived.Test.YtifmhgfijjjfeaaDoorWordsLaw
import Derived.Test.YtifmhgfijjjfeaaDoorRefBytes
import Derived.Deep.RegionLaw
namespace Go.Proofs.YtifmhgfijjjfeaaDoor
open Go Go.RowKit

theorem elem_u64' : ElemIs Tryd.prog 32 22 (.int .u64 0) 1 8 := ⟨by kernel_rfl, by kernel_rfl, rfl, by decide⟩

set_option maxRecDepth 100000 in
set_option maxHeartbeats 2000000 in
theorem lay_any (p : Option Addr) (cap : Nat) (bs : List (BitVec 8)) (w : World) (hrd : RdL w.heap.size w p cap vb bs) (hx : bs.length ≤ 1000000) :
    Calls Tryd.prog 11 #[.slice p bs.length cap] w (RetOwn 22 vw (layL bs) w) := by
  have hlen := hrd.len
  have HR := Lib.hid hrd
  clear hrd
  go_enter Tryd.func11, Tryd.ntmps11
  go_wp2
  go_loopw [3, 8] (fun v i wr => ∃ (k : Nat), k ≤ bs.length ∧ i = .int .i64 k ∧ wr.ownsRow w.heap.size 22 1 v (layL (bs.take k)).length ((layL (bs.take k)).map vw) ∧ Below w.heap.size w wr) (fun _ i _ => bs.length - (intOf i).toNat)
  case atStart => exact ⟨0, Nat.zero_le _, rfl, by simpa [layL_nil] using World.ownsRow_nil w w.heap.size 22 1, Below.refl _ _⟩
  case round =>
    obtain ⟨k, hk, rfl, hown, hb⟩ := hrel
    by_cases hlt : k < bs.length
    · obtain ⟨b, off, rfl, hbb, hcx⟩ := HR.out.at k hlt
      have hcx' : wr.cell? ⟨b, off + k, none⟩ = some (vb bs[k]) := (hb.cell (p := ⟨b, off + k, none⟩) hbb).trans hcx
      obtain ⟨x, hxk⟩ : ∃ x, bs[k] = x := ⟨_, rfl⟩
      rw [hxk] at hcx'
      have htl : (bs.take k).length = k := by simp; omega
      have HTL := Lib.hid htl
      have HO := Lib.hid hown
      have HB := Lib.hid hb
      have HX := Lib.hid hxk
      have hm8 : (k : Int) % 8 = ((k % 8 : Nat) : Int) := by omega
      by_cases h8 : k % 8 = 0
      · have h8' : (((k : Int) % 8) == 0) = true := by rw [hm8, h8]; rfl
        have H8 := Lib.hid h8
        clear hown hb hcx htl hm8 h8 hxk
        go_wp2_with (
          at_builtin
          refine wpList_append1 rfl (.tmp 16) (.tmp 17) _ rfl elem_u64' vw w.heap.size (layL (bs.take k)) 0#64 _ rfl _ _ rfl (HO.out.alloc _) 22 (Box.new wr 22 (vw 0#64)) rfl ?_ ?_ ?_ ?_
          · rw [layL_length, HTL.out]; omega
          · omega
          · have := HB.out.size; simp; omega
          intro v2 w2 hown2 hg _ _
          have HB2 := Lib.hid (below_grown (HB.out.alloc HB.out.size _) hg (by have := HB.out.size; simp; omega) (fun b hb => (HO.out.lt b hb).1))
          have HO2 := Lib.hid hown2
          clear hg hown2)
        obtain ⟨g, c2, rfl, hg0, hc2, hc3⟩ := own_pos HO2.out (by simp)
        have hL : k / 8 < (layL (bs.take k) ++ [0#64]).length := by
          rw [List.length_append, layL_length, HTL.out]; simp; have := H8.out; omega
        have hend : layL (bs.take (k + 1)) = (layL (bs.take k) ++ [0#64]).set (k / 8) (orw ((layL (bs.take k) ++ [0#64])[k / 8]'hL) (shlw (ofb x) (8 * (k % 8)))) := by
          have e : (layL (bs.take k)).length = k / 8 := by rw [layL_length, HTL.out]; have := H8.out; omega
          rw [List.take_succ_eq_append_getElem hlt, HX.out, layL_new _ _ (by rw [HTL.out]; exact H8.out), HTL.out]
          congr 2
          rw [List.getElem_append_right (by omega)]
          simp [e]
        generalize (layL (bs.take k) ++ [0#64]) = L1 at *
        obtain ⟨z, hz⟩ : ∃ z, L1[k / 8]'hL = z := ⟨_, rfl⟩
        rw [hz] at hend
        have hcell := own_at HO2.out (k / 8) hL
        rw [hz] at hcell
        have hfree := HO2.out.frozenAt (k / 8)
        have HE := Lib.hid hend
        clear hend hz
        have hq2 : (0 : Int) ≤ (k : Int) / 8 := by omega
        have hq3 : (k : Int) / 8 < (L1.length : Int) := by omega
        have hq4 : ((k : Int) / 8).toNat = k / 8 := by omega
        have hr2 : (0 : Int) ≤ 8 * ((k : Int) % 8) := by omega
        have hr3 : 8 * ((k : Int) % 8) < 64 := by omega
        have hr4 : IntKind.i64.wrap (8 * ((k : Int) % 8)) = 8 * ((k : Int) % 8) := IntWalk.i64_in _ (by omega)
        have hs1 := shl_b x (8 * (k % 8))
        have hs2 := bits_or_w z (shlw (ofb x) (8 * (k % 8)))
        go_region
        all_goals
          clear hs1 hs2 hq2 hq3 hq4 hr2 hr3 hr4 hcell hfree
          go_wp2
          refine ⟨⟨k + 1, by omega, by go_num, ?_, (HB2.out.setCell (p := ⟨g, k / 8, none⟩) hg0 _).drew⟩, by simp [intOf]; omega⟩
          rw [HE.out, List.length_set]
          exact own_set HO2.out (k / 8) (orw z (shlw (ofb x) (8 * (k % 8))))
      · have h8' : (((k : Int) % 8) == 0) = false := by rw [hm8]; simp; omega
        have H8 := Lib.hid h8
        obtain ⟨w2, rfl⟩ : ∃ w2, w2 = wr := ⟨_, rfl⟩
        have HB2 := HB
        have hL : k / 8 < (layL (bs.take k)).length := by
          rw [layL_length, htl]; omega
        obtain ⟨g, c2, rfl, hg0, hc2, hc3⟩ := own_pos hown (by omega)
        have HO2 := HO
        have hend : layL (bs.take (k + 1)) = (layL (bs.take k)).set (k / 8) (orw ((layL (bs.take k))[k / 8]'hL) (shlw (ofb x) (8 * (k % 8)))) := by
          have h2 : (bs.take k).length / 8 < (layL (bs.take k)).length := by rw [htl]; exact hL
          have h3 := layL_more (bs.take k) x (by rw [htl]; exact h8) h2
          rw [List.take_succ_eq_append_getElem hlt, hxk, h3]
          simp only [htl]
        clear hown hb hcx htl hm8 h8 hxk HO HB
        generalize layL (bs.take k) = L1 at *
        have HD := Lib.hid hend
        clear hend
        go_wp2
        have hend := HD.out
        obtain ⟨z, hz⟩ : ∃ z, L1[k / 8]'hL = z := ⟨_, rfl⟩
        rw [hz] at hend
        have hcell := own_at HO2.out (k / 8) hL
        rw [hz] at hcell
        have hfree := HO2.out.frozenAt (k / 8)
        have HE := Lib.hid hend
        clear hend hz
        have hq2 : (0 : Int) ≤ (k : Int) / 8 := by omega
        have hq3 : (k : Int) / 8 < (L1.length : Int) := by omega
        have hq4 : ((k : Int) / 8).toNat = k / 8 := by omega
        have hr2 : (0 : Int) ≤ 8 * ((k : Int) % 8) := by omega
        have hr3 : 8 * ((k : Int) % 8) < 64 := by omega
        have hr4 : IntKind.i64.wrap (8 * ((k : Int) % 8)) = 8 * ((k : Int) % 8) := IntWalk.i64_in _ (by omega)
        have hs1 := shl_b x (8 * (k % 8))
        have hs2 := bits_or_w z (shlw (ofb x) (8 * (k % 8)))
        go_region
        all_goals
          clear hs1 hs2 hq2 hq3 hq4 hr2 hr3 hr4 hcell hfree
          go_wp2
          refine ⟨⟨k + 1, by omega, by go_num, ?_, (HB2.out.setCell (p := ⟨g, k / 8, none⟩) hg0 _).drew⟩, by simp [intOf]; omega⟩
          rw [HE.out, List.length_set]
          exact own_set HO2.out (k / 8) (orw z (shlw (ofb x) (8 * (k % 8))))
    · obtain rfl : k = bs.length := by omega
      rw [List.take_length] at hown
      go_wp2
      go_ret
      exact ⟨_, rfl, hown, hb⟩

set_option maxHeartbeats 400000 in
theorem wordsBad_any (p : Option Addr) (cap : Nat) (bs : List (BitVec 8)) (w : World) (h8 : bs.length % 8 ≠ 0) (hx : bs.length ≤ 1000000) :
    Calls Tryd.prog 10 #[.slice p bs.length cap] w fun e w' => e = .returned (.tuple #[.slice none 0 0, .int .i64 2]) ∧ w = w' := by
  have h : (((bs.length : Int) % 8) != 0) = true := by simp; omega
  clear h8
  go_enter Tryd.func10, Tryd.ntmps10
  go_wp2_with fail
  go_ret2
  exact ⟨rfl, rfl⟩

/-- Two results: a slice of the call's own that reads as ys, and a number. -/
def RetOwn2 {α : Type} (E : TypeId) (enc : α → Value) (ys : List α) (u : Value) (w : World) (e : Ending) (w' : World) : Prop :=
  ∃ v, e = .returned (.tuple #[v, u]) ∧ w'.ownsRow w.heap.size E 1 v ys.length (ys.map enc) ∧ Below w.heap.size w w'

set_option maxHeartbeats 400000 in
theorem wordsOk_any (p : Option Addr) (cap : Nat) (bs : List (BitVec 8)) (w : World) (hrd : RdL w.heap.size w p cap vb bs) (h8 : bs.length % 8 = 0) (hx : bs.length ≤ 1000000) :
    Calls Tryd.prog 10 #[.slice p bs.length cap] w (RetOwn2 22 vw (layL bs) (.int .i64 0) w) := by
  have h : (((bs.length : Int) % 8) != 0) = false := by simp; omega
  clear h8
  have HR := Lib.hid hrd
  clear hrd
  go_enter Tryd.func10, Tryd.ntmps10
  go_wp2_with fail
  refine (lay_any p cap bs _ HR.out hx).mono ?_
  rintro e w1 ⟨v, rfl, hown, hb⟩
  go_wp2_with fail
  go_ret2
  exact ⟨v, rfl, hown, hb⟩

theorem wordN_drop (l : List (BitVec 8)) (k : Nat) (h : k < l.length) : wordN (l.drop k) = l[k].toNat + 256 * wordN (l.drop (k + 1)) := by
  rw [List.drop_eq_getElem_cons h]; rfl

theorem layL_take_succ (bs : List (BitVec 8)) (m : Nat) (h : 8 * m < bs.length) : (layL bs).take (m + 1) = (layL bs).take m ++ [wordOf ((bs.drop (8 * m)).take 8)] := by
  have h2 : m < (layL bs).length := by rw [layL_length]; omega
  rw [List.take_succ_eq_append_getElem h2]
  simp [layL]

/-- What is taken of words: the first n of their bytes, where the others are noughts and n ends in the last word. -/
def takeOk (xs : List (BitVec 64)) (n : Int) : Bool := decide (0 ≤ n ∧ n ≤ 8 * xs.length ∧ (8 * (xs.length : Int) - 8 < n)) && ((bytesL xs).drop n.toNat).all (· == 0#8)
def takeL (xs : List (BitVec 64)) (n : Int) : List (BitVec 8) := if takeOk xs n then (bytesL xs).take n.toNat else []
def takeNo (xs : List (BitVec 64)) (n : Int) : Int := if takeOk xs n then 0 else 2
def RetTake (xs : List (BitVec 64)) (n : Int) (w : World) (e : Ending) (w' : World) : Prop :=
  ∃ p cap, e = .returned (.tuple #[.slice p (takeL xs n).length cap, .int .i64 (takeNo xs n)]) ∧ RdL w'.heap.size w' p cap vb (takeL xs n) ∧ Below w.heap.size w w'

theorem takeOk_out (xs : List (BitVec 64)) (n : Int) (h : ¬ (0 ≤ n ∧ n ≤ 8 * xs.length ∧ (8 * (xs.length : Int) - 8 < n))) : takeOk xs n = false := by
  unfold takeOk; rw [decide_eq_false h]; rfl
theorem takeOk_in (xs : List (BitVec 64)) (k : Nat) (h : k ≤ 8 * xs.length) (h2 : 8 * (xs.length : Int) - 8 < k) : takeOk xs (k : Int) = ((bytesL xs).drop k).all (· == 0#8) := by
  unfold takeOk; rw [decide_eq_true ⟨by omega, by omega, by omega⟩]; rfl
theorem all_no (l : List (BitVec 8)) (j : Nat) (hj : j < l.length) (h : l[j] ≠ 0#8) : l.all (· == 0#8) = false := by
  rw [List.all_eq_false]
  exact ⟨l[j], List.getElem_mem hj, by simpa using h⟩
theorem all_yes (l : List (BitVec 8)) (h : ∀ j (hj : j < l.length), l[j] = 0#8) : l.all (· == 0#8) = true := by
  rw [List.all_eq_true]
  intro x hx
  obtain ⟨j, hj, rfl⟩ := List.getElem_of_mem hx
  simpa using h j hj

set_option maxRecDepth 100000 in
set_option maxHeartbeats 2000000 in
theorem takeOut_any (p : Option Addr) (cap : Nat) (xs : List (BitVec 64)) (n : Int) (w : World) (hx : xs.length ≤ 1000000) (hn : ¬ (0 ≤ n ∧ n ≤ 8 * xs.length ∧ (8 * (xs.length : Int) - 8 < n))) :
    Calls Tryd.prog 12 #[.slice p xs.length cap, .int .i64 n] w (RetTake xs n w) := by
  have HN := Lib.hid (takeOk_out xs n hn)
  have hfin : ∀ W : World, Below w.heap.size w W → RetTake xs n w (.returned (.tuple #[.slice none 0 0, .int .i64 2])) W := fun W hW =>
    ⟨none, 0, by simp [takeL, takeNo, HN.out], by simpa [takeL, HN.out] using RdL.nil _ _ _, hW⟩
  have HF := Lib.hid hfin
  clear hfin
  by_cases h1 : n < 0
  · have h1' : decide (n < 0) = true := by simpa using h1
    clear hn
    go_enter Tryd.func12, Tryd.ntmps12
    go_wp2_with fail
    go_ret2
    exact HF.out _ (Below.refl _ _)
  · have h1' : decide (n < 0) = false := by simpa using h1
    by_cases h2 : 8 * (xs.length : Int) < n
    · have h2' : decide (8 * (xs.length : Int) < n) = true := by simpa using h2
      clear hn
      go_enter Tryd.func12, Tryd.ntmps12
      go_wp2_with fail
      go_ret2
      exact HF.out _ (Below.refl _ _)
    · have h2' : decide (8 * (xs.length : Int) < n) = false := by simpa using h2
      have h3 : 0 < (xs.length : Int) := by omega
      have h4 : n ≤ 8 * ((xs.length : Int) - 1) := by omega
      have h3' : decide (0 < (xs.length : Int)) = true := by simpa using h3
      have h4' : decide (n ≤ 8 * ((xs.length : Int) - 1)) = true := by simpa using h4
      clear hn
      go_enter Tryd.func12, Tryd.ntmps12
      go_wp2_with fail
      go_ret2
      exact HF.out _ (Below.refl _ _)

set_option maxRecDepth 100000 in
set_option maxHeartbeats 2000000 in
theorem takeIn_any (p : Option Addr) (cap : Nat) (xs : List (BitVec 64)) (k : Nat) (w : World) (hrd : RdL w.heap.size w p cap vw xs) (hx : xs.length ≤ 1000000) (hk : k ≤ 8 * xs.length) (hk2 : 8 * (xs.length : Int) - 8 < k) :
    Calls Tryd.prog 12 #[.slice p xs.length cap, .int .i64 k] w (RetTake xs k w) := by
  have HN := Lib.hid (takeOk_in xs k hk hk2)
  have HR := Lib.hid hrd
  have h1' : decide ((k : Int) < 0) = false := by simp
  have h2' : decide (8 * (xs.length : Int) < (k : Int)) = false := by simp; omega
  have h4' : decide ((k : Int) ≤ 8 * ((xs.length : Int) - 1)) = false := by simp; omega
  have h5 : (0 < xs.length ∧ (k : Int) ≤ 8 * ((xs.length : Int) - 1)) = False := by simp; omega
  clear hrd hk2
  go_enter Tryd.func12, Tryd.ntmps12
  go_wp2_with fail
  all_goals
    refine (bytes_any p cap xs _ HR.out hx).mono ?_
    rintro e w1 ⟨v, rfl, hown, hb⟩
    obtain ⟨p1, c1, rfl, hr1, _⟩ := rdl_of_owns hown
    have HB := Lib.hid hb
    have hyl := bytesL_length xs
    have hTake : takeL xs k = if takeOk xs k then (bytesL xs).take k else [] := by unfold takeL; simp
    have HT := Lib.hid hTake
    clear hown hb h1' h2' h4' h5 hTake
    have hkl : k ≤ (bytesL xs).length := by omega
    generalize hys : bytesL xs = ys at *
    have hc1 := hr1.1
    have hm1 : c1 ≤ 9223372036854775807 := hr1.2.1
    have HR1 := Lib.hid hr1
    have HY := Lib.hid hyl
    have hyx : ys.length ≤ 8000000 := by omega
    clear hr1 hyl hys hk
    have hbad : ∀ (j : Nat) (hj : j < (ys.drop k).length), (ys.drop k)[j] ≠ 0#8 → ∀ W : World, Below w1.heap.size w1 W → RetTake xs k w (.returned (.tuple #[.slice none 0 0, .int .i64 2])) W := fun j hj hne W hW => by
      have hno : takeOk xs k = false := by rw [HN.out, all_no _ j hj hne]
      exact ⟨none, 0, by simp [takeL, takeNo, hno], by simpa [takeL, hno] using RdL.nil _ _ _, HB.out.trans (hW.mono HB.out.size)⟩
    have hgood : (∀ (j : Nat) (hj : j < (ys.drop k).length), (ys.drop k)[j] = 0#8) → RetTake xs k w (.returned (.tuple #[.slice p1 k k, .int .i64 0])) w1 := fun hall => by
      have hyes : takeOk xs k = true := by rw [HN.out, all_yes _ hall]
      have hl : takeL xs k = ys.take k := by rw [HT.out, if_pos hyes]
      refine ⟨p1, k, ?_, ?_, HB.out⟩
      · rw [hl, takeNo, hyes, List.length_take, Nat.min_eq_left hkl]; rfl
      · rw [hl]
        have h3 := HR1.out
        rw [← List.take_append_drop k ys] at h3
        exact h3.front (by simp; omega) (by omega)
    have HBad := Lib.hid hbad
    have HGood := Lib.hid hgood
    clear hbad hgood
    have hki : (k : Int) ≤ (ys.length : Int) := by omega
    by_cases hck : c1 = k
    · have hck' : (c1 = k) = True := by simp [hck]
      have hkk : ys.length - k = 0 := by omega
      have HE := Lib.hid hck
      have hG := HGood.out (fun j hj => by simp at hj; omega)
      have HG := Lib.hid hG
      clear hG hck
      go_wp2_with fail
      go_loop [37] (fun i => i = .int .i64 0) (fun _ => 0)
      case atStart => rfl
      case round =>
        subst hrel
        go_wp2_with fail
        go_ret2
        exact HG.out
    · have hck' : (c1 = k) = False := by simp [hck]
      obtain ⟨b, off, rfl⟩ : ∃ b off, p1 = some ⟨b, off, none⟩ := by
        rcases HR1.out.2.2 with h0 | ⟨b, off, h, _⟩
        · omega
        · exact ⟨b, off, h⟩
      have hcell := fun (i : Nat) (hi : k + i < ys.length) => HR1.out.at (k + i) hi
      have HC := Lib.hid hcell
      have hsl : ((ys.length - k : Nat) : Int) = (ys.length : Int) - (k : Int) := by omega
      have HSL := Lib.hid hsl
      clear hck hcell hsl
      go_wp2_with fail
      go_loop [37] (fun i => ∃ j : Nat, j ≤ ys.length - k ∧ i = .int .i64 j ∧ ∀ (m : Nat) (hm : m < j) (hm2 : k + m < ys.length), ys[k + m] = 0#8) (fun i => ys.length - k - (intOf i).toNat)
      case atStart => exact ⟨0, Nat.zero_le _, rfl, fun m hm => by omega⟩
      case round =>
        obtain ⟨j, hj, rfl, hz⟩ := hrel
        have HZ := Lib.hid hz
        clear hz
        by_cases hlt : j < ys.length - k
        · obtain ⟨b', off', hp', hb', hcx⟩ := HC.out j (by omega)
          cases hp'
          obtain ⟨x, hxj⟩ : ∃ x, ys[k + j]'(by omega) = x := ⟨_, rfl⟩
          rw [hxj, ← Nat.add_assoc] at hcx
          have HX := Lib.hid hxj
          clear hxj
          have hj1 : (j : Int) < ((ys.length - k : Nat) : Int) := by omega
          by_cases hx0 : x = 0#8
          · have hne : ((x.toNat : Int) != 0) = false := by rw [hx0]; rfl
            have HX0 := Lib.hid hx0
            clear hx0
            go_wp2_with fail
            go_round
            case rel =>
              refine ⟨j + 1, by omega, by go_num, fun m hm hm2 => ?_⟩
              by_cases e : m = j
              · subst e; rw [HX.out, HX0.out]
              · exact HZ.out m (by omega) hm2
            case measure => simp [intOf]; omega
          · have hne : ((x.toNat : Int) != 0) = true := by
              simp only [bne_iff_ne, ne_eq]; intro h; exact hx0 (BitVec.eq_of_toNat_eq (by simpa using h))
            have hF := HBad.out j (by simp; omega) (by rw [List.getElem_drop, HX.out]; exact hx0) w1 (Below.refl _ _)
            have HF := Lib.hid hF
            clear hF hx0
            go_wp2_with fail
            go_ret2
            exact HF.out
        · have hG := HGood.out (fun m hm => by
            rw [List.getElem_drop]
            simp at hm
            exact HZ.out m (by omega) (by omega))
          have HG := Lib.hid hG
          clear hG
          go_wp2_with fail
          go_ret2
          exact HG.out

end Go.Proofs.YtifmhgfijjjfeaaDoor
