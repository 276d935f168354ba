/- The walks of the sums of words, and of sealed words. -/
import Derived.Test.YtljegehfdmgcbaaSumB
import Derived.Test.YtljegehfdmgcbaaRefBytes
import Derived.Test.YtljegehfdmgcbaaSame
namespace Go.Proofs.Ytljegehfdmgcbaa
open Go Go.RowKit

def sumw (ys : List (BitVec 8)) : BitVec 64 := notw (morew (notw 0#64) ys)
def wordsSum (xs : List (BitVec 64)) : BitVec 64 := sumw (bytesL xs)
def sealL (xs : List (BitVec 64)) : List (BitVec 64) := xs ++ [wordsSum xs]

theorem elem_u64 : ElemIs Try.prog 34 24 (.int .u64 0) 1 8 := ⟨by kernel_rfl, by kernel_rfl, rfl, by decide⟩

set_option maxHeartbeats 400000 in
theorem sum_any (p : Option Addr) (cap : Nat) (ys : List (BitVec 8)) (w : World) (hrd : RdL w.heap.size w p cap vb ys) :
    Calls Try.prog 56 #[.slice p ys.length cap] w fun e w' => e = .returned (vw (sumw ys)) ∧ Below w.heap.size w w' := by
  have h := more_any 0#64 p cap ys w hrd
  have HC := Lib.hid h
  clear h
  go_enter Try.func56, Try.ntmps56
  go_wp2_with (go_at_call 60; refine HC.out.mono ?_; rintro e w' ⟨rfl, hb⟩)
  go_ret
  exact ⟨rfl, hb⟩

set_option maxHeartbeats 400000 in
theorem words_any (p : Option Addr) (cap : Nat) (xs : List (BitVec 64)) (w : World) (hrd : RdL w.heap.size w p cap vw xs) (hx : xs.length ≤ 1000000) :
    Calls Try.prog 42 #[.slice p xs.length cap] w fun e w' => e = .returned (vw (wordsSum xs)) ∧ Below w.heap.size w w' := by
  go_enter Try.func42, Try.ntmps42
  go_wp2_with fail
  refine (bytes_any p cap xs _ hrd hx).mono ?_
  rintro e w1 ⟨v, rfl, hown, hb⟩
  obtain ⟨p', cap', rfl, hr, _⟩ := rdl_of_owns hown
  go_wp2_with fail
  refine (sum_any p' cap' (bytesL xs) _ hr).mono ?_
  rintro e w2 ⟨rfl, hb2⟩
  go_wp2_with fail
  go_ret
  exact ⟨rfl, hb.trans (hb2.mono hb.size)⟩

set_option maxHeartbeats 1000000 in
theorem clone_any (p : Option Addr) (cap : Nat) (xs : List (BitVec 64)) (w : World) (hrd : RdL w.heap.size w p cap vw xs) (hx : xs.length ≤ 1000000) :
    Calls Try.prog 41 #[.slice p xs.length cap] w (RetOwn 24 vw xs w) := by
  have hlen := hrd.len
  have hnil := fun (w : World) (a : Option Addr) (n c : Nat) => Lib.run_eql_slice_nil (P := Try.prog) w 34 24 a n c 0 0 Try.underlying34
  have hsrc := src_rdl (hrd.below ((Below.refl _ w).alloc (Nat.le_refl _) (.cells #[] 24)))
  rcases p with _ | x
  · obtain ⟨rfl, rfl⟩ := hrd.isNil
    go_enter Try.func41, Try.ntmps41
    go_wp2
    go_ret
    exact ⟨.slice none 0 0, rfl, World.ownsRow_nil _ _ _ _, Below.refl _ _⟩
  · clear hrd
    go_enter Try.func41, Try.ntmps41
    go_wp2_with (at_builtin; refine wpList_append_src rfl _ _ _ rfl elem_u64 w.heap.size _ 0 [] rfl (own_empty w _ _ _ (Nat.le_refl _)) _ xs.length (xs.map vw) rfl hsrc ?_ ?_ ?_ ?_ ?_ ?_
                 · simp
                 · simp [Value.oneCell']
                 · unfold maxLen; omega
                 · omega
                 · simp
                 intro v w1 hown hg _ _)
    go_ret
    refine ⟨v, rfl, by simpa using hown, ?_⟩
    exact below_grown ((Below.refl _ w).alloc (Nat.le_refl _) _) hg (by simp) (by intro b hb; cases hb; exact Nat.le_refl _)

set_option maxHeartbeats 1000000 in
theorem seal_any (p : Option Addr) (cap : Nat) (xs : List (BitVec 64)) (w : World) (hrd : RdL w.heap.size w p cap vw xs) (hx : xs.length ≤ 1000000) :
    Calls Try.prog 30 #[.slice p xs.length cap] w (RetOwn 24 vw (sealL xs) w) := by
  go_enter Try.func30, Try.ntmps30
  go_wp2_with fail
  refine (clone_any p cap xs _ hrd hx).mono ?_
  rintro e w1 ⟨v, rfl, hown, hb⟩
  go_wp2_with fail
  refine (words_any p cap xs _ ((hrd.below hb).wide hb.size) hx).mono ?_
  rintro e w2 ⟨rfl, hb2⟩
  have hown2 := own_below hown hb2
  have hs2 := Nat.le_trans hb.size hb2.size
  have HB := Lib.hid (hb.trans (hb2.mono hb.size))
  clear hb hb2 hown
  go_wp2_with (at_builtin; refine wpList_append_src rfl _ _ _ rfl elem_u64 w.heap.size _ xs.length (xs.map vw) rfl (hown2.alloc _) _ 1 [vw (wordsSum xs)] rfl (src_one (Box.new w2 _ _).cell) rfl ?_ ?_ ?_ ?_ ?_
               · simp [Value.oneCell']
               · unfold maxLen; omega
               · omega
               · simp; omega
               intro v' w3 hown3 hg _ _)
  go_ret
  refine ⟨v', rfl, by simpa [sealL] using hown3, ?_⟩
  exact below_grown (HB.out.alloc hs2 _) hg (by simp; omega) (fun b hb => (hown2.lt b hb).1)

theorem rem2_w (x : BitVec 64) : ((x.toNat : Int) % (2 : Int)) = ((x.toNat % 2 : Nat) : Int) := by simp
theorem stepw_odd {x : BitVec 64} (h : odd x = true) : stepw x = xorw (shrw x 1) poly := by unfold stepw; rw [if_pos h]
theorem stepw_even {x : BitVec 64} (h : odd x = false) : stepw x = shrw x 1 := by unfold stepw; rw [if_neg (by rw [h]; simp)]
theorem odd_mod (x : BitVec 64) : (((x.toNat : Int) % (2 : Int)) == 1) = odd x := by unfold odd; rw [rem2_w]
theorem morew_take_succ (r : BitVec 64) (ys : List (BitVec 8)) (k : Nat) (h : k < ys.length) : morew r (ys.take (k + 1)) = intow (morew r (ys.take k)) ys[k] := by
  rw [List.take_succ_eq_append_getElem h, morew_snoc]

set_option maxRecDepth 100000 in
set_option maxHeartbeats 2000000 in
theorem refMore_any (x : BitVec 64) (p : Option Addr) (cap : Nat) (ys : List (BitVec 8)) (w : World) (hrd : RdL w.heap.size w p cap vb ys) :
    Calls Try.prog 58 #[vw x, .slice p ys.length cap] w fun e w' => e = .returned (vw (notw (morew (notw x) ys))) ∧ w = w' := by
  have hlen := hrd.len
  have hn := not_w x
  have hsg : IntKind.u64.signed = false := rfl
  have HR := Lib.hid hrd
  clear hrd
  go_enter Try.func58, Try.ntmps58
  go_wp2
  clear hn
  go_loop [5, 6] (fun v i => ∃ (k : Nat), k ≤ ys.length ∧ i = .int .i64 k ∧ v = vw (morew (notw x) (ys.take k))) (fun _ i => ys.length - (intOf i).toNat)
  case atStart => exact ⟨0, Nat.zero_le _, rfl, rfl⟩
  case round =>
    obtain ⟨k, hk, rfl, rfl⟩ := hrel
    by_cases hlt : k < ys.length
    · obtain ⟨b, off, rfl, hbb, hcx⟩ := HR.out.at k hlt
      have hx := bits_xor_w (morew (notw x) (ys.take k)) (ofb ys[k])
      rw [← ofb_w] at hx
      go_wp2
      clear hx hcx
      go_loop [5, 7] (fun v i => ∃ (j : Nat), j ≤ 8 ∧ i = .int .i64 j ∧ v = vw (steps j (xorw (morew (notw x) (ys.take k)) (ofb ys[k])))) (fun _ i => 8 - (intOf i).toNat)
      case atStart => exact ⟨0, by omega, rfl, rfl⟩
      case round =>
        obtain ⟨j, hj, rfl, rfl⟩ := hrel
        by_cases hjt : j < 8
        · have h1 := odd_mod (steps j (xorw (morew (notw x) (ys.take k)) (ofb ys[k])))
          have h2 := shr1_w (steps j (xorw (morew (notw x) (ys.take k)) (ofb ys[k])))
          have h3 : bits BinOp.xor IntKind.u64 (↑(shrw (steps j (xorw (morew (notw x) (ys.take k)) (ofb ys[k]))) 1).toNat) 14514072000185962306 = ((xorw (shrw (steps j (xorw (morew (notw x) (ys.take k)) (ofb ys[k]))) 1) poly).toNat : Int) := bits_xor_w _ poly
          cases ho : odd (steps j (xorw (morew (notw x) (ys.take k)) (ofb ys[k]))) with
          | true =>
            rw [ho] at h1
            have HO := Lib.hid (stepw_odd ho)
            clear ho
            go_wp2
            exact ⟨⟨j + 1, by omega, by go_num, by rw [steps, HO.out]⟩, by simp [intOf]; omega⟩
          | false =>
            rw [ho] at h1
            have HO := Lib.hid (stepw_even ho)
            clear ho h3
            go_wp2
            exact ⟨⟨j + 1, by omega, by go_num, by rw [steps, HO.out]⟩, by simp [intOf]; omega⟩
        · obtain rfl : j = 8 := by omega
          go_wp2
          exact ⟨⟨k + 1, by omega, by go_num, by rw [morew_take_succ _ _ _ hlt]; rfl⟩, by simp [intOf]; omega⟩
    · obtain rfl : k = ys.length := by omega
      rw [List.take_length]
      have hn2 := not_w (morew (notw x) ys)
      go_wp2
      go_ret
      exact ⟨rfl, rfl⟩

set_option maxHeartbeats 400000 in
theorem refWords_any (p : Option Addr) (cap : Nat) (xs : List (BitVec 64)) (w : World) (hrd : RdL w.heap.size w p cap vw xs) (hx : xs.length ≤ 1000000) :
    Calls Try.prog 43 #[.slice p xs.length cap] w fun e w' => e = .returned (vw (wordsSum xs)) ∧ Below w.heap.size w w' := by
  go_enter Try.func43, Try.ntmps43
  go_wp2_with fail
  refine (refBytes_any p cap xs _ hrd hx).mono ?_
  rintro e w1 ⟨v, rfl, hown, hb⟩
  obtain ⟨p', cap', rfl, hr, _⟩ := rdl_of_owns hown
  have h := refMore_any 0#64 p' cap' (bytesL xs) _ hr
  have HC := Lib.hid h
  clear h
  go_wp2_with fail
  refine HC.out.mono ?_
  rintro e w2 ⟨rfl, rfl⟩
  go_wp2_with fail
  go_ret
  exact ⟨rfl, hb⟩

set_option maxHeartbeats 1000000 in
theorem refSeal_any (p : Option Addr) (cap : Nat) (xs : List (BitVec 64)) (w : World) (hrd : RdL w.heap.size w p cap vw xs) (hx : xs.length ≤ 1000000) :
    Calls Try.prog 31 #[.slice p xs.length cap] w (RetOwn 24 vw (sealL xs) w) := by
  have hsrc := src_rdl (hrd.below ((Below.refl _ w).alloc (Nat.le_refl _) (.cells #[] 24)))
  have HS := Lib.hid hsrc
  have HR := Lib.hid hrd
  clear hsrc hrd
  go_enter Try.func31, Try.ntmps31
  go_wp2_with (
    at_builtin
    refine wpList_append_src rfl _ _ _ rfl elem_u64 w.heap.size _ 0 [] rfl (own_empty w _ _ _ (Nat.le_refl _)) _ xs.length (xs.map vw) rfl HS.out ?_ ?_ ?_ ?_ ?_ ?_
    · simp
    · simp [Value.oneCell']
    · unfold maxLen; omega
    · omega
    · simp
    intro v w1 hown hg _ _
    have HB := Lib.hid (below_grown ((Below.refl _ w).alloc (Nat.le_refl _) _) hg (by simp) (by intro b hb; cases hb; exact Nat.le_refl _))
    have HO := Lib.hid hown
    clear hg hown)
  refine (refWords_any p cap xs _ ((HR.out.below HB.out).wide HB.out.size) hx).mono ?_
  rintro e w2 ⟨rfl, hb2⟩
  have hown2 := own_below HO.out hb2
  have hs2 := Nat.le_trans HB.out.size hb2.size
  have HB2 := Lib.hid (HB.out.trans (hb2.mono HB.out.size))
  clear hb2
  simp only [Nat.zero_add, List.nil_append] at hown2
  go_wp2_with (
    at_builtin
    refine wpList_append1 rfl _ _ _ rfl elem_u64 vw w.heap.size xs (wordsSum xs) _ rfl _ _ rfl (hown2.alloc _) _ (Box.new w2 _ _) rfl (by omega) (by omega) (by simp; omega) ?_
    intro v' w3 hown3 hg _ _)
  go_ret
  refine ⟨v', rfl, by simpa [sealL] using hown3, ?_⟩
  exact below_grown (HB2.out.alloc hs2 _) hg (by simp; omega) (fun b hb => (hown2.lt b hb).1)

end Go.Proofs.Ytljegehfdmgcbaa
