/- Plain facts on the sums of bytes that come piece by piece. -/
import Derived.Test.YthhdipfadnihjaaHashF
namespace Go.Proofs.Ythhdipfadnihjaa
open Go Go.RowKit

/-- The state that bytes make of a key's: its words. -/
def stV (a b : BitVec 64) (bs : List (BitVec 8)) : List (BitVec 64) := foldV (initV a b) (wholeW bs)
def hashV (a b : BitVec 64) (bs : List (BitVec 8)) : BitVec 64 := sumV (stV a b bs) (leftB bs) bs.length

theorem wholeW_append (bs cs : List (BitVec 8)) : wholeW (bs ++ cs) = wholeW bs ++ wholeW (leftB bs ++ cs) := by
  have h1 : (leftB bs).length = bs.length % 8 := leftB_len bs
  have h2 : (leftB bs ++ cs).length = bs.length % 8 + cs.length := by simp [h1]
  apply List.ext_getElem
  · simp [wholeW_len, h1]; omega
  · intro i hi hj
    have hlen : (wholeW bs).length = bs.length / 8 := wholeW_len bs
    by_cases h : i < bs.length / 8
    · rw [List.getElem_append_left (by omega)]
      simp only [wholeW, List.getElem_map, List.getElem_range]
      rw [List.drop_append_of_le_length (by omega), List.take_append_of_le_length (by simp; omega)]
    · rw [List.getElem_append_right (by omega)]
      simp only [wholeW, List.getElem_map, List.getElem_range]
      congr 2
      have e : bs ++ cs = bs.take (8 * (bs.length / 8)) ++ (leftB bs ++ cs) := by
        rw [← List.append_assoc, leftB, List.take_append_drop]
      rw [e, List.drop_append]
      have h3 : (bs.take (8 * (bs.length / 8))).length = 8 * (bs.length / 8) := by simp; omega
      rw [List.drop_eq_nil_of_le (by omega), h3, List.nil_append]
      congr 1
      simp
      omega
theorem leftB_append (bs cs : List (BitVec 8)) : leftB (bs ++ cs) = leftB (leftB bs ++ cs) := by
  have h1 : (leftB bs).length = bs.length % 8 := leftB_len bs
  have e : bs ++ cs = bs.take (8 * (bs.length / 8)) ++ (leftB bs ++ cs) := by
    rw [← List.append_assoc, leftB, List.take_append_drop]
  have h3 : (bs.take (8 * (bs.length / 8))).length = 8 * (bs.length / 8) := by simp; omega
  have h4 : (leftB bs ++ cs).length = bs.length % 8 + cs.length := by simp [h1]
  have h5 : (bs ++ cs).length = bs.length + cs.length := by simp
  conv => lhs; unfold leftB
  rw [h5]
  conv => lhs; rw [e]
  rw [List.drop_append, List.drop_eq_nil_of_le (by omega), h3, List.nil_append]
  unfold leftB
  congr 1
  rw [show (List.drop (8 * (bs.length / 8)) bs ++ cs).length = bs.length % 8 + cs.length from h4]
  omega
theorem stV_append (a b : BitVec 64) (bs cs : List (BitVec 8)) : stV a b (bs ++ cs) = foldV (stV a b bs) (wholeW (leftB bs ++ cs)) := by
  unfold stV
  rw [wholeW_append]
  simp only [foldV, List.foldl_append]
theorem stV_nil (a b : BitVec 64) : stV a b [] = initV a b := rfl
theorem leftB_nil : leftB [] = [] := rfl

/-- A state into which so many bytes of a key came. -/
def HAt (W : World) (B : Nat) (a b : BitVec 64) (bs : List (BitVec 8)) (p : Option Addr) (cap : Nat) : Prop := HSt W B (stV a b bs) (leftB bs) bs.length p cap

theorem hnew_any (a b : BitVec 64) (w : World) :
    Calls Try.prog 33 #[.agg #[vw a, vw b]] w fun e w' => e = .returned (.pointer (some ⟨w.heap.size + 1, 0, none⟩)) ∧ HAt w' (w.heap.size + 1) a b [] none 0 ∧ Below w.heap.size w w' ∧ w'.heap.size = w.heap.size + 2 :=
  new_any a b w
theorem hwrite_any (B : Nat) (a b : BitVec 64) (bs : List (BitVec 8)) (p : Option Addr) (cap : Nat) (q : Option Addr) (capq : Nat) (xs : List (BitVec 8)) (w : World)
    (h : HAt w B a b bs p cap) (hx : RdL w.heap.size w q capq vb xs) (hq : ∀ b, inP q capq b → b ≠ B) (hxl : xs.length ≤ 100000) (hm : bs.length ≤ 10000000) :
    Calls Try.prog 34 #[.pointer (some ⟨B, 0, none⟩), .slice q xs.length capq] w fun e w' =>
      e = .returned (.int .i64 0) ∧ (∃ p' cap', HAt w' B a b (bs ++ xs) p' cap' ∧ ∀ b, inP p' cap' b → w.heap.size ≤ b) ∧ Frn (fun b => b = B) w w' := by
  refine (write_any B _ _ _ p cap q capq xs w h hx hq (by rw [leftB_len]; omega) hxl hm).mono ?_
  rintro e w' ⟨he, ⟨p', cap', h1, h2⟩, h3⟩
  refine ⟨he, ⟨p', cap', ?_, h2⟩, h3⟩
  unfold HAt
  rw [stV_append, leftB_append, List.length_append]
  exact h1
theorem hsumAt_any (B : Nat) (a b : BitVec 64) (bs : List (BitVec 8)) (p : Option Addr) (cap : Nat) (w : World) (h : HAt w B a b bs p cap) (hm : bs.length ≤ 10000000) :
    Calls Try.prog 36 #[.pointer (some ⟨B, 0, none⟩)] w fun e w' => e = .returned (vw (hashV a b bs)) ∧ Below w.heap.size w w' :=
  hsum_any B _ _ _ p cap w h (by rw [leftB_len]; omega) (by omega)
theorem HAt.keep {W W' : World} {B : Nat} {a b : BitVec 64} {bs : List (BitVec 8)} {p : Option Addr} {cap : Nat} {X : Nat → Prop} (h : HAt W B a b bs p cap) (hf : Frn X W W') (hB : ¬ X B) (hp : ∀ b, inP p cap b → ¬ X b) : HAt W' B a b bs p cap :=
  HSt.keep h hf hB hp
theorem HAt.below {W W' : World} {B : Nat} {a b : BitVec 64} {bs : List (BitVec 8)} {p : Option Addr} {cap : Nat} (h : HAt W B a b bs p cap) (hb : Below W.heap.size W W') : HAt W' B a b bs p cap := HSt.below h hb
theorem HAt.lt {W : World} {B : Nat} {a b : BitVec 64} {bs : List (BitVec 8)} {p : Option Addr} {cap : Nat} (h : HAt W B a b bs p cap) : B < W.heap.size := HSt.hd h |>.lt

set_option maxHeartbeats 1000000 in
theorem hashSum_any (a b : BitVec 64) (p : Option Addr) (cap : Nat) (bs : List (BitVec 8)) (w : World) (hrd : RdL w.heap.size w p cap vb bs) (hl : bs.length ≤ 100000) :
    Calls Try.prog 37 #[.agg #[vw a, vw b], .slice p bs.length cap] w fun e w' => e = .returned (vw (hashV a b bs)) ∧ Below w.heap.size w w' := by
  obtain ⟨wa, hwa⟩ : ∃ wa, w.alloc (.cells #[vw a, vw b] 69) = wa := ⟨_, rfl⟩
  have hA : At w.heap.size w wa := by rw [← hwa]; exact (At.start w).alloc _
  have c0 : wa.cell? ⟨w.heap.size, 0, none⟩ = some (vw a) := by rw [← hwa, World.cell?_alloc_new]; rfl
  have c1 : wa.cell? ⟨w.heap.size, 1, none⟩ = some (vw b) := by rw [← hwa, World.cell?_alloc_new]; rfl
  have HR := Lib.hid hrd
  have HA := Lib.hid hA
  have HWA := Lib.hid hwa
  clear hrd hA hwa
  go_enter Try.func37, Try.ntmps37
  go_wp2_with fail
  rw [HWA.out]
  refine (hnew_any a b wa).mono ?_
  rintro e w1 ⟨rfl, h1, hb1, hz1⟩
  have HA1 := Lib.hid (HA.out.below hb1)
  have H1 := Lib.hid h1
  have HBD := Lib.hid hb1
  have hbn : ∀ b, inP p cap b → b ≠ wa.heap.size + 1 := fun b hb => by have := HR.out.inlt hb; have := HA.out.2; omega
  clear h1 hb1 c0 c1
  go_wp2_with fail
  refine (hwrite_any (wa.heap.size + 1) a b [] none 0 p cap bs w1 H1.out (HA1.out.rdl HR.out) hbn hl (by simp)).mono ?_
  rintro e w2 ⟨rfl, ⟨p2, c2, h2, _⟩, hf2⟩
  have hA2 : At w.heap.size w w2 := ⟨HA1.out.1.trans (hf2.below HA1.out.2 (by rintro b rfl; have := HA.out.2; omega)), Nat.le_trans HA1.out.2 hf2.size⟩
  have HA2 := Lib.hid hA2
  rw [List.nil_append] at h2
  have H2 := Lib.hid h2
  clear hA2 h2 hf2 hbn
  go_wp2_with fail
  refine (hsumAt_any (wa.heap.size + 1) a b bs p2 c2 w2 H2.out (by omega)).mono ?_
  rintro e w3 ⟨rfl, hb3⟩
  have HA3 := Lib.hid (HA2.out.below hb3)
  clear hb3
  go_wp2_with fail
  go_ret
  exact ⟨rfl, HA3.out.1⟩

end Go.Proofs.Ythhdipfadnihjaa
