/- The walk of the law HashCuts. -/
import Derived.Test.YtandljkppgneoaaHashK
import Derived.Deep.DeepMust
import Derived.Deep.RegionHeld3
namespace Go.Proofs.Ytandljkppgneoaa
open Go Go.RowKit

theorem At.frn {n : Nat} {w a b : World} {X : Nat → Prop} (h : At n w a) (hf : Frn X a b) (hx : ∀ k, X k → n ≤ k) : At n w b := ⟨h.1.trans (hf.below h.2 hx), Nat.le_trans h.2 hf.size⟩
/-- What holds while a law on hashes runs: the arguments, the key's block, a state. -/
structure Sit (w W : World) (a b : BitVec 64) (T : Nat) (vs : List (BitVec 8)) (p : Option Addr) (c : Nat) : Prop where
  at' : At w.heap.size w W
  kb : Kb w.heap.size a b W
  ht : HAt W T a b vs p c
  lt : w.heap.size < T
theorem Sit.below {w W W' : World} {a b : BitVec 64} {T : Nat} {vs : List (BitVec 8)} {p : Option Addr} {c : Nat} (h : Sit w W a b T vs p c) (hb : Below W.heap.size W W') : Sit w W' a b T vs p c :=
  ⟨h.at'.below hb, h.kb.below hb, h.ht.below hb, h.lt⟩
theorem Sit.wrote {w W W' : World} {a b : BitVec 64} {T : Nat} {vs us : List (BitVec 8)} {p p' : Option Addr} {c c' : Nat} (h : Sit w W a b T vs p c) (hf : Frn (fun b => b = T) W W') (h2 : HAt W' T a b us p' c') : Sit w W' a b T us p' c' :=
  ⟨h.at'.frn hf (by rintro k rfl; exact Nat.le_of_lt h.lt), h.kb.frn hf (by have := h.lt; omega), h2, h.lt⟩

theorem field_half (H : BitVec 64) (d : Nat) (h1 : 1 ≤ d) (h2 : d ≤ 63) : vw (fieldW H (64 - d) d) = .int .u64 (IntKind.u64.wrap (((fieldW H (64 - (d + 1)) (d + 1)).toNat : Int).tdiv 2)) := by
  have e1 := field_nat H (64 - d) d (by omega)
  have e2 := field_nat H (64 - (d + 1)) (d + 1) (by omega)
  have hH := H.isLt
  have hl : ∀ k, k ≤ 64 → H.toNat / 2 ^ (64 - k) < 2 ^ k := by
    intro k hk
    rw [Nat.div_lt_iff_lt_mul (Nat.two_pow_pos _), ← Nat.pow_add, show k + (64 - k) = 64 by omega]
    exact hH
  have e3 : (fieldW H (64 - d) d).toNat = (fieldW H (64 - (d + 1)) (d + 1)).toNat / 2 := by
    rw [e1, e2, Nat.mod_eq_of_lt (hl d (by omega)), Nat.mod_eq_of_lt (hl (d + 1) (by omega)), Nat.div_div_eq_div_mul, ← Nat.pow_succ]
    congr 2
    omega
  unfold vw
  rw [e3, show ((fieldW H (64 - (d + 1)) (d + 1)).toNat : Int).tdiv 2 = (((fieldW H (64 - (d + 1)) (d + 1)).toNat / 2 : Nat) : Int) from rfl, wrap_u64]
  have := (fieldW H (64 - (d + 1)) (d + 1)).isLt
  congr 1
  omega

set_option maxRecDepth 100000 in
set_option maxHeartbeats 4000000 in
theorem lawHashCuts_out (a b : BitVec 64) (p : Option Addr) (cap : Nat) (bs : List (BitVec 8)) (k d : Int) (w : World)
    (h : 1000 < (bs.length : Int) ∨ k < 0 ∨ (bs.length : Int) < k ∨ d < 1 ∨ 63 < d) :
    Calls Try.prog 8 #[.agg #[vw a, vw b], .slice p bs.length cap, .int .i64 k, .int .i64 d] w fun e w' => e = .returned (.bool true) ∧ Below w.heap.size w w' := by
  have HA := Lib.hid ((At.start w).alloc (.cells #[vw a, vw b] 52))
  have h' : 1000 < (bs.length : Int) ∨ ¬ 1000 < (bs.length : Int) ∧ (k < 0 ∨ ¬ k < 0 ∧ ((bs.length : Int) < k ∨ ¬ (bs.length : Int) < k ∧ (d < 1 ∨ ¬ d < 1 ∧ 63 < d))) := by omega
  clear h
  rcases h' with h1 | ⟨h1, h2 | ⟨h2, h3 | ⟨h3, h4 | ⟨h4, h5⟩⟩⟩⟩
  all_goals
    go_enter Try.func8, Try.ntmps8
    go_wp2_with fail
    refine (works2_any _).mono ?_
    rintro e w1 ⟨rfl, b1⟩
    have HA1 := Lib.hid (HA.out.below b1)
    clear b1
    go_wp2_with fail
    go_ret
    exact ⟨rfl, HA1.out.1⟩

set_option maxRecDepth 100000 in
set_option maxHeartbeats 4000000 in
theorem lawHashCuts_in (a b : BitVec 64) (p : Option Addr) (cap : Nat) (bs : List (BitVec 8)) (k d : Nat) (w : World) (hrd : RdL w.heap.size w p cap vb bs)
    (hb : bs.length ≤ 1000) (hk : k ≤ bs.length) (hd1 : 1 ≤ d) (hd2 : d ≤ 63) :
    Calls Try.prog 8 #[.agg #[vw a, vw b], .slice p bs.length cap, .int .i64 k, .int .i64 d] w fun e w' => e = .returned (.bool true) ∧ Below w.heap.size w w' := by
  obtain ⟨wa, hwa⟩ : ∃ wa, w.alloc (.cells #[vw a, vw b] 52) = wa := ⟨_, rfl⟩
  have hA0 : At w.heap.size w wa := by rw [← hwa]; exact (At.start w).alloc _
  have hk0 : Kb w.heap.size a b wa := by rw [← hwa]; exact kb_new w a b
  have hz0 : wa.heap.size = w.heap.size + 1 := by rw [← hwa]; simp
  have hcap := hrd.1
  have hkc : k ≤ cap := by omega
  have hln : (bs.drop k).length = bs.length - k := by simp
  have hlt : (bs.take k).length = k := by simp; omega
  have hr1 : RdL w.heap.size w p cap vb (bs.take k) := RdL.front (zs := bs.drop k) (by rw [List.take_append_drop]; exact hrd) (by rw [hlt]; omega) (Nat.le_refl _)
  have hcase : ((cap = k) = True ∧ RdL w.heap.size w p (cap - k) vb (bs.drop k)) ∨
      ((cap = k) = False ∧ ∃ bb off, p = some ⟨bb, off, none⟩ ∧ RdL w.heap.size w (some ⟨bb, off + k, none⟩) (cap - k) vb (bs.drop k)) := by
    by_cases h : cap = k
    · exact .inl ⟨by simp [h], ⟨by rw [hln]; omega, by simp [maxLen]; omega, .inl (by omega)⟩⟩
    · rcases hrd.2.2 with h0 | ⟨bb, off, rfl, _, _⟩
      · omega
      · exact .inr ⟨by simp [h], bb, off, rfl, hrd.tail k hk⟩
  have hc1 : (0 : Int) ≤ (k : Int) := by omega
  have hc2 : (k : Int) ≤ (bs.length : Int) := by omega
  have hc3 : (1 : Int) ≤ (d : Int) := by omega
  have hc4 : (d : Int) ≤ 63 := by omega
  have hc5 : (bs.length : Int) ≤ 1000 := by omega
  have hd3 : IntKind.i64.wrap ((d : Int) + 1) = (d : Int) + 1 := IntWalk.i64_in _ (by omega)
  have k0 := hk0.c0
  have k1 := hk0.c1
  have HRD := Lib.hid hrd
  have HR1 := Lib.hid hr1
  have HCASE := Lib.hid hcase
  have HA0 := Lib.hid hA0
  have HK0 := Lib.hid hk0
  have HZ0 := Lib.hid hz0
  have HWA := Lib.hid hwa
  have HLT := Lib.hid hlt
  have HLN := Lib.hid hln
  clear hrd hwa hA0 hk0 hz0 hcase hlt hln hr1
  go_enter Try.func8, Try.ntmps8
  go_wp2_with fail
  rw [HWA.out]
  refine (hnew_any a b wa).mono ?_
  rintro e w1 ⟨rfl, h1, b1, z1⟩
  obtain ⟨S, hS⟩ : ∃ S, wa.heap.size + 1 = S := ⟨_, rfl⟩
  rw [hS] at h1 ⊢
  have S1 := Lib.hid (show Sit w w1 a b S [] none 0 from ⟨HA0.out.below b1, HK0.out.below b1, h1, by have := HZ0.out; omega⟩)
  clear b1 h1 hS z1 k0 k1
  go_wp2_with fail
  have hw1 := hwrite_any S a b [] none 0 p cap (bs.take k) w1 S1.out.ht (S1.out.at'.rdl HR1.out) (fun b hb => by have := HRD.out.inlt hb; have := S1.out.lt; omega) (by rw [HLT.out]; omega) (by simp)
  rw [HLT.out] at hw1
  refine hw1.mono ?_
  clear hw1
  rintro e w2 ⟨rfl, ⟨p2, c2, h2, _⟩, f2⟩
  have S2 := Lib.hid (S1.out.wrote f2 h2)
  clear h2 f2
  go_wp2_with fail
  refine (hwrite_any S a b ([] ++ bs.take k) p2 c2 none 0 [] w2 S2.out.ht (RdL.nil _ _ _) (fun b hb => by obtain ⟨_, h, _⟩ := hb; cases h) (by simp) (by simp; omega)).mono ?_
  rintro e w3 ⟨rfl, ⟨p3, c3, h3, _⟩, f3⟩
  have S3 := Lib.hid (S2.out.wrote f3 h3)
  clear h3 f3
  have hall : [] ++ bs.take k ++ [] ++ bs.drop k = bs := by simp
  have HALL := Lib.hid hall
  clear hall
  have hcase := HCASE.out
  clear HCASE
  obtain ⟨x, hx⟩ : ∃ x, fieldW (hashV a b bs) (64 - d) d = x := ⟨_, rfl⟩
  obtain ⟨y, hy⟩ : ∃ y, fieldW (hashV a b bs) (64 - (d + 1)) (d + 1) = y := ⟨_, rfl⟩
  have hhalf := field_half (hashV a b bs) d hd1 hd2
  rw [hx, hy] at hhalf
  have HX := Lib.hid hx
  have HY := Lib.hid hy
  have HHALF := Lib.hid hhalf
  clear hx hy hhalf
  rcases hcase with ⟨hci, hq⟩ | ⟨hci, bb, off, rfl, hq⟩
  all_goals
    have HQ := Lib.hid hq
    clear hq
    go_wp2_with fail
    have hw3 := hwrite_any S a b ([] ++ bs.take k ++ []) p3 c3 _ _ (bs.drop k) w3 S3.out.ht (S3.out.at'.rdl HQ.out) (fun b hb => by have := HQ.out.inlt hb; have := S3.out.lt; omega) (by rw [HLN.out]; omega) (by simp; omega)
    rw [HLN.out, HALL.out] at hw3
    refine hw3.mono ?_
    clear hw3
    rintro e w4 ⟨rfl, ⟨p4, c4, h4, _⟩, f4⟩
    have S4 := Lib.hid (S3.out.wrote f4 h4)
    have k04 := S4.out.kb.c0
    have k14 := S4.out.kb.c1
    clear h4 f4
    go_wp2_with fail
    have hp1 := partIn_any a b _ cap bs d w4 (S4.out.at'.rdl HRD.out) (by omega) hd1 (by omega)
    rw [HX.out] at hp1
    refine hp1.mono ?_
    clear hp1
    rintro e w5 ⟨rfl, b5⟩
    have S5 := Lib.hid (S4.out.below b5)
    have k05 := S5.out.kb.c0
    have k15 := S5.out.kb.c1
    clear b5
    go_wp2_with fail
    have hp2 := partIn_any a b _ cap bs (d + 1) w5 (S5.out.at'.rdl HRD.out) (by omega) (by omega) (by omega)
    rw [HY.out, show ((d + 1 : Nat) : Int) = (d : Int) + 1 from rfl] at hp2
    refine hp2.mono ?_
    clear hp2
    rintro e w6 ⟨rfl, b6⟩
    have S6 := Lib.hid ((S5.out.below b6).below (Below.refl _ _).drew)
    have k06 := S6.out.kb.c0
    have k16 := S6.out.kb.c1
    clear b6
    go_wp2_with fail
    have hhf := HHALF.out
    go_region_held3 (fun w' => w'.cell? ⟨w.heap.size, 0, none⟩ = some (vw a) ∧ w'.cell? ⟨w.heap.size, 1, none⟩ = some (vw b))
      (first | exact ⟨k06, k16⟩ | exact ⟨k07, k17⟩ | exact ⟨k08, k18⟩ | exact ⟨k09, k19⟩)
      (first
      | (go_at_call 32
         refine (hsumAt_any S a b bs p4 c4 w6.drew S6.out.ht (by omega)).mono ?_
         rintro e w7 ⟨rfl, b7⟩
         have S7 := Lib.hid (S6.out.below b7)
         have k07 := S7.out.kb.c0
         have k17 := S7.out.kb.c1
         clear b7)
      | (go_at_call 25
         refine (hashSum_any a b _ cap bs w7 (S7.out.at'.rdl HRD.out) (by omega)).mono ?_
         rintro e w8 ⟨rfl, b8⟩
         have S8 := Lib.hid (S7.out.below b8)
         have k08 := S8.out.kb.c0
         have k18 := S8.out.kb.c1
         clear b8)
      | (go_at_call 28; refine (num2_any _ _).mono ?_; rintro e wn ⟨rfl, rfl⟩)
      | (go_at_call 24
         refine (works2_any _).mono ?_
         rintro e w9 ⟨rfl, b9⟩
         have S9 := Lib.hid (S8.out.below b9)
         have k09 := S9.out.kb.c0
         have k19 := S9.out.kb.c1
         clear b9))
    all_goals
      go_wp2_with fail
      go_ret
      exact ⟨rfl, S9.out.at'.1⟩
theorem lawHashCuts (a b : BitVec 64) (p : Option Addr) (cap : Nat) (bs : List (BitVec 8)) (k d : Int) (w : World) (hrd : RdL w.heap.size w p cap vb bs) :
    Calls Try.prog 8 #[.agg #[vw a, vw b], .slice p bs.length cap, .int .i64 k, .int .i64 d] w fun e w' => e = .returned (.bool true) ∧ Below w.heap.size w w' := by
  by_cases h : 1000 < (bs.length : Int) ∨ k < 0 ∨ (bs.length : Int) < k ∨ d < 1 ∨ 63 < d
  · exact lawHashCuts_out a b p cap bs k d w h
  · obtain ⟨m, rfl⟩ := Int.eq_ofNat_of_zero_le (show 0 ≤ k by omega)
    obtain ⟨n, rfl⟩ := Int.eq_ofNat_of_zero_le (show 0 ≤ d by omega)
    exact lawHashCuts_in a b p cap bs m n w hrd (by omega) (by omega) (by omega) (by omega)
end Go.Proofs.Ytandljkppgneoaa
