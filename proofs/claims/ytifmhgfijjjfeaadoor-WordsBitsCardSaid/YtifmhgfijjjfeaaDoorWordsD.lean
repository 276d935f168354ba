/- The walk of the chapter's rows (words). -/
import Derived.Test.YtifmhgfijjjfeaaDoorWordsB
import Derived.Test.YtifmhgfijjjfeaaDoorWordsC
import Derived.Test.YtifmhgfijjjfeaaDoorSame
import Derived.Test.YtifmhgfijjjfeaaDoorStr
import Derived.Lib.SlBytesConst
namespace Go.Proofs.YtifmhgfijjjfeaaDoor
open Go Go.RowKit

set_option maxHeartbeats 400000 in
theorem num1_any (n : Int) (w : World) :
    Calls Tryd.prog 16 #[.int .i64 n] w fun e w' => e = .returned (.int .i64 n) ∧ w = w' := by
  go_enter Tryd.func16, Tryd.ntmps16
  go_wp2
  go_ret
  exact ⟨rfl, rfl⟩

def abc : List (BitVec 8) := [97#8, 98#8, 99#8]
theorem wk1 : layL abc = [6513249#64] := by decide +kernel
theorem wk2 : takeL [6513249#64] 3 = abc := by decide +kernel
theorem wk3 : takeNo [6513249#64] 3 = 0 := by decide +kernel
theorem wk4 : takeL [6513249#64] 2 = [] := by decide +kernel
theorem wk5 : takeNo [6513249#64] 2 = 2 := by decide +kernel
theorem wk6 : fieldW 258#64 8 8 = 1#64 := by decide +kernel
theorem wk7 : withW 0#64 4 4 9#64 = 144#64 := by decide +kernel
theorem wk8 : strB (bytesL [258#64]) = ⟨#[2, 1, 0, 0, 0, 0, 0, 0]⟩ := by kernel_rfl
theorem wk9 : strB abc = ⟨#[97, 98, 99]⟩ := by kernel_rfl

theorem lay3 (w : World) : Calls Tryd.prog 11 #[.slice (some ⟨w.heap.size, 0, none⟩) 3 3] (w.alloc (.cells #[.int .u8 97, .int .u8 98, .int .u8 99] 5 (3, 4))) fun e w' =>
    (∃ p cap, e = .returned (.slice p 1 cap) ∧ RdL w'.heap.size w' p cap vw [6513249#64]) ∧ Below w.heap.size w w' :=
  (lay_any (some ⟨w.heap.size, 0, none⟩) 3 abc _ (rdl_block vb abc (World.alloc_heap_new w _) (by decide)) (by decide)).mono fun _ _ ⟨v, he, hown, hb⟩ => by
    rw [wk1] at hown
    obtain ⟨p, cap, rfl, hr, _⟩ := rdl_of_owns hown
    exact ⟨⟨p, cap, he, hr⟩, ((Below.refl _ w).alloc (Nat.le_refl _) _).trans (hb.mono (by simp))⟩
theorem take3 (p : Option Addr) (cap : Nat) (w : World) (h : RdL w.heap.size w p cap vw [6513249#64]) : Calls Tryd.prog 12 #[.slice p 1 cap, .int .i64 3] w fun e w' =>
    (∃ p cap, e = .returned (.tuple #[.slice p 3 cap, .int .i64 0]) ∧ RdL w'.heap.size w' p cap vb abc) ∧ Below w.heap.size w w' :=
  (takeIn_any p cap [6513249#64] 3 w h (by decide) (by decide) (by decide)).mono fun _ _ ⟨p, cap, he, hr, hb⟩ => by
    have e3 : ((3 : Nat) : Int) = 3 := rfl
    rw [e3, wk2] at hr
    rw [e3, wk2, wk3] at he
    exact ⟨⟨p, cap, he, hr⟩, hb⟩
theorem take2 (p : Option Addr) (cap : Nat) (w : World) (h : RdL w.heap.size w p cap vw [6513249#64]) : Calls Tryd.prog 12 #[.slice p 1 cap, .int .i64 2] w fun e w' =>
    (∃ p cap, e = .returned (.tuple #[.slice p 0 cap, .int .i64 2])) ∧ Below w.heap.size w w' :=
  (takeIn_any p cap [6513249#64] 2 w h (by decide) (by decide) (by decide)).mono fun _ _ ⟨p, cap, he, _, hb⟩ => by
    have e3 : ((2 : Nat) : Int) = 2 := rfl
    rw [e3, wk4, wk5] at he
    exact ⟨⟨p, cap, he⟩, hb⟩
theorem field8 (w : World) : Calls Tryd.prog 13 #[.int .u64 258, .int .i64 8, .int .i64 8] w fun e w' => e = .returned (.tuple #[.int .u64 1, .int .i64 0]) ∧ w = w' :=
  (fieldIn_any 258#64 8 8 w (by decide) (by decide)).mono fun _ _ ⟨he, hw⟩ => ⟨by rw [he, wk6]; rfl, hw⟩
theorem with9 (w : World) : Calls Tryd.prog 14 #[.int .u64 0, .int .i64 4, .int .i64 4, .int .u64 9] w fun e w' => e = .returned (.tuple #[.int .u64 144, .int .i64 0]) ∧ ∃ n, w.drewN n = w' :=
  (withIn_any 0#64 9#64 4 4 w (by decide) (by decide) (by decide)).mono fun _ _ ⟨he, hw⟩ => ⟨by rw [he, wk7]; rfl, hw⟩
theorem with16 (w : World) : Calls Tryd.prog 14 #[.int .u64 0, .int .i64 4, .int .i64 4, .int .u64 16] w fun e w' => e = .returned (.tuple #[.int .u64 0, .int .i64 4]) ∧ w = w' :=
  withBig_any 0#64 16#64 4 4 w (by decide) (by decide) (by decide)
theorem field60 (w : World) : Calls Tryd.prog 13 #[.int .u64 1, .int .i64 60, .int .i64 5] w fun e w' => e = .returned (.tuple #[.int .u64 0, .int .i64 2]) ∧ w = w' :=
  fieldOut_any 1#64 60 5 w (by decide)
theorem bytes258 (w : World) : Calls Tryd.prog 15 #[.slice (some ⟨w.heap.size, 0, none⟩) 1 1] (w.alloc (.cells #[.int .u64 258] 22)) fun e w' =>
    (∃ p cap, e = .returned (.slice p 8 cap) ∧ RdL w'.heap.size w' p cap vb (bytesL [258#64])) ∧ Below w.heap.size w w' :=
  (bytes_any (some ⟨w.heap.size, 0, none⟩) 1 [258#64] _ (rdl_new w 22 vw [258#64] (by decide)) (by decide)).mono fun _ _ ⟨v, he, hown, hb⟩ => by
    obtain ⟨p, cap, rfl, hr, _⟩ := rdl_of_owns hown
    exact ⟨⟨p, cap, he, hr⟩, ((Below.refl _ w).alloc (Nat.le_refl _) _).trans (hb.mono (by simp))⟩
theorem same1 (p : Option Addr) (cap : Nat) (w : World) (h : RdL w.heap.size w p cap vw [6513249#64]) : Calls Tryd.prog 17 #[.slice p 1 cap, .slice (some ⟨w.heap.size, 0, none⟩) 1 1] (w.alloc (.cells #[.int .u64 6513249] 22)) fun e w' =>
    e = .returned (.bool true) ∧ Below w.heap.size w w' :=
  (same_any p (some ⟨w.heap.size, 0, none⟩) cap 1 [6513249#64] [6513249#64] _ (h.on ((Below.refl _ w).alloc (Nat.le_refl _) _)) (rdl_new w 22 vw [6513249#64] (by decide))).mono fun _ _ ⟨he, n, hn⟩ =>
    ⟨by rw [he, sameB_self], by subst hn; exact below_drewN ((Below.refl _ w).alloc (Nat.le_refl _) _) n⟩

set_option maxRecDepth 100000 in
set_option maxHeartbeats 2000000 in
theorem works1_any (w : World) : Calls Tryd.prog 7 #[] w fun e w' => e = .returned (.bool true) ∧ Below w.heap.size w w' := by
  have hcv := fun (w : World) (C : Array Value) (n c : Nat) => Lib.run_convert_bytes_const (P := Tryd.prog) w 36 5 C n c Tryd.underlying36 Tryd.underlying5
  have hmk : ∀ w : World, (Instr.makeSlice 36 (.int .i64 9) (.int .i64 9)).run Tryd.prog w = .ok (.slice (some ⟨w.heap.size, 0, none⟩) 9 9) (w.alloc (.cells #[.int .u8 0, .int .u8 0, .int .u8 0, .int .u8 0, .int .u8 0, .int .u8 0, .int .u8 0, .int .u8 0, .int .u8 0] 5)) := fun _ => by kernel_rfl
  go_enter Tryd.func7, Tryd.ntmps7
  go_wp2_with fail
  refine (wordsBad_any _ 9 (List.replicate 9 0#8) _ (by decide) (by decide)).mono ?_
  rintro e w1 ⟨rfl, hw1⟩
  have HA1 := Lib.hid (hw1 ▸ (At.start w).alloc (.cells #[.int .u8 0, .int .u8 0, .int .u8 0, .int .u8 0, .int .u8 0, .int .u8 0, .int .u8 0, .int .u8 0, .int .u8 0] 5))
  clear hw1
  go_wp2_with fail
  refine (lay3 _).mono ?_
  rintro e w2 ⟨⟨p2, c2, rfl, hr2⟩, hb2⟩
  have HA2 := Lib.hid (HA1.out.below hb2)
  have HR2 := Lib.hid hr2
  clear hb2 hr2
  go_wp2_with fail
  refine (take3 p2 c2 _ HR2.out).mono ?_
  rintro e w3 ⟨⟨p3, c3, rfl, hr3⟩, hb3⟩
  have HA3 := Lib.hid (HA2.out.below hb3)
  have HR3 := Lib.hid (HR2.out.on hb3)
  have HS3 := Lib.hid hr3
  clear hb3 hr3 HR2
  go_wp2_with fail
  refine (take2 p2 c2 _ HR3.out).mono ?_
  rintro e w4 ⟨⟨p4, c4, rfl⟩, hb4⟩
  have HA4 := Lib.hid (HA3.out.below hb4)
  have HR4 := Lib.hid (HR3.out.on hb4)
  have HS4 := Lib.hid (HS3.out.on hb4)
  clear hb4 HR3 HS3
  go_wp2_with fail
  refine (field8 _).mono ?_
  rintro e w5 ⟨rfl, rfl⟩
  go_wp2_with fail
  refine (with9 _).mono ?_
  rintro e w5 ⟨rfl, n5, rfl⟩
  go_wp2_with fail
  refine (with16 _).mono ?_
  rintro e w5 ⟨rfl, rfl⟩
  go_wp2_with fail
  refine (field60 _).mono ?_
  rintro e w5 ⟨rfl, rfl⟩
  have HA5 := Lib.hid (HA4.out.drewN n5)
  go_wp2_with fail
  refine (bytes258 _).mono ?_
  rintro e w6 ⟨⟨p6, c6, rfl, hr6⟩, hb6⟩
  have HA6 := Lib.hid (HA5.out.below hb6)
  have HR6 := Lib.hid (RdL.on (w := w4.drewN n5) HR4.out hb6)
  have HS6 := Lib.hid (RdL.on (w := w4.drewN n5) HS4.out hb6)
  have hv6 := run_str hr6 36 5 9 Tryd.underlying36 Tryd.underlying5 Tryd.underlying9
  rw [wk8, show (bytesL [258#64]).length = 8 from by rw [bytesL_length]; rfl] at hv6
  clear hb6 hr6
  go_wp2_with fail
  refine (num1_any _ _).mono ?_
  rintro e w7 ⟨rfl, rfl⟩
  clear hv6
  go_wp2_with fail
  refine (same1 p2 c2 _ HR6.out).mono ?_
  rintro e w7 ⟨rfl, hb7⟩
  have HA7 := Lib.hid (HA6.out.below hb7)
  have hv7 := run_str (HS6.out.on hb7) 36 5 9 Tryd.underlying36 Tryd.underlying5 Tryd.underlying9
  rw [wk9, show abc.length = 3 from rfl] at hv7
  clear hb7
  go_wp2_with fail
  refine (num1_any _ _).mono ?_
  rintro e w8 ⟨rfl, rfl⟩
  go_wp2_with fail
  refine (num1_any _ _).mono ?_
  rintro e w8 ⟨rfl, rfl⟩
  go_wp2_with fail
  refine (num1_any _ _).mono ?_
  rintro e w8 ⟨rfl, rfl⟩
  go_wp2_with fail
  refine (num1_any _ _).mono ?_
  rintro e w8 ⟨rfl, rfl⟩
  go_wp2_with fail
  refine (num1_any _ _).mono ?_
  rintro e w8 ⟨rfl, rfl⟩
  go_wp2_with fail
  refine (num1_any _ _).mono ?_
  rintro e w8 ⟨rfl, rfl⟩
  go_wp2_with fail
  go_ret
  exact ⟨rfl, HA7.out.1⟩

end Go.Proofs.YtifmhgfijjjfeaaDoor
