/- The walks of the memory: Of and New of what is none. -/
import Derived.Test.YtaflbfmlajbjcaaPmemK
import Derived.Laws.MakeOwn
namespace Go.Proofs.Ytaflbfmlajbjcaa
open Go Go.RowKit

def RightN (n : Int) : Prop := 8 ≤ n ∧ n ≤ 131072 ∧ n % 8 = 0
set_option maxRecDepth 100000 in
set_option maxHeartbeats 2000000 in
theorem of_bad (p : Option Addr) (n c : Nat) (w : World) (h : ¬ RightN (n : Int)) : Calls Try.prog 13 #[.slice p n c] w fun e w' => e = .returned (.tuple #[.pointer none, .int .i64 2]) ∧ w = w' := by
  unfold RightN at h
  by_cases h1 : (n : Int) < 8
  · clear h
    have d1 : decide ((n : Int) < 8) = true := decide_eq_true h1
    clear h1
    go_enter Try.func13, Try.ntmps13
    go_wp2_with fail
    go_ret2
    exact ⟨rfl, rfl⟩
  · have d1 : decide ((n : Int) < 8) = false := decide_eq_false h1
    by_cases h2 : 131072 < (n : Int)
    · clear h
      have d2 : decide (131072 < (n : Int)) = true := decide_eq_true h2
      clear h1 h2
      go_enter Try.func13, Try.ntmps13
      go_wp2_with fail
      go_ret2
      exact ⟨rfl, rfl⟩
    · have d2 : decide (131072 < (n : Int)) = false := decide_eq_false h2
      obtain ⟨r, hr⟩ : ∃ r, (n : Int) % 8 = r := ⟨_, rfl⟩
      have h3 : (r != 0) = true := by simp only [bne_iff_ne]; omega
      have hw : (n : Int).tmod 8 = r := by rw [Int.tmod_eq_emod_of_nonneg (by omega), hr]
      have hww : IntKind.i64.wrap r = r := by rw [IntKind.wrap_i64]; omega
      clear h h1 h2
      go_enter Try.func13, Try.ntmps13
      go_wp2_with fail
      go_ret2
      exact ⟨rfl, rfl⟩
theorem made_w64 (k : Nat) (hk : k ≤ 131072) (w : World) : (Instr.makeSlice 22 (.int .i64 (k : Int)) (.int .i64 (k : Int))).run Try.prog w =
    .ok (.slice (some ⟨w.heap.size, 0, none⟩) k k) (w.alloc (.cells (Array.replicate k (vw 0#64)) 36)) := by
  obtain ⟨i0, hi0, hz0, hz1, hz2⟩ := info_parts elem_m64.info
  have h := run_makeSlice (P := Try.prog) (w := w) 22 36 i0 (.int .u64 0) elem_m64.under hi0 hz0 .i64 .i64 (k : Int) (k : Int) (by omega) (by omega) (by rw [hz1]; simp; omega) (by rw [hz2]; simp; omega) (by omega)
  rw [hz1] at h
  have e : madeCells (Value.int .u64 0).cells ((k : Int).toNat * 1) = Array.replicate k (vw 0#64) := by
    apply Array.ext
    · simp [madeCells]
    · intro i h1 h2
      simp [madeCells, Value.cells, Nat.mod_one]
  rw [e] at h
  simpa using h
theorem rdl_made (w : World) (k : Nat) (hk : k ≤ 131072) : RdL (w.alloc (.cells (Array.replicate k (vw 0#64)) 36)).heap.size (w.alloc (.cells (Array.replicate k (vw 0#64)) 36)) (some ⟨w.heap.size, 0, none⟩) k vw (List.replicate k 0#64) := by
  have hg : (w.alloc (.cells (Array.replicate k (vw 0#64)) 36)).heap[w.heap.size]? = some (.cells (Array.replicate k (vw 0#64)) 36 (0, 0)) := World.alloc_heap_new _ _
  refine ⟨by simp, by unfold maxLen; omega, .inr ⟨_, _, rfl, by simp, fun i hi => ?_⟩⟩
  simp only [List.length_replicate] at hi
  simp only [World.cell?, hg, Nat.zero_add, Array.getElem?_replicate, hi, if_true, List.getElem_replicate]
  simp
set_option maxRecDepth 100000 in
set_option maxHeartbeats 2000000 in
theorem newM_any (k : Nat) (w : World) (h8 : 8 ≤ k) (hmx : k ≤ 131072) (hmod : k % 8 = 0) :
    Calls Try.prog 29 #[.int .i64 k] w fun e w' => ∃ O N, e = .returned (.tuple #[.pointer (some ⟨O, 0, none⟩), .int .i64 0]) ∧ MAt w' O (Mem.of (linesOf (List.replicate k 0#64))) N ∧ (∀ x, N x → w.heap.size ≤ x ∧ x < w'.heap.size) ∧ Below w.heap.size w w' := by
  have hmk := made_w64 k hmx
  have hrd := rdl_made w k hmx
  obtain ⟨wa, hwa⟩ : ∃ wa, w.alloc (.cells (Array.replicate k (vw 0#64)) 36) = wa := ⟨_, rfl⟩
  rw [hwa] at hrd
  have hba : Below w.heap.size w wa := by rw [← hwa]; exact (Below.refl _ _).alloc (Nat.le_refl _) _
  have hof := of_any (some ⟨w.heap.size, 0, none⟩) k (List.replicate k 0#64) wa hrd (by simpa using h8) (by simpa using hmx) (by simpa using hmod)
  rw [List.length_replicate] at hof
  have HOF := Lib.hid hof
  have HWA := Lib.hid (And.intro hwa hba)
  have d1 : ¬ (k : Int) < 0 := by omega
  have d2 : ¬ 131072 < (k : Int) := by omega
  clear hof hwa hba hrd h8 hmod
  go_enter Try.func29, Try.ntmps29
  go_wp2_with fail
  rw [HWA.out.1]
  go_wp2_with fail
  refine HOF.out.mono ?_
  rintro e w2 ⟨O, N, rfl, h1, h2, h3⟩
  have H := Lib.hid (And.intro h1 (And.intro h2 h3))
  clear h1 h2 h3
  go_wp2_with fail
  go_ret2
  exact ⟨O, N, rfl, H.out.1, fun x hx => ⟨Nat.le_trans HWA.out.2.size (H.out.2.1 x hx).1, (H.out.2.1 x hx).2⟩, HWA.out.2.trans (H.out.2.2.mono HWA.out.2.size)⟩
set_option maxRecDepth 100000 in
set_option maxHeartbeats 2000000 in
theorem newM_bad (k : Int) (w : World) (h : ¬ RightN k) :
    Calls Try.prog 29 #[.int .i64 k] w fun e w' => e = .returned (.tuple #[.pointer none, .int .i64 2]) ∧ Below w.heap.size w w' := by
  by_cases h1 : k < 0
  · clear h
    have d1 : decide (k < 0) = true := decide_eq_true h1
    clear h1
    go_enter Try.func29, Try.ntmps29
    go_wp2_with fail
    go_ret2
    exact ⟨rfl, Below.refl _ _⟩
  · by_cases h2 : 131072 < k
    · clear h
      have d1 : decide (k < 0) = false := decide_eq_false h1
      have d2 : decide (131072 < k) = true := decide_eq_true h2
      clear h1 h2
      go_enter Try.func29, Try.ntmps29
      go_wp2_with fail
      go_ret2
      exact ⟨rfl, Below.refl _ _⟩
    · obtain ⟨n, rfl⟩ : ∃ n : Nat, k = n := ⟨k.toNat, by omega⟩
      have hmk := made_w64 n (by omega)
      obtain ⟨wa, hwa⟩ : ∃ wa, w.alloc (.cells (Array.replicate n (vw 0#64)) 36) = wa := ⟨_, rfl⟩
      have hba : Below w.heap.size w wa := by rw [← hwa]; exact (Below.refl _ _).alloc (Nat.le_refl _) _
      have HOF := Lib.hid (of_bad (some ⟨w.heap.size, 0, none⟩) n n wa h)
      have HWA := Lib.hid (And.intro hwa hba)
      clear hwa hba h
      go_enter Try.func29, Try.ntmps29
      go_wp2_with fail
      rw [HWA.out.1]
      go_wp2_with fail
      refine HOF.out.mono ?_
      rintro e w2 ⟨rfl, rfl⟩
      go_wp2_with fail
      go_ret2
      exact ⟨rfl, HWA.out.2⟩
end Go.Proofs.Ytaflbfmlajbjcaa
