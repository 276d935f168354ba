/- The walks of a sum's part, of how many bytes came, of copies, and of no state. -/
import Derived.Test.YthhdipfadnihjaaHashLaw
import Derived.Test.YthhdipfadnihjaaWordsC
namespace Go.Proofs.Ythhdipfadnihjaa
open Go Go.RowKit

set_option maxHeartbeats 1000000 in
theorem partIn_any (a b : BitVec 64) (p : Option Addr) (cap : Nat) (bs : List (BitVec 8)) (d : Nat) (w : World) (hrd : RdL w.heap.size w p cap vb bs) (hl : bs.length ≤ 100000) (h1 : 1 ≤ d) (h2 : d ≤ 64) :
    Calls Try.prog 67 #[.agg #[vw a, vw b], .slice p bs.length cap, .int .i64 d] w fun e w' => e = .returned (.tuple #[vw (fieldW (hashV a b bs) (64 - d) d), .int .i64 0]) ∧ Below w.heap.size w w' := by
  have hA := (At.start w).alloc (.cells #[vw a, vw b] 69)
  have hs := hashSum_any a b p cap bs _ (hA.rdl hrd) hl
  have HS := Lib.hid hs
  have HA := Lib.hid hA
  have e1 : (64 : Int) - (d : Int) = ((64 - d : Nat) : Int) := by omega
  have e2 : (-1 : Int) ≤ ((64 - d : Nat) : Int) := by omega
  have hf : ∀ W, Calls Try.prog 104 #[vw (hashV a b bs), .int .i64 ((64 - d : Nat) : Int), .int .i64 (d : Int)] W fun e w' => e = .returned (.tuple #[vw (fieldW (hashV a b bs) (64 - d) d), .int .i64 0]) ∧ W = w' :=
    fun W => fieldIn_any (hashV a b bs) (64 - d) d W h1 (by omega)
  have HF := Lib.hid hf
  clear hs hA hrd hf
  go_enter Try.func67, Try.ntmps67
  go_wp2_with fail
  refine HS.out.mono ?_
  rintro e w1 ⟨rfl, hb1⟩
  have HB := Lib.hid (HA.out.below hb1)
  clear hb1
  go_wp2_with fail
  refine (HF.out _).mono ?_
  rintro e w2 ⟨rfl, rfl⟩
  go_wp2_with fail
  go_ret2
  exact ⟨rfl, HB.out.1⟩
set_option maxHeartbeats 1000000 in
theorem partOut_any (a b : BitVec 64) (p : Option Addr) (cap : Nat) (bs : List (BitVec 8)) (d : Int) (w : World) (hrd : RdL w.heap.size w p cap vb bs) (hl : bs.length ≤ 100000) (h1 : d < 1 ∨ 64 < d) :
    Calls Try.prog 67 #[.agg #[vw a, vw b], .slice p bs.length cap, .int .i64 d] w fun e w' => e = .returned (.tuple #[.int .u64 0, .int .i64 2]) ∧ Below w.heap.size w w' := by
  have hA := (At.start w).alloc (.cells #[vw a, vw b] 69)
  have hs := hashSum_any a b p cap bs _ (hA.rdl hrd) hl
  have HS := Lib.hid hs
  have HA := Lib.hid hA
  have hf : ∀ W y, Calls Try.prog 104 #[vw (hashV a b bs), .int .i64 y, .int .i64 d] W fun e w' => e = .returned (.tuple #[.int .u64 0, .int .i64 2]) ∧ W = w' :=
    fun W y => fieldOut_any (hashV a b bs) y d W (by unfold rightV rightB; simp; omega)
  have HF := Lib.hid hf
  have H1 := Lib.hid h1
  clear hs hA hrd hf h1
  go_enter Try.func67, Try.ntmps67
  go_wp2_with fail
  refine HS.out.mono ?_
  rintro e w1 ⟨rfl, hb1⟩
  have HB := Lib.hid (HA.out.below hb1)
  clear hb1
  go_wp2_with fail
  all_goals
    refine (HF.out _ _).mono ?_
    rintro e w2 ⟨rfl, rfl⟩
    go_wp2_with fail
    go_ret2
    exact ⟨rfl, HB.out.1⟩

set_option maxHeartbeats 400000 in
theorem hsumNil_any (w : World) :
    Calls Try.prog 36 #[.pointer none] w fun e w' => e = .returned (.int .u64 0) ∧ w = w' := by
  go_enter Try.func36, Try.ntmps36
  go_wp2_with fail
  refine (none_nil _).mono ?_
  rintro e w1 ⟨rfl, rfl⟩
  go_wp2_with fail
  go_ret
  exact ⟨rfl, rfl⟩
set_option maxHeartbeats 400000 in
theorem hcopyNil_any (w : World) :
    Calls Try.prog 35 #[.pointer none] w fun e w' => e = .returned (.pointer none) ∧ w = w' := by
  go_enter Try.func35, Try.ntmps35
  go_wp2_with fail
  refine (none_nil _).mono ?_
  rintro e w1 ⟨rfl, rfl⟩
  go_wp2_with fail
  go_ret
  exact ⟨rfl, rfl⟩
set_option maxHeartbeats 400000 in
theorem hwriteNil_any (v : Value) (w : World) :
    Calls Try.prog 34 #[.pointer none, v] w fun e w' => e = .returned (.int .i64 1) ∧ Below w.heap.size w w' := by
  have c := (Box.new w 71 (.pointer none)).cell
  refine (callsIn_wide (n := 0)).1 ?_
  refine callsIn_of_wp_marks Try.func34 rfl trivial ?_ rfl
  simp only [Try.ntmps34, List.size_toArray, List.length_cons, List.length_nil, Nat.reduceAdd, Nat.reduceSub, Array.replicate_succ, Array.replicate_zero, List.push_toArray, List.append_toArray, List.nil_append, List.cons_append]
  gi_wp2
  refine wcall (none_nil _) ?_
  rintro e w1 ⟨rfl, rfl⟩
  gi_wp2
  exact ⟨_, results_tmp rfl _ _ _, rfl, (Below.refl _ _).alloc (Nat.le_refl _) _⟩

set_option maxRecDepth 100000 in
set_option maxHeartbeats 1000000 in
theorem hcopy_any (B : Nat) (a b : BitVec 64) (bs : List (BitVec 8)) (p : Option Addr) (cap : Nat) (w : World) (h : HAt w B a b bs p cap) :
    Calls Try.prog 35 #[.pointer (some ⟨B, 0, none⟩)] w fun e w' => e = .returned (.pointer (some ⟨w.heap.size, 0, none⟩)) ∧
      (∃ p' cap', HAt w' w.heap.size a b bs p' cap' ∧ ∀ b, inP p' cap' b → w.heap.size < b) ∧ Below w.heap.size w w' := by
  have hh : HSt w B (stV a b bs) (leftB bs) bs.length p cap := h
  obtain ⟨vs, hvs⟩ : ∃ vs, stV a b bs = vs := ⟨_, rfl⟩
  obtain ⟨left, hleft⟩ : ∃ left, leftB bs = left := ⟨_, rfl⟩
  obtain ⟨many, hmany⟩ : ∃ many, bs.length = many := ⟨_, rfl⟩
  have hl8 : left.length ≤ 1000 := by rw [← hleft, leftB_len]; omega
  unfold HAt
  rw [hvs, hleft, hmany] at hh ⊢
  clear h hvs hleft hmany
  have c0 := hh.hd.cell 0 (by rw [hh.len]; decide)
  have c1 := hh.hd.cell 1 (by rw [hh.len]; decide)
  have c2 := hh.hd.cell 2 (by rw [hh.len]; decide)
  have c3 := hh.hd.cell 3 (by rw [hh.len]; decide)
  have c4 := hh.c4
  have c5 := hh.c5
  have c6 := hh.c6
  have hBl := hh.hd.lt
  have HH := Lib.hid hh
  clear hh
  go_enter Try.func35, Try.ntmps35
  go_wp2_with fail
  refine (none_made B _ c6).mono ?_
  rintro e w1 ⟨rfl, rfl⟩
  go_wp2_with fail
  obtain ⟨wa, hwa⟩ : ∃ wa, w.alloc (Obj.cells #[Value.int IntKind.u64 ((hget vs 0).toNat : Int), Value.int IntKind.u64 ((hget vs 1).toNat : Int), Value.int IntKind.u64 ((hget vs 2).toNat : Int), Value.int IntKind.u64 ((hget vs 3).toNat : Int), Value.slice p left.length cap, Value.int IntKind.i64 (many : Int), Value.bool true] 128) = wa := ⟨_, rfl⟩
  have hba : Below w.heap.size w wa := by rw [← hwa]; exact (Below.refl _ _).alloc (Nat.le_refl _) _
  have hza : wa.heap.size = w.heap.size + 1 := by rw [← hwa]; simp
  have hda : Hd wa w.heap.size 128 vs [.slice p left.length cap, .int .i64 many, .bool true] := by
    have := World.alloc_heap_new w (Obj.cells #[Value.int IntKind.u64 ((hget vs 0).toNat : Int), Value.int IntKind.u64 ((hget vs 1).toNat : Int), Value.int IntKind.u64 ((hget vs 2).toNat : Int), Value.int IntKind.u64 ((hget vs 3).toNat : Int), Value.slice p left.length cap, Value.int IntKind.i64 (many : Int), Value.bool true] 128)
    rw [hwa] at this
    rw [vs4 vs HH.out.len]
    exact this
  rw [hwa]
  have hcl := cloneB_any p cap left wa (HH.out.rd.on hba) (by omega)
  have HCL := Lib.hid hcl
  have HDA := Lib.hid hda
  have HBA := Lib.hid hba
  clear hcl hda hba hwa c0 c1 c2 c3 c4 c5 c6
  refine HCL.out.mono ?_
  rintro e w2 ⟨v, rfl, hown, hb2⟩
  obtain ⟨p2, c2, rfl, hr2, hp2⟩ := rdl_of_owns hown
  have hb2s := hb2.size
  have hd2 := HDA.out.kept (hb2.block w.heap.size HDA.out.lt)
  have hr4 := hd2.rest 0
  rw [HH.out.len] at hr4
  have c4 : w2.cell? ⟨w.heap.size, 4, none⟩ = some (.slice p left.length cap) := hr4
  have f4 := hd2.free 4
  have HD2 := Lib.hid hd2
  have HB2 := Lib.hid (HBA.out.trans (hb2.mono HBA.out.size))
  have HR2 := Lib.hid hr2
  have hp3 : ∀ b, inP p2 c2 b → w.heap.size < b := by
    rintro b ⟨a, ha, rfl, _⟩
    have := hp2 a ha
    omega
  clear hown hb2 hd2 hr4 hr2 HCL
  go_wp2_with fail
  go_ret
  refine ⟨rfl, ⟨p2, c2, ⟨?_, HH.out.len, ?_, ?_⟩, hp3⟩, ?_⟩
  · exact HD2.out.setRest 0 4 (by rw [HH.out.len]) _
  · refine (HR2.out.keep (fun a ha h0 => Below.heap_setCell w2 ⟨w.heap.size, 4, none⟩ _ a.block ?_)).wide (by simp [World.size_setCell])
    have := hp3 a.block ⟨a, ha, rfl, h0⟩
    intro e
    have e' : a.block = w.heap.size := e
    omega
  · intro b hb; have := hp3 b hb; omega
  · exact HB2.out.setCell (p := ⟨w.heap.size, 4, none⟩) (Nat.le_refl _) _

end Go.Proofs.Ythhdipfadnihjaa
