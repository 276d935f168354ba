/- The walk of package latch's asked. -/
import Derived.Test.YthhdipfadnihjaaLatchD
namespace Go.Proofs.Ythhdipfadnihjaa
open Go Go.RowKit

def inT (xs ys : List Turn) (c : Int) : Bool := hasT xs c || hasT ys c
def askT (xs ys : List Turn) (c : Int) (twice : Bool) : Int :=
  if ¬ (0 ≤ c ∧ c < 8) then 2 else if inT xs ys c && twice then 191 else if !inT xs ys c && !twice then 5 else 0
theorem hasAsk_any (L g B2 : Nat) (t : TypeId) (k : Int) (W : World) (p : Option Addr) (c : Nat) (xs : List Turn) (q : Option Addr) (d : Nat) (ys : List Turn) (h : LAt W L p c xs q d ys)
    (hg : W.cell? ⟨g, 0, none⟩ = some (.int .i64 k)) (hgl : g < W.heap.size) (hB : W.heap[B2]? = some (.cells #[.slice p xs.length c, .slice q ys.length d] t (0, 0))) :
    Calls Try.prog 99 #[.func (.func 127) #[] #[.pointer (some ⟨g, 0, none⟩)], .slice (some ⟨B2, 0, none⟩) 2 2] W fun e w' => e = .returned (.bool (inT xs ys k)) ∧ Below W.heap.size W w' := by
  have hrd : RdL W.heap.size W (some ⟨B2, 0, none⟩) 2 encT [(p, c, xs), (q, d, ys)] :=
    rdl_block encT [(p, c, xs), (q, d, ys)] hB (by simp [maxLen])
  have := has_any 127 #[.pointer (some ⟨g, 0, none⟩)] (fun t => decide (t.1 = k)) (some ⟨B2, 0, none⟩) 2 [(p, c, xs), (q, d, ys)] W hrd
    (fun z hz => by
      rcases List.mem_cons.1 hz with rfl | hz
      · exact h.rx
      · rw [List.mem_singleton.1 hz]; exact h.ry) of1_enters
    (fun t W' hW => of1_any g k t W' ((hW.cell (p := ⟨g, 0, none⟩) hgl).trans hg) (Nat.lt_of_lt_of_le hgl hW.size))
  refine this.mono ?_
  rintro e w' ⟨he, hb⟩
  exact ⟨by rw [he]; simp [inT, hasT], hb⟩

set_option maxRecDepth 100000 in
set_option maxHeartbeats 2000000 in
theorem asked_any (L : Nat) (k : Int) (twice : Bool) (w : World) (p : Option Addr) (c : Nat) (xs : List Turn) (q : Option Addr) (d : Nat) (ys : List Turn) (h : LAt w L p c xs q d ys) :
    Calls Try.prog 61 #[.pointer (some ⟨L, 0, none⟩), .int .i64 k, .bool twice] w fun e w' => e = .returned (.int .i64 (askT xs ys k twice)) ∧ Below w.heap.size w w' := by
  have H := Lib.hid h
  have c2 := h.c2
  clear h
  by_cases hk : 0 ≤ k ∧ k < 8
  · have hd : decide (0 ≤ k ∧ k < 8) = true := decide_eq_true hk
    have HK := Lib.hid hk
    clear hk
    go_enter Try.func61, Try.ntmps61
    go_wp2_with fail
    refine (lnone_any L w c2).mono ?_
    rintro e w1 ⟨rfl, rfl⟩
    go_wp2_with fail
    refine (there_any k w).mono ?_
    rintro e w1 ⟨rfl, rfl⟩
    rw [hd]
    have hbA : Below w.heap.size w ((w.alloc (.cells #[.int .i64 k] 3)).alloc (.cells #[.slice p xs.length c, .slice q ys.length d] 46)).drew := (((Below.refl _ _).alloc (Nat.le_refl _) _).alloc (by simp) _).drew
    have hbB : Below w.heap.size w ((w.alloc (.cells #[.slice p xs.length c, .slice q ys.length d] 46)).alloc (.cells #[.int .i64 k] 3)).drew := (((Below.refl _ _).alloc (Nat.le_refl _) _).alloc (by simp) _).drew
    have hA := hasAsk_any L w.heap.size (w.heap.size + 1) 46 k _ p c xs q d ys (H.out.below hbA)
      (by show ((w.alloc _).alloc _).cell? _ = _
          exact (World.cell?_of_block (a := ⟨w.heap.size, 0, none⟩) (Below.heap_alloc _ _ _ (by simp))).trans (by rw [World.cell?_alloc_new]; rfl))
      (by show w.heap.size < ((w.alloc _).alloc _).heap.size; rw [World.size_alloc, World.size_alloc]; omega)
      (by have := World.alloc_heap_new (w.alloc (.cells #[.int .i64 k] 3)) (.cells #[.slice p xs.length c, .slice q ys.length d] 46)
          rw [World.size_alloc] at this
          exact this)
    have hB := hasAsk_any L (w.heap.size + 1) w.heap.size 46 k _ p c xs q d ys (H.out.below hbB)
      (by have := cell_new_l (w.alloc (.cells #[.slice p xs.length c, .slice q ys.length d] 46)) (.int .i64 k) 3
          rw [World.size_alloc] at this
          exact this)
      (by show w.heap.size + 1 < ((w.alloc _).alloc _).heap.size; simp)
      (by show ((w.alloc _).alloc _).heap[w.heap.size]? = _
          rw [Below.heap_alloc _ _ _ (by simp)]
          exact World.alloc_heap_new w _)
    have hW := H.out.below (Below.refl _ _).drew
    have d0 := hW.c0
    have d1 := hW.c1
    have HA1 := hW.below ((Below.refl _ _).alloc (Nat.le_refl _) (.cells #[.int .i64 k] 3))
    have HB1 := hW.below ((Below.refl _ _).alloc (Nat.le_refl _) (.cells #[.slice p xs.length c, .slice q ys.length d] 46))
    have a0 := HA1.c0
    have a1 := HA1.c1
    have b0 := HB1.c0
    have b1 := HB1.c1
    have m0 := (H.out.below hbA).c0
    have m1 := (H.out.below hbA).c1
    have n0 := (H.out.below hbB).c0
    have n1 := (H.out.below hbB).c1
    have CA := Lib.hid hA
    have CB := Lib.hid hB
    have BA := Lib.hid hbA
    have BB := Lib.hid hbB
    clear hW HA1 HB1 hA hB hbA hbB
    go_wp2_with fail
    go_region_held3 (fun w' => w'.cell? ⟨L, 0, none⟩ = some (.slice p xs.length c) ∧ w'.cell? ⟨L, 1, none⟩ = some (.slice q ys.length d))
      (first | exact ⟨d0, d1⟩ | exact ⟨a0, a1⟩ | exact ⟨b0, b1⟩ | exact ⟨m0, m1⟩ | exact ⟨n0, n1⟩ | exact ⟨z0, z1⟩)
      (first
      | (go_at_call 98
         refine (of_any k _).mono ?_
         rintro e w1 ⟨rfl, rfl⟩)
      | (go_at_call_of 99 (Value.func (Fn.func 127) #[] #[Value.pointer (some ⟨w.heap.size, 0, none⟩)])
         refine CA.out.mono ?_
         rintro e w5 ⟨rfl, b5⟩
         have B5 := Lib.hid (BA.out.trans (b5.mono BA.out.size))
         have z0 := (H.out.below B5.out).c0
         have z1 := (H.out.below B5.out).c1
         clear b5)
      | (go_at_call 99
         refine CB.out.mono ?_
         rintro e w5 ⟨rfl, b5⟩
         have B5 := Lib.hid (BB.out.trans (b5.mono BB.out.size))
         have z0 := (H.out.below B5.out).c0
         have z1 := (H.out.below B5.out).c1
         clear b5))
    all_goals
      obtain ⟨i, hi⟩ : ∃ i, inT xs ys k = i := ⟨_, rfl⟩
      have HQ := Lib.hid (show askT xs ys k twice = if i && twice then 191 else if !i && !twice then 5 else 0 by unfold askT; rw [if_neg (fun h => h HK.out), hi])
      rw [hi]
      clear hi d0 d1 a0 a1 b0 b1 m0 m1 n0 n1 CA CB
      cases i <;> cases twice <;>
        (go_wp2_with fail
         go_ret
         exact ⟨by rw [HQ.out]; rfl, B5.out⟩)
  · have hd : decide (0 ≤ k ∧ k < 8) = false := decide_eq_false hk
    have HQ := Lib.hid (show askT xs ys k twice = 2 by unfold askT; rw [if_pos hk])
    clear hk
    go_enter Try.func61, Try.ntmps61
    go_wp2_with fail
    refine (lnone_any L w c2).mono ?_
    rintro e w1 ⟨rfl, rfl⟩
    go_wp2_with fail
    refine (there_any k w).mono ?_
    rintro e w1 ⟨rfl, rfl⟩
    rw [hd]
    go_wp2_with fail
    go_ret
    exact ⟨by rw [HQ.out]; rfl, Below.refl _ _⟩
end Go.Proofs.Ythhdipfadnihjaa
