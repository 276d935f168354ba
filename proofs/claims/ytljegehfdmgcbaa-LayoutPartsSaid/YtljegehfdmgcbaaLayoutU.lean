/- The walk of the reference's Part. -/
import Derived.Test.YtljegehfdmgcbaaLayoutI
import Derived.Test.YtljegehfdmgcbaaLayoutT
namespace Go.Proofs.Ytljegehfdmgcbaa
open Go Go.RowKit

set_option maxRecDepth 100000 in
set_option maxHeartbeats 4000000 in
theorem refPart_any (l : Lay) (h : RightL l) (word : Int) (h0 : 0 ≤ word) (hB : word < 64 * l.B) (w : World) : Calls Try.prog 25 #[lv l, .int .i64 word] w fun e w' => e = .returned (pv (refP l word)) ∧ Below w.heap.size w w' := by
  obtain ⟨wa, hwa, HBA, HZA, HF⟩ := lay_box w l
  obtain ⟨wb, hwb⟩ : ∃ wb, wa.alloc (.cells #[.int .i64 0, .int .i64 0] 46) = wb := ⟨_, rfl⟩
  have hX : wb.heap[wa.heap.size]? = some (.cells #[.int .i64 0, .int .i64 0] 46 (0, 0)) := by rw [← hwb]; exact World.alloc_heap_new _ _
  have hL : LayAt wb w.heap.size l := by rw [← hwb]; exact (Below.heap_alloc _ _ _ HF.out.lt).trans HF.out
  have hb : Below w.heap.size w wb := by rw [← hwb]; exact HBA.out.alloc HBA.out.size _
  have hset : ∀ x y, ∃ V, (wb.setCell ⟨wa.heap.size, 0, none⟩ x).setCell ⟨wa.heap.size, 1, none⟩ y = V ∧ V.cell? ⟨wa.heap.size, 0, none⟩ = some x ∧ V.cell? ⟨wa.heap.size, 1, none⟩ = some y ∧ Below w.heap.size w V := fun x y => by
    have h1 := heap_setCell_same wb wa.heap.size 0 _ _ x hX
    have h2 := heap_setCell_same _ wa.heap.size 1 _ _ y h1
    refine ⟨_, rfl, by simp [World.cell?, h2], by simp [World.cell?, h2], ?_⟩
    exact (hb.setCell (p := ⟨wa.heap.size, 0, none⟩) HBA.out.size _).setCell (p := ⟨wa.heap.size, 1, none⟩) HBA.out.size _
  have HSET := Lib.hid hset
  obtain ⟨q0, q1, q2, q3, q4, q5, q6, q7, q8, q9, qf⟩ := lay_cells hL
  have x0 : wb.cell? ⟨wa.heap.size, 0, none⟩ = some (.int .i64 0) := by simp [World.cell?, hX]
  have x1 : wb.cell? ⟨wa.heap.size, 1, none⟩ = some (.int .i64 0) := by simp [World.cell?, hX]
  have xf : ∀ j, wb.frozen? ⟨wa.heap.size, j, none⟩ = false := fun j => by simp [World.frozen?, hX]
  have i1 : wb.setCell ⟨wa.heap.size, 1, none⟩ (.int .i64 0) = wb := setCell_id hX rfl
  have HBW := Lib.hid hb
  have hn := right_nums h
  have HN := Lib.hid hn
  have hB2 : word < 131072 := by omega
  have hr2 : l.r ≤ 2048 := by omega
  have hr1 : 10 ≤ l.r := by omega
  have hm2 : l.m ≤ 2048 := by omega
  have hi9 : l.i = 9 := hn.1
  have HI := Lib.hid hi9
  have hq : word.tdiv 64 = word / 64 := Int.tdiv_eq_ediv_of_nonneg h0
  have e : ∀ (V : World) (x y : Value), V.cell? ⟨wa.heap.size, 0, none⟩ = some x → V.cell? ⟨wa.heap.size, 1, none⟩ = some y → True := fun _ _ _ _ _ => trivial
  clear hX hL hb hset hn hi9 e h
  unfold lv
  have hiA : 9 ≤ l.i := by have := HI.out; omega
  have hiB : l.i ≤ 9 := by have := HI.out; omega
  by_cases c0 : word / 64 = 0
  case pos =>
    have hp : refP l word = (1, 0) := by unfold refP; rw [if_pos c0]
    rw [hp]
    clear hp
    go_enter Try.func25, Try.ntmps25
    go_wp2_with fail
    obtain ⟨V, hV, v0, v1, hbV⟩ := HSET.out (.int .i64 1) (.int .i64 (0))
    rw [hV]
    refine bodyPost_ret (v := pv (1, 0)) (by simp [results, Try.results25, go_sem, pv, v0, v1]) rfl ?_
    exact ⟨rfl, hbV⟩
  by_cases c1 : word / 64 < 9
  case pos =>
    have hp : refP l word = (2, word / 64 - 1) := by unfold refP; rw [if_neg c0, if_pos c1]
    rw [hp]
    clear hp
    go_enter Try.func25, Try.ntmps25
    go_wp2_with fail
    obtain ⟨V, hV, v0, v1, hbV⟩ := HSET.out (.int .i64 2) (.int .i64 (word / 64 - 1))
    rw [hV]
    refine bodyPost_ret (v := pv (2, word / 64 - 1)) (by simp [results, Try.results25, go_sem, pv, v0, v1]) rfl ?_
    exact ⟨rfl, hbV⟩
  by_cases c2 : word / 64 < l.r
  case pos =>
    have hp : refP l word = (3, (word - 64 * l.i) / 16 + 1) := by unfold refP; rw [if_neg c0, if_neg c1, if_pos c2]
    rw [hp]
    clear hp
    have hq2 : (word - 64 * l.i).tdiv 16 = (word - 64 * l.i) / 16 := Int.tdiv_eq_ediv_of_nonneg (by omega)
    go_enter Try.func25, Try.ntmps25
    go_wp2_with fail
    obtain ⟨V, hV, v0, v1, hbV⟩ := HSET.out (.int .i64 3) (.int .i64 ((word - 64 * l.i) / 16 + 1))
    rw [hV]
    refine bodyPost_ret (v := pv (3, (word - 64 * l.i) / 16 + 1)) (by simp [results, Try.results25, go_sem, pv, v0, v1]) rfl ?_
    exact ⟨rfl, hbV⟩
  by_cases c3 : word / 64 < l.m
  case pos =>
    have hp : refP l word = (4, (word - 64 * l.r) / 16 + 1) := by unfold refP; rw [if_neg c0, if_neg c1, if_neg c2, if_pos c3]
    rw [hp]
    clear hp
    have hq2 : (word - 64 * l.r).tdiv 16 = (word - 64 * l.r) / 16 := Int.tdiv_eq_ediv_of_nonneg (by omega)
    go_enter Try.func25, Try.ntmps25
    go_wp2_with fail
    obtain ⟨V, hV, v0, v1, hbV⟩ := HSET.out (.int .i64 4) (.int .i64 ((word - 64 * l.r) / 16 + 1))
    rw [hV]
    refine bodyPost_ret (v := pv (4, (word - 64 * l.r) / 16 + 1)) (by simp [results, Try.results25, go_sem, pv, v0, v1]) rfl ?_
    exact ⟨rfl, hbV⟩
  by_cases c4 : word / 64 = l.m
  case pos =>
    have hp : refP l word = (5, 0) := by unfold refP; rw [if_neg c0, if_neg c1, if_neg c2, if_neg c3, if_pos c4]
    rw [hp]
    clear hp
    go_enter Try.func25, Try.ntmps25
    go_wp2_with fail
    obtain ⟨V, hV, v0, v1, hbV⟩ := HSET.out (.int .i64 5) (.int .i64 (0))
    rw [hV]
    refine bodyPost_ret (v := pv (5, 0)) (by simp [results, Try.results25, go_sem, pv, v0, v1]) rfl ?_
    exact ⟨rfl, hbV⟩
  have hp : refP l word = (6, word / 64) := by unfold refP; rw [if_neg c0, if_neg c1, if_neg c2, if_neg c3, if_neg c4]
  rw [hp]
  clear hp
  go_enter Try.func25, Try.ntmps25
  go_wp2_with fail
  obtain ⟨V, hV, v0, v1, hbV⟩ := HSET.out (.int .i64 6) (.int .i64 (word / 64))
  rw [hV]
  refine bodyPost_ret (v := pv (6, word / 64)) (by simp [results, Try.results25, go_sem, pv, v0, v1]) rfl ?_
  exact ⟨rfl, hbV⟩
end Go.Proofs.Ytljegehfdmgcbaa
