/- The walk of extents.Each. -/
import Derived.Test.YtenmogokbelahaaExtJ
namespace Go.Proofs.Ytenmogokbelahaa
open Go Go.RowKit

set_option maxRecDepth 100000 in
set_option maxHeartbeats 8000000 in
theorem eEach_any (p : Option Addr) (cap : Nat) (l : List Ext3) (w : World) (hrd : RdS w.heap.size w p cap 3 xc l) :
    Calls Try.prog 49 #[.slice p l.length cap] w fun e w' => ∃ B, e = .returned (.func (.func 84) #[] #[.pointer (some ⟨B, 0, none⟩)]) ∧ TabAt w' B 132 (tabOf l) ∧ w.heap.size ≤ B ∧ Below w.heap.size w w' := by
  have HTL := Lib.hid (tabOf_len l)
  have HOF := Lib.hid (ofX_any p cap l w hrd)
  clear hrd
  go_enter Try.func49, Try.ntmps49
  go_wp2_with fail
  refine HOF.out.mono ?_
  rintro e w1 ⟨rfl, hb1⟩
  obtain ⟨htm, hbm, hlm, hth⟩ := tab_made (ty := 132) (zc := Try.zeroCells132) w1 (tabOf l) HTL.out zero_cells
  obtain ⟨T, hT⟩ : ∃ T, w1.heap.size = T := ⟨_, rfl⟩
  obtain ⟨w2, hw2⟩ : ∃ w2, (w1.alloc (.cells Try.zeroCells132 132)).setCells w1.heap.size 0 (tb (tabOf l)) = w2 := ⟨_, rfl⟩
  rw [hw2] at htm hbm hlm
  rw [hT] at htm hlm
  have HWM := Lib.hid (And.intro hT (And.intro hw2 hth))
  have H2 : Hid (TabAt w2 T 132 (tabOf l) ∧ w.heap.size ≤ T ∧ Below w.heap.size w w2) := Lib.hid ⟨htm, by rw [← hT]; exact hb1.size, hb1.trans (hbm.mono hb1.size)⟩
  clear htm hbm hlm hth hb1 hT hw2
  go_wp2_with (refine wpList_store_mid rfl 132 (.tmp 3) (.tmp 8) rfl w1.heap.size 0 (tb (tabOf l)).toArray rfl rfl (by simpa [tb_len, HTL.out] using HWM.out.2.2) (by simp only [List.size_toArray, tb_len, HTL.out]; kernel_rfl) (all_oneCell_toArray (tb_one _)) ?_; rw [List.toList_toArray, HWM.out.2.1, HWM.out.1])
  go_ret
  exact ⟨T, rfl, H2.out⟩
end Go.Proofs.Ytenmogokbelahaa
