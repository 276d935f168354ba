/- The walk of layout.Read at words too few. -/
import Derived.Test.YtljegehfdmgcbaaLayoutD
import Derived.ScopeJumps
namespace Go.Proofs.Ytljegehfdmgcbaa
open Go Go.RowKit

set_option maxRecDepth 100000 in
set_option maxHeartbeats 2000000 in
theorem read_short (p : Option Addr) (n cap : Nat) (hn : n < 64) (w : World) : Calls Try.prog 22 #[.slice p n cap] w fun e w' => e = .returned (.tuple #[lv lay0, .int .i64 230]) ∧ Below w.heap.size w w' := by
  obtain ⟨wa, hwa⟩ : ∃ wa, w.alloc (.cells #[.int .i64 0, .int .i64 0, .int .i64 0, .int .i64 0, .int .u64 0, .int .u64 0, .int .i64 0, .int .i64 0, .int .i64 0, .int .i64 0] 27) = wa := ⟨_, rfl⟩
  have hba : Below w.heap.size w wa := by rw [← hwa]; exact (Below.refl _ _).alloc (Nat.le_refl _) _
  have hz : wa.heap[w.heap.size]? = some (.cells #[.int .i64 0, .int .i64 0, .int .i64 0, .int .i64 0, .int .u64 0, .int .u64 0, .int .i64 0, .int .i64 0, .int .i64 0, .int .i64 0] 27 (0, 0)) := by rw [← hwa]; exact World.alloc_heap_new w _
  have HBA := Lib.hid hba
  have HZ := Lib.hid hz
  have hn' : (n : Int) < 64 := by omega
  clear hba hz
  go_enter Try.func22, Try.ntmps22
  go_wp2_with fail
  refine wp_scope_jumps 0 (fun a' w' => (∃ u0 u1 u3 u4 u5 u6 u7 u8 u9 u10 u11 u12 u13 u14 u15 u16 u17 u18 u19 u20 u21 u22 u23 u24 u25 u26 u27 u28 u29 u30 u31 u32 u33 u34 u35 u36 u37 u38 u39 u40 u41 u42 u43 u44 u45 u46 u47 u48 u49 u50 u51 u52 u53 u54 u55 u56 u57 u58 u59 u60 u61 u62 u63 u64 u65 u66 u67 : Value, a' = { tmps := #[u0, u1, (.pointer (some ⟨w.heap.size, 0, none⟩)), u3, u4, u5, u6, u7, u8, u9, u10, u11, u12, u13, u14, u15, u16, u17, u18, u19, u20, u21, u22, u23, u24, u25, u26, u27, u28, u29, u30, u31, u32, u33, u34, u35, u36, u37, u38, u39, u40, u41, u42, u43, u44, u45, u46, u47, u48, u49, u50, u51, u52, u53, u54, u55, u56, u57, u58, u59, u60, u61, u62, u63, u64, u65, u66, u67], defers := [] }) ∧ Below w.heap.size w w' ∧ w'.heap[w.heap.size]? = some (.cells #[.int .i64 0, .int .i64 0, .int .i64 0, .int .i64 0, .int .u64 0, .int .u64 0, .int .i64 0, .int .i64 0, .int .i64 0, .int .i64 0] 27 (0, 0))) (fun _ _ => 0) rfl ?first ?pass
  case pass =>
    rintro a' w' ⟨⟨u0, u1, u3, u4, u5, u6, u7, u8, u9, u10, u11, u12, u13, u14, u15, u16, u17, u18, u19, u20, u21, u22, u23, u24, u25, u26, u27, u28, u29, u30, u31, u32, u33, u34, u35, u36, u37, u38, u39, u40, u41, u42, u43, u44, u45, u46, u47, u48, u49, u50, u51, u52, u53, u54, u55, u56, u57, u58, u59, u60, u61, u62, u63, u64, u65, u66, u67, rfl⟩, hb, hz⟩
    obtain ⟨c0, c1, c2, c3, c4, c5, c6, c7, c8, c9, hfz⟩ := lay_cells hz
    have HB := Lib.hid hb
    have HZ := Lib.hid hz
    clear hz hb
    go_wp2
    simp only [Exit.jump]
    obtain ⟨W, hW, h1, h2, h3⟩ := lay_sets HZ.out (.int .i64 0) (.int .i64 0) (.int .i64 0) (.int .i64 0) (.int .u64 0) (.int .u64 0) (.int .i64 0) (.int .i64 0) (.int .i64 0) (.int .i64 0)
    rw [hW]
    obtain ⟨c0, c1, c2, c3, c4, c5, c6, c7, c8, c9, hfz⟩ := lay_cells h1
    refine bodyPost_ret (v := .tuple #[lv lay0, .int .i64 230]) (by simp [results, Try.results22, go_sem, lv, lay0, c0, c1, c2, c3, c4, c5, c6, c7, c8, c9]) rfl ?_
    exact ⟨rfl, h3 _ _ (by omega) HB.out⟩
  case first =>
    go_wp2_with fail
    apply wp_goto
    go_wp2
    simp only [Exit.jump]
    exact ⟨trivial, ⟨_, _, _, _, _, _, _, _, _, _, _, _, _, _, _, _, _, _, _, _, _, _, _, _, _, _, _, _, _, _, _, _, _, _, _, _, _, _, _, _, _, _, _, _, _, _, _, _, _, _, _, _, _, _, _, _, _, _, _, _, _, _, _, _, _, _, _, rfl⟩, HBA.out, HZ.out⟩
end Go.Proofs.Ytljegehfdmgcbaa
