/- The walk of package scan: the ways' table, small functions. -/
import Derived.Test.YtenmogokbelahaaScanLaw
import Derived.Test.YtenmogokbelahaaOwnG
import Derived.Test.YtenmogokbelahaaRows
import Derived.MapKept
import Derived.Carry
namespace Go.Proofs.Ytenmogokbelahaa
open Go Go.RowKit

def fnUp : Value := .func (.func 90) #[] #[]
def fnDown : Value := .func (.func 91) #[] #[]
def begM1 : Array MapEntry := #[{ key := .int .i64 1, val := fnUp, born := 0 }]
def begM : Array MapEntry := #[{ key := .int .i64 1, val := fnUp, born := 0 }, { key := .int .i64 2, val := fnDown, born := 1 }]
theorem und_way : Try.prog.underlying 22 = some (.int .i64) := by kernel_rfl
theorem und_beg : Try.prog.underlying 125 = some (.map 22 72) := by kernel_rfl
theorem set_new (w : World) (o o' : Obj) : ({ w.alloc o with heap := (w.alloc o).heap.setIfInBounds w.heap.size o' } : World) = w.alloc o' := by
  have e : ∀ o, (w.alloc o).heap = w.heap.push o := fun _ => rfl
  have : (w.alloc o).heap.setIfInBounds w.heap.size o' = w.heap.push o' := by
    rw [e]
    apply Array.toList_inj.1
    simp [Array.toList_push, ← Array.length_toList]
  rw [this]
  rfl
theorem ins_one (w : World) : (Instr.mapUpdate 125 (.map (some w.heap.size)) (.int .i64 1) fnUp).run Try.prog (w.alloc (.map #[] 0)) = .ok () (w.alloc (.map begM1 1)) := by
  have hb : (w.alloc (.map #[] 0)).heap[w.heap.size]? = some (.map #[] 0) := World.alloc_heap_new w _
  unfold Instr.mapUpdate
  simp [Sem.run_bind, run_underlying und_beg, MapKept.run_getObj_map hb, MapKept.run_checkKey und_way (k := .int .i64 1) (by simp [MapKept.IsKey]), MapKept.run_findKey und_way (l := []) (k := .int .i64 1) (a := none) rfl, Result.andThen, MapKept.run_setObj_map _ hb]
  exact set_new w _ _
theorem ins_two (w : World) : (Instr.mapUpdate 125 (.map (some w.heap.size)) (.int .i64 2) fnDown).run Try.prog (w.alloc (.map begM1 1)) = .ok () (w.alloc (.map begM 2)) := by
  have hb : (w.alloc (.map begM1 1)).heap[w.heap.size]? = some (.map begM1 1) := World.alloc_heap_new w _
  unfold Instr.mapUpdate
  simp [Sem.run_bind, run_underlying und_beg, MapKept.run_getObj_map hb, MapKept.run_checkKey und_way (k := .int .i64 2) (by simp [MapKept.IsKey]), MapKept.run_findKey und_way (l := begM1.toList) (k := .int .i64 2) (a := none) rfl, Result.andThen, MapKept.run_setObj_map _ hb]
  exact set_new w _ _
/-- What the table tells. -/
def begV (x : Int) : Value := if x = 1 then fnUp else if x = 2 then fnDown else .nilFunc
theorem find_beg (x : Int) : Instr.findNow (.int .i64) (.int .i64 x) begM.toList 0 = some (if x = 1 then some (0, fnUp) else if x = 2 then some (1, fnDown) else none) := by
  by_cases h1 : x = 1
  · subst h1; rfl
  · by_cases h2 : x = 2
    · subst h2; rfl
    · rw [if_neg h1, if_neg h2]
      have e1 : (x == 1) = false := by simpa using h1
      have e2 : (x == 2) = false := by simpa using h2
      show (match some (x == 1) with | some true => _ | some false => _ | none => _) = _
      rw [e1]
      show (match some (x == 2) with | some true => _ | some false => _ | none => _) = _
      rw [e2]
      rfl
theorem zero_beg (w : World) : (zeroValue 72).run Try.prog w = .ok .nilFunc w := by kernel_rfl
theorem look_beg {w : World} {b : Nat} (hb : w.heap[b]? = some (.map begM 2)) (x : Int) : (Instr.lookup 125 (.map (some b)) (.int .i64 x) false).run Try.prog w = .ok (begV x) w := by
  unfold Instr.lookup begV
  simp [Sem.run_bind, run_underlying und_beg, MapKept.run_getObj_map hb, MapKept.run_checkKey und_way (k := .int .i64 x) (by simp [MapKept.IsKey]), MapKept.run_findKey und_way (find_beg x), Result.andThen]
  by_cases h1 : x = 1
  · simp [h1]
  · by_cases h2 : x = 2
    · simp [h2]
    · simp [h1, h2]
theorem look_beg_ok {w : World} {b : Nat} (hb : w.heap[b]? = some (.map begM 2)) (x : Int) : (Instr.lookup 125 (.map (some b)) (.int .i64 x) true).run Try.prog w = .ok (.tuple #[begV x, .bool (decide (x = 1 ∨ x = 2))]) w := by
  unfold Instr.lookup begV
  simp [Sem.run_bind, run_underlying und_beg, MapKept.run_getObj_map hb, MapKept.run_checkKey und_way (k := .int .i64 x) (by simp [MapKept.IsKey]), MapKept.run_findKey und_way (find_beg x), Result.andThen]
  by_cases h1 : x = 1
  · simp [h1]
  · by_cases h2 : x = 2
    · simp [h2]
    · simp [h1, h2, Result.andThen]
theorem begins_any (w : World) : Calls Try.prog 68 #[] w fun e w' => e = .returned (.map (some w.heap.size)) ∧ w.alloc (.map begM 2) = w' := by
  have h1 := ins_one w
  have h2 := ins_two w
  have hmm := @run_makeMap Try.prog
  unfold fnUp at h1
  unfold fnDown at h2
  go_enter Try.func68, Try.ntmps68
  go_wp2
  go_ret
  exact ⟨rfl, rfl⟩
/-- Between bounds. -/
theorem inS_any (n a b : Int) (w : World) : Calls Try.prog 69 #[.int .i64 n, .int .i64 a, .int .i64 b] w fun e w' => e = .returned (.bool (decide (a ≤ n) && decide (n ≤ b))) ∧ w = w' := by
  go_enter Try.func69, Try.ntmps69
  by_cases h : a ≤ n
  · go_wp2
    go_ret
    exact ⟨by simp [h], rfl⟩
  · go_wp2
    go_ret
    exact ⟨by rw [decide_eq_false (by omega)]; rfl, rfl⟩
end Go.Proofs.Ytenmogokbelahaa
