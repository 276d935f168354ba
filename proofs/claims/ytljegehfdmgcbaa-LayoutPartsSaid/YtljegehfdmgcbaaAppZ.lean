/- Append of a made slice of noughts, onto a slice of the call's own: with room, or without. -/
import Derived.Test.YtljegehfdmgcbaaApp
import Derived.Lib.AppendZerosOnto
namespace Go.Proofs.Ytljegehfdmgcbaa
open Go Go.RowKit

section
variable {P : Program} (w : World)
theorem run_append_room_zeros (t tn ty e : TypeId) (i : TypeInfo) (z : Value) (kq kn : IntKind) (ht : P.underlying t = some (.slice e)) (htn : P.underlying tn = some (.int kn)) (hi : P.info? e = some i) (hz : i.zero = some z)
    (g sLen sCap : Nat) (cur : Array Value) (hg : w.heap[g]? = some (.cells cur e (0, 0))) (k : Nat) (h0 : 0 < k) (hs : 0 < i.size) (h63 : (k : Int) ≤ 9223372036854775807) (h48 : k * i.bytes ≤ 281474976710656)
    (h1 : ∀ u ∈ (Builtin.zeroCells z.cells k).toList, u.oneCell' = true)
    (hroom : sLen + k ≤ sCap) (hfit : sLen * i.size + (Builtin.zeroCells z.cells k).toList.length ≤ cur.size) :
    (Builtin.append_ #[t, tn] ty #[.slice (some ⟨g, 0, none⟩) sLen sCap, .int kq k]).run P w =
      .ok (.slice (some ⟨g, 0, none⟩) (sLen + k) sCap) (w.setRow g (cur.toList.take (sLen * i.size) ++ (Builtin.zeroCells z.cells k).toList ++ cur.toList.drop (sLen * i.size + (Builtin.zeroCells z.cells k).toList.length)).toArray) := by
  have hst := run_storeCells_at P g (sLen * i.size) e (Builtin.zeroCells z.cells k).toList 0 cur w hg (by simpa using hfit) h1
  simp only [Nat.add_zero] at hst
  have hk : k ≠ 0 := by omega
  have hw : IntKind.i64.wrap (k : Int) = k := by rw [IntKind.wrap_i64]; omega
  have h48i : ¬ (281474976710656 < (k : Int) * (i.bytes : Int)) := by
    rw [← Int.natCast_mul]
    omega
  have hneg : ¬ ((k : Int) < 0) := by omega
  have hns : ¬ (k * i.size = 0) := Nat.mul_ne_zero hk (by omega)
  simp [Builtin.append_, run_underlying ht, run_underlying htn, sizeOf, typeInfo, zeroValue, hi, hz, asInt, asIntOf, hw, hneg, hns, h48i, hroom, Addr.add_lit, hst]

theorem zeroCells_one (z : Value) (k : Nat) : (Builtin.zeroCells #[z] k).toList = List.replicate k z := by
  unfold Builtin.zeroCells
  apply List.ext_getElem?
  intro i
  by_cases h : i < k
  · simp [h, Nat.mod_one]
  · simp [h]

theorem run_append_zeros_own (base : Nat) (t tn ty e : TypeId) (z : Value) (bytes : Nat) (kq kn : IntKind) (he : ElemIs P t e z 1 bytes) (htn : P.underlying tn = some (.int kn)) (hzc : z.cells = #[z]) (hz1 : z.oneCell' = true)
    (g cap n : Nat) (xs : List Value) (hown : w.ownsRow base e 1 (.slice (some ⟨g, 0, none⟩) n cap) n xs) (k : Nat) (h0 : 0 < k) (h63 : n + k ≤ 1000000000) (hby : bytes ≤ 1000) (hbase : base ≤ w.heap.size) :
    ∃ v' w', (Builtin.append_ #[t, tn] ty #[.slice (some ⟨g, 0, none⟩) n cap, .int kq k]).run P w = .ok v' w' ∧ w'.ownsRow base e 1 v' (n + k) (xs ++ List.replicate k z) ∧ w.grownBy w' (some g) := by
  obtain ⟨i0, hi0, hz0, hs0, hb0⟩ := info_parts he.info
  have hxl := hown.1
  rcases hown.2 with ⟨hv, _⟩ | ⟨g', cap', cur, hv, hbg, hg, hnc, hcm, hcs, htake⟩
  · cases hv
  cases hv
  by_cases hroom : n + k ≤ cap
  · have hr := run_append_room_zeros (P := P) w t tn ty e i0 z kq kn he.under htn hi0 hz0 g n cap cur hg k h0 (by omega) (by omega) (by
        rw [hb0]
        have : k * bytes ≤ 1000000000 * 1000 := Nat.mul_le_mul (by omega) hby
        omega) (by rw [hzc, zeroCells_one]; intro u hu; rw [List.eq_of_mem_replicate hu]; exact hz1) hroom (by rw [hzc, zeroCells_one, hs0]; simp; omega)
    rw [hzc, zeroCells_one, hs0] at hr
    refine ⟨_, _, hr, ⟨by simp [hxl], .inr ⟨g, cap, _, rfl, hbg, setRow_heap w g cur _ e _ hg, hroom, hcm, ?_, ?_⟩⟩, ⟨rfl, rfl, rfl, by simp, fun k _ hk => setRow_other w g k _ (fun e => hk (by simp [e]))⟩⟩
    · simp; omega
    · have e1 : (List.take (n * 1) cur.toList ++ List.replicate k z).length = (n + k) * 1 := by simp; omega
      rw [htake] at e1 ⊢
      rw [← e1]
      exact List.take_left
  · have hold := run_firstCells_some (P := P) w.drew i0.size n ⟨g, 0, none⟩ n cap xs (by rw [hs0]; exact hxl) (fun j u hu => hown.cells (g := g) rfl j u hu)
    have hb1 : (n + k) * bytes ≤ 1000000000 * 1000 := Nat.mul_le_mul (by omega) hby
    have hb2 : k * bytes ≤ 1000000000 * 1000 := Nat.mul_le_mul (by omega) hby
    have hr := Lib.run_append_grow_zeros w t tn ty e i0 z kq kn he.under htn hi0 hz0 (some ⟨g, 0, none⟩) n cap xs hold k h0 (by omega) (by omega) (by omega) (by rw [hb0]; omega) (growslice_fits (by omega) (by rw [hb0]; omega))
    have hge := grownCap_ge w (n + k) cap e
    have hcm2 : grownCap w (n + k) cap e ≤ maxLen := grownCap_le_maxLen w (n + k) cap e (by unfold maxLen; omega)
    refine ⟨_, _, hr, ⟨by simp [hxl], .inr ⟨w.heap.size, _, _, rfl, hbase, World.alloc_heap_new w.drew _, hge, hcm2, ?_, ?_⟩⟩, ⟨rfl, rfl, rfl, by simp, fun k hk _ => heap_alloc_old w.drew _ k hk⟩⟩
    · simp [size_zeroCells, hzc, hxl]; omega
    · have e1 : (xs ++ List.replicate k z).length = (n + k) * 1 := by simp [hxl]
      simp only [Array.toList_append, hzc, zeroCells_one, List.append_assoc]
      rw [← List.append_assoc, ← e1]
      exact List.take_left

theorem wpList_append_zeros {w : World} {ops : Array Oper} {rest : List Oper} {o : Oper} {a : Act} {Q : Exit → Act → World → Prop} (hgd : o.guard = none) (s x : Operand) (t tn : TypeId)
    (ho : o.op = .call { callee := .builtin .append, args := #[s, x], argTypes := #[t, tn] }) {e : TypeId} {z : Value} {bytes : Nat} (kq kn : IntKind) (he : ElemIs P t e z 1 bytes) (htn : P.underlying tn = some (.int kn)) (hzc : z.cells = #[z]) (hz1 : z.oneCell' = true)
    (base g cap n : Nat) (xs : List Value) (hs : a.eval s = .slice (some ⟨g, 0, none⟩) n cap) (hown : w.ownsRow base e 1 (.slice (some ⟨g, 0, none⟩) n cap) n xs) (k : Nat) (hx : a.eval x = .int kq k) (h0 : 0 < k) (h63 : n + k ≤ 1000000000) (hby : bytes ≤ 1000) (hbase : base ≤ w.heap.size)
    (h : ∀ v' w', w'.ownsRow base e 1 v' (n + k) (xs ++ List.replicate k z) → w.grownBy w' (some g) → wpList P ops Q rest (a.put o.dst v') w') : wpList P ops Q (o :: rest) a w := by
  obtain ⟨v', w', hr, h2, h3⟩ := run_append_zeros_own (P := P) w base t tn o.type e z bytes kq kn he htn hzc hz1 g cap n xs hown k h0 h63 hby hbase
  exact Lib.wpList_append_run w hgd s x t tn ho _ _ hs hx v' w' hr (h v' w' h2 h3)
end
end Go.Proofs.Ytljegehfdmgcbaa
