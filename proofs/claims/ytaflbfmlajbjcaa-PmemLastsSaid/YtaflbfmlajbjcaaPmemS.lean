/- The walks of the reference's memory: Right, There, HasLine, with, Store, Flush, Evict. -/
import Derived.Test.YtaflbfmlajbjcaaPmemR
namespace Go.Proofs.Ytaflbfmlajbjcaa
open Go Go.RowKit

/-- A line of the reference, in its cells. -/
def lc (x : Ln) : List Value := ec x.now ++ (ec x.lasts ++ (ec (x.q.getD zero8) ++ [.bool x.q.isSome]))
theorem lc_len (x : Ln) : (lc x).length = 25 := by simp [lc, ec_len]
theorem lc_one (x : Ln) : ∀ u ∈ lc x, u.oneCell' = true := by
  intro u hu
  unfold lc at hu
  rw [List.mem_append, List.mem_append, List.mem_append, List.mem_singleton] at hu
  rcases hu with h | h | h | rfl
  · exact ec_one _ u h
  · exact ec_one _ u h
  · exact ec_one _ u h
  · rfl
def zeroLn : Ln := ⟨zero8, zero8, none⟩
def lnV (x : Ln) : Value := .agg (lc x).toArray
theorem elem_ln : ElemIs Try.prog 31 72 (lnV zeroLn) 25 200 := ⟨by kernel_rfl, by kernel_rfl, rfl, by decide⟩
abbrev OwnR (W : World) (p : Option Addr) (c : Nat) (l : Mem) : Prop := OwnG 72 25 lc W p c l
/-- What a row's or a struct's type is. -/
structure RowT (ty : TypeId) (n : Nat) : Prop where
  und : ∃ d, Try.prog.underlying ty = some d ∧ d.isRow = true
  size : (Try.prog.info? ty).map (·.size) = some n
theorem rowLn : RowT 72 25 := ⟨by
  obtain ⟨d, hd⟩ := Option.isSome_iff_exists.1 (show (Try.prog.underlying 72).isSome = true by kernel_rfl)
  refine ⟨d, hd, ?_⟩
  have h : (Try.prog.underlying 72).map (fun d => d.isRow) = some true := by kernel_rfl
  rw [hd] at h
  simpa using h, by kernel_rfl⟩
theorem rowV8 : RowT 70 8 := ⟨⟨.array 8 36, by kernel_rfl, rfl⟩, by kernel_rfl⟩
section
variable {w : World} {ops : Array Oper} {rest : List Oper} {op : Oper} {a : Act} {Q : Exit → Act → World → Prop} {ty : TypeId} {n : Nat}
theorem list_load_row (hT : RowT ty n) (hgd : op.guard = none) (x : Operand) (ho : op.op = .load ty x) {g o : Nat} (hx : a.eval x = .pointer (some ⟨g, o, none⟩)) {cs : List Value} (hl : cs.length = n) (hc : w.rangeAt g o cs)
    (h : wpList Try.prog ops Q rest (a.put op.dst (.agg cs.toArray)) w) : wpList Try.prog ops Q (op :: rest) a w := by
  obtain ⟨⟨d, hu, hd⟩, hs⟩ := hT
  exact wpList_load_mid hgd ty x ho g o hx cs d hc hu hd (by rw [hl]; exact hs) h
theorem list_store_row (hT : RowT ty n) (hgd : op.guard = none) (x y : Operand) (ho : op.op = .store ty x y) {g o : Nat} (hx : a.eval x = .pointer (some ⟨g, o, none⟩)) {cs : List Value} (hl : cs.length = n) (hy : a.eval y = .agg cs.toArray)
    (h1 : ∀ u ∈ cs, u.oneCell' = true) (ht : w.there g o n) (h : wpList Try.prog ops Q rest (a.put op.dst undef) (w.setCells g o cs)) : wpList Try.prog ops Q (op :: rest) a w := by
  subst hl
  exact wpList_store_mid hgd ty x y ho g o cs.toArray hx hy (by rw [List.size_toArray]; exact ht) (by rw [List.size_toArray]; exact hT.size) (all_oneCell_toArray h1) h
end
theorem rangeAt_app {w : World} {g o : Nat} {xs ys : List Value} : w.rangeAt g o (xs ++ ys) ↔ w.rangeAt g o xs ∧ w.rangeAt g (o + xs.length) ys := by
  constructor
  · intro h
    refine ⟨fun j v hv => h j v (by rw [List.getElem?_append_left (List.getElem?_eq_some_iff.1 hv).1]; exact hv), fun j v hv => ?_⟩
    rw [Nat.add_assoc]
    exact h (xs.length + j) v (by rw [List.getElem?_append_right (by omega), Nat.add_sub_cancel_left]; exact hv)
  · rintro ⟨h1, h2⟩ j v hv
    by_cases hj : j < xs.length
    · exact h1 j v (by rw [List.getElem?_append_left hj] at hv; exact hv)
    · rw [List.getElem?_append_right (by omega)] at hv
      have := h2 _ v hv
      rwa [Nat.add_assoc, show xs.length + (j - xs.length) = j by omega] at this
/-- A line's parts, in the cells. -/
theorem range_ln {w : World} {g o : Nat} {x : Ln} : w.rangeAt g o (lc x) ↔ w.rangeAt g o (ec x.now) ∧ w.rangeAt g (o + 8) (ec x.lasts) ∧ w.rangeAt g (o + 16) (ec (x.q.getD zero8)) ∧ w.cell? ⟨g, o + 24, none⟩ = some (.bool x.q.isSome) := by
  unfold lc
  rw [rangeAt_app, rangeAt_app, rangeAt_app, ec_len, ec_len, ec_len]
  refine and_congr Iff.rfl (and_congr Iff.rfl (and_congr Iff.rfl ?_))
  constructor
  · intro h
    exact h 0 _ rfl
  · intro h j v hv
    have hj : j = 0 := by have := (List.getElem?_eq_some_iff.1 hv).1; simp at this; omega
    subst hj
    simp at hv
    rw [← hv]
    exact h
theorem own_ln {W : World} {g o cap : Nat} {l : Mem} (h : OwnR W (some ⟨g, o, none⟩) cap l) (hc : 0 < cap) (i : Nat) (hi : i < l.length) : W.rangeAt g (o + i * 25) (lc l[i]) ∧ W.there g (o + i * 25) 25 := by
  obtain ⟨h1, h2, h3⟩ := OwnG.rds lc_len h
  rcases h3 with h3 | ⟨g', o', hp, hb, hcell⟩
  · omega
  · cases hp
    have hr : W.rangeAt g (o + i * 25) (lc l[i]) := fun j v hv => by
      rw [Nat.add_assoc]
      exact hcell i hi j v hv
    refine ⟨hr, fun j hj => ⟨?_, ?_⟩⟩
    · have : (lc l[i])[j]? = some ((lc l[i])[j]'(by rw [lc_len]; exact hj)) := List.getElem?_eq_getElem _
      rw [hr j _ this]
      rfl
    · rw [Nat.add_assoc]
      exact OwnO.free h hc _
theorem rds_ln {B : Nat} {W : World} {g o cap : Nat} {l : Mem} (h : RdS B W (some ⟨g, o, none⟩) cap 25 lc l) (i : Nat) (hi : i < l.length) : W.rangeAt g (o + i * 25) (lc l[i]) ∧ g < B := by
  obtain ⟨h1, h2, h3⟩ := h
  rcases h3 with h3 | ⟨g', o', hp, hb, hcell⟩
  · omega
  · cases hp
    exact ⟨fun j v hv => by rw [Nat.add_assoc]; exact hcell i hi j v hv, hb⟩
theorem own_setLn {W : World} {g o cap : Nat} {l : Mem} (h : OwnR W (some ⟨g, o, none⟩) cap l) (i : Nat) (hi : i < l.length) (v : Ln) : OwnR (W.setCells g (o + i * 25) (lc v)) (some ⟨g, o, none⟩) cap (l.set i v) := by
  unfold OwnR OwnG
  rw [flat_sets lc_len (by decide) l i hi v, List.length_set]
  exact setCells_own _ _ _ h
theorem new_lnvar (W : World) : ∃ WA, W.alloc (.cells #[Value.int .u64 0, Value.int .u64 0, Value.int .u64 0, Value.int .u64 0, Value.int .u64 0, Value.int .u64 0, Value.int .u64 0, Value.int .u64 0, Value.int .u64 0, Value.int .u64 0, Value.int .u64 0, Value.int .u64 0, Value.int .u64 0, Value.int .u64 0, Value.int .u64 0, Value.int .u64 0, Value.int .u64 0, Value.int .u64 0, Value.int .u64 0, Value.int .u64 0, Value.int .u64 0, Value.int .u64 0, Value.int .u64 0, Value.int .u64 0, Value.bool false] 72) = WA ∧ Below W.heap.size W WA ∧ WA.heap.size = W.heap.size + 1 ∧ WA.there W.heap.size 0 25 := by
  obtain ⟨WA, hWA⟩ : ∃ WA, W.alloc (.cells #[Value.int .u64 0, Value.int .u64 0, Value.int .u64 0, Value.int .u64 0, Value.int .u64 0, Value.int .u64 0, Value.int .u64 0, Value.int .u64 0, Value.int .u64 0, Value.int .u64 0, Value.int .u64 0, Value.int .u64 0, Value.int .u64 0, Value.int .u64 0, Value.int .u64 0, Value.int .u64 0, Value.int .u64 0, Value.int .u64 0, Value.int .u64 0, Value.int .u64 0, Value.int .u64 0, Value.int .u64 0, Value.int .u64 0, Value.int .u64 0, Value.bool false] 72) = WA := ⟨_, rfl⟩
  have hxA : WA.heap[W.heap.size]? = some (.cells (lc zeroLn).toArray 72 (0, 0)) := by
    rw [← hWA]
    exact World.alloc_heap_new _ _
  refine ⟨WA, hWA, by rw [← hWA]; exact (Below.refl _ _).alloc (Nat.le_refl _) _, by rw [← hWA]; simp, fun j hj => ?_⟩
  have hj2 : j < (lc zeroLn).length := by rw [lc_len]; exact hj
  refine ⟨?_, by simp [World.frozen?, hxA]⟩
  simp only [World.cell?, hxA, Nat.zero_add]
  rw [List.getElem?_toArray, List.getElem?_eq_getElem hj2]
  rfl
/-- A box of a line. -/
theorem box_range {w : World} {B : Nat} {cs : List Value} {t : TypeId} (h : w.heap[B]? = some (.cells cs.toArray t (0, 0))) : w.rangeAt B 0 cs ∧ w.there B 0 cs.length := by
  have hr : w.rangeAt B 0 cs := fun j v hv => by
    simp only [World.cell?, h, Nat.zero_add]
    rw [List.getElem?_toArray]
    exact hv
  refine ⟨hr, fun j hj => ⟨?_, by simp [World.frozen?, h]⟩⟩
  rw [hr j _ (List.getElem?_eq_getElem hj)]
  rfl
set_option maxHeartbeats 1000000 in
theorem right7_any (n : Int) (w : World) : Calls Try.prog 11 #[.int .i64 n] w fun e w' => e = .returned (.bool (decide (8 ≤ n ∧ n ≤ 131072 ∧ n % 8 = 0))) ∧ w = w' := by
  by_cases h1 : 8 ≤ n
  · by_cases h2 : n ≤ 131072
    · obtain ⟨r, hr⟩ : ∃ r, n % 8 = r := ⟨_, rfl⟩
      have e : decide (8 ≤ n ∧ n ≤ 131072 ∧ n % 8 = 0) = (r == 0) := by
        rw [hr]
        by_cases h3 : r = 0
        · subst h3; exact decide_eq_true ⟨h1, h2, rfl⟩
        · rw [decide_eq_false (fun h => h3 h.2.2)]; exact (beq_eq_false_iff_ne.2 h3).symm
      have hw : n.tmod 8 = r := by rw [Int.tmod_eq_emod_of_nonneg (by omega), hr]
      rw [e]
      clear e
      go_enter Try.func11, Try.ntmps11
      go_wp2_with fail
      go_ret
      exact ⟨rfl, rfl⟩
    · have e : decide (8 ≤ n ∧ n ≤ 131072 ∧ n % 8 = 0) = false := decide_eq_false (fun h => h2 h.2.1)
      have d2 : decide (n ≤ 131072) = false := decide_eq_false h2
      rw [e]
      clear e
      go_enter Try.func11, Try.ntmps11
      go_wp2_with fail
      go_ret
      exact ⟨rfl, rfl⟩
  · have e : decide (8 ≤ n ∧ n ≤ 131072 ∧ n % 8 = 0) = false := decide_eq_false (fun h => h1 h.1)
    have d1 : decide (8 ≤ n) = false := decide_eq_false h1
    rw [e]
    clear e
    go_enter Try.func11, Try.ntmps11
    go_wp2_with fail
    go_ret
    exact ⟨rfl, rfl⟩
set_option maxHeartbeats 1000000 in
theorem there7_any (p : Option Addr) (n c : Nat) (a : Int) (w : World) (hn : n ≤ 1000000) : Calls Try.prog 47 #[.slice p n c, .int .i64 a] w fun e w' => e = .returned (.bool (decide (0 ≤ a ∧ a < ((8 * n : Nat) : Int)))) ∧ w = w' := by
  obtain ⟨A, hA⟩ : ∃ A, 8 * n = A := ⟨_, rfl⟩
  have hw : IntKind.i64.wrap (8 * (n : Int)) = (A : Int) := by rw [IntKind.wrap_i64]; omega
  rw [hA]
  clear hA hn
  by_cases h1 : 0 ≤ a
  · have e : decide (0 ≤ a ∧ a < (A : Int)) = decide (a < (A : Int)) := by
      by_cases h2 : a < (A : Int)
      · rw [decide_eq_true (show 0 ≤ a ∧ a < (A : Int) from ⟨h1, h2⟩), decide_eq_true h2]
      · rw [decide_eq_false (fun h : 0 ≤ a ∧ a < (A : Int) => h2 h.2), decide_eq_false h2]
    rw [e]
    clear e
    go_enter Try.func47, Try.ntmps47
    go_wp2_with fail
    go_ret
    exact ⟨rfl, rfl⟩
  · have e : decide (0 ≤ a ∧ a < (A : Int)) = false := decide_eq_false (fun h => h1 h.1)
    have d1 : decide (0 ≤ a) = false := decide_eq_false h1
    rw [e]
    clear e
    go_enter Try.func47, Try.ntmps47
    go_wp2_with fail
    go_ret
    exact ⟨rfl, rfl⟩
set_option maxHeartbeats 1000000 in
theorem hasLine7_any (p : Option Addr) (n c : Nat) (a : Int) (w : World) : Calls Try.prog 48 #[.slice p n c, .int .i64 a] w fun e w' => e = .returned (.bool (decide (0 ≤ a ∧ a < (n : Int)))) ∧ w = w' := by
  by_cases h1 : 0 ≤ a
  · have e : decide (0 ≤ a ∧ a < (n : Int)) = decide (a < (n : Int)) := by
      by_cases h2 : a < (n : Int)
      · rw [decide_eq_true (show 0 ≤ a ∧ a < (n : Int) from ⟨h1, h2⟩), decide_eq_true h2]
      · rw [decide_eq_false (fun h : 0 ≤ a ∧ a < (n : Int) => h2 h.2), decide_eq_false h2]
    rw [e]
    clear e
    go_enter Try.func48, Try.ntmps48
    go_wp2_with fail
    go_ret
    exact ⟨rfl, rfl⟩
  · have e : decide (0 ≤ a ∧ a < (n : Int)) = false := decide_eq_false (fun h => h1 h.1)
    have d1 : decide (0 ≤ a) = false := decide_eq_false h1
    rw [e]
    clear e
    go_enter Try.func48, Try.ntmps48
    go_wp2_with fail
    go_ret
    exact ⟨rfl, rfl⟩
set_option maxRecDepth 100000 in
set_option maxHeartbeats 4000000 in
theorem with7_any (p : Option Addr) (cap : Nat) (m : Mem) (i : Nat) (x : Ln) (w : World) (hrd : RdS w.heap.size w p cap 25 lc m) (hi : i < m.length) (hn : m.length ≤ 100000) :
    Calls Try.prog 69 #[.slice p m.length cap, .int .i64 i, lnV x] w fun e w' => ∃ p' c', e = .returned (.slice p' m.length c') ∧ OwnR w' p' c' (m.set i x) ∧ (∀ b, inP p' c' b → w.heap.size ≤ b) ∧ Below w.heap.size w w' := by
  obtain ⟨wa, hwa⟩ : ∃ wa, w.alloc (.cells (lc x).toArray 72) = wa := ⟨_, rfl⟩
  have hba : Below w.heap.size w wa := by rw [← hwa]; exact (Below.refl _ _).alloc (Nat.le_refl _) _
  have hbx : wa.heap[w.heap.size]? = some (.cells (lc x).toArray 72 (0, 0)) := by rw [← hwa]; exact World.alloc_heap_new _ _
  have hza : wa.heap.size = w.heap.size + 1 := by rw [← hwa]; simp
  have hrd2 := hrd.keep (w' := wa.alloc (.cells #[] 72)) (fun b hb => (((Below.refl wa.heap.size wa).alloc (Nat.le_refl _) (.cells #[] 72)).block b (by have := hrd.inlt hb; omega)).trans (hba.block b (hrd.inlt hb)))
  have HRD := Lib.hid hrd2
  have HBX := Lib.hid (And.intro hbx (And.intro hba hza))
  have HWA := Lib.hid hwa
  have hin : (i : Int) < (m.length : Int) := by omega
  have hm0 : 0 < m.length := by omega
  clear hba hbx hza hrd2 hrd
  show Calls _ _ #[_, _, .agg (lc x).toArray] _ _
  go_enter Try.func69, Try.ntmps69
  go_upto_region 1 with fail
  clear hwa
  go_wp2_with (first
    | (at_builtin; refine wpList_copyG rfl (.tmp 8) (.tmp 9) _ rfl elem_ln (by decide) lc_len lc_one wa.heap.size _ rfl (own_empty wa wa.heap.size 72 25 (Nat.le_refl _)) p cap m w.heap.size rfl HRD.out (by omega) (by simp) ?_
       intro pc cc wc hown hpc hg
       have hbc : Below wa.heap.size wa wc := below_grown ((Below.refl _ wa).alloc (Nat.le_refl _) _) hg (by simp) (by intro b hb; cases hb; exact Nat.le_refl _)
       obtain ⟨gc, oc, rfl⟩ : ∃ gc oc, pc = some ⟨gc, oc, none⟩ := by
         rcases (OwnG.rds lc_len hown).2.2 with h | ⟨gc, oc, h, -⟩
         · have := (OwnG.rds lc_len hown).1; omega
         · exact ⟨gc, oc, h⟩
       have hcc : 0 < cc := by have := (OwnG.rds lc_len hown).1; omega
       have HC := Lib.hid (And.intro hown (And.intro hpc (And.intro hbc (And.intro hcc (And.intro (own_ln hown hcc i hi).2 (rangeAt_below (box_range HBX.out.1).1 hbc (by have := HBX.out.2.2; omega)))))))
       clear hown hpc hg hbc hcc)
    | (refine list_load_row rowLn rfl (.tmp 5) rfl rfl (lc_len x) HC.out.2.2.2.2.2 ?_)
    | (refine list_store_row rowLn rfl (.tmp 14) (.tmp 13) rfl rfl (lc_len x) rfl (lc_one x) HC.out.2.2.2.2.1 ?_))
  go_ret
  have hf : Frn (fun y => y = gc) wc (wc.setCells gc (oc + i * 25) (lc x)) := setCells_frn _ _ _
  have hgc : w.heap.size ≤ gc := by have := HC.out.2.1 gc ⟨_, rfl, rfl, HC.out.2.2.2.1⟩; have := HBX.out.2.2; omega
  exact ⟨_, _, rfl, own_setLn HC.out.1 i hi x, fun b hb => by have := HC.out.2.1 b hb; have := HBX.out.2.2; omega, below_setCells (HBX.out.2.1.trans (HC.out.2.2.1.mono HBX.out.2.1.size)) hgc⟩
end Go.Proofs.Ytaflbfmlajbjcaa
