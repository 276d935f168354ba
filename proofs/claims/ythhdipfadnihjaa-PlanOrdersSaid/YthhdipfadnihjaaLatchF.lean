/- The walks at turns: Clone, the reference's without, DeleteFunc. -/
import Derived.Test.YthhdipfadnihjaaLatchE
import Derived.Test.YthhdipfadnihjaaOwnO
namespace Go.Proofs.Ythhdipfadnihjaa
open Go Go.RowKit

theorem elem_turn : ElemIs Try.prog 46 53 (.agg #[.int .i64 0, .bool false]) 2 16 := ⟨by kernel_rfl, by kernel_rfl, rfl, by decide⟩
theorem elem_turns : ElemIs Try.prog 110 53 (.agg #[.int .i64 0, .bool false]) 2 16 := ⟨by kernel_rfl, by kernel_rfl, rfl, by decide⟩
theorem tc_len (t : Turn) : (tc t).length = 2 := rfl
/-- A slice of turns of the call's own. -/
def OwnT (w : World) (p : Option Addr) (cap : Nat) (ys : List Turn) : Prop := OwnO w 53 2 p cap ys.length (ys.flatMap tc)
theorem OwnT.rds {w : World} {p : Option Addr} {cap : Nat} {ys : List Turn} (h : OwnT w p cap ys) : RdS w.heap.size w p cap 2 tc ys := OwnO.rds tc_len h
theorem OwnT.keep {w w' : World} {p : Option Addr} {cap : Nat} {ys : List Turn} (h : OwnT w p cap ys) (hb : ∀ b, inP p cap b → w'.heap[b]? = w.heap[b]?) : OwnT w' p cap ys := OwnO.keep h hb
theorem OwnT.below {w w' : World} {p : Option Addr} {cap : Nat} {ys : List Turn} (h : OwnT w p cap ys) (hb : Below w.heap.size w w') : OwnT w' p cap ys := OwnO.below h hb
theorem OwnT.lt {w : World} {p : Option Addr} {cap : Nat} {ys : List Turn} (h : OwnT w p cap ys) {b : Nat} (hb : inP p cap b) : b < w.heap.size := OwnO.lt h hb
theorem OwnT.nil (w : World) (p : Option Addr) : OwnT w p 0 [] := OwnO.nil _ _ _ _
theorem ownT_of {w : World} {base : Nat} {v : Value} {ys : List Turn} (h : w.ownsRow base 53 2 v ys.length (ys.flatMap tc)) : ∃ p cap, v = .slice p ys.length cap ∧ OwnT w p cap ys ∧ (∀ b, inP p cap b → base ≤ b) := by
  rcases h.2 with ⟨hv, h0⟩ | ⟨g, c, cur, hv, hb, hr⟩
  · subst hv
    refine ⟨none, 0, by rw [h0], ?_, by rintro b ⟨a, ha, _⟩; cases ha⟩
    have h1 := h
    rw [h0] at h1
    have := OwnO.of_owns h1
    unfold OwnT
    rw [h0]; exact this
  · subst hv
    exact ⟨_, _, rfl, OwnO.of_owns h, by rintro b ⟨a, ha, rfl, _⟩; cases ha; exact hb⟩
/-- The call hands back a slice of its own that holds ys; below it nothing has turned. -/
def RetT (ys : List Turn) (w : World) (e : Ending) (w' : World) : Prop :=
  ∃ p cap, e = .returned (.slice p ys.length cap) ∧ OwnT w' p cap ys ∧ (∀ b, inP p cap b → w.heap.size ≤ b) ∧ Below w.heap.size w w'
theorem tc_one (ys : List Turn) : ∀ u ∈ ys.flatMap tc, u.oneCell' = true := by
  intro u hu
  obtain ⟨t, _, ht⟩ := List.mem_flatMap.1 hu
  simp only [tc, List.mem_cons, List.not_mem_nil, or_false] at ht
  rcases ht with rfl | rfl <;> rfl

theorem news_turn {w : World} {g : Nat} {y : Turn} {t : TypeId} {fr : Nat × Nat} (hg : w.heap[g]? = some (.cells #[.int .i64 y.1, .bool y.2] t fr)) : ∀ j u, (tc y)[j]? = some u → w.cell? ((⟨g, 0, none⟩ : Addr).add j) = some u := by
  intro j u hj
  rw [Addr.add_lit]
  have h : (#[Value.int .i64 y.1, .bool y.2] : Array Value)[j]? = some u := by
    rw [← hj]
    simp [tc]
  simp [World.cell?, hg, h]

/-- Append of one turn that lies in a new block. -/
theorem wpList_appT {w : World} {ops : Array Oper} {rest : List Oper} {o : Oper} {a : Act} {Q : Exit → Act → World → Prop} (hgd : o.guard = none) (s x : Operand) (t : TypeId)
    (hop : o.op = .call { callee := .builtin .append, args := #[s, x], argTypes := #[t, t] }) (he : ElemIs Try.prog t 53 (.agg #[.int .i64 0, .bool false]) 2 16)
    (p : Option Addr) (cap : Nat) (ys : List Turn) (y : Turn) (hs : a.eval s = .slice p ys.length cap) (hown : OwnT w p cap ys)
    (g c : Nat) (hx : a.eval x = .slice (some ⟨g, 0, none⟩) 1 c) (te : TypeId) (fr : Nat × Nat) (hg : w.heap[g]? = some (.cells #[.int .i64 y.1, .bool y.2] te fr)) (hn : ys.length < 1000000)
    (h : ∀ p' cap' w', OwnT w' p' cap' (ys ++ [y]) → Frn (inP p cap) w w' → (∀ b, inP p' cap' b → inP p cap b ∨ (w.heap.size ≤ b ∧ b < w'.heap.size)) → wpList Try.prog ops Q rest (a.put o.dst (.slice p' (ys.length + 1) cap')) w') : wpList Try.prog ops Q (o :: rest) a w := by
  refine wpList_append_ownO hgd s x t hop he p cap ys.length (ys.flatMap tc) hs hown ⟨g, 0, none⟩ 1 c (tc y) hx rfl (news_turn hg) (by have := tc_one [y]; simpa using this) (by decide) (by unfold maxLen; omega) (by omega) ?_
  intro p' cap' w' h2 h3 h4
  exact h p' cap' w' (by unfold OwnT; simpa using h2) h3 h4

set_option maxHeartbeats 1000000 in
theorem cloneT_any (p : Option Addr) (cap : Nat) (xs : List Turn) (w : World) (hrd : RdS w.heap.size w p cap 2 tc xs) (hx : xs.length ≤ 1000000) :
    Calls Try.prog 59 #[.slice p xs.length cap] w (RetT xs w) := by
  have hlen := hrd.len
  have hnil := fun (w : World) (a : Option Addr) (n c : Nat) => Lib.run_eql_slice_nil (P := Try.prog) w 110 53 a n c 0 0 Try.underlying110
  have hsrc := src_rds tc_len (hrd.kept ((Below.refl _ w).alloc (Nat.le_refl _) (.cells #[] 53)))
  rcases p with _ | x
  · have h0 : cap = 0 := by
      rcases hrd.2.2 with h0 | ⟨_, _, h, _⟩
      · exact h0
      · cases h
    subst h0
    obtain rfl : xs = [] := List.eq_nil_of_length_eq_zero (by have := hrd.1; omega)
    go_enter Try.func59, Try.ntmps59
    go_wp2
    go_ret
    exact ⟨none, 0, rfl, OwnT.nil _ _, (by rintro b ⟨a, ha, _⟩; cases ha), Below.refl _ _⟩
  · clear hrd
    go_enter Try.func59, Try.ntmps59
    go_wp2_with (at_builtin; refine wpList_append_src rfl _ _ _ rfl elem_turns w.heap.size _ 0 [] rfl (own_empty w _ _ _ (Nat.le_refl _)) _ xs.length (xs.flatMap tc) rfl hsrc ?_ ?_ ?_ ?_ ?_ ?_
                 · exact flat_len tc_len xs
                 · exact tc_one xs
                 · unfold maxLen; omega
                 · omega
                 · simp
                 intro v w1 hown hg _ _)
    go_ret
    have hown' : w1.ownsRow w.heap.size 53 2 v xs.length (xs.flatMap tc) := by simpa using hown
    obtain ⟨p', c', rfl, h1, h2⟩ := ownT_of hown'
    exact ⟨p', c', rfl, h1, h2, below_grown ((Below.refl _ w).alloc (Nat.le_refl _) _) hg (by simp) (by intro b hb; cases hb; exact Nat.le_refl _)⟩

def withoutT (ys : List Turn) (c : Int) : List Turn := ys.filter fun t => !decide (t.1 = c)
set_option maxRecDepth 100000 in
set_option maxHeartbeats 2000000 in
theorem without_any (p : Option Addr) (cap : Nat) (ys : List Turn) (c : Int) (w : World) (hrd : RdS w.heap.size w p cap 2 tc ys) (hx : ys.length ≤ 100000) :
    Calls Try.prog 103 #[.slice p ys.length cap, .int .i64 c] w (RetT (withoutT ys c) w) := by
  have hlen := hrd.len
  have HR := Lib.hid hrd
  clear hrd
  go_enter Try.func103, Try.ntmps103
  go_wp2
  go_loopw [5, 6] (fun v i wr => ∃ (k : Nat), k ≤ ys.length ∧ i = .int .i64 k ∧ (∃ q d, v = .slice q (withoutT (ys.take k) c).length d ∧ OwnT wr q d (withoutT (ys.take k) c) ∧ (∀ b, inP q d b → w.heap.size ≤ b)) ∧ Below w.heap.size w wr) (fun _ i _ => ys.length - (intOf i).toNat)
  case atStart => exact ⟨0, Nat.zero_le _, rfl, ⟨none, 0, rfl, OwnT.nil _ _, by rintro b ⟨a, ha, _⟩; cases ha⟩, Below.refl _ _⟩
  case round =>
    obtain ⟨k, hk, rfl, ⟨q, d, rfl, hown, hqd⟩, hb⟩ := hrel
    by_cases hlt : k < ys.length
    · obtain ⟨b, off, rfl, hbl, h0, h1⟩ := HR.out.rows k hlt
      have h0' := (hb.cell (p := ⟨b, off + k * 2, none⟩) hbl).trans h0
      have h1' := (hb.cell (p := ⟨b, off + k * 2 + 1, none⟩) hbl).trans h1
      have hlt' : (k : Int) < (ys.length : Int) := by omega
      obtain ⟨y, hy⟩ : ∃ y, ys[k] = y := ⟨_, rfl⟩
      rw [hy] at h0' h1'
      obtain ⟨y1, y2⟩ := y
      simp only at h0' h1'
      have hln : (withoutT (ys.take k) c).length < 1000000 := by
        have : (withoutT (ys.take k) c).length ≤ (ys.take k).length := List.length_filter_le _ _
        rw [List.length_take] at this; omega
      have hts : withoutT (ys.take (k + 1)) c = withoutT (ys.take k) c ++ (if y1 = c then [] else [(y1, y2)]) := by
        rw [List.take_succ_eq_append_getElem hlt, hy]
        unfold withoutT
        rw [List.filter_append]
        by_cases h : y1 = c <;> simp [h]
      have HTS := Lib.hid hts
      have HO := Lib.hid hown
      have HQ := Lib.hid hqd
      have HB := Lib.hid hb
      have HLN := Lib.hid hln
      clear h0 h1 hy hts hown hqd hb hln
      generalize withoutT (ys.take k) c = zs at *
      by_cases hc : y1 = c
      · have HC := Lib.hid hc
        subst hc
        go_wp2
        refine ⟨⟨k + 1, by omega, by go_num, ⟨q, d, ?_, ?_, HQ.out⟩, HB.out⟩, by simp [intOf]; omega⟩
        · rw [HTS.out, if_pos rfl, List.append_nil]
        · rw [HTS.out, if_pos rfl, List.append_nil]; exact HO.out
      · have hc' : (y1 = c) = False := by simp [hc]
        go_wp2_with (
          at_builtin
          refine wpList_appT rfl (.tmp 20) (.tmp 25) _ rfl elem_turn q d zs (y1, y2) rfl (HO.out.below ((Below.refl _ _).alloc (Nat.le_refl _) _)) wr.heap.size 1 rfl 53 (0, 0) (World.alloc_heap_new wr _) HLN.out ?_
          intro q2 d2 w2 hown2 hf2 hq2
          have HB2 := Lib.hid (Below.trans (HB.out.alloc HB.out.size _) (hf2.below (by have := HB.out.size; simp; omega) HQ.out))
          have HO2 := Lib.hid hown2
          have HQ2 := Lib.hid (show ∀ b, inP q2 d2 b → w.heap.size ≤ b from fun b hb => (hq2 b hb).elim (HQ.out b) (fun h => by have := HB.out.size; have := h.1; simp at this; omega))
          clear hown2 hf2 hq2)
        refine ⟨⟨k + 1, by omega, by go_num, ⟨q2, d2, ?_, ?_, HQ2.out⟩, HB2.out⟩, by simp [intOf]; omega⟩
        · rw [HTS.out, if_neg hc]; simp
        · rw [HTS.out, if_neg hc]; exact HO2.out
    · obtain rfl : k = ys.length := by omega
      have h1 := hown
      rw [List.take_length] at h1 ⊢
      have HO := Lib.hid h1
      have HQ := Lib.hid hqd
      have HB := Lib.hid hb
      clear h1 hown hqd hb
      go_wp2_with fail
      go_ret
      exact ⟨q, d, rfl, HO.out, HQ.out, HB.out⟩
end Go.Proofs.Ythhdipfadnihjaa
