/- The plain law of a memory of lines: no program in sight. -/
import Derived.Test.YtaflbfmlajbjcaaPmemQ
import Derived.Test.YtaflbfmlajbjcaaOwnG
namespace Go.Proofs.Ytaflbfmlajbjcaa
open Go Go.RowKit

structure Ln where
  now : V8
  lasts : V8
  q : Option V8
abbrev Mem := List Ln
def zero8 : V8 := Vector.replicate 8 0#64
def Mem.store (m : Mem) (i : Nat) (v : BitVec 64) : Mem := m.modify (i / 8) (fun x => { x with now := x.now.setIfInBounds (i % 8) v })
def Mem.flush (m : Mem) (i : Nat) : Mem := m.modify i (fun x => { x with q := some x.now })
def Mem.fence (m : Mem) : Mem := m.map (fun x => ⟨x.now, x.q.getD x.lasts, none⟩)
def Mem.evict (m : Mem) (i : Nat) : Mem := m.modify i (fun x => ⟨x.now, x.now, none⟩)
def Ln.open (x : Ln) : Bool := decide (x.now ≠ x.lasts) || (match x.q with | some v => decide (v ≠ x.lasts) | none => false)
def Mem.nows (m : Mem) : List V8 := m.map (·.now)
def Mem.lst (m : Mem) : List V8 := m.map (·.lasts)
def Mem.qf (m : Mem) (i : Nat) : Option V8 := (m[i]?).bind (·.q)
def Mem.opens (m : Mem) : List Nat := (List.range m.length).filter (fun i => ((m[i]?).map (·.open)).getD false)
theorem nows_len (m : Mem) : m.nows.length = m.length := by simp [Mem.nows]
theorem lst_len (m : Mem) : m.lst.length = m.length := by simp [Mem.lst]
theorem nows_get (m : Mem) (i : Nat) (h : i < m.nows.length) : m.nows[i] = (m[i]'(by simpa [Mem.nows] using h)).now := by simp [Mem.nows]
theorem lst_get (m : Mem) (i : Nat) (h : i < m.lst.length) : m.lst[i] = (m[i]'(by simpa [Mem.lst] using h)).lasts := by simp [Mem.lst]
theorem qf_get (m : Mem) (i : Nat) (h : i < m.length) : m.qf i = m[i].q := by simp [Mem.qf, h]
theorem store_len (m : Mem) (i : Nat) (v : BitVec 64) : (m.store i v).length = m.length := by simp [Mem.store]
theorem flush_len (m : Mem) (i : Nat) : (m.flush i).length = m.length := by simp [Mem.flush]
theorem evict_len (m : Mem) (i : Nat) : (m.evict i).length = m.length := by simp [Mem.evict]
theorem fence_len (m : Mem) : m.fence.length = m.length := by simp [Mem.fence]
theorem store_nows (m : Mem) (i : Nat) (v : BitVec 64) (h : i / 8 < m.length) : (m.store i v).nows = m.nows.set (i / 8) (m[i / 8].now.setIfInBounds (i % 8) v) := by
  apply List.ext_getElem?
  intro n
  simp only [Mem.nows, Mem.store, List.getElem?_map, List.getElem?_set, List.getElem?_modify, List.length_map]
  by_cases hn : i / 8 = n
  · subst hn; simp [h]
  · simp [hn]
theorem store_lst (m : Mem) (i : Nat) (v : BitVec 64) : (m.store i v).lst = m.lst := by
  apply List.ext_getElem?
  intro n
  simp only [Mem.lst, Mem.store, List.getElem?_map, List.getElem?_modify]
  by_cases hn : i / 8 = n
  · subst hn
    cases m[i / 8]? <;> simp
  · simp [hn]
theorem store_qf (m : Mem) (i : Nat) (v : BitVec 64) : (m.store i v).qf = m.qf := by
  funext n
  simp only [Mem.qf, Mem.store, List.getElem?_modify]
  by_cases hn : i / 8 = n
  · subst hn
    cases m[i / 8]? <;> simp
  · simp [hn]
theorem flush_nows (m : Mem) (i : Nat) : (m.flush i).nows = m.nows := by
  apply List.ext_getElem?
  intro n
  simp only [Mem.nows, Mem.flush, List.getElem?_map, List.getElem?_modify]
  by_cases hn : i = n
  · subst hn
    cases m[i]? <;> simp
  · simp [hn]
theorem flush_lst (m : Mem) (i : Nat) : (m.flush i).lst = m.lst := by
  apply List.ext_getElem?
  intro n
  simp only [Mem.lst, Mem.flush, List.getElem?_map, List.getElem?_modify]
  by_cases hn : i = n
  · subst hn
    cases m[i]? <;> simp
  · simp [hn]
theorem flush_qf (m : Mem) (i : Nat) (h : i < m.length) : (m.flush i).qf = fun n => if n = i then some m[i].now else m.qf n := by
  funext n
  simp only [Mem.qf, Mem.flush, List.getElem?_modify]
  by_cases hn : i = n
  · subst hn; simp [h]
  · simp [hn, Ne.symm hn]
theorem evict_nows (m : Mem) (i : Nat) : (m.evict i).nows = m.nows := by
  apply List.ext_getElem?
  intro n
  simp only [Mem.nows, Mem.evict, List.getElem?_map, List.getElem?_modify]
  by_cases hn : i = n
  · subst hn
    cases m[i]? <;> simp
  · simp [hn]
theorem evict_lst (m : Mem) (i : Nat) (h : i < m.length) : (m.evict i).lst = m.lst.set i m[i].now := by
  apply List.ext_getElem?
  intro n
  simp only [Mem.lst, Mem.evict, List.getElem?_map, List.getElem?_modify, List.getElem?_set, List.length_map]
  by_cases hn : i = n
  · subst hn; simp [h]
  · simp [hn]
theorem evict_qf (m : Mem) (i : Nat) : (m.evict i).qf = fun n => if n = i then none else m.qf n := by
  funext n
  simp only [Mem.qf, Mem.evict, List.getElem?_modify]
  by_cases hn : i = n
  · subst hn
    cases m[i]? <;> simp
  · simp [hn, Ne.symm hn]
theorem fence_nows (m : Mem) : m.fence.nows = m.nows := by simp [Mem.nows, Mem.fence]
theorem fence_qf (m : Mem) : m.fence.qf = fun _ => none := by
  funext n
  simp only [Mem.qf, Mem.fence, List.getElem?_map]
  cases m[n]? <;> simp
/-- Flat lists of cells. -/
theorem flat_set {α : Type} {c : Nat} {enc : α → List Value} (he : ∀ y, (enc y).length = c) (hc : 0 < c) (ys : List α) (i : Nat) (hi : i < ys.length) (y : α) (j : Nat) (hj : j < c) (u : Value) (hy : enc y = (enc ys[i]).set j u) :
    (ys.set i y).flatMap enc = (ys.flatMap enc).set (i * c + j) u := by
  apply List.ext_getElem?
  intro k
  by_cases hk : k < ys.length * c
  · obtain ⟨hk1, hk2⟩ : k / c < ys.length ∧ k % c < c := ⟨(Nat.div_lt_iff_lt_mul hc).2 hk, Nat.mod_lt _ hc⟩
    have hkk : k = k / c * c + k % c := by rw [Nat.mul_comm]; exact (Nat.div_add_mod k c).symm
    have hil : i * c + j < ys.length * c := by
      have : (i + 1) * c ≤ ys.length * c := Nat.mul_le_mul_right _ hi
      rw [Nat.add_mul] at this; omega
    rw [List.getElem?_set]
    by_cases hne : i * c + j = k
    · rw [if_pos hne, if_pos (by rw [flat_len he]; exact hil), ← hne, flat_get he _ i (by simpa using hi) j hj]
      simp [hy, he, hj]
    · rw [if_neg hne]
      rw [hkk, flat_get he _ (k / c) (by simpa using hk1) (k % c) hk2, flat_get he _ (k / c) hk1 (k % c) hk2]
      by_cases hik : i = k / c
      · have hjk : j ≠ k % c := fun e => hne (by rw [hik, e]; exact hkk.symm)
        subst hik
        simp [hy, hjk]
      · simp [hik]
  · rw [List.getElem?_eq_none (by rw [flat_len he]; simpa using hk), List.getElem?_eq_none (by rw [List.length_set, flat_len he]; omega)]
end Go.Proofs.Ytaflbfmlajbjcaa
