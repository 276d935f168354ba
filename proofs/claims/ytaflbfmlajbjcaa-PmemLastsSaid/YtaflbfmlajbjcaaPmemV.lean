/- The walks of the reference's memory: Fence. -/
import Derived.Test.YtaflbfmlajbjcaaPmemU
namespace Go.Proofs.Ytaflbfmlajbjcaa
open Go Go.RowKit

/-- A part of an element is laid anew. -/
theorem flat_setsP {α : Type} {c : Nat} {enc : α → List Value} (he : ∀ y, (enc y).length = c) (hc : 0 < c) (ys : List α) (i : Nat) (hi : i < ys.length) (y : α) (d : Nat) (cs : List Value) (hd : d + cs.length ≤ c) (hy : enc y = setsL (enc ys[i]) d cs) :
    (ys.set i y).flatMap enc = setsL (ys.flatMap enc) (i * c + d) cs := by
  have hil : i * c + c ≤ ys.length * c := by
    have : (i + 1) * c ≤ ys.length * c := Nat.mul_le_mul_right _ hi
    rw [Nat.add_mul] at this; omega
  apply List.ext_getElem?
  intro k
  by_cases hk : k < ys.length * c
  · obtain ⟨hk1, hk2⟩ : k / c < ys.length ∧ k % c < c := ⟨(Nat.div_lt_iff_lt_mul hc).2 hk, Nat.mod_lt _ hc⟩
    have hkk : k = k / c * c + k % c := by rw [Nat.mul_comm]; exact (Nat.div_add_mod k c).symm
    have e1 := flat_get he (ys.set i y) (k / c) (by simpa using hk1) (k % c) hk2
    rw [← hkk] at e1
    have e2 := flat_get he ys (k / c) hk1 (k % c) hk2
    rw [← hkk] at e2
    rw [e1]
    by_cases hik : i = k / c
    · subst hik
      rw [List.getElem_set_self, hy]
      by_cases hin : d ≤ k % c ∧ k % c < d + cs.length
      · have a1 := setsL_in cs (enc ys[k / c]) d (k % c - d) (by rw [he]; exact hd) (by omega)
        rw [show d + (k % c - d) = k % c by omega] at a1
        have a2 := setsL_in cs (ys.flatMap enc) (k / c * c + d) (k % c - d) (by rw [flat_len he]; omega) (by omega)
        rw [show k / c * c + d + (k % c - d) = k by omega] at a2
        rw [a1, a2]
      · rw [setsL_out cs (enc ys[k / c]) d (k % c) (by omega), setsL_out cs (ys.flatMap enc) (k / c * c + d) k (by omega), e2]
    · have hgi : (ys.set i y)[k / c]'(by simpa using hk1) = ys[k / c] := List.getElem_set_ne hik _
      rw [hgi, setsL_out cs (ys.flatMap enc) (i * c + d) k ?_, e2]
      rcases Nat.lt_or_gt_of_ne hik with h | h
      · right
        have : (i + 1) * c ≤ k / c * c := Nat.mul_le_mul_right _ h
        rw [Nat.add_mul] at this; omega
      · left
        have : (k / c + 1) * c ≤ i * c := Nat.mul_le_mul_right _ h
        rw [Nat.add_mul] at this; omega
  · rw [List.getElem?_eq_none (by rw [flat_len he]; simpa using hk), List.getElem?_eq_none (by rw [setsL_len, flat_len he]; omega)]
theorem setsL_app (xs zs : List Value) : ∀ (vs : List Value) (d : Nat), d + vs.length ≤ xs.length → setsL (xs ++ zs) d vs = setsL xs d vs ++ zs
  | [], _, _ => rfl
  | v :: r, d, h => by
    simp only [List.length_cons] at h
    show setsL ((xs ++ zs).set d v) (d + 1) r = setsL (xs.set d v) (d + 1) r ++ zs
    rw [List.set_append_left _ _ (by omega)]
    exact setsL_app (xs.set d v) zs r (d + 1) (by simp; omega)
theorem setsL_skip (xs zs : List Value) : ∀ (vs : List Value) (d : Nat), setsL (xs ++ zs) (xs.length + d) vs = xs ++ setsL zs d vs
  | [], _ => rfl
  | v :: r, d => by
    show setsL ((xs ++ zs).set (xs.length + d) v) (xs.length + d + 1) r = xs ++ setsL (zs.set d v) (d + 1) r
    rw [List.set_append_right _ _ (by omega), Nat.add_sub_cancel_left, Nat.add_assoc]
    exact setsL_skip xs (zs.set d v) r (d + 1)
theorem setsL_full : ∀ (vs xs : List Value), xs.length = vs.length → setsL xs 0 vs = vs := by
  intro vs xs h
  apply List.ext_getElem?
  intro k
  by_cases hk : k < vs.length
  · have := setsL_in vs xs 0 k (by omega) hk
    rwa [Nat.zero_add] at this
  · rw [setsL_out vs xs 0 k (by omega), List.getElem?_eq_none (by omega), List.getElem?_eq_none (by omega)]
theorem lc_setLasts (x : Ln) (v : V8) : lc { x with lasts := v } = setsL (lc x) 8 (ec v) := by
  unfold lc
  have h := setsL_skip (ec x.now) (ec x.lasts ++ (ec (x.q.getD zero8) ++ [.bool x.q.isSome])) (ec v) 0
  rw [ec_len] at h
  rw [h, setsL_app _ _ _ _ (by rw [ec_len, ec_len]; exact Nat.le_refl _), setsL_full _ _ (by rw [ec_len, ec_len])]
theorem lc_zeroQ (x : Ln) : lc { x with q := x.q.map (fun _ => zero8) } = setsL (lc x) 16 (ec zero8) := by
  unfold lc
  have h := setsL_skip (ec x.now) (ec x.lasts ++ (ec (x.q.getD zero8) ++ [.bool x.q.isSome])) (ec zero8) 8
  rw [ec_len] at h
  have h2 := setsL_skip (ec x.lasts) (ec (x.q.getD zero8) ++ [.bool x.q.isSome]) (ec zero8) 0
  rw [ec_len] at h2
  rw [h, h2, setsL_app _ _ _ _ (by rw [ec_len, ec_len]; exact Nat.le_refl _), setsL_full _ _ (by rw [ec_len, ec_len])]
  cases x.q <;> rfl
theorem lc_noQ (x : Ln) : lc { x with q := none } = (lc { x with q := x.q.map (fun _ => zero8) }).set 24 (.bool false) := by
  unfold lc
  rw [List.set_append_right _ _ (by rw [ec_len]; decide), List.set_append_right _ _ (by rw [ec_len, ec_len]; decide), List.set_append_right _ _ (by rw [ec_len, ec_len, ec_len]; decide), ec_len, ec_len, ec_len]
  cases x.q <;> rfl
/-- A part of a line is laid anew. -/
theorem own_part {W : World} {g o cap : Nat} {l : Mem} (h : OwnR W (some ⟨g, o, none⟩) cap l) (i : Nat) (hi : i < l.length) (y : Ln) (d : Nat) (cs : List Value) (hd : d + cs.length ≤ 25) (hy : lc y = setsL (lc l[i]) d cs) :
    OwnR (W.setCells g (o + i * 25 + d) cs) (some ⟨g, o, none⟩) cap (l.set i y) := by
  unfold OwnR OwnG
  rw [flat_setsP lc_len (by decide) l i hi y d cs hd hy, List.length_set, Nat.add_assoc]
  exact setCells_own _ _ _ h
theorem own_one {W : World} {g o cap : Nat} {l : Mem} (h : OwnR W (some ⟨g, o, none⟩) cap l) (i : Nat) (hi : i < l.length) (y : Ln) (d : Nat) (hd : d < 25) (v : Value) (hy : lc y = (lc l[i]).set d v) :
    OwnR (W.setCell ⟨g, o + i * 25 + d, none⟩ v) (some ⟨g, o, none⟩) cap (l.set i y) := by
  unfold OwnR OwnG
  rw [flat_set lc_len (by decide) l i hi y d hd v hy, List.length_set, Nat.add_assoc]
  exact OwnO.set h _ _
def fenceP (m : Mem) (k : Nat) : Mem := m.mapIdx (fun i x => if i < k then ⟨x.now, x.q.getD x.lasts, none⟩ else x)
theorem fenceP_len (m : Mem) (k : Nat) : (fenceP m k).length = m.length := by simp [fenceP]
theorem fenceP_get (m : Mem) (k i : Nat) (h : i < (fenceP m k).length) : (fenceP m k)[i] = if i < k then ⟨(m[i]'(by simpa [fenceP] using h)).now, (m[i]'(by simpa [fenceP] using h)).q.getD (m[i]'(by simpa [fenceP] using h)).lasts, none⟩ else m[i]'(by simpa [fenceP] using h) := by simp [fenceP]
theorem fenceP_zero (m : Mem) : fenceP m 0 = m := by
  apply List.ext_getElem (by simp [fenceP])
  intro i h1 h2
  rw [fenceP_get, if_neg (by omega)]
theorem fenceP_all (m : Mem) : fenceP m m.length = m.fence := by
  apply List.ext_getElem (by simp [fenceP, Mem.fence])
  intro i h1 h2
  rw [fenceP_get, if_pos (by simpa [fenceP] using h1)]
  simp [Mem.fence]
theorem fenceP_succ (m : Mem) (k : Nat) (hk : k < m.length) : fenceP m (k + 1) = (fenceP m k).set k ⟨m[k].now, m[k].q.getD m[k].lasts, none⟩ := by
  apply List.ext_getElem (by simp [fenceP])
  intro i h1 h2
  rw [fenceP_get, List.getElem_set, fenceP_get]
  by_cases hik : k = i
  · subst hik; rw [if_pos (by omega), if_pos rfl]
  · rw [if_neg hik]
    by_cases h3 : i < k
    · rw [if_pos h3, if_pos (by omega)]
    · rw [if_neg h3, if_neg (by omega)]
end Go.Proofs.Ytaflbfmlajbjcaa
