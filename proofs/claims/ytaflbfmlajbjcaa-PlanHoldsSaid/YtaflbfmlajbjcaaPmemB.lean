/- The walks of the memory: what Flush, Evict, Fence do to a line. -/
import Derived.Test.YtaflbfmlajbjcaaPmemA
import Derived.Test.YtaflbfmlajbjcaaRegF
import Derived.Deep.MidRow
namespace Go.Proofs.Ytaflbfmlajbjcaa
open Go Go.RowKit

def setsL : List Value → Nat → List Value → List Value
  | xs, _, [] => xs
  | xs, k, v :: r => setsL (xs.set k v) (k + 1) r
theorem setsL_len : ∀ (vs xs : List Value) (k : Nat), (setsL xs k vs).length = xs.length
  | [], _, _ => rfl
  | v :: r, xs, k => by show (setsL (xs.set k v) (k + 1) r).length = _; rw [setsL_len r]; simp
theorem setsL_out : ∀ (vs xs : List Value) (k j : Nat), (j < k ∨ k + vs.length ≤ j) → (setsL xs k vs)[j]? = xs[j]?
  | [], _, _, _, _ => rfl
  | v :: r, xs, k, j, h => by
    show (setsL (xs.set k v) (k + 1) r)[j]? = _
    simp only [List.length_cons] at h
    rw [setsL_out r _ _ _ (by omega), List.getElem?_set_ne (by omega)]
theorem setsL_in : ∀ (vs xs : List Value) (k j : Nat), k + vs.length ≤ xs.length → j < vs.length → (setsL xs k vs)[k + j]? = vs[j]?
  | [], _, _, _, _, h => by simp at h
  | v :: r, xs, k, 0, hl, _ => by
    show (setsL (xs.set k v) (k + 1) r)[k + 0]? = _
    simp only [List.length_cons] at hl
    rw [setsL_out r _ _ _ (by omega)]
    simp [show k < xs.length by omega]
  | v :: r, xs, k, j + 1, hl, hj => by
    show (setsL (xs.set k v) (k + 1) r)[k + (j + 1)]? = _
    simp only [List.length_cons] at hl hj
    rw [show k + (j + 1) = k + 1 + j by omega, setsL_in r _ _ _ (by simp; omega) (by omega)]
    simp
theorem flat_sets {α : Type} {c : Nat} {enc : α → List Value} (he : ∀ y, (enc y).length = c) (hc : 0 < c) (ys : List α) (i : Nat) (hi : i < ys.length) (y : α) :
    (ys.set i y).flatMap enc = setsL (ys.flatMap enc) (i * c) (enc y) := by
  have hil : i * c + c ≤ ys.length * c := by
    have : (i + 1) * c ≤ ys.length * c := Nat.mul_le_mul_right _ hi
    rw [Nat.add_mul] at this; omega
  apply List.ext_getElem?
  intro k
  by_cases hk : k < ys.length * c
  · obtain ⟨hk1, hk2⟩ : k / c < ys.length ∧ k % c < c := ⟨(Nat.div_lt_iff_lt_mul hc).2 hk, Nat.mod_lt _ hc⟩
    have hkk : k = k / c * c + k % c := by rw [Nat.mul_comm]; exact (Nat.div_add_mod k c).symm
    by_cases hik : i = k / c
    · have h1 : ((ys.set i y).flatMap enc)[k]? = (enc y)[k % c]? := by
        have h2 := flat_get he (ys.set i y) i (by simpa using hi) (k % c) hk2
        rw [List.getElem_set_self] at h2
        rw [hkk, ← hik]
        simpa using h2
      have h3 : (setsL (ys.flatMap enc) (i * c) (enc y))[k]? = (enc y)[k % c]? := by
        have h4 := setsL_in (enc y) (ys.flatMap enc) (i * c) (k % c) (by rw [he, flat_len he]; exact hil) (by rw [he]; exact hk2)
        rw [hik, ← hkk] at h4
        rw [hik]
        exact h4
      rw [h1, h3]
    · rw [setsL_out _ _ _ _ (by
        rw [he]
        rcases Nat.lt_or_gt_of_ne hik with h | h
        · right
          have : (i + 1) * c ≤ k / c * c := Nat.mul_le_mul_right _ h
          rw [Nat.add_mul] at this; omega
        · left
          have : (k / c + 1) * c ≤ i * c := Nat.mul_le_mul_right _ h
          rw [Nat.add_mul] at this; omega)]
      rw [hkk, flat_get he _ (k / c) (by simpa using hk1) (k % c) hk2, flat_get he _ (k / c) hk1 (k % c) hk2]
      simp [hik]
  · rw [List.getElem?_eq_none (by rw [flat_len he]; simpa using hk), List.getElem?_eq_none (by rw [setsL_len, flat_len he]; omega)]
theorem setCells_own {e : TypeId} {size g o cap n : Nat} : ∀ (vs xs : List Value) (k : Nat) {w : World}, OwnO w e size (some ⟨g, o, none⟩) cap n xs → OwnO (w.setCells g (o + k) vs) e size (some ⟨g, o, none⟩) cap n (setsL xs k vs)
  | [], _, _, _, h => h
  | v :: r, xs, k, w, h => by
    show OwnO ((w.setCell ⟨g, o + k, none⟩ v).setCells g (o + k + 1) r) e size _ cap n (setsL (xs.set k v) (k + 1) r)
    rw [Nat.add_assoc]
    exact setCells_own r _ (k + 1) (h.set k v)
theorem setCells_frn {g : Nat} : ∀ (vs : List Value) (o : Nat) (w : World), Frn (fun x => x = g) w (w.setCells g o vs)
  | [], _, _ => Frn.refl _ _
  | v :: r, o, w => (Frn.setCell (T := fun x => x = g) (Frn.refl _ w) ⟨g, o, none⟩ (.inl rfl) v).trans (setCells_frn r (o + 1) _)
theorem setCells_size {g : Nat} : ∀ (vs : List Value) (o : Nat) (w : World), (w.setCells g o vs).heap.size = w.heap.size
  | [], _, _ => rfl
  | v :: r, o, w => (setCells_size r (o + 1) _).trans (by simp [World.setCell])
/-- A line in its block. -/
theorem own_line {W : World} {g o cap : Nat} {l : List V8} (h : OwnL W (some ⟨g, o, none⟩) cap l) (hc : 0 < cap) (i : Nat) (hi : i < l.length) : W.rangeAt g (o + i * 8) (ec l[i]) ∧ W.there g (o + i * 8) 8 := by
  obtain ⟨h1, h2, h3⟩ := h.rds ec_len
  rcases h3 with h3 | ⟨g', o', hp, hb, hcell⟩
  · omega
  · cases hp
    have hr : W.rangeAt g (o + i * 8) (ec l[i]) := fun j v hv => by
      rw [Nat.add_assoc]
      exact hcell i hi j v hv
    refine ⟨hr, fun j hj => ⟨?_, ?_⟩⟩
    · have : (ec l[i])[j]? = some ((ec l[i])[j]'(by rw [ec_len]; exact hj)) := List.getElem?_eq_getElem _
      rw [hr j _ this]
      rfl
    · rw [Nat.add_assoc]
      exact OwnO.free h hc _
theorem own_setLine {W : World} {g o cap : Nat} {l : List V8} (h : OwnL W (some ⟨g, o, none⟩) cap l) (i : Nat) (hi : i < l.length) (v : V8) : OwnL (W.setCells g (o + i * 8) (ec v)) (some ⟨g, o, none⟩) cap (l.set i v) := by
  unfold OwnL OwnG
  rw [flat_sets ec_len (by decide) l i hi v, List.length_set]
  exact setCells_own _ _ _ h
section
variable {W : World} {O : Nat} {p1 p2 : Option Addr} {c1 c2 b n : Nat} {m : Mem} {N : Nat → Prop}
theorem MRaw.caps (h : MRaw W O p1 c1 p2 c2 b n m N) : 0 < c1 ∧ 0 < c2 ∧ n ≤ c1 ∧ n ≤ c2 := by
  have h1 := (h.ls.rds ec_len).1
  have h2 := (h.ll.rds ec_len).1
  have := h.pos
  rw [nows_len, h.len] at h1
  rw [lst_len, h.len] at h2
  omega
theorem MRaw.ptrs (h : MRaw W O p1 c1 p2 c2 b n m N) : ∃ g o g2 o2, p1 = some ⟨g, o, none⟩ ∧ p2 = some ⟨g2, o2, none⟩ := by
  obtain ⟨k1, k2, -, -⟩ := h.caps
  obtain ⟨-, -, h3⟩ := h.ls.rds ec_len
  obtain ⟨-, -, h4⟩ := h.ll.rds ec_len
  rcases h3 with h3 | ⟨g, o, rfl, -⟩
  · omega
  rcases h4 with h4 | ⟨g2, o2, rfl, -⟩
  · omega
  exact ⟨g, o, g2, o2, rfl, rfl⟩
/-- Another map, another line. -/
theorem MRaw.withQ (h : MRaw W O p1 c1 p2 c2 b n m N) {W' : World} {m' : Mem} (hl : m'.length = m.length) (h1 : m'.nows = m.nows) (h2 : m'.lst = m.lst) (hq : QAt W' b m'.qf) (hf : Frn (fun x => x = b) W W') : MRaw W' O p1 c1 p2 c2 b n m' N :=
  ⟨hl.trans h.len, h.pos, h.le, (hf.block O h.lt h.nOb).trans h.obj, by rw [h1]; exact h.ls.keep (fun x hx => hf.block x (h.ls.lt hx) (h.n1 x hx).2.2.1), by rw [h2]; exact h.ll.keep (fun x hx => hf.block x (h.ll.lt hx) (h.n2 x hx).2.2), hq, h.nO, h.nb, h.n1, h.n2, h.nOb⟩
theorem MRaw.withL {g2 o2 : Nat} (h : MRaw W O p1 c1 (some ⟨g2, o2, none⟩) c2 b n m N) {W' : World} {m' : Mem} (hl : m'.length = m.length) (h1 : m'.nows = m.nows) (h2 : OwnL W' (some ⟨g2, o2, none⟩) c2 m'.lst) (hq : m'.qf = m.qf) (hf : Frn (fun x => x = g2) W W') : MRaw W' O p1 c1 (some ⟨g2, o2, none⟩) c2 b n m' N := by
  have hn := h.n2 g2 ⟨_, rfl, rfl, h.caps.2.1⟩
  exact ⟨hl.trans h.len, h.pos, h.le, (hf.block O h.lt (Ne.symm hn.2.1)).trans h.obj, by rw [h1]; exact h.ls.keep (fun x hx => hf.block x (h.ls.lt hx) (fun e => (h.n1 x hx).2.2.2 ⟨_, rfl, e.symm, h.caps.2.1⟩)), h2, by rw [hq]; exact h.q.keep (hf.block b h.q.lt (Ne.symm hn.2.2)), h.nO, h.nb, h.n1, h.n2, h.nOb⟩
end
theorem load_line {w : World} {g o : Nat} {v : V8} (h : w.rangeAt g o (ec v)) : (Instr.loadAt 96 (.pointer (some ⟨g, o, none⟩))).run Try.prog w = .ok (lineV v) w :=
  run_loadAt_mid w g o 96 (ec v) (.array 8 36) h (by kernel_rfl) rfl (by rw [ec_len]; kernel_rfl)
theorem store_line {w : World} {g o : Nat} (v : V8) (h : w.there g o 8) : (Instr.storeAt 96 (.pointer (some ⟨g, o, none⟩)) (lineV v)).run Try.prog w = .ok () (w.setCells g o (ec v)) :=
  run_storeAt_mid w g o 96 (ec v).toArray (by rw [List.size_toArray, ec_len]; exact h) (by rw [List.size_toArray, ec_len]; kernel_rfl) (all_oneCell_toArray (ec_one v))
set_option maxRecDepth 100000 in
set_option maxHeartbeats 4000000 in
theorem flush1_any {O B : Nat} {m : Mem} {N : Nat → Prop} (i : Nat) (W : World) (h : MAt W O m N) (hi : i < m.length) (hB : W.cell? ⟨B, 0, none⟩ = some (.pointer (some ⟨O, 0, none⟩))) :
    Calls Try.prog 58 #[.int .i64 i, .pointer (some ⟨B, 0, none⟩)] W fun e w' => e = .returned (.tuple #[]) ∧ MAt w' O (m.flush i) N ∧ Frn N W w' := by
  obtain ⟨p1, c1, p2, c2, b, n, hr⟩ := h
  obtain ⟨g, o, g2, o2, rfl, rfl⟩ := hr.ptrs
  have hin : (i : Int) < (n : Int) := by have := hr.len; omega
  obtain ⟨a0, a1, a2⟩ := hr.cells
  have hrg := (own_line hr.ls hr.caps.1 i (by rw [nows_len]; exact hi)).1
  rw [nows_get] at hrg
  obtain ⟨v, hv⟩ : ∃ v, m[i].now = v := ⟨_, rfl⟩
  rw [hv] at hrg
  have hrd : MRaw W.drew O (some ⟨g, o, none⟩) c1 (some ⟨g2, o2, none⟩) c2 b n m N := hr.keep (fun _ _ _ => rfl)
  obtain ⟨W', hput, hq, hf, hsz⟩ := q_put (P := Try.prog) (T := 62) (K := 3) (E := 96) (by kernel_rfl) (by kernel_rfl) hrd.q i v
  have hnew : MRaw W' O (some ⟨g, o, none⟩) c1 (some ⟨g2, o2, none⟩) c2 b n (m.flush i) N := hrd.withQ (flush_len m i) (flush_nows m i) (flush_lst m i) (by rw [flush_qf m i hi, hv]; exact hq) hf
  have hfr : Frn N W W' := (⟨rfl, rfl, rfl, Nat.le_refl _, fun _ _ _ => rfl⟩ : Frn N W W.drew).trans ⟨hf.os, hf.tape, hf.output, hf.size, fun x hx hn => hf.block x hx (fun e => hn (by rw [e]; exact hr.nb))⟩
  have HNEW := Lib.hid (And.intro hnew hfr)
  have x0 : W.drew.cell? ⟨B, 0, none⟩ = some (.pointer (some ⟨O, 0, none⟩)) := hB
  have x1 : W.drew.cell? ⟨O, 0, none⟩ = some (.slice (some ⟨g, o, none⟩) n c1) := a0
  have x2 : W.drew.cell? ⟨O, 2, none⟩ = some (.map (some b)) := a2
  have x3 : W.drew.rangeAt g (o + i * 8) (ec v) := hrg
  clear hr hrd hq hf hsz hnew hfr hB a0 a1 a2 hrg hv hi
  go_enter Try.func58, Try.ntmps58
  refine wp_region_noPanic ?_
  refine wp_region_F 12 (fun w' => w'.cell? ⟨B, 0, none⟩ = some (.pointer (some ⟨O, 0, none⟩)) ∧ w'.cell? ⟨O, 0, none⟩ = some (.slice (some ⟨g, o, none⟩) n c1) ∧ w'.cell? ⟨O, 2, none⟩ = some (.map (some b)) ∧ w'.rangeAt g (o + i * 8) (ec v)) (by kernel_rfl) ?_ (fun hHeld => ?_)
  · exact ⟨x0, x1, x2, x3⟩
  refine' wpAnyF_take (i := 0) (v := _) rfl (by kernel_rfl) (by kernel_rfl) (by kernel_rfl) (by kernel_rfl) (by rfl) (by kernel_rfl) (fun _ _ _ h => h) (Or.inl ⟨by rfl, ?hy⟩) hHeld _
  case hy => (intro w0 hSw; (try dsimp only at hSw); simp only [List.getElem_toArray, List.getElem_cons_zero]; go_simp; first | done | with_reducible rfl)
  simp only [Act.put, List.getElem_toArray, List.getElem_cons_zero, List.setIfInBounds_toArray, List.set_cons_zero, List.set_cons_succ]
  refine' wpAnyF_takeT (i := 1) (v := _) rfl (by kernel_rfl) (by kernel_rfl) (by kernel_rfl) (by rfl) (fun _ _ _ h => h) (Or.inl ⟨by rfl, ?hy⟩) (fun _ => hHeld) _
  case hy => (intro w0 hSw; (try dsimp only at hSw); simp only [List.getElem_toArray, List.getElem_cons_zero, List.getElem_cons_succ]; go_simp; first | done | with_reducible rfl)
  simp only [Act.put, List.getElem_toArray, List.getElem_cons_zero, List.getElem_cons_succ, List.setIfInBounds_toArray, List.set_cons_zero, List.set_cons_succ]
  refine' wpAnyF_takeT (i := 2) (v := _) rfl (by kernel_rfl) (by kernel_rfl) (by kernel_rfl) (by rfl) (fun _ _ _ h => h) (Or.inl ⟨by rfl, ?hy⟩) (fun _ => hHeld) _
  case hy => (intro w0 hSw; (try dsimp only at hSw); simp only [List.getElem_toArray, List.getElem_cons_zero, List.getElem_cons_succ]; go_simp; first | done | with_reducible rfl)
  simp only [Act.put, List.getElem_toArray, List.getElem_cons_zero, List.getElem_cons_succ, List.setIfInBounds_toArray, List.set_cons_zero, List.set_cons_succ]
  refine' wpAnyF_take (i := 3) (v := _) rfl (by kernel_rfl) (by kernel_rfl) (by kernel_rfl) (by kernel_rfl) (by rfl) (by kernel_rfl) (fun _ _ _ h => h) (Or.inl ⟨by rfl, ?hy⟩) hHeld _
  case hy => (intro w0 hSw; (try dsimp only at hSw); simp only [List.getElem_toArray, List.getElem_cons_zero, List.getElem_cons_succ]; go_simp; first | done | with_reducible rfl)
  simp only [Act.put, List.getElem_toArray, List.getElem_cons_zero, List.getElem_cons_succ, List.setIfInBounds_toArray, List.set_cons_zero, List.set_cons_succ]
  refine' wpAnyF_takeT (i := 4) (v := _) rfl (by kernel_rfl) (by kernel_rfl) (by kernel_rfl) (by rfl) (fun _ _ _ h => h) (Or.inl ⟨by rfl, ?hy⟩) (fun _ => hHeld) _
  case hy => (intro w0 hSw; (try dsimp only at hSw); simp only [List.getElem_toArray, List.getElem_cons_zero, List.getElem_cons_succ]; go_simp; first | done | with_reducible rfl)
  simp only [Act.put, List.getElem_toArray, List.getElem_cons_zero, List.getElem_cons_succ, List.setIfInBounds_toArray, List.set_cons_zero, List.set_cons_succ]
  refine' wpAnyF_take (i := 5) (v := _) rfl (by kernel_rfl) (by kernel_rfl) (by kernel_rfl) (by kernel_rfl) (by rfl) (by kernel_rfl) (fun _ _ _ h => h) (Or.inl ⟨by rfl, ?hy⟩) hHeld _
  case hy => (intro w0 hSw; (try dsimp only at hSw); simp only [List.getElem_toArray, List.getElem_cons_zero, List.getElem_cons_succ]; go_simp; first | done | with_reducible rfl)
  simp only [Act.put, List.getElem_toArray, List.getElem_cons_zero, List.getElem_cons_succ, List.setIfInBounds_toArray, List.set_cons_zero, List.set_cons_succ]
  refine' wpAnyF_takeT (i := 6) (v := _) rfl (by kernel_rfl) (by kernel_rfl) (by kernel_rfl) (by rfl) (fun _ _ _ h => h) (Or.inl ⟨by rfl, ?hy⟩) (fun _ => hHeld) _
  case hy => (intro w0 hSw; (try dsimp only at hSw); simp only [List.getElem_toArray, List.getElem_cons_zero, List.getElem_cons_succ]; go_simp; first | done | with_reducible rfl)
  simp only [Act.put, List.getElem_toArray, List.getElem_cons_zero, List.getElem_cons_succ, List.setIfInBounds_toArray, List.set_cons_zero, List.set_cons_succ]
  refine' wpAnyF_takeT (i := 7) (v := _) rfl (by kernel_rfl) (by kernel_rfl) (by kernel_rfl) (by rfl) (fun _ _ _ h => h) (Or.inl ⟨by rfl, ?hy⟩) (fun _ => hHeld) _
  case hy => (intro w0 hSw; (try dsimp only at hSw); simp only [List.getElem_toArray, List.getElem_cons_zero, List.getElem_cons_succ]; go_simp; first | done | with_reducible rfl)
  simp only [Act.put, List.getElem_toArray, List.getElem_cons_zero, List.getElem_cons_succ, List.setIfInBounds_toArray, List.set_cons_zero, List.set_cons_succ]
  refine' wpAnyF_take (i := 8) (v := _) rfl (by kernel_rfl) (by kernel_rfl) (by kernel_rfl) (by kernel_rfl) (by rfl) (by kernel_rfl) (fun _ _ _ h => h) (Or.inl ⟨by rfl, ?hy⟩) hHeld _
  case hy => (intro w0 hSw; (try dsimp only at hSw); simp only [List.getElem_toArray, List.getElem_cons_zero, List.getElem_cons_succ]; go_simp; first | done | with_reducible rfl)
  simp only [Act.put, List.getElem_toArray, List.getElem_cons_zero, List.getElem_cons_succ, List.setIfInBounds_toArray, List.set_cons_zero, List.set_cons_succ]
  refine' wpAnyF_takeT (i := 9) (v := _) rfl (by kernel_rfl) (by kernel_rfl) (by kernel_rfl) (by rfl) (fun _ _ _ h => h) (Or.inl ⟨by rfl, ?hy⟩) (fun _ => hHeld) _
  case hy => (intro w0 hSw; (try dsimp only at hSw); simp only [List.getElem_toArray, List.getElem_cons_zero, List.getElem_cons_succ]; go_simp; first | done | with_reducible rfl)
  simp only [Act.put, List.getElem_toArray, List.getElem_cons_zero, List.getElem_cons_succ, List.setIfInBounds_toArray, List.set_cons_zero, List.set_cons_succ]
  refine' wpAnyF_takeT (i := 10) (v := _) rfl (by kernel_rfl) (by kernel_rfl) (by kernel_rfl) (by rfl) (fun _ _ _ h => h) (Or.inl ⟨by rfl, ?hy⟩) (fun _ => hHeld) _
  case hy => (intro w0 hSw; (try dsimp only at hSw); simp only [List.getElem_toArray, List.getElem_cons_zero, List.getElem_cons_succ]; go_simp; first | done | with_reducible rfl)
  simp only [Act.put, List.getElem_toArray, List.getElem_cons_zero, List.getElem_cons_succ, List.setIfInBounds_toArray, List.set_cons_zero, List.set_cons_succ]
  refine' wpAnyF_take (i := 11) (v := lineV v) rfl (by kernel_rfl) (by kernel_rfl) (by kernel_rfl) (by kernel_rfl) (by rfl) (by kernel_rfl) (fun _ _ _ h => h) (yieldsIf_load_mid (by rfl) 96 (.tmp 13) rfl g (o + i * 8) rfl (ec v) (.array 8 36) (fun _ h => h.2.2.2) (by kernel_rfl) rfl (by rw [ec_len]; kernel_rfl)) hHeld _
  simp only [Act.put, List.getElem_toArray, List.getElem_cons_zero, List.getElem_cons_succ, List.setIfInBounds_toArray, List.set_cons_zero, List.set_cons_succ]
  refine wpAnyF_one (i := 12) (by kernel_rfl) rfl (fun K hK => ?_)
  go_simp
  refine hK.out _ _ (fun h => Bool.noConfusion (h.symm.trans (by kernel_rfl : _ = true))) ?_
  clear hK K
  try simp only [Act.put, List.getElem_toArray, List.getElem_cons_zero, List.getElem_cons_succ, List.setIfInBounds_toArray, List.set_cons_zero, List.set_cons_succ]
  refine wpAnyF_done (by kernel_rfl) ?_ _
  refine NoPanic.normal ?_
  go_wp2_with fail
  go_end0
  exact ⟨rfl, ⟨_, _, _, _, _, _, HNEW.out.1⟩, HNEW.out.2⟩
set_option maxRecDepth 100000 in
set_option maxHeartbeats 4000000 in
theorem evict1_any {O B : Nat} {m : Mem} {N : Nat → Prop} (i : Nat) (W : World) (h : MAt W O m N) (hi : i < m.length) (hB : W.cell? ⟨B, 0, none⟩ = some (.pointer (some ⟨O, 0, none⟩))) (hBl : B < W.heap.size) (hBN : ¬ N B) :
    Calls Try.prog 61 #[.int .i64 i, .pointer (some ⟨B, 0, none⟩)] W fun e w' => e = .returned (.tuple #[]) ∧ MAt w' O (m.evict i) N ∧ Frn N W w' := by
  obtain ⟨p1, c1, p2, c2, b, n, hr⟩ := h
  obtain ⟨g, o, g2, o2, rfl, rfl⟩ := hr.ptrs
  have hin : (i : Int) < (n : Int) := by have := hr.len; omega
  obtain ⟨a0, a1, a2⟩ := hr.cells
  have hrg := (own_line hr.ls hr.caps.1 i (by rw [nows_len]; exact hi)).1
  rw [nows_get] at hrg
  have hth := (own_line hr.ll hr.caps.2.1 i (by rw [lst_len]; exact hi)).2
  obtain ⟨v, hv⟩ : ∃ v, m[i].now = v := ⟨_, rfl⟩
  rw [hv] at hrg
  have hrd : MRaw W.drew O (some ⟨g, o, none⟩) c1 (some ⟨g2, o2, none⟩) c2 b n m N := hr.keep (fun _ _ _ => rfl)
  have hst : W.drew.there g2 (o2 + i * 8) 8 := hth
  obtain ⟨W1, hW1⟩ : ∃ W1, W.drew.setCells g2 (o2 + i * 8) (ec v) = W1 := ⟨_, rfl⟩
  have hf1 : Frn (fun x => x = g2) W.drew W1 := by rw [← hW1]; exact setCells_frn _ _ _
  have hN2 := hr.n2 g2 ⟨_, rfl, rfl, hr.caps.2.1⟩
  have hl1 : OwnL W1 (some ⟨g2, o2, none⟩) c2 (m.evict i).lst := by
    rw [evict_lst m i hi, hv, ← hW1]
    exact own_setLine hrd.ll i (by rw [lst_len]; exact hi) v
  have b0 : W1.cell? ⟨B, 0, none⟩ = some (.pointer (some ⟨O, 0, none⟩)) := (World.cell?_of_block (w := W.drew) (a := ⟨B, 0, none⟩) (hf1.block B hBl (fun e => hBN (by rw [e]; exact hN2.1)))).trans hB
  have b2 : W1.cell? ⟨O, 2, none⟩ = some (.map (some b)) := (World.cell?_of_block (w := W.drew) (a := ⟨O, 2, none⟩) (hf1.block O hr.lt (Ne.symm hN2.2.1))).trans a2
  have hq1 : QAt W1 b m.qf := hrd.q.keep (hf1.block b hrd.q.lt (Ne.symm hN2.2.2))
  obtain ⟨W2, hdel, hq2, hf2, hsz2⟩ := q_del (P := Try.prog) (T := 62) (K := 3) (E := 96) (by kernel_rfl) (by kernel_rfl) hq1 i
  have hf12 : Frn (fun x => x = g2 ∨ x = b) W W2 := (⟨rfl, rfl, rfl, Nat.le_refl _, fun _ _ _ => rfl⟩ : Frn (fun x => x = g2 ∨ x = b) W W.drew).trans <| (⟨hf1.os, hf1.tape, hf1.output, hf1.size, fun x hx hn => hf1.block x hx (fun e => hn (.inl e))⟩ : Frn (fun x => x = g2 ∨ x = b) W.drew W1).trans ⟨hf2.os, hf2.tape, hf2.output, hf2.size, fun x hx hn => hf2.block x hx (fun e => hn (.inr e))⟩
  have hnew : MRaw W2 O (some ⟨g, o, none⟩) c1 (some ⟨g2, o2, none⟩) c2 b n (m.evict i) N :=
    ⟨(evict_len m i).trans hr.len, hr.pos, hr.le, (hf12.block O hr.lt (fun e => e.elim (Ne.symm hN2.2.1) hr.nOb)).trans hr.obj,
      by rw [evict_nows]; exact hr.ls.keep (fun x hx => hf12.block x (hr.ls.lt hx) (fun e => e.elim (fun e => (hr.n1 x hx).2.2.2 ⟨_, rfl, e.symm, hr.caps.2.1⟩) (hr.n1 x hx).2.2.1)),
      hl1.keep (fun x hx => hf2.block x (hl1.lt hx) (hr.n2 x hx).2.2), by rw [evict_qf]; exact hq2, hr.nO, hr.nb, hr.n1, hr.n2, hr.nOb⟩
  have hfr : Frn N W W2 := ⟨hf12.os, hf12.tape, hf12.output, hf12.size, fun x hx hn => hf12.block x hx (fun e => e.elim (fun e => hn (by rw [e]; exact hN2.1)) (fun e => hn (by rw [e]; exact hr.nb)))⟩
  have HNEW := Lib.hid (And.intro hnew (And.intro hfr hW1))
  have x0 : W.drew.cell? ⟨B, 0, none⟩ = some (.pointer (some ⟨O, 0, none⟩)) := hB
  have x1 : W.drew.cell? ⟨O, 0, none⟩ = some (.slice (some ⟨g, o, none⟩) n c1) := a0
  have x2 : W.drew.cell? ⟨O, 1, none⟩ = some (.slice (some ⟨g2, o2, none⟩) n c2) := a1
  have x3 : W.drew.rangeAt g (o + i * 8) (ec v) := hrg
  clear hr hrd hnew hfr hB a0 a1 a2 hrg hv hi hth hW1 hf1 hl1 hq1 hq2 hf2 hsz2 hf12 hN2
  go_enter Try.func61, Try.ntmps61
  go_wp2_with fail
  refine wp_region_noPanic ?_
  refine wp_region_F 13 (fun w' => w'.cell? ⟨B, 0, none⟩ = some (.pointer (some ⟨O, 0, none⟩)) ∧ w'.cell? ⟨O, 0, none⟩ = some (.slice (some ⟨g, o, none⟩) n c1) ∧ w'.cell? ⟨O, 1, none⟩ = some (.slice (some ⟨g2, o2, none⟩) n c2) ∧ w'.rangeAt g (o + i * 8) (ec v)) (by kernel_rfl) ?_ (fun hHeld => ?_)
  · exact ⟨x0, x1, x2, x3⟩
  refine' wpAnyF_take (i := 0) (v := _) rfl (by kernel_rfl) (by kernel_rfl) (by kernel_rfl) (by kernel_rfl) (by rfl) (by kernel_rfl) (fun _ _ _ h => h) (Or.inl ⟨by rfl, ?hy⟩) hHeld _
  case hy => (intro w0 hSw; (try dsimp only at hSw); simp only [List.getElem_toArray, List.getElem_cons_zero]; go_simp; first | done | with_reducible rfl)
  simp only [Act.put, List.getElem_toArray, List.getElem_cons_zero, List.setIfInBounds_toArray, List.set_cons_zero, List.set_cons_succ]
  refine' wpAnyF_takeT (i := 1) (v := _) rfl (by kernel_rfl) (by kernel_rfl) (by kernel_rfl) (by rfl) (fun _ _ _ h => h) (Or.inl ⟨by rfl, ?hy⟩) (fun _ => hHeld) _
  case hy => (intro w0 hSw; (try dsimp only at hSw); simp only [List.getElem_toArray, List.getElem_cons_zero, List.getElem_cons_succ]; go_simp; first | done | with_reducible rfl)
  simp only [Act.put, List.getElem_toArray, List.getElem_cons_zero, List.getElem_cons_succ, List.setIfInBounds_toArray, List.set_cons_zero, List.set_cons_succ]
  refine' wpAnyF_takeT (i := 2) (v := _) rfl (by kernel_rfl) (by kernel_rfl) (by kernel_rfl) (by rfl) (fun _ _ _ h => h) (Or.inl ⟨by rfl, ?hy⟩) (fun _ => hHeld) _
  case hy => (intro w0 hSw; (try dsimp only at hSw); simp only [List.getElem_toArray, List.getElem_cons_zero, List.getElem_cons_succ]; go_simp; first | done | with_reducible rfl)
  simp only [Act.put, List.getElem_toArray, List.getElem_cons_zero, List.getElem_cons_succ, List.setIfInBounds_toArray, List.set_cons_zero, List.set_cons_succ]
  refine' wpAnyF_take (i := 3) (v := _) rfl (by kernel_rfl) (by kernel_rfl) (by kernel_rfl) (by kernel_rfl) (by rfl) (by kernel_rfl) (fun _ _ _ h => h) (Or.inl ⟨by rfl, ?hy⟩) hHeld _
  case hy => (intro w0 hSw; (try dsimp only at hSw); simp only [List.getElem_toArray, List.getElem_cons_zero, List.getElem_cons_succ]; go_simp; first | done | with_reducible rfl)
  simp only [Act.put, List.getElem_toArray, List.getElem_cons_zero, List.getElem_cons_succ, List.setIfInBounds_toArray, List.set_cons_zero, List.set_cons_succ]
  refine' wpAnyF_takeT (i := 4) (v := _) rfl (by kernel_rfl) (by kernel_rfl) (by kernel_rfl) (by rfl) (fun _ _ _ h => h) (Or.inl ⟨by rfl, ?hy⟩) (fun _ => hHeld) _
  case hy => (intro w0 hSw; (try dsimp only at hSw); simp only [List.getElem_toArray, List.getElem_cons_zero, List.getElem_cons_succ]; go_simp; first | done | with_reducible rfl)
  simp only [Act.put, List.getElem_toArray, List.getElem_cons_zero, List.getElem_cons_succ, List.setIfInBounds_toArray, List.set_cons_zero, List.set_cons_succ]
  refine' wpAnyF_take (i := 5) (v := _) rfl (by kernel_rfl) (by kernel_rfl) (by kernel_rfl) (by kernel_rfl) (by rfl) (by kernel_rfl) (fun _ _ _ h => h) (Or.inl ⟨by rfl, ?hy⟩) hHeld _
  case hy => (intro w0 hSw; (try dsimp only at hSw); simp only [List.getElem_toArray, List.getElem_cons_zero, List.getElem_cons_succ]; go_simp; first | done | with_reducible rfl)
  simp only [Act.put, List.getElem_toArray, List.getElem_cons_zero, List.getElem_cons_succ, List.setIfInBounds_toArray, List.set_cons_zero, List.set_cons_succ]
  refine' wpAnyF_takeT (i := 6) (v := _) rfl (by kernel_rfl) (by kernel_rfl) (by kernel_rfl) (by rfl) (fun _ _ _ h => h) (Or.inl ⟨by rfl, ?hy⟩) (fun _ => hHeld) _
  case hy => (intro w0 hSw; (try dsimp only at hSw); simp only [List.getElem_toArray, List.getElem_cons_zero, List.getElem_cons_succ]; go_simp; first | done | with_reducible rfl)
  simp only [Act.put, List.getElem_toArray, List.getElem_cons_zero, List.getElem_cons_succ, List.setIfInBounds_toArray, List.set_cons_zero, List.set_cons_succ]
  refine' wpAnyF_takeT (i := 7) (v := _) rfl (by kernel_rfl) (by kernel_rfl) (by kernel_rfl) (by rfl) (fun _ _ _ h => h) (Or.inl ⟨by rfl, ?hy⟩) (fun _ => hHeld) _
  case hy => (intro w0 hSw; (try dsimp only at hSw); simp only [List.getElem_toArray, List.getElem_cons_zero, List.getElem_cons_succ]; go_simp; first | done | with_reducible rfl)
  simp only [Act.put, List.getElem_toArray, List.getElem_cons_zero, List.getElem_cons_succ, List.setIfInBounds_toArray, List.set_cons_zero, List.set_cons_succ]
  refine' wpAnyF_take (i := 8) (v := _) rfl (by kernel_rfl) (by kernel_rfl) (by kernel_rfl) (by kernel_rfl) (by rfl) (by kernel_rfl) (fun _ _ _ h => h) (Or.inl ⟨by rfl, ?hy⟩) hHeld _
  case hy => (intro w0 hSw; (try dsimp only at hSw); simp only [List.getElem_toArray, List.getElem_cons_zero, List.getElem_cons_succ]; go_simp; first | done | with_reducible rfl)
  simp only [Act.put, List.getElem_toArray, List.getElem_cons_zero, List.getElem_cons_succ, List.setIfInBounds_toArray, List.set_cons_zero, List.set_cons_succ]
  refine' wpAnyF_takeT (i := 9) (v := _) rfl (by kernel_rfl) (by kernel_rfl) (by kernel_rfl) (by rfl) (fun _ _ _ h => h) (Or.inl ⟨by rfl, ?hy⟩) (fun _ => hHeld) _
  case hy => (intro w0 hSw; (try dsimp only at hSw); simp only [List.getElem_toArray, List.getElem_cons_zero, List.getElem_cons_succ]; go_simp; first | done | with_reducible rfl)
  simp only [Act.put, List.getElem_toArray, List.getElem_cons_zero, List.getElem_cons_succ, List.setIfInBounds_toArray, List.set_cons_zero, List.set_cons_succ]
  refine' wpAnyF_takeT (i := 10) (v := _) rfl (by kernel_rfl) (by kernel_rfl) (by kernel_rfl) (by rfl) (fun _ _ _ h => h) (Or.inl ⟨by rfl, ?hy⟩) (fun _ => hHeld) _
  case hy => (intro w0 hSw; (try dsimp only at hSw); simp only [List.getElem_toArray, List.getElem_cons_zero, List.getElem_cons_succ]; go_simp; first | done | with_reducible rfl)
  simp only [Act.put, List.getElem_toArray, List.getElem_cons_zero, List.getElem_cons_succ, List.setIfInBounds_toArray, List.set_cons_zero, List.set_cons_succ]
  refine' wpAnyF_take (i := 11) (v := lineV v) rfl (by kernel_rfl) (by kernel_rfl) (by kernel_rfl) (by kernel_rfl) (by rfl) (by kernel_rfl) (fun _ _ _ h => h) (yieldsIf_load_mid (by rfl) 96 (.tmp 13) rfl g (o + i * 8) rfl (ec v) (.array 8 36) (fun _ h => h.2.2.2) (by kernel_rfl) rfl (by rw [ec_len]; kernel_rfl)) hHeld _
  simp only [Act.put, List.getElem_toArray, List.getElem_cons_zero, List.getElem_cons_succ, List.setIfInBounds_toArray, List.set_cons_zero, List.set_cons_succ]
  refine' wpAnyF_takeT (i := 12) (v := _) rfl (by kernel_rfl) (by kernel_rfl) (by kernel_rfl) (by rfl) (fun _ _ _ h => h) (Or.inl ⟨by rfl, ?hy⟩) (fun _ => hHeld) _
  case hy => (intro w0 hSw; (try dsimp only at hSw); simp only [List.getElem_toArray, List.getElem_cons_zero, List.getElem_cons_succ]; go_simp; first | done | with_reducible rfl)
  simp only [Act.put, List.getElem_toArray, List.getElem_cons_zero, List.getElem_cons_succ, List.setIfInBounds_toArray, List.set_cons_zero, List.set_cons_succ]
  refine wpAnyF_one (i := 13) (by kernel_rfl) rfl (fun K hK => ?_)
  rw [if_pos (by rfl)]
  refine wp_store_mid 96 (.tmp 15) (.tmp 14) rfl g2 (o2 + i * 8) (ec v).toArray rfl rfl (by rw [List.size_toArray, ec_len]; exact hst) (by rw [List.size_toArray, ec_len]; kernel_rfl) (all_oneCell_toArray (ec_one v)) ?_
  refine hK.out _ _ (fun h => Bool.noConfusion (h.symm.trans (by kernel_rfl : _ = true))) ?_
  clear hK K
  try simp only [Act.put, List.getElem_toArray, List.getElem_cons_zero, List.getElem_cons_succ, List.setIfInBounds_toArray, List.set_cons_zero, List.set_cons_succ]
  refine wpAnyF_done (by kernel_rfl) ?_ _
  refine NoPanic.normal ?_
  rw [HNEW.out.2.2]
  clear x0 x1 x2 x3 hHeld hst
  go_wp2_with fail
  go_end0
  exact ⟨rfl, ⟨_, _, _, _, _, _, HNEW.out.1⟩, HNEW.out.2.1⟩
def Mem.last (m : Mem) (i : Nat) (v : V8) : Mem := m.modify i (fun x => { x with lasts := v })
theorem last_len (m : Mem) (i : Nat) (v : V8) : (m.last i v).length = m.length := by simp [Mem.last]
theorem last_nows (m : Mem) (i : Nat) (v : V8) : (m.last i v).nows = m.nows := by
  apply List.ext_getElem?
  intro n
  simp only [Mem.nows, Mem.last, List.getElem?_map, List.getElem?_modify]
  by_cases hn : i = n
  · subst hn
    cases m[i]? <;> simp
  · simp [hn]
theorem last_lst (m : Mem) (i : Nat) (v : V8) (h : i < m.length) : (m.last i v).lst = m.lst.set i v := by
  apply List.ext_getElem?
  intro n
  simp only [Mem.lst, Mem.last, List.getElem?_map, List.getElem?_modify, List.getElem?_set, List.length_map]
  by_cases hn : i = n
  · subst hn; simp [h]
  · simp [hn]
theorem last_qf (m : Mem) (i : Nat) (v : V8) : (m.last i v).qf = m.qf := by
  funext n
  simp only [Mem.qf, Mem.last, List.getElem?_modify]
  by_cases hn : i = n
  · subst hn
    cases m[i]? <;> simp
  · simp [hn]
set_option maxRecDepth 100000 in
set_option maxHeartbeats 4000000 in
theorem fence1_any {O B : Nat} {p1 p2 : Option Addr} {c1 c2 b n : Nat} {m : Mem} {N : Nat → Prop} (i : Nat) (v : V8) (W : World) (hr : MRaw W O p1 c1 p2 c2 b n m N) (hi : i < m.length) (hB : W.cell? ⟨B, 0, none⟩ = some (.pointer (some ⟨O, 0, none⟩))) (hBl : B < W.heap.size) :
    Calls Try.prog 60 #[.int .i64 i, lineV v, .pointer (some ⟨B, 0, none⟩)] W fun e w' => e = .returned (.tuple #[]) ∧ MRaw w' O p1 c1 p2 c2 b n (m.last i v) N ∧ Frn (fun x => inP p2 c2 x) W w' := by
  obtain ⟨g, o, g2, o2, rfl, rfl⟩ := hr.ptrs
  have hin : (i : Int) < (n : Int) := by have := hr.len; omega
  obtain ⟨W1, hW1⟩ : ∃ W1, W.alloc (.cells (ec v).toArray 96) = W1 := ⟨_, rfl⟩
  have hb1 : Below W.heap.size W W1 := by rw [← hW1]; exact (Below.refl _ _).alloc (Nat.le_refl _) _
  have hx1 : W1.heap[W.heap.size]? = some (.cells (ec v).toArray 96 (0, 0)) := by rw [← hW1]; exact World.alloc_heap_new _ _
  have hrd : MRaw W1.drew O (some ⟨g, o, none⟩) c1 (some ⟨g2, o2, none⟩) c2 b n m N := hr.keep (fun x _ hl => hb1.block x hl)
  obtain ⟨a0, a1, a2⟩ := hrd.cells
  have hth := (own_line hrd.ll hr.caps.2.1 i (by rw [lst_len]; exact hi)).2
  have hst := hth
  have hf1 : Frn (fun x => x = g2) W1.drew (W1.drew.setCells g2 (o2 + i * 8) (ec v)) := setCells_frn _ _ _
  have hl1 : OwnL (W1.drew.setCells g2 (o2 + i * 8) (ec v)) (some ⟨g2, o2, none⟩) c2 (m.last i v).lst := by
    rw [last_lst m i v hi]
    exact own_setLine hrd.ll i (by rw [lst_len]; exact hi) v
  have hnew := hrd.withL (last_len m i v) (last_nows m i v) hl1 (last_qf m i v) hf1
  have hfr : Frn (fun x => inP (some ⟨g2, o2, none⟩) c2 x) W (W1.drew.setCells g2 (o2 + i * 8) (ec v)) := (Frn.of_below hb1.drew).trans ⟨hf1.os, hf1.tape, hf1.output, hf1.size, fun x hx hn => hf1.block x hx (fun e => hn ⟨_, rfl, e.symm, hr.caps.2.1⟩)⟩
  have HNEW := Lib.hid (And.intro hnew (And.intro hfr hW1))
  have x0 : W1.drew.cell? ⟨B, 0, none⟩ = some (.pointer (some ⟨O, 0, none⟩)) := (hb1.cell (p := ⟨B, 0, none⟩) hBl).trans hB
  have x1 : W1.drew.cell? ⟨O, 1, none⟩ = some (.slice (some ⟨g2, o2, none⟩) n c2) := a1
  have x2 : W1.drew.rangeAt W.heap.size 0 (ec v) := fun j u hu => by
    show W1.cell? _ = _
    rw [Nat.zero_add]
    simpa [World.cell?, hx1] using hu
  clear hr hrd hnew hfr hB a0 a1 a2 hi hth hW1 hf1 hl1 hb1 hx1
  show Calls _ _ #[_, .agg (ec v).toArray, _] _ _
  go_enter Try.func60, Try.ntmps60
  go_wp2_with fail
  rw [HNEW.out.2.2]
  refine wp_region_noPanic ?_
  refine wp_region_F 7 (fun w' => w'.cell? ⟨B, 0, none⟩ = some (.pointer (some ⟨O, 0, none⟩)) ∧ w'.cell? ⟨O, 1, none⟩ = some (.slice (some ⟨g2, o2, none⟩) n c2) ∧ w'.rangeAt W.heap.size 0 (ec v)) (by kernel_rfl) ?_ (fun hHeld => ?_)
  · exact ⟨x0, x1, x2⟩
  refine' wpAnyF_take (i := 0) (v := _) rfl (by kernel_rfl) (by kernel_rfl) (by kernel_rfl) (by kernel_rfl) (by rfl) (by kernel_rfl) (fun _ _ _ h => h) (Or.inl ⟨by rfl, ?hy⟩) hHeld _
  case hy => (intro w0 hSw; (try dsimp only at hSw); simp only [List.getElem_toArray, List.getElem_cons_zero]; go_simp; first | done | with_reducible rfl)
  simp only [Act.put, List.getElem_toArray, List.getElem_cons_zero, List.setIfInBounds_toArray, List.set_cons_zero, List.set_cons_succ]
  refine' wpAnyF_takeT (i := 1) (v := _) rfl (by kernel_rfl) (by kernel_rfl) (by kernel_rfl) (by rfl) (fun _ _ _ h => h) (Or.inl ⟨by rfl, ?hy⟩) (fun _ => hHeld) _
  case hy => (intro w0 hSw; (try dsimp only at hSw); simp only [List.getElem_toArray, List.getElem_cons_zero, List.getElem_cons_succ]; go_simp; first | done | with_reducible rfl)
  simp only [Act.put, List.getElem_toArray, List.getElem_cons_zero, List.getElem_cons_succ, List.setIfInBounds_toArray, List.set_cons_zero, List.set_cons_succ]
  refine' wpAnyF_takeT (i := 2) (v := _) rfl (by kernel_rfl) (by kernel_rfl) (by kernel_rfl) (by rfl) (fun _ _ _ h => h) (Or.inl ⟨by rfl, ?hy⟩) (fun _ => hHeld) _
  case hy => (intro w0 hSw; (try dsimp only at hSw); simp only [List.getElem_toArray, List.getElem_cons_zero, List.getElem_cons_succ]; go_simp; first | done | with_reducible rfl)
  simp only [Act.put, List.getElem_toArray, List.getElem_cons_zero, List.getElem_cons_succ, List.setIfInBounds_toArray, List.set_cons_zero, List.set_cons_succ]
  refine' wpAnyF_take (i := 3) (v := _) rfl (by kernel_rfl) (by kernel_rfl) (by kernel_rfl) (by kernel_rfl) (by rfl) (by kernel_rfl) (fun _ _ _ h => h) (Or.inl ⟨by rfl, ?hy⟩) hHeld _
  case hy => (intro w0 hSw; (try dsimp only at hSw); simp only [List.getElem_toArray, List.getElem_cons_zero, List.getElem_cons_succ]; go_simp; first | done | with_reducible rfl)
  simp only [Act.put, List.getElem_toArray, List.getElem_cons_zero, List.getElem_cons_succ, List.setIfInBounds_toArray, List.set_cons_zero, List.set_cons_succ]
  refine' wpAnyF_takeT (i := 4) (v := _) rfl (by kernel_rfl) (by kernel_rfl) (by kernel_rfl) (by rfl) (fun _ _ _ h => h) (Or.inl ⟨by rfl, ?hy⟩) (fun _ => hHeld) _
  case hy => (intro w0 hSw; (try dsimp only at hSw); simp only [List.getElem_toArray, List.getElem_cons_zero, List.getElem_cons_succ]; go_simp; first | done | with_reducible rfl)
  simp only [Act.put, List.getElem_toArray, List.getElem_cons_zero, List.getElem_cons_succ, List.setIfInBounds_toArray, List.set_cons_zero, List.set_cons_succ]
  refine' wpAnyF_take (i := 5) (v := lineV v) rfl (by kernel_rfl) (by kernel_rfl) (by kernel_rfl) (by kernel_rfl) (by rfl) (by kernel_rfl) (fun _ _ _ h => h) (yieldsIf_load_mid (by rfl) 96 (.tmp 4) rfl W.heap.size 0 rfl (ec v) (.array 8 36) (fun _ h => h.2.2) (by kernel_rfl) rfl (by rw [ec_len]; kernel_rfl)) hHeld _
  simp only [Act.put, List.getElem_toArray, List.getElem_cons_zero, List.getElem_cons_succ, List.setIfInBounds_toArray, List.set_cons_zero, List.set_cons_succ]
  refine' wpAnyF_takeT (i := 6) (v := _) rfl (by kernel_rfl) (by kernel_rfl) (by kernel_rfl) (by rfl) (fun _ _ _ h => h) (Or.inl ⟨by rfl, ?hy⟩) (fun _ => hHeld) _
  case hy => (intro w0 hSw; (try dsimp only at hSw); simp only [List.getElem_toArray, List.getElem_cons_zero, List.getElem_cons_succ]; go_simp; first | done | with_reducible rfl)
  simp only [Act.put, List.getElem_toArray, List.getElem_cons_zero, List.getElem_cons_succ, List.setIfInBounds_toArray, List.set_cons_zero, List.set_cons_succ]
  refine wpAnyF_one (i := 7) (by kernel_rfl) rfl (fun K hK => ?_)
  rw [if_pos (by rfl)]
  refine wp_store_mid 96 (.tmp 11) (.tmp 10) rfl g2 (o2 + i * 8) (ec v).toArray rfl rfl (by rw [List.size_toArray, ec_len]; exact hst) (by rw [List.size_toArray, ec_len]; kernel_rfl) (all_oneCell_toArray (ec_one v)) ?_
  refine hK.out _ _ (fun h => Bool.noConfusion (h.symm.trans (by kernel_rfl : _ = true))) ?_
  clear hK K
  try simp only [Act.put, List.getElem_toArray, List.getElem_cons_zero, List.getElem_cons_succ, List.setIfInBounds_toArray, List.set_cons_zero, List.set_cons_succ]
  refine wpAnyF_done (by kernel_rfl) ?_ _
  refine NoPanic.normal ?_
  go_wp2_with fail
  go_end0
  exact ⟨rfl, HNEW.out.1, HNEW.out.2.1⟩
end Go.Proofs.Ytaflbfmlajbjcaa
