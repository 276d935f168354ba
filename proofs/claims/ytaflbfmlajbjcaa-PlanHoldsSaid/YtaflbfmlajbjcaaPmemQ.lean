/- A map from numbers to lines, in memory: its block's laws. -/
import Derived.Test.YtaflbfmlajbjcaaMem
import Derived.Maps.RangeRun
namespace Go.Proofs.Ytaflbfmlajbjcaa
open Go Go.RowKit Go.MapKept

abbrev V8 := Vector (BitVec 64) 8
def ec (v : V8) : List Value := v.toList.map vw
theorem ec_len (v : V8) : (ec v).length = 8 := by simp [ec]
theorem ec_one (v : V8) : ∀ u ∈ ec v, u.oneCell' = true := by
  intro u hu
  obtain ⟨x, _, rfl⟩ := List.mem_map.1 hu
  rfl
structure Ent where
  k : Nat
  v : V8
  born : Nat
def lineV (v : V8) : Value := .agg (ec v).toArray
def ent (x : Ent) : MapEntry := { key := .int .i64 (x.k : Int), val := lineV x.v, born := x.born }
def enr (es : List Ent) : Array MapEntry := (es.map ent).toArray
structure OkE (es : List Ent) (clk : Nat) : Prop where
  old : ∀ x ∈ es, x.born < clk
  stamps : (es.map (·.born)).Nodup
  keys : (es.map (·.k)).Nodup
def getE (es : List Ent) (k : Nat) : Option V8 := (es.find? (fun x => decide (x.k = k))).map (·.v)
theorem getE_none {es : List Ent} {k : Nat} (h : ∀ x ∈ es, x.k ≠ k) : getE es k = none := by
  have : es.find? (fun x => decide (x.k = k)) = none := List.find?_eq_none.2 (fun x hx => by simpa using h x hx)
  simp [getE, this]
theorem getE_mem : ∀ {es : List Ent} {x : Ent}, (es.map (·.k)).Nodup → x ∈ es → getE es x.k = some x.v
  | y :: es, x, hn, hx => by
    rw [List.map_cons, List.nodup_cons] at hn
    rcases List.mem_cons.1 hx with rfl | hx
    · simp [getE]
    · have hne : ¬ y.k = x.k := fun e => hn.1 (by rw [e]; exact List.mem_map_of_mem hx)
      have := getE_mem hn.2 hx
      simp only [getE, List.find?_cons, hne, decide_false] at this ⊢
      exact this
theorem getE_some {es : List Ent} {k : Nat} {v : V8} (h : getE es k = some v) : ∃ x ∈ es, x.k = k ∧ x.v = v := by
  unfold getE at h
  cases hf : es.find? (fun x => decide (x.k = k)) with
  | none => rw [hf] at h; cases h
  | some x =>
    rw [hf] at h
    have h1 := List.find?_some hf
    exact ⟨x, List.mem_of_find?_eq_some hf, by simpa using h1, by simpa using h⟩
theorem find_none {es : List Ent} {k : Nat} (h2 : ∀ x ∈ es.map ent, x.key ≠ .int .i64 (k : Int)) : ∀ x ∈ es, x.k ≠ k :=
  fun x hx e => h2 (ent x) (List.mem_map_of_mem hx) (by unfold ent; rw [e])
/-- What the model's search tells. -/
theorem find_ent (es : List Ent) (k : Nat) : (Instr.findNow (.int .i64) (.int .i64 (k : Int)) (es.map ent) 0 = some none ∧ ∀ x ∈ es, x.k ≠ k) ∨
    ∃ j x, Instr.findNow (.int .i64) (.int .i64 (k : Int)) (es.map ent) 0 = some (some (j, lineV x.v)) ∧ es[j]? = some x ∧ x.k = k := by
  have hk : IsKey (.int .i64) (.int .i64 (k : Int)) := rfl
  have hes : ∀ x ∈ es.map ent, IsKey (.int .i64) x.key := fun x hx => by
    obtain ⟨y, _, rfl⟩ := List.mem_map.1 hx
    exact rfl
  rcases findNow_spec hk (es.map ent) 0 hes with ⟨h1, h2⟩ | ⟨j, e, h1, h2, h3⟩
  · exact .inl ⟨h1, find_none h2⟩
  · rw [List.getElem?_map] at h2
    cases hx : es[j]? with
    | none => rw [hx] at h2; cases h2
    | some x =>
      rw [hx] at h2
      have he : ent x = e := by simpa using h2
      subst he
      refine .inr ⟨j, x, by rw [h1, Nat.zero_add]; rfl, hx, ?_⟩
      have : (x.k : Int) = (k : Int) := by simpa [ent] using h3
      omega
/-- A map in block b, that has f. -/
def QRaw (W : World) (b : Nat) (es : List Ent) (clk : Nat) : Prop := W.heap[b]? = some (.map (enr es) clk) ∧ OkE es clk
def QAt (W : World) (b : Nat) (f : Nat → Option V8) : Prop := ∃ es clk, QRaw W b es clk ∧ ∀ k, getE es k = f k
theorem QAt.lt {W : World} {b : Nat} {f : Nat → Option V8} (h : QAt W b f) : b < W.heap.size := by
  obtain ⟨es, clk, ⟨h, -⟩, -⟩ := h
  exact (Array.getElem?_eq_some_iff.1 h).1
theorem QAt.keep {W W' : World} {b : Nat} {f : Nat → Option V8} (h : QAt W b f) (e : W'.heap[b]? = W.heap[b]?) : QAt W' b f := by
  obtain ⟨es, clk, ⟨h, ho⟩, hf⟩ := h
  exact ⟨es, clk, ⟨e.trans h, ho⟩, hf⟩
theorem QAt.made (W : World) : QAt (W.alloc (.map #[] 0)) W.heap.size (fun _ => none) :=
  ⟨[], 0, ⟨World.alloc_heap_new _ _, ⟨fun x hx => (by cases hx), List.nodup_nil, List.nodup_nil⟩⟩, fun _ => rfl⟩
section
variable {P : Program} {T K E : TypeId} (hT : P.underlying T = some (.map K E)) (hK : P.underlying K = some (.int .i64))
theorem frn_set {W : World} {b : Nat} {o : Obj} : Frn (fun x => x = b) W (ChangeMaps.setBlock W b o) :=
  ⟨rfl, rfl, rfl, by simp [ChangeMaps.setBlock], fun b' hb hn => by simp [ChangeMaps.setBlock, Ne.symm hn]⟩
include hT hK
theorem q_look {W : World} {b : Nat} {es : List Ent} {clk : Nat} (h : QRaw W b es clk) (k : Nat) {z : V8} (hz : ∀ W, (zeroValue E).run P W = .ok (lineV z) W) :
    (Instr.lookup T (.map (some b)) (.int .i64 (k : Int)) true).run P W = .ok (.tuple #[lineV ((getE es k).getD z), .bool (getE es k).isSome]) W := by
  have hk : IsKey (.int .i64) (.int .i64 (k : Int)) := rfl
  obtain ⟨hb, hok⟩ := h
  rcases find_ent es k with ⟨h1, h2⟩ | ⟨j, x, h1, h2, rfl⟩
  · rw [getE_none h2]
    simp [Instr.lookup, run_underlying hT, MapKept.run_getObj_map hb, run_checkKey hK hk, run_findKey hK (l := (enr es).toList) (a := none) (by simpa [enr] using h1), hz, Result.andThen]
  · rw [getE_mem hok.keys (List.mem_of_getElem? h2)]
    simp [Instr.lookup, run_underlying hT, MapKept.run_getObj_map hb, run_checkKey hK hk, run_findKey hK (l := (enr es).toList) (a := some (j, lineV x.v)) (by simpa [enr] using h1), Result.andThen]
/-- m[k] = v. -/
theorem q_put {W : World} {b : Nat} {f : Nat → Option V8} (h : QAt W b f) (k : Nat) (v : V8) :
    ∃ W', (Instr.mapUpdate T (.map (some b)) (.int .i64 (k : Int)) (lineV v)).run P W = .ok () W' ∧ QAt W' b (fun x => if x = k then some v else f x) ∧ Frn (fun x => x = b) W W' ∧ W'.heap.size = W.heap.size := by
  have hk : IsKey (.int .i64) (.int .i64 (k : Int)) := rfl
  obtain ⟨es, clk, ⟨hb, hok⟩, hf⟩ := h
  rcases find_ent es k with ⟨h1, h2⟩ | ⟨j, x, h1, h2, rfl⟩
  · refine ⟨ChangeMaps.setBlock W b (.map ((enr es).push { key := .int .i64 (k : Int), val := lineV v, born := clk }) (clk + 1)), ?_, ⟨es ++ [⟨k, v, clk⟩], clk + 1, ⟨?_, ?_⟩, ?_⟩, frn_set, by simp [ChangeMaps.setBlock]⟩
    · simp [Instr.mapUpdate, run_underlying hT, MapKept.run_getObj_map hb, run_checkKey hK hk, run_findKey hK (l := (enr es).toList) (a := none) (by simpa [enr] using h1), run_setObj_map _ hb, Result.andThen, ChangeMaps.setBlock]
    · have : enr (es ++ [⟨k, v, clk⟩]) = (enr es).push { key := .int .i64 (k : Int), val := lineV v, born := clk } := by simp [enr, ent]
      rw [this]
      exact (heap_set hb).1
    · refine ⟨fun y hy => ?_, ?_, ?_⟩
      · rcases List.mem_append.1 hy with hy | hy
        · have := hok.old y hy; omega
        · rw [List.mem_singleton] at hy; subst hy; exact Nat.lt_succ_self _
      · rw [List.map_append, List.nodup_append]
        refine ⟨hok.stamps, by simp, fun a ha c hc => ?_⟩
        obtain ⟨y, hy, rfl⟩ := List.mem_map.1 ha
        simp only [List.map_cons, List.map_nil, List.mem_singleton] at hc
        have := hok.old y hy; omega
      · rw [List.map_append, List.nodup_append]
        refine ⟨hok.keys, by simp, fun a ha c hc => ?_⟩
        obtain ⟨y, hy, rfl⟩ := List.mem_map.1 ha
        simp only [List.map_cons, List.map_nil, List.mem_singleton] at hc
        rw [hc]
        exact h2 y hy
    · intro n
      by_cases hn : n = k
      · subst hn
        have : es.find? (fun x => decide (x.k = n)) = none := List.find?_eq_none.2 (fun x hx => by simpa using h2 x hx)
        simp [getE, List.find?_append, this]
      · show _ = if n = k then some v else f n
        rw [if_neg hn, ← hf n]
        unfold getE
        rw [List.find?_append]
        have : [(⟨k, v, clk⟩ : Ent)].find? (fun x => decide (x.k = n)) = none := by simp [Ne.symm hn]
        rw [this]
        simp
  · have hj : j < es.length := (List.getElem?_eq_some_iff.1 h2).1
    have hx : es[j] = x := (List.getElem?_eq_some_iff.1 h2).2
    have hje : (enr es)[j]? = some (ent x) := by simp [enr, h2]
    have hset : (enr es).modify j (fun e => { e with key := .int .i64 (x.k : Int), val := lineV v }) = enr (es.set j ⟨x.k, v, x.born⟩) := by
      apply Array.ext'
      apply List.ext_getElem?
      intro n
      simp only [enr, List.getElem?_map]
      by_cases hn : j = n
      · subst hn
        simp [hj, hx, ent]
      · simp [hn]
    refine ⟨ChangeMaps.setBlock W b (.map (enr (es.set j ⟨x.k, v, x.born⟩)) clk), ?_, ⟨es.set j ⟨x.k, v, x.born⟩, clk, ⟨(heap_set hb).1, ?_⟩, ?_⟩, frn_set, by simp [ChangeMaps.setBlock]⟩
    · simp [Instr.mapUpdate, run_underlying hT, MapKept.run_getObj_map hb, run_checkKey hK hk, run_findKey hK (l := (enr es).toList) (a := some (j, lineV x.v)) (by simpa [enr] using h1), hje, ent, run_keyThatStays hk, run_setObj_map _ hb, Result.andThen, ChangeMaps.setBlock, ← hset]
    · have hmk : (es.set j ⟨x.k, v, x.born⟩).map (·.k) = es.map (·.k) := by
        apply List.ext_getElem?
        intro n
        simp only [List.getElem?_map, List.getElem?_set]
        by_cases hn : j = n
        · subst hn; simp [hj, hx]
        · simp [hn]
      have hmb : (es.set j ⟨x.k, v, x.born⟩).map (·.born) = es.map (·.born) := by
        apply List.ext_getElem?
        intro n
        simp only [List.getElem?_map, List.getElem?_set]
        by_cases hn : j = n
        · subst hn; simp [hj, hx]
        · simp [hn]
      refine ⟨fun y hy => ?_, by rw [hmb]; exact hok.stamps, by rw [hmk]; exact hok.keys⟩
      rcases List.mem_or_eq_of_mem_set hy with hy | rfl
      · exact hok.old y hy
      · exact hok.old x (List.mem_of_getElem? h2)
    · intro n
      have hk2 : ((es.set j ⟨x.k, v, x.born⟩).map (·.k)).Nodup := by
        have hmk : (es.set j ⟨x.k, v, x.born⟩).map (·.k) = es.map (·.k) := by
          apply List.ext_getElem?
          intro n
          simp only [List.getElem?_map, List.getElem?_set]
          by_cases hn : j = n
          · subst hn; simp [hj, hx]
          · simp [hn]
        rw [hmk]; exact hok.keys
      by_cases hn : n = x.k
      · subst hn
        show _ = if x.k = x.k then some v else f x.k
        rw [if_pos rfl]
        exact getE_mem hk2 (x := ⟨x.k, v, x.born⟩) (List.mem_set hj _)
      · show _ = if n = x.k then some v else f n
        rw [if_neg hn, ← hf n]
        cases hg : getE es n with
        | none =>
          refine getE_none (fun y hy e => ?_)
          rcases List.mem_or_eq_of_mem_set hy with hy | rfl
          · rw [← e, getE_mem hok.keys hy] at hg; cases hg
          · exact hn e.symm
        | some u =>
          obtain ⟨y, hy, rfl, rfl⟩ := getE_some hg
          obtain ⟨i, hi, he⟩ := List.mem_iff_getElem.1 hy
          have hij : j ≠ i := fun e => by subst e; rw [hx] at he; exact hn (by rw [he])
          have hy2 : y ∈ es.set j ⟨x.k, v, x.born⟩ := by
            rw [List.mem_iff_getElem]
            exact ⟨i, by simpa using hi, by rw [List.getElem_set_ne hij]; exact he⟩
          exact getE_mem hk2 hy2
/-- delete(m, k). -/
theorem q_del {W : World} {b : Nat} {f : Nat → Option V8} (h : QAt W b f) (k : Nat) :
    ∃ W', (∀ ty, (Builtin.delete_ #[T, K] ty #[.map (some b), .int .i64 (k : Int)]).run P W = .ok (.tuple #[]) W') ∧ QAt W' b (fun x => if x = k then none else f x) ∧ Frn (fun x => x = b) W W' ∧ W'.heap.size = W.heap.size := by
  have hk : IsKey (.int .i64) (.int .i64 (k : Int)) := rfl
  obtain ⟨es, clk, ⟨hb, hok⟩, hf⟩ := h
  rcases find_ent es k with ⟨h1, h2⟩ | ⟨j, x, h1, h2, rfl⟩
  · refine ⟨ChangeMaps.setBlock W b (.map (enr es) clk), ?_, ⟨es, clk, ⟨(heap_set hb).1, hok⟩, ?_⟩, frn_set, by simp [ChangeMaps.setBlock]⟩
    · intro ty
      simp [Builtin.delete_, run_underlying hT, MapKept.run_getObj_map hb, run_checkKey hK hk, run_findKey hK (l := (enr es).toList) (a := none) (by simpa [enr] using h1), run_setObj_map _ hb, Result.andThen, ChangeMaps.setBlock]
    · intro n
      show _ = if n = k then none else f n
      by_cases hn : n = k
      · subst hn; rw [if_pos rfl]; exact getE_none h2
      · rw [if_neg hn]; exact hf n
  · have hj : j < es.length := (List.getElem?_eq_some_iff.1 h2).1
    have hx : es[j] = x := (List.getElem?_eq_some_iff.1 h2).2
    have her : (enr es).eraseIdxIfInBounds j = enr (es.eraseIdx j) := by
      apply Array.ext'
      simp [Array.eraseIdxIfInBounds, enr, ChangeMaps.map_eraseIdx, hj]
    have hsub : (es.eraseIdx j).Sublist es := List.eraseIdx_sublist _ _
    refine ⟨ChangeMaps.setBlock W b (.map (enr (es.eraseIdx j)) clk), ?_, ⟨es.eraseIdx j, clk, ⟨(heap_set hb).1, ⟨fun y hy => hok.old y (hsub.subset hy), hok.stamps.sublist (hsub.map _), hok.keys.sublist (hsub.map _)⟩⟩, ?_⟩, frn_set, by simp [ChangeMaps.setBlock]⟩
    · intro ty
      simp [Builtin.delete_, run_underlying hT, MapKept.run_getObj_map hb, run_checkKey hK hk, run_findKey hK (l := (enr es).toList) (a := some (j, lineV x.v)) (by simpa [enr] using h1), run_setObj_map _ hb, Result.andThen, ChangeMaps.setBlock, her]
    · intro n
      show _ = if n = x.k then none else f n
      have hne : ∀ y ∈ es.eraseIdx j, y.k ≠ x.k := by
        intro y hy e
        obtain ⟨i, hil, hij, hi⟩ := List.mem_eraseIdx_iff_getElem.1 hy
        have h3 : (es.map (·.k))[i]'(by simpa using hil) = (es.map (·.k))[j]'(by simpa using hj) := by
          simp only [List.getElem_map, hx, hi, e]
        exact hij ((List.getElem_inj hok.keys).1 h3)
      by_cases hn : n = x.k
      · subst hn; rw [if_pos rfl]; exact getE_none hne
      · rw [if_neg hn, ← hf n]
        cases hg : getE es n with
        | none =>
          refine getE_none (fun y hy e => ?_)
          rw [← e, getE_mem hok.keys (hsub.subset hy)] at hg; cases hg
        | some u =>
          obtain ⟨y, hy, rfl, rfl⟩ := getE_some hg
          obtain ⟨i, hi, he⟩ := List.mem_iff_getElem.1 hy
          have hij : i ≠ j := fun e => by subst e; rw [hx] at he; exact hn (by rw [he])
          exact getE_mem (hok.keys.sublist (hsub.map _)) (List.mem_eraseIdx_iff_getElem.2 ⟨i, hi, hij, he⟩)
omit hK in
/-- clear(m). -/
theorem q_clear {W : World} {b : Nat} {f : Nat → Option V8} (h : QAt W b f) :
    ∃ W', (∀ ty, (Builtin.clear_ #[T] ty #[.map (some b)]).run P W = .ok (.tuple #[]) W') ∧ QAt W' b (fun _ => none) ∧ Frn (fun x => x = b) W W' ∧ W'.heap.size = W.heap.size := by
  obtain ⟨es, clk, ⟨hb, hok⟩, hf⟩ := h
  refine ⟨ChangeMaps.setBlock W b (.map #[] clk), ?_, ⟨[], clk, ⟨(heap_set hb).1, ⟨fun x hx => (by cases hx), List.nodup_nil, List.nodup_nil⟩⟩, fun _ => rfl⟩, frn_set, by simp [ChangeMaps.setBlock]⟩
  intro ty
  simp [Builtin.clear_, run_underlying hT, MapKept.run_getObj_map hb, run_setObj_map _ hb, Result.andThen, ChangeMaps.setBlock]
omit hT hK in
/-- Under way over a map: the stamps of those that came up. -/
def RngAt (W : World) (b r : Nat) (es : List Ent) (clk : Nat) (seen : List Nat) : Prop := QRaw W b es clk ∧ W.heap[r]? = some (.mapIter (some b) clk seen.toArray clk)
omit hK in
theorem q_range {W : World} {b : Nat} {es : List Ent} {clk : Nat} (h : QRaw W b es clk) :
    (Instr.range T (.map (some b))).run P W = .ok (.pointer (some ⟨W.heap.size, 0, none⟩)) (W.alloc (.mapIter (some b) clk #[] clk)) ∧ RngAt (W.alloc (.mapIter (some b) clk #[] clk)) b W.heap.size es clk [] :=
  ⟨run_range_map W T K E b (enr es) clk hT h.1, ⟨(MapKept.heap_alloc W _ |>.2 b (Array.getElem?_eq_some_iff.1 h.1).1).trans h.1, h.2⟩, World.alloc_heap_new _ _⟩
omit hT hK in
theorem q_next {W : World} {b r : Nat} {es : List Ent} {clk : Nat} {seen : List Nat} (h : RngAt W b r es clk seen) (ty : TypeId) :
    ((∀ x ∈ es, x.born ∈ seen) ∧ (Instr.next (.pointer (some ⟨r, 0, none⟩)) false ty).run P W = .ok (.tuple #[.bool false]) W) ∨
    ∃ x ∈ es, x.born ∉ seen ∧ ∃ W', (Instr.next (.pointer (some ⟨r, 0, none⟩)) false ty).run P W = .ok (.tuple #[.bool true, .int .i64 (x.k : Int), lineV x.v]) W' ∧ RngAt W' b r es clk (seen ++ [x.born]) ∧
      (Instr.entry (.pointer (some ⟨r, 0, none⟩))).run P W' = .ok (.tuple #[.int .i64 (x.k : Int), lineV x.v]) W' ∧ Frn (fun y => y = r) W W' ∧ W'.heap.size = W.heap.size := by
  obtain ⟨⟨hb, hok⟩, hr⟩ := h
  have hlist : (enr es).toList = es.map ent := by simp [enr]
  have hold : ∀ x ∈ (enr es).toList, x.born < clk := fun x hx => by
    rw [hlist] at hx
    obtain ⟨y, hy, rfl⟩ := List.mem_map.1 hx
    exact hok.old y hy
  rcases run_next_at (P := P) W ty r b clk clk seen.toArray (enr es) clk hr hb hold (Nat.le_refl _) with ⟨h0, hrun⟩ | ⟨e, he, w1, hal, hrun⟩
  · refine .inl ⟨fun x hx => ?_, hrun⟩
    have : leftOf (enr es) seen.toArray = #[] := Array.eq_empty_of_size_eq_zero h0
    unfold leftOf at this
    rw [Array.filter_eq_empty_iff] at this
    have := this (ent x) (by simp [enr]; exact ⟨x, hx, rfl⟩)
    simpa [ent] using this
  · have he' : e ∈ (leftOf (enr es) seen.toArray) := by simpa using he
    unfold leftOf at he'
    rw [Array.mem_filter] at he'
    obtain ⟨hm, hs⟩ := he'
    have hm' : e ∈ es.map ent := by rw [← hlist]; simpa using hm
    obtain ⟨x, hx, rfl⟩ := List.mem_map.1 hm'
    have hns : x.born ∉ seen := by simpa [ent] using hs
    have hr1 : w1.heap[r]? = some (.mapIter (some b) clk seen.toArray clk) := by rcases hal with rfl | rfl <;> exact hr
    have hb1 : w1.heap[b]? = some (.map (enr es) clk) := by rcases hal with rfl | rfl <;> exact hb
    have hne : b ≠ r := fun e => by rw [e, hr] at hb; cases hb
    have hset := heap_set (o' := .mapIter (some b) clk (seen.toArray.push x.born) clk) hr1
    have hpush : (seen ++ [x.born]).toArray = seen.toArray.push x.born := by simp
    have hrng : RngAt (ChangeMaps.setBlock w1 r (.mapIter (some b) clk (seen.toArray.push x.born) clk)) b r es clk (seen ++ [x.born]) := ⟨⟨(hset.2 b hne).trans hb1, hok⟩, by rw [hpush]; exact hset.1⟩
    refine .inr ⟨x, hx, hns, _, hrun, hrng, ?_, ?_, ?_⟩
    · refine run_entry_at (P := P) _ r b clk seen.toArray (enr es) clk (ent x) ?_ hrng.1.1 (by rw [hlist]; exact List.mem_map_of_mem hx) ?_
      · exact hset.1
      · rw [hlist, List.map_map]
        exact hok.stamps
    · have hf : Frn (fun y => y = r) W w1 := by
        rcases hal with rfl | rfl
        · exact Frn.refl _ _
        · exact ⟨rfl, rfl, rfl, Nat.le_refl _, fun _ _ _ => rfl⟩
      exact hf.trans frn_set
    · rcases hal with rfl | rfl <;> simp [ChangeMaps.setBlock]
end
end Go.Proofs.Ytaflbfmlajbjcaa
