/- A map from numbers to numbers, in memory: its block's laws. -/
import Derived.Test.YtenmogokbelahaaMem
import Derived.Maps.RangeRun
namespace Go.Proofs.Ytenmogokbelahaa
open Go Go.RowKit Go.MapKept

structure EntD where
  k : Nat
  v : Int
  born : Nat
def entD (x : EntD) : MapEntry := { key := .int .i64 (x.k : Int), val := .int .i64 x.v, born := x.born }
def enrD (es : List EntD) : Array MapEntry := (es.map entD).toArray
structure OkED (es : List EntD) (clk : Nat) : Prop where
  old : ∀ x ∈ es, x.born < clk
  stamps : (es.map (·.born)).Nodup
  keys : (es.map (·.k)).Nodup
def getED (es : List EntD) (k : Nat) : Option Int := (es.find? (fun x => decide (x.k = k))).map (·.v)
theorem getE_noneD {es : List EntD} {k : Nat} (h : ∀ x ∈ es, x.k ≠ k) : getED es k = none := by
  have : es.find? (fun x => decide (x.k = k)) = none := List.find?_eq_none.2 (fun x hx => by simpa using h x hx)
  simp [getED, this]
theorem getE_memD : ∀ {es : List EntD} {x : EntD}, (es.map (·.k)).Nodup → x ∈ es → getED es x.k = some x.v
  | y :: es, x, hn, hx => by
    rw [List.map_cons, List.nodup_cons] at hn
    rcases List.mem_cons.1 hx with rfl | hx
    · simp [getED]
    · have hne : ¬ y.k = x.k := fun e => hn.1 (by rw [e]; exact List.mem_map_of_mem hx)
      have := getE_memD hn.2 hx
      simp only [getED, List.find?_cons, hne, decide_false] at this ⊢
      exact this
theorem getE_someD {es : List EntD} {k : Nat} {v : Int} (h : getED es k = some v) : ∃ x ∈ es, x.k = k ∧ x.v = v := by
  unfold getED at h
  cases hf : es.find? (fun x => decide (x.k = k)) with
  | none => rw [hf] at h; cases h
  | some x =>
    rw [hf] at h
    have h1 := List.find?_some hf
    exact ⟨x, List.mem_of_find?_eq_some hf, by simpa using h1, by simpa using h⟩
theorem find_noneD {es : List EntD} {k : Nat} (h2 : ∀ x ∈ es.map entD, x.key ≠ .int .i64 (k : Int)) : ∀ x ∈ es, x.k ≠ k :=
  fun x hx e => h2 (entD x) (List.mem_map_of_mem hx) (by unfold entD; rw [e])
/-- What the model's search tells. -/
theorem find_entD (es : List EntD) (k : Nat) : (Instr.findNow (.int .i64) (.int .i64 (k : Int)) (es.map entD) 0 = some none ∧ ∀ x ∈ es, x.k ≠ k) ∨
    ∃ j x, Instr.findNow (.int .i64) (.int .i64 (k : Int)) (es.map entD) 0 = some (some (j, .int .i64 x.v)) ∧ es[j]? = some x ∧ x.k = k := by
  have hk : IsKey (.int .i64) (.int .i64 (k : Int)) := rfl
  have hes : ∀ x ∈ es.map entD, IsKey (.int .i64) x.key := fun x hx => by
    obtain ⟨y, _, rfl⟩ := List.mem_map.1 hx
    exact rfl
  rcases findNow_spec hk (es.map entD) 0 hes with ⟨h1, h2⟩ | ⟨j, e, h1, h2, h3⟩
  · exact .inl ⟨h1, find_noneD h2⟩
  · rw [List.getElem?_map] at h2
    cases hx : es[j]? with
    | none => rw [hx] at h2; cases h2
    | some x =>
      rw [hx] at h2
      have he : entD x = e := by simpa using h2
      subst he
      refine .inr ⟨j, x, by rw [h1, Nat.zero_add]; rfl, hx, ?_⟩
      have : (x.k : Int) = (k : Int) := by simpa [entD] using h3
      omega
/-- A map in block b, that has f. -/
def QRawD (W : World) (b : Nat) (es : List EntD) (clk : Nat) : Prop := W.heap[b]? = some (.map (enrD es) clk) ∧ OkED es clk
def QAtD (W : World) (b : Nat) (f : Nat → Option Int) : Prop := ∃ es clk, QRawD W b es clk ∧ ∀ k, getED es k = f k
theorem QAtD.lt {W : World} {b : Nat} {f : Nat → Option Int} (h : QAtD W b f) : b < W.heap.size := by
  obtain ⟨es, clk, ⟨h, -⟩, -⟩ := h
  exact (Array.getElem?_eq_some_iff.1 h).1
theorem QAtD.keep {W W' : World} {b : Nat} {f : Nat → Option Int} (h : QAtD W b f) (e : W'.heap[b]? = W.heap[b]?) : QAtD W' b f := by
  obtain ⟨es, clk, ⟨h, ho⟩, hf⟩ := h
  exact ⟨es, clk, ⟨e.trans h, ho⟩, hf⟩
theorem QAtD.made (W : World) : QAtD (W.alloc (.map #[] 0)) W.heap.size (fun _ => none) :=
  ⟨[], 0, ⟨World.alloc_heap_new _ _, ⟨fun x hx => (by cases hx), List.nodup_nil, List.nodup_nil⟩⟩, fun _ => rfl⟩
section
variable {P : Program} {T K E : TypeId} (hT : P.underlying T = some (.map K E)) (hK : P.underlying K = some (.int .i64))
theorem frn_setD {W : World} {b : Nat} {o : Obj} : Frn (fun x => x = b) W (ChangeMaps.setBlock W b o) :=
  ⟨rfl, rfl, rfl, by simp [ChangeMaps.setBlock], fun b' hb hn => by simp [ChangeMaps.setBlock, Ne.symm hn]⟩
include hT hK
theorem q_lookD {W : World} {b : Nat} {es : List EntD} {clk : Nat} (h : QRawD W b es clk) (k : Nat) {z : Int} (hz : ∀ W, (zeroValue E).run P W = .ok (.int .i64 z) W) :
    (Instr.lookup T (.map (some b)) (.int .i64 (k : Int)) false).run P W = .ok (.int .i64 ((getED es k).getD z)) W := by
  have hk : IsKey (.int .i64) (.int .i64 (k : Int)) := rfl
  obtain ⟨hb, hok⟩ := h
  rcases find_entD es k with ⟨h1, h2⟩ | ⟨j, x, h1, h2, rfl⟩
  · rw [getE_noneD h2]
    simp [Instr.lookup, run_underlying hT, MapKept.run_getObj_map hb, run_checkKey hK hk, run_findKey hK (l := (enrD es).toList) (a := none) (by simpa [enrD] using h1), hz, Result.andThen]
  · rw [getE_memD hok.keys (List.mem_of_getElem? h2)]
    simp [Instr.lookup, run_underlying hT, MapKept.run_getObj_map hb, run_checkKey hK hk, run_findKey hK (l := (enrD es).toList) (a := some (j, .int .i64 x.v)) (by simpa [enrD] using h1), Result.andThen]
/-- m[k] = v. -/
theorem q_putD {W : World} {b : Nat} {f : Nat → Option Int} (h : QAtD W b f) (k : Nat) (v : Int) :
    ∃ W', (Instr.mapUpdate T (.map (some b)) (.int .i64 (k : Int)) (.int .i64 v)).run P W = .ok () W' ∧ QAtD W' b (fun x => if x = k then some v else f x) ∧ Frn (fun x => x = b) W W' ∧ W'.heap.size = W.heap.size := by
  have hk : IsKey (.int .i64) (.int .i64 (k : Int)) := rfl
  obtain ⟨es, clk, ⟨hb, hok⟩, hf⟩ := h
  rcases find_entD es k with ⟨h1, h2⟩ | ⟨j, x, h1, h2, rfl⟩
  · refine ⟨ChangeMaps.setBlock W b (.map ((enrD es).push { key := .int .i64 (k : Int), val := .int .i64 v, born := clk }) (clk + 1)), ?_, ⟨es ++ [⟨k, v, clk⟩], clk + 1, ⟨?_, ?_⟩, ?_⟩, frn_setD, by simp [ChangeMaps.setBlock]⟩
    · simp [Instr.mapUpdate, run_underlying hT, MapKept.run_getObj_map hb, run_checkKey hK hk, run_findKey hK (l := (enrD es).toList) (a := none) (by simpa [enrD] using h1), run_setObj_map _ hb, Result.andThen, ChangeMaps.setBlock]
    · have : enrD (es ++ [⟨k, v, clk⟩]) = (enrD es).push { key := .int .i64 (k : Int), val := .int .i64 v, born := clk } := by simp [enrD, entD]
      rw [this]
      exact (heap_set hb).1
    · refine ⟨fun y hy => ?_, ?_, ?_⟩
      · rcases List.mem_append.1 hy with hy | hy
        · have := hok.old y hy; omega
        · rw [List.mem_singleton] at hy; subst hy; exact Nat.lt_succ_self _
      · rw [List.map_append, List.nodup_append]
        refine ⟨hok.stamps, by simp, fun a ha c hc => ?_⟩
        obtain ⟨y, hy, rfl⟩ := List.mem_map.1 ha
        simp only [List.map_cons, List.map_nil, List.mem_singleton] at hc
        have := hok.old y hy; omega
      · rw [List.map_append, List.nodup_append]
        refine ⟨hok.keys, by simp, fun a ha c hc => ?_⟩
        obtain ⟨y, hy, rfl⟩ := List.mem_map.1 ha
        simp only [List.map_cons, List.map_nil, List.mem_singleton] at hc
        rw [hc]
        exact h2 y hy
    · intro n
      by_cases hn : n = k
      · subst hn
        have : es.find? (fun x => decide (x.k = n)) = none := List.find?_eq_none.2 (fun x hx => by simpa using h2 x hx)
        simp [getED, List.find?_append, this]
      · show _ = if n = k then some v else f n
        rw [if_neg hn, ← hf n]
        unfold getED
        rw [List.find?_append]
        have : [(⟨k, v, clk⟩ : EntD)].find? (fun x => decide (x.k = n)) = none := by simp [Ne.symm hn]
        rw [this]
        simp
  · have hj : j < es.length := (List.getElem?_eq_some_iff.1 h2).1
    have hx : es[j] = x := (List.getElem?_eq_some_iff.1 h2).2
    have hje : (enrD es)[j]? = some (entD x) := by simp [enrD, h2]
    have hset : (enrD es).modify j (fun e => { e with key := .int .i64 (x.k : Int), val := .int .i64 v }) = enrD (es.set j ⟨x.k, v, x.born⟩) := by
      apply Array.ext'
      apply List.ext_getElem?
      intro n
      simp only [enrD, List.getElem?_map]
      by_cases hn : j = n
      · subst hn
        simp [hj, hx, entD]
      · simp [hn]
    refine ⟨ChangeMaps.setBlock W b (.map (enrD (es.set j ⟨x.k, v, x.born⟩)) clk), ?_, ⟨es.set j ⟨x.k, v, x.born⟩, clk, ⟨(heap_set hb).1, ?_⟩, ?_⟩, frn_setD, by simp [ChangeMaps.setBlock]⟩
    · simp [Instr.mapUpdate, run_underlying hT, MapKept.run_getObj_map hb, run_checkKey hK hk, run_findKey hK (l := (enrD es).toList) (a := some (j, .int .i64 x.v)) (by simpa [enrD] using h1), hje, entD, run_keyThatStays hk, run_setObj_map _ hb, Result.andThen, ChangeMaps.setBlock, ← hset]
    · have hmk : (es.set j ⟨x.k, v, x.born⟩).map (·.k) = es.map (·.k) := by
        apply List.ext_getElem?
        intro n
        simp only [List.getElem?_map, List.getElem?_set]
        by_cases hn : j = n
        · subst hn; simp [hj, hx]
        · simp [hn]
      have hmb : (es.set j ⟨x.k, v, x.born⟩).map (·.born) = es.map (·.born) := by
        apply List.ext_getElem?
        intro n
        simp only [List.getElem?_map, List.getElem?_set]
        by_cases hn : j = n
        · subst hn; simp [hj, hx]
        · simp [hn]
      refine ⟨fun y hy => ?_, by rw [hmb]; exact hok.stamps, by rw [hmk]; exact hok.keys⟩
      rcases List.mem_or_eq_of_mem_set hy with hy | rfl
      · exact hok.old y hy
      · exact hok.old x (List.mem_of_getElem? h2)
    · intro n
      have hk2 : ((es.set j ⟨x.k, v, x.born⟩).map (·.k)).Nodup := by
        have hmk : (es.set j ⟨x.k, v, x.born⟩).map (·.k) = es.map (·.k) := by
          apply List.ext_getElem?
          intro n
          simp only [List.getElem?_map, List.getElem?_set]
          by_cases hn : j = n
          · subst hn; simp [hj, hx]
          · simp [hn]
        rw [hmk]; exact hok.keys
      by_cases hn : n = x.k
      · subst hn
        show _ = if x.k = x.k then some v else f x.k
        rw [if_pos rfl]
        exact getE_memD hk2 (x := ⟨x.k, v, x.born⟩) (List.mem_set hj _)
      · show _ = if n = x.k then some v else f n
        rw [if_neg hn, ← hf n]
        cases hg : getED es n with
        | none =>
          refine getE_noneD (fun y hy e => ?_)
          rcases List.mem_or_eq_of_mem_set hy with hy | rfl
          · rw [← e, getE_memD hok.keys hy] at hg; cases hg
          · exact hn e.symm
        | some u =>
          obtain ⟨y, hy, rfl, rfl⟩ := getE_someD hg
          obtain ⟨i, hi, he⟩ := List.mem_iff_getElem.1 hy
          have hij : j ≠ i := fun e => by subst e; rw [hx] at he; exact hn (by rw [he])
          have hy2 : y ∈ es.set j ⟨x.k, v, x.born⟩ := by
            rw [List.mem_iff_getElem]
            exact ⟨i, by simpa using hi, by rw [List.getElem_set_ne hij]; exact he⟩
          exact getE_memD hk2 hy2
end
end Go.Proofs.Ytenmogokbelahaa
