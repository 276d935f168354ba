/- The walks of the memory: maps.Equal. -/
import Derived.Test.YtaflbfmlajbjcaaPmemO
namespace Go.Proofs.Ytaflbfmlajbjcaa
open Go Go.RowKit Go.BigFrame

theorem sub_len : ∀ {l1 l2 : List Nat}, l1.Nodup → (∀ x ∈ l1, x ∈ l2) → l1.length ≤ l2.length
  | [], _, _, _ => Nat.zero_le _
  | a :: t, l2, hn, hs => by
    rw [List.nodup_cons] at hn
    have ha : a ∈ l2 := hs a (List.mem_cons_self)
    have h1 : ∀ x ∈ t, x ∈ l2.erase a := fun x hx => (List.mem_erase_of_ne (fun e => hn.1 (by rw [← e]; exact hx))).2 (hs x (List.mem_cons_of_mem _ hx))
    have h2 := sub_len hn.2 h1
    rw [List.length_erase_of_mem ha] at h2
    have h3 : 0 < l2.length := List.length_pos_of_mem ha
    rw [List.length_cons]
    omega
theorem sub_eq : ∀ {l1 l2 : List Nat}, l1.Nodup → (∀ x ∈ l1, x ∈ l2) → l2.length ≤ l1.length → ∀ x ∈ l2, x ∈ l1
  | [], l2, _, _, hl, x, hx => by
    have := List.length_pos_of_mem hx
    simp at hl
    rw [hl] at hx
    cases hx
  | a :: t, l2, hn, hs, hl, x, hx => by
    rw [List.nodup_cons] at hn
    have ha : a ∈ l2 := hs a (List.mem_cons_self)
    by_cases e : x = a
    · rw [e]; exact List.mem_cons_self
    · have h1 : ∀ x ∈ t, x ∈ l2.erase a := fun x hx => (List.mem_erase_of_ne (fun e => hn.1 (by rw [← e]; exact hx))).2 (hs x (List.mem_cons_of_mem _ hx))
      have h2 : (l2.erase a).length ≤ t.length := by
        rw [List.length_erase_of_mem ha]
        rw [List.length_cons] at hl
        omega
      exact List.mem_cons_of_mem _ (sub_eq hn.2 h1 h2 x ((List.mem_erase_of_ne e).2 hx))
theorem mem_keys {es : List Ent} {k : Nat} : k ∈ es.map (·.k) ↔ (getE es k).isSome = true := by
  constructor
  · intro h
    obtain ⟨x, hx, rfl⟩ := List.mem_map.1 h
    unfold getE
    rw [Option.isSome_map]
    exact List.find?_isSome.2 ⟨x, hx, by simp⟩
  · intro h
    obtain ⟨v, hv⟩ := Option.isSome_iff_exists.1 h
    obtain ⟨x, hx, rfl, -⟩ := getE_some hv
    exact List.mem_map_of_mem hx
theorem maps_eq {es fs : List Ent} {ce : Nat} (he : OkE es ce) (hl : es.length = fs.length) (h : ∀ x ∈ es, getE fs x.k = some x.v) (k : Nat) : getE es k = getE fs k := by
  have h1 : ∀ n ∈ es.map (·.k), n ∈ fs.map (·.k) := fun n hn => by
    obtain ⟨x, hx, rfl⟩ := List.mem_map.1 hn
    rw [mem_keys, h x hx]; rfl
  have h2 := sub_eq he.keys h1 (by simp; omega)
  cases hg : getE fs k with
  | some v =>
    have hm := h2 k (mem_keys.2 (by rw [hg]; rfl))
    obtain ⟨x, hx, rfl⟩ := List.mem_map.1 hm
    rw [h x hx] at hg
    cases hg
    exact getE_mem he.keys hx
  | none =>
    cases hg2 : getE es k with
    | none => rfl
    | some v =>
      have := h1 k (mem_keys.2 (by rw [hg2]; rfl))
      rw [mem_keys, hg] at this
      cases this
theorem maps_len {es fs : List Ent} {ce cf : Nat} (he : OkE es ce) (hf : OkE fs cf) (h : ∀ k, getE es k = getE fs k) : es.length = fs.length := by
  have h1 := sub_len he.keys (l2 := fs.map (·.k)) (fun n hn => by rw [mem_keys] at hn ⊢; rw [← h]; exact hn)
  have h2 := sub_len hf.keys (l2 := es.map (·.k)) (fun n hn => by rw [mem_keys] at hn ⊢; rw [h]; exact hn)
  simp at h1 h2
  omega
theorem q_len {W : World} {b : Nat} {es : List Ent} {clk : Nat} (h : QRaw W b es clk) (ty : TypeId) : (Builtin.len_ #[62] ty #[.map (some b)]).run Try.prog W = .ok (.int .i64 (es.length : Int)) W := by
  have hT : Try.prog.underlying 62 = some (.map 3 96) := by kernel_rfl
  simp [Builtin.len_, run_underlying hT, MapKept.run_getObj_map h.1, goInt, Result.andThen, enr]
theorem list_load_lineW {w : World} {ops : Array Oper} {rest : List Oper} {op : Oper} {a : Act} {Q : Exit → Act → World → Prop} (hw : Region.wanted op (yielded ops a.tmps) = true) (x : Operand) (ho : op.op = .load 96 x)
    {g o : Nat} (hx : a.eval x = .pointer (some ⟨g, o, none⟩)) {v : V8} (hc : w.rangeAt g o (ec v)) (h : wpList Try.prog ops Q rest (a.put op.dst (lineV v)) w) : wpList Try.prog ops Q (op :: rest) a w :=
  wpList_want hw (fun K hK => wp_load_mid 96 x ho g o hx (ec v) (.array 8 36) hc (by kernel_rfl) rfl (by rw [ec_len]; kernel_rfl) (hK _ _ h))
theorem list_neq_lineW {w : World} {ops : Array Oper} {rest : List Oper} {op : Oper} {a : Act} {Q : Exit → Act → World → Prop} (hw : Region.wanted op (yielded ops a.tmps) = true) (x y : Operand) {ty : TypeId} (ho : op.op = .binOp .neq 96 x y ty)
    {u v : V8} {r : Bool} (hx : a.eval x = lineV u) (hy : a.eval y = lineV v) (hr : decide (u ≠ v) = r) (h : wpList Try.prog ops Q rest (a.put op.dst (.bool r)) w) : wpList Try.prog ops Q (op :: rest) a w :=
  wpList_want hw (fun K hK => by
    have hl := run_neq_line hr x y w
    unfold Oper.wp execOp
    simp only [Sem.run_bind] at hl
    simp only [ho, hx, hy, Sem.run_bind, hl, Sem.run_pure, Result.andThen_ok]
    exact hK _ _ h)
theorem RngAt.keep {W W' : World} {b r clk : Nat} {es : List Ent} {seen : List Nat} (h : RngAt W b r es clk seen) (h1 : W'.heap[b]? = W.heap[b]?) (h2 : W'.heap[r]? = W.heap[r]?) : RngAt W' b r es clk seen :=
  ⟨⟨h1.trans h.1.1, h.1.2⟩, h2.trans h.2⟩
set_option maxRecDepth 100000 in
set_option maxHeartbeats 8000000 in
theorem equalQ_any {b1 b2 : Nat} {f1 f2 : Nat → Option V8} (w : World) (h1 : QAt w b1 f1) (h2 : QAt w b2 f2) :
    Calls Try.prog 67 #[.map (some b1), .map (some b2)] w fun e w' => ∃ r, e = .returned (.bool r) ∧ (r = true ↔ ∀ k, f1 k = f2 k) ∧ Below w.heap.size w w' := by
  obtain ⟨es, clk, hq1, hf1⟩ := h1
  obtain ⟨fs, clf, hq2, hf2⟩ := h2
  have hl1 := fun ty => q_len hq1 ty
  have hl2 := fun ty => q_len hq2 ty
  have hlt1 : b1 < w.heap.size := (Array.getElem?_eq_some_iff.1 hq1.1).1
  have hlt2 : b2 < w.heap.size := (Array.getElem?_eq_some_iff.1 hq2.1).1
  have hiff : (∀ k, f1 k = f2 k) ↔ (∀ k, getE es k = getE fs k) := ⟨fun h k => by rw [hf1, hf2]; exact h k, fun h k => by rw [← hf1, ← hf2]; exact h k⟩
  by_cases hlen : es.length = fs.length
  · obtain ⟨hrange, hrng⟩ := q_range (P := Try.prog) (T := 62) (K := 3) (E := 96) (by kernel_rfl) hq1
    obtain ⟨W1, hW1⟩ : ∃ W1, w.alloc (.mapIter (some b1) clk #[] clk) = W1 := ⟨_, rfl⟩
    rw [hW1] at hrange hrng
    have hb1 : Below w.heap.size w W1 := by rw [← hW1]; exact (Below.refl _ _).alloc (Nat.le_refl _) _
    have hr1 : w.heap.size < W1.heap.size := by rw [← hW1]; simp
    have HI := Lib.hid (And.intro hrng (And.intro hb1 hr1))
    have HQ := Lib.hid (And.intro hq1 hq2)
    have HF := Lib.hid hiff
    have HLT := Lib.hid (And.intro hlt1 hlt2)
    have HEN := Lib.hid hlen
    have hne : ((es.length : Int) != (fs.length : Int)) = false := by rw [hlen]; exact bne_self_eq_false ..
    clear hrng hb1 hr1 hq1 hq2 hf1 hf2 hiff hlt1 hlt2 hlen hW1
    go_enter Try.func67, Try.ntmps67
    go_wp2_with fail
    clear hrange hl1 hl2 hne
    go_loopw [] (fun wr => ∃ seen, RngAt wr b1 w.heap.size es clk seen ∧ (∀ x ∈ es, x.born ∈ seen → getE fs x.k = some x.v) ∧ Below w.heap.size w wr) (fun wr => leftN es (match wr.heap[w.heap.size]? with | some (.mapIter _ _ seen _) => seen.toList | _ => []))
    case atStart => exact ⟨[], HI.out.1, fun _ _ h => (by cases h), HI.out.2.1⟩
    case round =>
      obtain ⟨seen, hrg, hno, hb⟩ := hrel
      have hm : (match wr.heap[w.heap.size]? with | some (.mapIter _ _ seen _) => seen.toList | _ => []) = seen := by rw [hrg.2]
      rw [hm]
      rcases q_next (P := Try.prog) hrg 0 with ⟨hall, hnext⟩ | ⟨x, hx, hxn, W2, hnext, hrng2, hentry, hf2, hsz2⟩
      · have HR := Lib.hid (show ∀ k, getE es k = getE fs k from maps_eq HQ.out.1.2 HEN.out (fun x hx => hno x hx (hall x hx)))
        have HB := Lib.hid hb
        clear hrg hm hall hno hb
        go_wp2_with fail
        go_ret
        exact ⟨true, rfl, by rw [HF.out]; exact ⟨fun _ => HR.out, fun _ => rfl⟩, HB.out⟩
      · have hwl : w.heap.size < wr.heap.size := (Array.getElem?_eq_some_iff.1 hrg.2).1
        have hb2 : Below w.heap.size w W2 := ⟨hf2.os.trans hb.os, hf2.tape.trans hb.tape, hf2.output.trans hb.output, Nat.le_trans hb.size hf2.size, fun y hy => (hf2.block y (Nat.lt_trans hy hwl) (by omega)).trans (hb.block y hy)⟩
        obtain ⟨WA, hWA, hbA, hzA, htA⟩ := new_var W2
        obtain ⟨WB, hWB⟩ : ∃ WB, WA.setCells W2.heap.size 0 (ec x.v) = WB := ⟨_, rfl⟩
        have hrB : WB.rangeAt W2.heap.size 0 (ec x.v) := by rw [← hWB]; exact World.rangeAt_setCells_same _ _ _ _ (by rw [ec_len]; exact htA)
        have hbB : Below W2.heap.size W2 WB := by rw [← hWB]; exact below_setCells hbA (Nat.le_refl _)
        have hzB : WB.heap.size = W2.heap.size + 1 := by rw [← hWB, setCells_size, hzA]
        have hq2B : QRaw WB b2 fs clf := ⟨(hbB.block b2 (by have := HLT.out.2; omega)).trans ((hb2.block b2 HLT.out.2).trans HQ.out.2.1), HQ.out.2.2⟩
        have hlook := q_look (P := Try.prog) (T := 62) (K := 3) (E := 96) (by kernel_rfl) (by kernel_rfl) hq2B x.k zero_line
        obtain ⟨g, hg⟩ : ∃ g, getE fs x.k = g := ⟨_, rfl⟩
        rw [hg] at hlook
        obtain ⟨z, hz⟩ : ∃ z, g.getD zero8 = z := ⟨_, rfl⟩
        rw [hz] at hlook
        obtain ⟨WC, hWC, hbC, hzC, htC⟩ := new_var WB
        rw [hzB] at htC
        obtain ⟨WD, hWD⟩ : ∃ WD, WC.setCells (W2.heap.size + 1) 0 (ec z) = WD := ⟨_, rfl⟩
        have hrD : WD.rangeAt (W2.heap.size + 1) 0 (ec z) := by rw [← hWD]; exact World.rangeAt_setCells_same _ _ _ _ (by rw [ec_len]; exact htC)
        have hbD : Below WB.heap.size WB WD := by rw [← hWD]; exact below_setCells hbC (by omega)
        have hrBD := rangeAt_below hrB hbD (by omega)
        have hbWD : Below w.heap.size w WD := hb2.trans ((hbB.mono hb2.size).trans (hbD.mono (Nat.le_trans hb2.size hbB.size)))
        have hrgD : RngAt WD b1 w.heap.size es clk (seen ++ [x.born]) := by
          have e : ∀ y, y < W2.heap.size → WD.heap[y]? = W2.heap[y]? := fun y hy => (hbD.block y (by omega)).trans (hbB.block y hy)
          exact hrng2.keep (e _ (by have := hb2.size; have := HLT.out.1; omega)) (e _ (by omega))
        have HR := Lib.hid (And.intro htA (And.intro htC (And.intro hrBD hrD)))
        have HW := Lib.hid (And.intro hWB hWD)
        have HX := Lib.hid (And.intro hx hxn)
        have HN := Lib.hid hno
        have HG := Lib.hid hg
        have HB := Lib.hid (And.intro hbWD hrgD)
        have HLTN := Lib.hid (leftN_lt hx hxn)
        have HM2 := Lib.hid (fun (w4 : World) (h : RngAt w4 b1 w.heap.size es clk (seen ++ [x.born])) => show (match w4.heap[w.heap.size]? with | some (.mapIter _ _ seen _) => seen.toList | _ => []) = seen ++ [x.born] by rw [h.2])
        unfold lineV at hentry hlook
        clear hrg hm hno hb hwl hb2 hbA htA hrB hbB hq2B hg hbC htC hrD hbD hrBD hbWD hrgD hWB hWD hx hxn hrng2 hf2 hsz2 hzA hzC
        cases g with
        | none =>
          clear hz
          have HFAIL := Lib.hid (show ¬ ∀ k, getE es k = getE fs k from fun h => by
            have e1 := getE_mem HQ.out.1.2.keys HX.out.1
            rw [h, HG.out] at e1
            cases e1)
          go_wp2_with (first
            | (refine list_store_line rfl (.tmp 6) (.tmp 20) rfl rfl rfl HR.out.1 ?_; rw [HW.out.1])
            | (refine list_store_line rfl (.tmp 7) (.tmp 25) rfl rfl rfl HR.out.2.1 ?_; rw [HW.out.2]))
          go_ret
          exact ⟨false, rfl, by rw [HF.out]; exact ⟨fun h => Bool.noConfusion h, fun h => absurd h HFAIL.out⟩, HB.out.1⟩
        | some v =>
          obtain rfl : v = z := hz
          by_cases hxv : x.v = v
          · have HNE := Lib.hid (decide_eq_false (fun h : x.v ≠ v => h hxv))
            have HXV := Lib.hid hxv
            clear hxv
            go_wp2_with (first
              | (refine list_store_line rfl (.tmp 6) (.tmp 20) rfl rfl rfl HR.out.1 ?_; rw [HW.out.1])
              | (refine list_store_line rfl (.tmp 7) (.tmp 25) rfl rfl rfl HR.out.2.1 ?_; rw [HW.out.2])
              | (refine list_load_lineW (by rfl) (.tmp 6) rfl rfl HR.out.2.2.1 ?_)
              | (refine list_load_lineW (by rfl) (.tmp 7) rfl rfl HR.out.2.2.2 ?_)
              | (refine list_neq_lineW (by rfl) (.tmp 30) (.tmp 31) rfl rfl rfl HNE.out ?_))
            go_roundw
            case rel =>
              refine ⟨seen ++ [x.born], HB.out.2, fun y hy hyb => ?_, HB.out.1⟩
              rcases List.mem_append.1 hyb with hyb | hyb
              · exact HN.out y hy hyb
              · rw [List.mem_singleton] at hyb
                rw [born_uniq HQ.out.1.2 HX.out.1 hy hyb, HG.out, HXV.out]
            case measure =>
              rw [HM2.out _ HB.out.2]
              exact HLTN.out
          · have HNE := Lib.hid (decide_eq_true (show x.v ≠ v from hxv))
            have HFAIL := Lib.hid (show ¬ ∀ k, getE es k = getE fs k from fun h => by
              have e1 := getE_mem HQ.out.1.2.keys HX.out.1
              rw [h, HG.out] at e1
              cases e1
              exact hxv rfl)
            clear hxv
            go_wp2_with (first
              | (refine list_store_line rfl (.tmp 6) (.tmp 20) rfl rfl rfl HR.out.1 ?_; rw [HW.out.1])
              | (refine list_store_line rfl (.tmp 7) (.tmp 25) rfl rfl rfl HR.out.2.1 ?_; rw [HW.out.2])
              | (refine list_load_lineW (by rfl) (.tmp 6) rfl rfl HR.out.2.2.1 ?_)
              | (refine list_load_lineW (by rfl) (.tmp 7) rfl rfl HR.out.2.2.2 ?_)
              | (refine list_neq_lineW (by rfl) (.tmp 30) (.tmp 31) rfl rfl rfl HNE.out ?_))
            go_ret
            exact ⟨false, rfl, by rw [HF.out]; exact ⟨fun h => Bool.noConfusion h, fun h => absurd h HFAIL.out⟩, HB.out.1⟩
  · have hne : ((es.length : Int) != (fs.length : Int)) = true := by simp only [bne_iff_ne]; omega
    have HFAIL := Lib.hid (show ¬ ∀ k, f1 k = f2 k from fun h => hlen (maps_len hq1.2 hq2.2 (hiff.1 h)))
    clear hq1 hq2 hf1 hf2 hiff hlt1 hlt2 hlen
    go_enter Try.func67, Try.ntmps67
    go_wp2_with fail
    go_ret
    exact ⟨false, rfl, ⟨fun h => Bool.noConfusion h, fun h => absurd h HFAIL.out⟩, Below.refl _ _⟩
end Go.Proofs.Ytaflbfmlajbjcaa
