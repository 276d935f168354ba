/- The walks of the memory: Crash. -/
import Derived.Test.YtaflbfmlajbjcaaPmemL
import Derived.Sort.CutIn
namespace Go.Proofs.Ytaflbfmlajbjcaa
open Go Go.RowKit
attribute [local go_sem] Oper.semAt_some

def takeL (x : Ln) (b : BitVec 8) : V8 := if b.toNat % 3 = 0 then x.lasts else if b.toNat % 3 = 1 then x.q.getD x.lasts else x.now
def crashL (m : Mem) (pk : List (BitVec 8)) (i : Nat) (x : Ln) : V8 := if isOpen m i = true then (match pk[(opensT m i).length]? with | some b => takeL x b | none => x.lasts) else x.lasts
def allK (m : Mem) (pk : List (BitVec 8)) (k : Nat) : List V8 := m.mapIdx (fun i x => if (opensT m i).length < k then crashL m pk i x else x.lasts)
def crashV (m : Mem) (pk : List (BitVec 8)) : List V8 := m.mapIdx (crashL m pk)
def Mem.crash (m : Mem) (pk : List (BitVec 8)) : Mem := Mem.of (crashV m pk)
theorem allK_len (m : Mem) (pk : List (BitVec 8)) (k : Nat) : (allK m pk k).length = m.length := by simp [allK]
theorem crashV_len (m : Mem) (pk : List (BitVec 8)) : (crashV m pk).length = m.length := by simp [crashV]
theorem allK_zero (m : Mem) (pk : List (BitVec 8)) : allK m pk 0 = m.lst := by
  apply List.ext_getElem
  · simp [allK, Mem.lst]
  · intro i h1 h2
    simp [allK, Mem.lst]
theorem allK_all (m : Mem) (pk : List (BitVec 8)) : allK m pk m.opens.length = crashV m pk := by
  apply List.ext_getElem
  · simp [allK, crashV]
  · intro i h1 h2
    simp only [allK, crashV, List.getElem_mapIdx]
    by_cases h : (opensT m i).length < m.opens.length
    · rw [if_pos h]
    · rw [if_neg h]
      by_cases ho : isOpen m i = true
      · have hi : i < m.length := by simpa [allK] using h1
        obtain ⟨hl, -⟩ := opensT_get m hi ho
        exact absurd hl h
      · unfold crashL
        rw [if_neg ho]
theorem opens_at (m : Mem) : ∀ (n k : Nat) (h : k < (opensT m n).length), (opensT m n)[k] < n ∧ isOpen m (opensT m n)[k] = true ∧ (opensT m (opensT m n)[k]).length = k
  | 0, k, h => by simp [opensT] at h
  | n + 1, k, h => by
    have e := opensT_succ m n
    by_cases ho : isOpen m n = true
    · rw [if_pos ho] at e
      simp only [e] at h ⊢
      by_cases hk : k < (opensT m n).length
      · rw [List.getElem_append_left hk]
        have := opens_at m n k hk
        exact ⟨by omega, this.2⟩
      · have hk2 : k = (opensT m n).length := by
          rw [List.length_append, List.length_singleton] at h
          omega
        subst hk2
        rw [List.getElem_append_right (Nat.le_refl _)]
        simp [ho]
    · rw [if_neg ho] at e
      simp only [e] at h ⊢
      have := opens_at m n k h
      exact ⟨by omega, this.2⟩
theorem allK_succ (m : Mem) (pk : List (BitVec 8)) (k a : Nat) (h : k < m.opens.length) (ha : m.opens[k] = a) : ∃ hl : a < m.length, allK m pk (k + 1) = (allK m pk k).set a (match pk[k]? with | some b => takeL m[a] b | none => m[a].lasts) := by
  obtain ⟨h1, h2, h3⟩ := opens_at m m.length k h
  have ha' : (opensT m m.length)[k]'h = a := ha
  rw [ha'] at h1 h2 h3
  refine ⟨h1, ?_⟩
  apply List.ext_getElem
  · simp [allK]
  · intro i hi hi2
    have him : i < m.length := by simpa [allK] using hi
    rw [List.getElem_set]
    by_cases hia : a = i
    · subst hia
      rw [if_pos rfl]
      simp only [allK, List.getElem_mapIdx]
      rw [if_pos (by omega)]
      unfold crashL
      rw [if_pos h2, h3]
    · rw [if_neg hia]
      simp only [allK, List.getElem_mapIdx]
      by_cases hk : (opensT m i).length < k
      · rw [if_pos hk, if_pos (by omega)]
      · rw [if_neg hk]
        by_cases hk2 : (opensT m i).length < k + 1
        · rw [if_pos hk2]
          unfold crashL
          by_cases ho : isOpen m i = true
          · obtain ⟨hl, hg⟩ := opensT_get m him ho
            have hkk : (opensT m i).length = k := by omega
            simp only [hkk] at hg
            exact absurd (ha'.symm.trans hg) hia
          · rw [if_neg ho]
        · rw [if_neg hk2]
theorem allK_some (m : Mem) (pk : List (BitVec 8)) (k a : Nat) (h : k < m.opens.length) (ha : m.opens[k] = a) (hk : k < pk.length) : ∃ hl : a < m.length, allK m pk (k + 1) = (allK m pk k).set a (takeL m[a] pk[k]) := by
  obtain ⟨hl, e⟩ := allK_succ m pk k a h ha
  refine ⟨hl, ?_⟩
  rw [e, List.getElem?_eq_getElem hk]
theorem allK_none (m : Mem) (pk : List (BitVec 8)) (k a : Nat) (h : k < m.opens.length) (ha : m.opens[k] = a) (hk : ¬ k < pk.length) : allK m pk (k + 1) = allK m pk k := by
  obtain ⟨hl, e⟩ := allK_succ m pk k a h ha
  rw [e, List.getElem?_eq_none (by omega)]
  obtain ⟨h1, h2, h3⟩ := opens_at m m.length k h
  have ha' : (opensT m m.length)[k]'h = a := ha
  rw [ha'] at h3
  have hx : (allK m pk k)[a]'(by rw [allK_len]; exact hl) = m[a].lasts := by
    simp only [allK, List.getElem_mapIdx]
    rw [if_neg (by omega)]
  show (allK m pk k).set a m[a].lasts = _
  rw [← hx, List.set_getElem_self]
theorem wpIn_store_line {F : Fence} {nn : Nat} {w : World} {o : Oper} {a : Act} {K : Act → World → Prop} {Q : Exit → Act → World → Prop} (x y : Operand) (ho : o.op = .store 96 x y)
    {g f : Nat} (hx : a.eval x = .pointer (some ⟨g, f, none⟩)) {v : V8} (hy : a.eval y = lineV v) (ht : w.there g f 8) (h : K (a.put o.dst undef) (w.setCells g f (ec v))) : o.wpIn F nn Try.prog a w K Q := by
  have hr : (Instr.storeAt 96 (.pointer (some ⟨g, f, none⟩)) (lineV v)).run Try.prog w = .ok () (w.setCells g f (ec v)) := store_line v ht
  unfold Oper.wpIn
  refine ⟨?_, ?_⟩
  · simp [Oper.about, ho]
  · rw [Oper.semAt_plain F _ _ (by rw [ho]; intro c hc'; cases hc')]
    unfold execOp
    simp only [ho, hx, hy, Sem.run_bind, hr, Result.andThen_ok, Sem.run_pure]
    exact h
set_option maxRecDepth 100000 in
set_option maxHeartbeats 8000000 in
theorem crash_any {O : Nat} {m : Mem} {N : Nat → Prop} (pp : Option Addr) (cp : Nat) (pk : List (BitVec 8)) (w : World) (h : MAt w O m N) (hN : ∀ x, N x → x < w.heap.size) (hpk : RdL w.heap.size w pp cp vb pk) (hpl : pk.length ≤ 1000000) :
    Calls Try.prog 24 #[.pointer (some ⟨O, 0, none⟩), .slice pp pk.length cp] w fun e w' => ∃ O' N', e = .returned (.tuple #[.pointer (some ⟨O', 0, none⟩), .int .i64 0]) ∧ MAt w' O' (m.crash pk) N' ∧ (∀ x, N' x → w.heap.size ≤ x ∧ x < w'.heap.size) ∧ Below w.heap.size w w' := by
  obtain ⟨p1, c1, p2, c2, b, n, hr⟩ := h
  have hln := hr.len
  have hn0 := hr.pos
  have hnx := hr.le
  obtain ⟨L, hL⟩ : ∃ L, pk.length = L := ⟨_, rfl⟩
  obtain ⟨wb, hwb⟩ : ∃ wb, (w.alloc (.cells #[.pointer (some ⟨O, 0, none⟩)] 26)).alloc (.cells #[.slice pp L cp] 45) = wb := ⟨_, rfl⟩
  have hzb : wb.heap.size = w.heap.size + 2 := by rw [← hwb]; simp
  have hbb : Below w.heap.size w wb := by rw [← hwb]; exact ((Below.refl _ _).alloc (Nat.le_refl _) _).alloc (by simp) _
  have hx0 : Box wb w.heap.size 26 (.pointer (some ⟨O, 0, none⟩)) := by rw [← hwb]; exact (Box.new _ _ _).alloc _
  have hx1 : Box wb (w.heap.size + 1) 45 (.slice pp L cp) := by
    have := Box.new (w.alloc (.cells #[.pointer (some ⟨O, 0, none⟩)] 26)) 45 (.slice pp L cp)
    rw [World.size_alloc] at this
    rw [← hwb]; exact this
  have hrb := hr.keep (fun x _ hl => hbb.block x hl)
  have HNN := Lib.hid (noneM_any wb hrb.cells.1 hn0)
  have hcl := cloneL_any p2 c2 m.lst wb (hrb.ll.rds ec_len) (by rw [lst_len, hln]; exact hn0) (by rw [lst_len, hln]; omega)
  rw [lst_len, hln] at hcl
  have HCLN := Lib.hid hcl
  have q0 := hx0.cell
  have q1 := hrb.cells.2.1
  have HWB := Lib.hid (And.intro hwb (And.intro hzb hbb))
  have H0 := Lib.hid (And.intro hr (And.intro hN (And.intro hx0 hx1)))
  have HPK := Lib.hid hpk
  have HLN := Lib.hid hln
  have HLL := Lib.hid hL
  rw [hL]
  clear hwb hzb hbb hx0 hx1 hrb hcl hr hN hpk hln
  refine (callsIn_wide (n := 0)).1 ?_
  refine callsIn_of_wp_marks Try.func24 rfl trivial ?_ rfl
  simp only [Try.ntmps24, List.size_toArray, List.length_cons, List.length_nil, Nat.reduceAdd, Nat.reduceSub, Array.replicate_succ, Array.replicate_zero, List.push_toArray, List.append_toArray, List.nil_append, List.cons_append]
  gi_wp2
  rw [HWB.out.1]
  refine wcall HNN.out ?_
  rintro e w' ⟨rfl, rfl⟩
  gi_wp2
  refine wcall HCLN.out ?_
  rintro e w1 ⟨pa, ca, rfl, ho1, hp1, hb1⟩
  have hca : 0 < ca := by have := (OwnG.rds ec_len ho1).1; rw [lst_len, HLN.out] at this; omega
  obtain ⟨ga, oa, rfl⟩ : ∃ ga oa, pa = some ⟨ga, oa, none⟩ := by
    rcases (OwnG.rds ec_len ho1).2.2 with h | ⟨ga, oa, h, -⟩
    · omega
    · exact ⟨ga, oa, h⟩
  have hbw1 : Below w.heap.size w w1 := HWB.out.2.2.trans (hb1.mono HWB.out.2.2.size)
  have hz1 : w.heap.size + 2 ≤ w1.heap.size := by have := hb1.size; have := HWB.out.2.1; omega
  have hx0 := H0.out.2.2.1.below hb1 H0.out.2.2.1.lt
  have hx1 := H0.out.2.2.2.below hb1 H0.out.2.2.2.lt
  obtain ⟨S1, hS1⟩ : ∃ S1, w1.heap.size = S1 := ⟨_, rfl⟩
  obtain ⟨wc, hwc⟩ : ∃ wc, (w1.alloc (.cells #[.slice (some ⟨ga, oa, none⟩) n ca] 61)).alloc (.cells #[.int .i64 0] 3) = wc := ⟨_, rfl⟩
  have hzc : wc.heap.size = S1 + 2 := by rw [← hwc, ← hS1]; simp
  have hbc : Below w1.heap.size w1 wc := by rw [← hwc]; exact ((Below.refl _ _).alloc (Nat.le_refl _) _).alloc (by simp) _
  have hx6 : Box wc S1 61 (.slice (some ⟨ga, oa, none⟩) n ca) := by rw [← hwc, ← hS1]; exact (Box.new _ _ _).alloc _
  have hx7 : Box wc (S1 + 1) 3 (.int .i64 0) := by
    have := Box.new (w1.alloc (.cells #[.slice (some ⟨ga, oa, none⟩) n ca] 61)) 3 (.int .i64 0)
    rw [World.size_alloc, hS1] at this
    rw [← hwc]; exact this
  have hx0c := hx0.below hbc hx0.lt
  have hx1c := hx1.below hbc hx1.lt
  obtain ⟨W0, hW0⟩ : ∃ W0, wc.alloc (.cells #[.pointer (some ⟨O, 0, none⟩)] 26) = W0 := ⟨_, rfl⟩
  have hb0 : Below wc.heap.size wc W0 := by rw [← hW0]; exact (Below.refl _ _).alloc (Nat.le_refl _) _
  have hz0 : W0.heap.size = S1 + 3 := by rw [← hW0]; simp [hzc]
  have hbx : Box W0 (S1 + 2) 26 (.pointer (some ⟨O, 0, none⟩)) := by rw [← hW0, ← hzc]; exact Box.new _ _ _
  have hs : Calls Try.prog 18 #[.pointer (some ⟨O, 0, none⟩)] wc fun e w' => e = .returned (.func (.func 52) #[] #[.pointer (some ⟨S1 + 2, 0, none⟩)]) ∧ W0 = w' := by
    have := openS_any (some ⟨O, 0, none⟩) wc
    rw [hzc, hW0] at this
    exact this
  have hbw : Below w.heap.size w W0 := hbw1.trans ((hbc.mono (by omega)).trans (hb0.mono (by omega)))
  have hb10 : Below w1.heap.size w1 W0 := hbc.trans (hb0.mono (by omega))
  have hM0 : MRaw W0 O p1 c1 p2 c2 b n m N := H0.out.1.keep (fun x _ hl => hbw.block x hl)
  have HS := Lib.hid hs
  have HWC := Lib.hid hwc
  have HP1 := Lib.hid (show ∀ x, inP (some ⟨ga, oa, none⟩) ca x → w.heap.size + 2 ≤ x ∧ x < S1 from fun x hx => ⟨by have := hp1 x hx; have := HWB.out.2.1; omega, by rw [← hS1]; exact ho1.lt hx⟩)
  have HO0 := Lib.hid (show OwnL W0 (some ⟨ga, oa, none⟩) ca (allK m pk 0) by rw [allK_zero]; exact ho1.below hb10)
  have HB0 := Lib.hid (And.intro hbw (And.intro hz0 (show w.heap.size + 2 ≤ S1 by rw [← hS1]; exact hz1)))
  have HX := Lib.hid (And.intro (hx0c.below hb0 hx0c.lt) (And.intro (hx1c.below hb0 hx1c.lt) (And.intro (hx6.below hb0 hx6.lt) (And.intro (hx7.below hb0 hx7.lt) hbx))))
  have HM0 := Lib.hid hM0
  have q2 := hx0c.cell
  have HSX := Lib.hid hS1
  clear hS1 q0 q1 HNN HCLN ho1 hp1 hb1 hbw1 hx0 hx1 hwc hbc hx6 hx7 hx0c hx1c hW0 hb0 hbx hs hbw hb10 hM0
  gi_upto_region 5 with fail
  rw [HSX.out, HWC.out]
  clear HWC
  gi_wp2
  refine wcall HS.out ?_
  rintro e w0 ⟨rfl, rfl⟩
  clear q2
  gi_wp2
  refine rf_law (gf := 52) (lb := #[.pointer (some ⟨S1 + 2, 0, none⟩)]) rfl (enters_of Try.func52 (by kernel_rfl) rfl)
    (open1_iter (S1 + 2) W0 HX.out.2.2.2.2 ⟨_, _, _, _, _, _, HM0.out⟩ (fun x hx => by have := H0.out.2.1 x hx; have := HB0.out.1.size; omega)) (by intro x hx; obtain ⟨i, hi, rfl⟩ := List.mem_iff_getElem.1 hx; rw [encI_get]; rfl) ?hFP
    (fun k T W => Keep (fun b => b = S1 + 1 ∨ inP (some ⟨ga, oa, none⟩) ca b) W0 T W ∧ W.heap[S1 + 1]? = some (.cells #[.int .i64 (k : Int)] 3 (0, 0)) ∧ OwnL W (some ⟨ga, oa, none⟩) ca (allK m pk k))
    (fun _ _ _ _ => False) ?hJ (fun _ _ _ _ _ h _ => h) ?h0 ?hround ?hdone ?hstop
  case hFP =>
    rintro b (rfl | hb)
    · exact HX.out.2.2.2.2.lt
    · have := H0.out.2.1 b hb; have := HB0.out.1.size; omega
  case hJ =>
    rintro k T W W' ⟨h1, h2, h3⟩ hf
    exact ⟨h1.go hf, (h1.own hf (by have := HB0.out.2.1; omega)).trans h2, OwnG.keep h3 (fun x hx => h1.own hf (by have := HP1.out x hx; have := HB0.out.2.1; omega))⟩
  case h0 => exact ⟨Keep.start _ _, HX.out.2.2.2.1, HO0.out⟩
  case hround =>
    rintro l2 k hk T W ⟨hs, hn7, how⟩ hTl hTW hkW
    have hk' : k < m.opens.length := by simpa [encI] using hk
    rw [encI_get]
    obtain ⟨at', hat⟩ : ∃ a, m.opens[k] = a := ⟨_, rfl⟩
    rw [hat]
    have hk9 : k ≤ 20000 := by
      have := opens_lt m m.length
      rw [← opens_T] at this
      have := HLN.out
      omega
    gi_wp2
    refine ⟨Kps.refl _ _, fun W2 hf hsz hk2 _ => ?_⟩
    have hs2 := hs.goSame hf hsz
    have hn72 := (hs.own hf (b := S1 + 1) (by have := HB0.out.2.1; omega)).trans hn7
    have how2 : OwnL W2 (some ⟨ga, oa, none⟩) ca (allK m pk k) := OwnG.keep how (fun x hx => hs.own hf (by have := HP1.out x hx; have := HB0.out.2.1; omega))
    have hlW : W0.heap.size ≤ W2.heap.size := hs2.frn.size
    have hbx : ∀ {B : Nat} {t : TypeId} {v : Value}, Box W0 B t v → B ≠ S1 + 1 → ¬ inP (some ⟨ga, oa, none⟩) ca B → Box W2 B t v := fun hb h1 h2 => hs2.box hb (fun h => h.elim h1 h2)
    have c6 := hbx HX.out.2.2.1 (by omega) (fun h => by have := (HP1.out _ h).2; omega)
    have c2' := hbx HX.out.1 (by have := HB0.out.2.2; omega) (fun h => by have := (HP1.out _ h).1; omega)
    have c3 := hbx HX.out.2.1 (by have := HB0.out.2.2; omega) (fun h => by have := (HP1.out _ h).1; omega)
    have hmm : MAt W2 O m N := ⟨_, _, _, _, _, _, HM0.out.keep (fun x hx hl => hs2.frn.block x hl (fun h => by
      have := H0.out.2.1 x hx
      rcases h with h | h
      · have := HB0.out.2.2; omega
      · have := (HP1.out _ h).1; omega))⟩
    have HMM := Lib.hid hmm
    have hga := HP1.out ga ⟨_, rfl, rfl, hca⟩
    have hT2 : ∀ b, T b → W0.heap.size ≤ b := hs2.old
    have HKP := Lib.hid (show ∀ w4 w5, Below W2.heap.size W2 w4 → Frn (fun x => x = ga) w4 w5 → Keep (fun b => b = S1 + 1 ∨ inP (some ⟨ga, oa, none⟩) ca b) W0 T w5 ∧ Kps (fun b => (b = S1 + 2 ∨ N b) ∨ T b) W2 w5 from fun w4 w5 hb hf => by
      have e : ∀ x, x < W2.heap.size → x ≠ ga → w5.heap[x]? = W2.heap[x]? := fun x hx hn => (hf.block x (Nat.lt_of_lt_of_le hx hb.size) hn).trans (hb.block x hx)
      refine ⟨⟨⟨hf.os.trans (hb.os.trans hs2.frn.os), hf.tape.trans (hb.tape.trans hs2.frn.tape), hf.output.trans (hb.output.trans hs2.frn.output), Nat.le_trans hs2.frn.size (Nat.le_trans hb.size hf.size), fun x hx hn => (e x (Nat.lt_of_lt_of_le hx hlW) (fun h => hn (.inr ⟨_, rfl, h.symm, hca⟩))).trans (hs2.frn.block x hx hn)⟩, hs2.old⟩, ⟨hf.os.trans hb.os, hf.tape.trans hb.tape, hf.output.trans hb.output, Nat.le_trans hb.size hf.size, fun x hx hl => e x hl (fun h => ?_)⟩⟩
      rcases hx with (hx | hx) | hx
      · omega
      · have := H0.out.2.1 x hx; omega
      · have := hT2 x hx; have := HB0.out.2.1; omega)
    have HEND := Lib.hid (show ∀ (w5 : World) (l' : List V8), allK m pk (k + 1) = l' → OwnL w5 (some ⟨ga, oa, none⟩) ca l' ∧ w5.heap[S1 + 1]? = some (.cells #[.int .i64 (k : Int)] 3 (0, 0)) ∧ Keep (fun b => b = S1 + 1 ∨ inP (some ⟨ga, oa, none⟩) ca b) W0 T w5 ∧ Kps (fun b => (b = S1 + 2 ∨ N b) ∨ T b) W2 w5 →
        (Keep (fun b => b = S1 + 1 ∨ inP (some ⟨ga, oa, none⟩) ca b) W0 T (w5.setCell ⟨S1 + 1, 0, none⟩ (.int .i64 ((k : Int) + 1))) ∧ (w5.setCell ⟨S1 + 1, 0, none⟩ (.int .i64 ((k : Int) + 1))).heap[S1 + 1]? = some (.cells #[.int .i64 ((k + 1 : Nat) : Int)] 3 (0, 0)) ∧ OwnL (w5.setCell ⟨S1 + 1, 0, none⟩ (.int .i64 ((k : Int) + 1))) (some ⟨ga, oa, none⟩) ca (allK m pk (k + 1))) ∧ Kps (fun b => (b = S1 + 2 ∨ N b) ∨ T b) W2 (w5.setCell ⟨S1 + 1, 0, none⟩ (.int .i64 ((k : Int) + 1))) from fun w5 l' e ⟨h1, h2, h3, h4⟩ => by
      refine ⟨⟨h3.set ⟨S1 + 1, 0, none⟩ (.inl (.inl rfl)) _, ?_, ?_⟩, h4.setCell ⟨S1 + 1, 0, none⟩ ?_ _⟩
      · have := heap_setCell_same w5 (S1 + 1) 0 _ _ (.int .i64 ((k : Int) + 1)) h2
        simpa using this
      · rw [e]
        exact OwnG.keep h1 fun b hb => heap_setCell_other _ ⟨S1 + 1, 0, none⟩ b _ (fun e => by have := (HP1.out b hb).2; simp only at e; omega)
      · rintro ((h | h) | h)
        · simp only at h; omega
        · have := H0.out.2.1 _ h; simp only at this; have := HB0.out.2.2; omega
        · have := hT2 _ h; simp only at this; have := HB0.out.2.1; omega)
    have HNC := Lib.hid hn72
    have hn7c : W2.cell? ⟨S1 + 1, 0, none⟩ = some (.int .i64 (k : Int)) := by simp [World.cell?, hn72]
    have hn7f : W2.frozen? ⟨S1 + 1, 0, none⟩ = false := by simp [World.frozen?, hn72]
    have q0 := c3.cell
    have HOWN := Lib.hid how2
    have HKS := Lib.hid hs2
    have HBX := Lib.hid (And.intro c6.cell (And.intro c2'.cell (And.intro c3.cell (And.intro hn7c (And.intro c6.lt (And.intro c2'.lt c3.lt))))))
    have HS1 := Lib.hid (show S1 + 1 < W2.heap.size by have := HB0.out.2.1; omega)
    have HGS := Lib.hid (show S1 + 1 ≠ ga by omega)
    have HAT := Lib.hid (show at' < m.length by
      have := (opens_at m m.length k hk').1
      have e : (opensT m m.length)[k]'hk' = at' := hat
      rwa [e] at this)
    have hatn : (at' : Int) < (n : Int) := by have := HAT.out; have := HLN.out; omega
    have HATT := Lib.hid hat
    have HKK := Lib.hid hk'
    clear hf hkW hk2 hs hs2 hn7 hn72 how how2 hbx c6 c2' c3 hmm hT2 hat hga hsz hTW hk hlW
    by_cases hkl : k < L
    · have hkl' : (k : Int) < (L : Int) := by omega
      obtain ⟨bp, op, rfl, hbp, hbc⟩ := HPK.out.at k (by rw [HLL.out]; exact hkl)
      have hbc2 : W2.cell? ⟨bp, op + k, none⟩ = some (vb pk[k]) := (World.cell?_of_block (w := W0) (a := ⟨bp, op + k, none⟩) (HKS.out.frn.block bp (by have := HB0.out.1.size; omega) (fun h => by
        rcases h with h | h
        · have := HB0.out.2.2; omega
        · have := (HP1.out _ h).1; omega))).trans ((HB0.out.1.cell (p := ⟨bp, op + k, none⟩) hbp).trans hbc)
      have HNV := Lib.hid (allK_some m pk k at' HKK.out HATT.out (by rw [HLL.out]; exact hkl))
      obtain ⟨bv, hbv⟩ : ∃ bv, pk[k] = bv := ⟨_, rfl⟩
      rw [hbv] at hbc2
      have HBV := Lib.hid hbv
      obtain ⟨B, hB⟩ : ∃ B : Nat, bv.toNat = B := ⟨_, rfl⟩
      have hbc3 : W2.cell? ⟨bp, op + k, none⟩ = some (.int .u8 (B : Int)) := by rw [hbc2, ← hB]
      have hB1 : (B : Int) ≤ 255 := by have := bv.isLt; omega
      have HCB := Lib.hid (show ∀ V, Below W2.heap.size W2 V → (fun w' => w'.cell? ⟨S1, 0, none⟩ = some (.slice (some ⟨ga, oa, none⟩) n ca) ∧ w'.cell? ⟨w.heap.size, 0, none⟩ = some (.pointer (some ⟨O, 0, none⟩)) ∧ w'.cell? ⟨w.heap.size + 1, 0, none⟩ = some (.slice (some ⟨bp, op, none⟩) L cp) ∧ w'.cell? ⟨S1 + 1, 0, none⟩ = some (.int .i64 k) ∧ w'.cell? ⟨bp, op + k, none⟩ = some (.int .u8 B)) V from fun V hb => ⟨(hb.cell (p := ⟨S1, 0, none⟩) HBX.out.2.2.2.2.1).trans HBX.out.1, (hb.cell (p := ⟨w.heap.size, 0, none⟩) HBX.out.2.2.2.2.2.1).trans HBX.out.2.1, (hb.cell (p := ⟨w.heap.size + 1, 0, none⟩) HBX.out.2.2.2.2.2.2).trans HBX.out.2.2.1, (hb.cell (p := ⟨S1 + 1, 0, none⟩) HS1.out).trans HBX.out.2.2.2.1, (hb.cell (p := ⟨bp, op + k, none⟩) (by have := HB0.out.1.size; have := HKS.out.frn.size; show bp < _; omega)).trans hbc3⟩)
      have HOW := Lib.hid (show ∀ V, Below W2.heap.size W2 V → OwnL V (some ⟨ga, oa, none⟩) ca (allK m pk k) ∧ V.there ga (oa + at' * 8) 8 from fun V hb => by
        have h1 := OwnG.below HOWN.out hb
        exact ⟨h1, (own_line h1 hca at' (by rw [allK_len]; exact HAT.out)).2⟩)
      have HBB := Lib.hid hB
      clear hbc hbc2 hbc3 hbp hbv hB
      have hr3 : (B : Int) % 3 = 0 ∨ (B : Int) % 3 = 1 ∨ (B : Int) % 3 = 2 := by omega
      rcases hr3 with hr3 | hr3 | hr3
      · obtain ⟨v, hv⟩ : ∃ v, (m[at']'HAT.out).lasts = v := ⟨_, rfl⟩
        have HTT := Lib.hid (show ∀ V, MAt V O m N → Box V W2.heap.size 26 (.pointer (some ⟨O, 0, none⟩)) → Calls Try.prog 82 #[.int .i64 at', .pointer (some ⟨W2.heap.size, 0, none⟩)] V fun e w' => e = .returned (lineV v) ∧ Below V.heap.size V w' from fun V hm hbx => by
          have := takes1_any at' V hm HAT.out hbx.cell hbx.lt
          rw [hv] at this
          exact this)
        have HNW := Lib.hid (show allK m pk (k + 1) = (allK m pk k).set at' v by
          obtain ⟨hl, e⟩ := HNV.out
          rw [e, HBV.out, ← hv]
          unfold takeL
          rw [HBB.out]
          rw [if_pos (by omega)])
        have hrt : (B : Int).tmod 3 = 0 := by rw [Int.tmod_eq_emod_of_nonneg (by omega)]; exact hr3
        have HEN := enters_of (P := Try.prog) Try.func82 (by kernel_rfl) rfl
        have hix : ∀ W, (Instr.index 106 (.agg #[.func (.func 82) #[] #[.pointer (some ⟨W2.heap.size, 0, none⟩)], .func (.func 83) #[] #[.pointer (some ⟨W2.heap.size, 0, none⟩)], .func (.func 84) #[] #[.pointer (some ⟨W2.heap.size, 0, none⟩)]]) (.int .u8 0)).run Try.prog W = .ok (.func (.func 82) #[] #[.pointer (some ⟨W2.heap.size, 0, none⟩)]) W := fun W => by kernel_rfl
        clear HNV hv
        gi_wp2
        refine wpIn_np ?_
        refine wpIn_region_FI (fun kx w' => kx = 13 → (fun w' => w'.cell? ⟨S1, 0, none⟩ = some (.slice (some ⟨ga, oa, none⟩) n ca) ∧ w'.cell? ⟨w.heap.size, 0, none⟩ = some (.pointer (some ⟨O, 0, none⟩)) ∧ w'.cell? ⟨w.heap.size + 1, 0, none⟩ = some (.slice (some ⟨bp, op, none⟩) L cp) ∧ w'.cell? ⟨S1 + 1, 0, none⟩ = some (.int .i64 k) ∧ w'.cell? ⟨bp, op + k, none⟩ = some (.int .u8 B)) w') (by kernel_rfl) (fun _ _ => HCB.out _ (Below.refl _ _).drew) ?_
        intro hTill
        clear hTill
        have hall : ∀ kx : Nat, kx = 13 → (fun w' => w'.cell? ⟨S1, 0, none⟩ = some (.slice (some ⟨ga, oa, none⟩) n ca) ∧ w'.cell? ⟨w.heap.size, 0, none⟩ = some (.pointer (some ⟨O, 0, none⟩)) ∧ w'.cell? ⟨w.heap.size + 1, 0, none⟩ = some (.slice (some ⟨bp, op, none⟩) L cp) ∧ w'.cell? ⟨S1 + 1, 0, none⟩ = some (.int .i64 k) ∧ w'.cell? ⟨bp, op + k, none⟩ = some (.int .u8 B)) W2.drew := fun _ _ => HCB.out _ (Below.refl _ _).drew
        refine' wpAnyFI_take (i := 0) (v := _) 13 (by kernel_rfl) rfl (by kernel_rfl) (by kernel_rfl) (by kernel_rfl) (by kernel_rfl) (by rfl) (by rfl) (fun _ _ _ h => h) (fun _ h => absurd h (by decide)) ⟨Or.inl ⟨by rfl, ?hy⟩, fun _ => rfl⟩ (fun kx _ => hall kx) _
        case hy => (intro w0 hC; replace hC := hC rfl; (try dsimp only at hC); simp only [List.getElem_toArray, List.getElem_cons_zero]; go_simp; first | done | with_reducible rfl)
        try simp only [Act.put, List.getElem_toArray, List.getElem_cons_zero, List.setIfInBounds_toArray, List.set_cons_zero, List.set_cons_succ]
        refine' wpAnyFI_take (i := 1) (v := _) 13 (by kernel_rfl) rfl (by kernel_rfl) (by kernel_rfl) (by kernel_rfl) (by kernel_rfl) (by rfl) (by rfl) (fun _ _ _ h => h) (fun _ h => absurd h (by decide)) ⟨Or.inl ⟨by rfl, ?hy⟩, fun _ => rfl⟩ (fun kx _ => hall kx) _
        case hy => (intro w0 hC; replace hC := hC rfl; (try dsimp only at hC); simp only [List.getElem_toArray, List.getElem_cons_zero, List.getElem_cons_succ]; go_simp; first | done | with_reducible rfl)
        try simp only [Act.put, List.getElem_toArray, List.getElem_cons_zero, List.getElem_cons_succ, List.setIfInBounds_toArray, List.set_cons_zero, List.set_cons_succ]
        refine' wpAnyFI_take (i := 2) (v := _) 13 (by kernel_rfl) rfl (by kernel_rfl) (by kernel_rfl) (by kernel_rfl) (by kernel_rfl) (by rfl) (by rfl) (fun _ _ _ h => h) (fun _ h => absurd h (by decide)) ⟨Or.inl ⟨by rfl, ?hy⟩, fun _ => rfl⟩ (fun kx _ => hall kx) _
        case hy => (intro w0 hC; replace hC := hC rfl; (try dsimp only at hC); simp only [List.getElem_toArray, List.getElem_cons_zero, List.getElem_cons_succ]; go_simp; first | done | with_reducible rfl)
        try simp only [Act.put, List.getElem_toArray, List.getElem_cons_zero, List.getElem_cons_succ, List.setIfInBounds_toArray, List.set_cons_zero, List.set_cons_succ]
        refine' wpAnyFI_take (i := 4) (v := _) 13 (by kernel_rfl) rfl (by kernel_rfl) (by kernel_rfl) (by kernel_rfl) (by kernel_rfl) (by rfl) (by rfl) (fun _ _ _ h => h) (fun _ h => absurd h (by decide)) ⟨Or.inl ⟨by rfl, ?hy⟩, fun _ => rfl⟩ (fun kx _ => hall kx) _
        case hy => (intro w0 hC; replace hC := hC rfl; (try dsimp only at hC); simp only [List.getElem_toArray, List.getElem_cons_zero, List.getElem_cons_succ]; go_simp; first | done | with_reducible rfl)
        try simp only [Act.put, List.getElem_toArray, List.getElem_cons_zero, List.getElem_cons_succ, List.setIfInBounds_toArray, List.set_cons_zero, List.set_cons_succ]
        refine' wpAnyFI_take (i := 5) (v := _) 13 (by kernel_rfl) rfl (by kernel_rfl) (by kernel_rfl) (by kernel_rfl) (by kernel_rfl) (by rfl) (by rfl) (fun _ _ _ h => h) (fun _ h => absurd h (by decide)) ⟨Or.inl ⟨by rfl, ?hy⟩, fun _ => rfl⟩ (fun kx _ => hall kx) _
        case hy => (intro w0 hC; replace hC := hC rfl; (try dsimp only at hC); simp only [List.getElem_toArray, List.getElem_cons_zero, List.getElem_cons_succ]; go_simp; first | done | with_reducible rfl)
        try simp only [Act.put, List.getElem_toArray, List.getElem_cons_zero, List.getElem_cons_succ, List.setIfInBounds_toArray, List.set_cons_zero, List.set_cons_succ]
        refine' wpAnyFI_take (i := 6) (v := _) 13 (by kernel_rfl) rfl (by kernel_rfl) (by kernel_rfl) (by kernel_rfl) (by kernel_rfl) (by rfl) (by rfl) (fun _ _ _ h => h) (fun _ h => absurd h (by decide)) ⟨Or.inl ⟨by rfl, ?hy⟩, fun _ => rfl⟩ (fun kx _ => hall kx) _
        case hy => (intro w0 hC; replace hC := hC rfl; (try dsimp only at hC); simp only [List.getElem_toArray, List.getElem_cons_zero, List.getElem_cons_succ]; go_simp; first | done | with_reducible rfl)
        try simp only [Act.put, List.getElem_toArray, List.getElem_cons_zero, List.getElem_cons_succ, List.setIfInBounds_toArray, List.set_cons_zero, List.set_cons_succ]
        refine' wpAnyFI_take (i := 7) (v := _) 13 (by kernel_rfl) rfl (by kernel_rfl) (by kernel_rfl) (by kernel_rfl) (by kernel_rfl) (by rfl) (by rfl) (fun _ _ _ h => h) (fun _ h => absurd h (by decide)) ⟨Or.inl ⟨by rfl, ?hy⟩, fun _ => rfl⟩ (fun kx _ => hall kx) _
        case hy => (intro w0 hC; replace hC := hC rfl; (try dsimp only at hC); simp only [List.getElem_toArray, List.getElem_cons_zero, List.getElem_cons_succ]; go_simp; first | done | with_reducible rfl)
        try simp only [Act.put, List.getElem_toArray, List.getElem_cons_zero, List.getElem_cons_succ, List.setIfInBounds_toArray, List.set_cons_zero, List.set_cons_succ]
        refine' wpAnyFI_take (i := 8) (v := _) 13 (by kernel_rfl) rfl (by kernel_rfl) (by kernel_rfl) (by kernel_rfl) (by kernel_rfl) (by rfl) (by rfl) (fun _ _ _ h => h) (fun _ h => absurd h (by decide)) ⟨Or.inl ⟨by rfl, ?hy⟩, fun _ => rfl⟩ (fun kx _ => hall kx) _
        case hy => (intro w0 hC; replace hC := hC rfl; (try dsimp only at hC); simp only [List.getElem_toArray, List.getElem_cons_zero, List.getElem_cons_succ]; go_simp; first | done | with_reducible rfl)
        try simp only [Act.put, List.getElem_toArray, List.getElem_cons_zero, List.getElem_cons_succ, List.setIfInBounds_toArray, List.set_cons_zero, List.set_cons_succ]
        refine' wpAnyFI_take (i := 10) (v := _) 13 (by kernel_rfl) rfl (by kernel_rfl) (by kernel_rfl) (by kernel_rfl) (by kernel_rfl) (by rfl) (by rfl) (fun _ _ _ h => h) (fun _ h => absurd h (by decide)) ⟨Or.inl ⟨by rfl, ?hy⟩, fun _ => rfl⟩ (fun kx _ => hall kx) _
        case hy => (intro w0 hC; replace hC := hC rfl; (try dsimp only at hC); simp only [List.getElem_toArray, List.getElem_cons_zero, List.getElem_cons_succ]; go_simp; first | done | with_reducible rfl)
        try simp only [Act.put, List.getElem_toArray, List.getElem_cons_zero, List.getElem_cons_succ, List.setIfInBounds_toArray, List.set_cons_zero, List.set_cons_succ]
        refine wpAnyFI_one (i := 3) (by kernel_rfl) rfl ?_
        intro K' hK
        rw [if_pos (by kernel_rfl)]
        gi_wp2
        refine rcall (takes_any (O := O) W2.drew) ?_
        rintro e w3 ⟨rfl, hb3, hbx3⟩
        have HB3 := Lib.hid (And.intro ((Below.refl W2.heap.size W2).drew.trans hb3) hbx3)
        clear hb3 hbx3
        refine hK.out _ _ (fun k _ _ => HCB.out _ HB3.out.1) ?_
        clear hK K'
        try simp only [Act.put, List.getElem_toArray, List.getElem_cons_zero, List.getElem_cons_succ, List.setIfInBounds_toArray, List.set_cons_zero, List.set_cons_succ]
        refine wpAnyFI_one (i := 9) (by kernel_rfl) rfl ?_
        intro K' hK
        rw [if_pos (by kernel_rfl)]
        gi_wp2
        refine hK.out _ _ (fun k _ _ => HCB.out _ HB3.out.1) ?_
        clear hK K'
        try simp only [Act.put, List.getElem_toArray, List.getElem_cons_zero, List.getElem_cons_succ, List.setIfInBounds_toArray, List.set_cons_zero, List.set_cons_succ]
        refine wpAnyFI_one (i := 11) (by kernel_rfl) rfl ?_
        intro K' hK
        rw [if_pos (by kernel_rfl)]
        gi_wp2
        refine rcall (HTT.out w3 (HMM.out.below HB3.out.1) HB3.out.2) ?_
        rintro e w4 ⟨rfl, hb4⟩
        have HB4 := Lib.hid (HB3.out.1.trans (hb4.mono HB3.out.1.size))
        clear hb4
        refine hK.out _ _ (fun k _ _ => HCB.out _ HB4.out) ?_
        clear hK K'
        try simp only [Act.put, List.getElem_toArray, List.getElem_cons_zero, List.getElem_cons_succ, List.setIfInBounds_toArray, List.set_cons_zero, List.set_cons_succ]
        refine wpAnyFI_one (i := 12) (by kernel_rfl) rfl ?_
        intro K' hK
        rw [if_pos (by kernel_rfl)]
        gi_wp2
        refine hK.out _ _ (fun k _ _ => HCB.out _ HB4.out) ?_
        clear hK K'
        try simp only [Act.put, List.getElem_toArray, List.getElem_cons_zero, List.getElem_cons_succ, List.setIfInBounds_toArray, List.set_cons_zero, List.set_cons_succ]
        refine wpAnyFI_one (i := 13) (by kernel_rfl) rfl ?_
        intro K' hK
        rw [if_pos (by kernel_rfl)]
        refine wpIn_store_line (.tmp 35) (.tmp 34) rfl rfl (by first | rfl | exact HTV.out) (HOW.out w4 HB4.out).2 ?_
        refine hK.out _ _ (fun k hk h => Bool.noConfusion (hk.symm.trans (by subst h; kernel_rfl : _ = true))) ?_
        clear hK K'
        try simp only [Act.put, List.getElem_toArray, List.getElem_cons_zero, List.getElem_cons_succ, List.setIfInBounds_toArray, List.set_cons_zero, List.set_cons_succ]
        refine wpAnyFI_done (by kernel_rfl) ?_ _
        refine NoPanic.normal ?_
        have hF5 : Frn (fun x => x = ga) w4 (w4.setCells ga (oa + at' * 8) (ec v)) := setCells_frn _ _ _
        have hO5 : OwnL (w4.setCells ga (oa + at' * 8) (ec v)) (some ⟨ga, oa, none⟩) ca ((allK m pk k).set at' v) := own_setLine (HOW.out w4 HB4.out).1 at' (by rw [allK_len]; exact HAT.out) v
        have hcf := (hF5.block (S1 + 1) (Nat.lt_of_lt_of_le HS1.out HB4.out.size) HGS.out).trans ((HB4.out.block _ HS1.out).trans HNC.out)
        have hc7 : (w4.setCells ga (oa + at' * 8) (ec v)).cell? ⟨S1 + 1, 0, none⟩ = some (.int .i64 (k : Int)) := by simp [World.cell?, hcf]
        have hk5 := HKP.out _ _ HB4.out hF5
        have H5 := Lib.hid (And.intro hO5 (And.intro hcf hk5))
        have hfz : (w4.setCells ga (oa + at' * 8) (ec v)).frozen? ⟨S1 + 1, 0, none⟩ = false := by simp [World.frozen?, hcf]
        generalize w4.setCells ga (oa + at' * 8) (ec v) = w5 at *
        clear hall HEN hF5 hO5 hcf hk5 q0 hn7c hn7f
        gi_wp2
        exact HEND.out w5 _ HNW.out H5.out
      · obtain ⟨v, hv⟩ : ∃ v, ((m[at']'HAT.out).q.getD (m[at']'HAT.out).lasts) = v := ⟨_, rfl⟩
        have HTT := Lib.hid (show ∀ V, MAt V O m N → Box V W2.heap.size 26 (.pointer (some ⟨O, 0, none⟩)) → Calls Try.prog 83 #[.int .i64 at', .pointer (some ⟨W2.heap.size, 0, none⟩)] V fun e w' => e = .returned (lineV v) ∧ Below V.heap.size V w' from fun V hm hbx => by
          have := takes2_any at' V hm HAT.out hbx.cell hbx.lt
          rw [hv] at this
          exact this)
        have HNW := Lib.hid (show allK m pk (k + 1) = (allK m pk k).set at' v by
          obtain ⟨hl, e⟩ := HNV.out
          rw [e, HBV.out, ← hv]
          unfold takeL
          rw [HBB.out]
          rw [if_neg (by omega), if_pos (by omega)])
        have hrt : (B : Int).tmod 3 = 1 := by rw [Int.tmod_eq_emod_of_nonneg (by omega)]; exact hr3
        have HEN := enters_of (P := Try.prog) Try.func83 (by kernel_rfl) rfl
        have hix : ∀ W, (Instr.index 106 (.agg #[.func (.func 82) #[] #[.pointer (some ⟨W2.heap.size, 0, none⟩)], .func (.func 83) #[] #[.pointer (some ⟨W2.heap.size, 0, none⟩)], .func (.func 84) #[] #[.pointer (some ⟨W2.heap.size, 0, none⟩)]]) (.int .u8 1)).run Try.prog W = .ok (.func (.func 83) #[] #[.pointer (some ⟨W2.heap.size, 0, none⟩)]) W := fun W => by kernel_rfl
        clear HNV hv
        gi_wp2
        refine wpIn_np ?_
        refine wpIn_region_FI (fun kx w' => kx = 13 → (fun w' => w'.cell? ⟨S1, 0, none⟩ = some (.slice (some ⟨ga, oa, none⟩) n ca) ∧ w'.cell? ⟨w.heap.size, 0, none⟩ = some (.pointer (some ⟨O, 0, none⟩)) ∧ w'.cell? ⟨w.heap.size + 1, 0, none⟩ = some (.slice (some ⟨bp, op, none⟩) L cp) ∧ w'.cell? ⟨S1 + 1, 0, none⟩ = some (.int .i64 k) ∧ w'.cell? ⟨bp, op + k, none⟩ = some (.int .u8 B)) w') (by kernel_rfl) (fun _ _ => HCB.out _ (Below.refl _ _).drew) ?_
        intro hTill
        clear hTill
        have hall : ∀ kx : Nat, kx = 13 → (fun w' => w'.cell? ⟨S1, 0, none⟩ = some (.slice (some ⟨ga, oa, none⟩) n ca) ∧ w'.cell? ⟨w.heap.size, 0, none⟩ = some (.pointer (some ⟨O, 0, none⟩)) ∧ w'.cell? ⟨w.heap.size + 1, 0, none⟩ = some (.slice (some ⟨bp, op, none⟩) L cp) ∧ w'.cell? ⟨S1 + 1, 0, none⟩ = some (.int .i64 k) ∧ w'.cell? ⟨bp, op + k, none⟩ = some (.int .u8 B)) W2.drew := fun _ _ => HCB.out _ (Below.refl _ _).drew
        refine' wpAnyFI_take (i := 0) (v := _) 13 (by kernel_rfl) rfl (by kernel_rfl) (by kernel_rfl) (by kernel_rfl) (by kernel_rfl) (by rfl) (by rfl) (fun _ _ _ h => h) (fun _ h => absurd h (by decide)) ⟨Or.inl ⟨by rfl, ?hy⟩, fun _ => rfl⟩ (fun kx _ => hall kx) _
        case hy => (intro w0 hC; replace hC := hC rfl; (try dsimp only at hC); simp only [List.getElem_toArray, List.getElem_cons_zero]; go_simp; first | done | with_reducible rfl)
        try simp only [Act.put, List.getElem_toArray, List.getElem_cons_zero, List.setIfInBounds_toArray, List.set_cons_zero, List.set_cons_succ]
        refine' wpAnyFI_take (i := 1) (v := _) 13 (by kernel_rfl) rfl (by kernel_rfl) (by kernel_rfl) (by kernel_rfl) (by kernel_rfl) (by rfl) (by rfl) (fun _ _ _ h => h) (fun _ h => absurd h (by decide)) ⟨Or.inl ⟨by rfl, ?hy⟩, fun _ => rfl⟩ (fun kx _ => hall kx) _
        case hy => (intro w0 hC; replace hC := hC rfl; (try dsimp only at hC); simp only [List.getElem_toArray, List.getElem_cons_zero, List.getElem_cons_succ]; go_simp; first | done | with_reducible rfl)
        try simp only [Act.put, List.getElem_toArray, List.getElem_cons_zero, List.getElem_cons_succ, List.setIfInBounds_toArray, List.set_cons_zero, List.set_cons_succ]
        refine' wpAnyFI_take (i := 2) (v := _) 13 (by kernel_rfl) rfl (by kernel_rfl) (by kernel_rfl) (by kernel_rfl) (by kernel_rfl) (by rfl) (by rfl) (fun _ _ _ h => h) (fun _ h => absurd h (by decide)) ⟨Or.inl ⟨by rfl, ?hy⟩, fun _ => rfl⟩ (fun kx _ => hall kx) _
        case hy => (intro w0 hC; replace hC := hC rfl; (try dsimp only at hC); simp only [List.getElem_toArray, List.getElem_cons_zero, List.getElem_cons_succ]; go_simp; first | done | with_reducible rfl)
        try simp only [Act.put, List.getElem_toArray, List.getElem_cons_zero, List.getElem_cons_succ, List.setIfInBounds_toArray, List.set_cons_zero, List.set_cons_succ]
        refine' wpAnyFI_take (i := 4) (v := _) 13 (by kernel_rfl) rfl (by kernel_rfl) (by kernel_rfl) (by kernel_rfl) (by kernel_rfl) (by rfl) (by rfl) (fun _ _ _ h => h) (fun _ h => absurd h (by decide)) ⟨Or.inl ⟨by rfl, ?hy⟩, fun _ => rfl⟩ (fun kx _ => hall kx) _
        case hy => (intro w0 hC; replace hC := hC rfl; (try dsimp only at hC); simp only [List.getElem_toArray, List.getElem_cons_zero, List.getElem_cons_succ]; go_simp; first | done | with_reducible rfl)
        try simp only [Act.put, List.getElem_toArray, List.getElem_cons_zero, List.getElem_cons_succ, List.setIfInBounds_toArray, List.set_cons_zero, List.set_cons_succ]
        refine' wpAnyFI_take (i := 5) (v := _) 13 (by kernel_rfl) rfl (by kernel_rfl) (by kernel_rfl) (by kernel_rfl) (by kernel_rfl) (by rfl) (by rfl) (fun _ _ _ h => h) (fun _ h => absurd h (by decide)) ⟨Or.inl ⟨by rfl, ?hy⟩, fun _ => rfl⟩ (fun kx _ => hall kx) _
        case hy => (intro w0 hC; replace hC := hC rfl; (try dsimp only at hC); simp only [List.getElem_toArray, List.getElem_cons_zero, List.getElem_cons_succ]; go_simp; first | done | with_reducible rfl)
        try simp only [Act.put, List.getElem_toArray, List.getElem_cons_zero, List.getElem_cons_succ, List.setIfInBounds_toArray, List.set_cons_zero, List.set_cons_succ]
        refine' wpAnyFI_take (i := 6) (v := _) 13 (by kernel_rfl) rfl (by kernel_rfl) (by kernel_rfl) (by kernel_rfl) (by kernel_rfl) (by rfl) (by rfl) (fun _ _ _ h => h) (fun _ h => absurd h (by decide)) ⟨Or.inl ⟨by rfl, ?hy⟩, fun _ => rfl⟩ (fun kx _ => hall kx) _
        case hy => (intro w0 hC; replace hC := hC rfl; (try dsimp only at hC); simp only [List.getElem_toArray, List.getElem_cons_zero, List.getElem_cons_succ]; go_simp; first | done | with_reducible rfl)
        try simp only [Act.put, List.getElem_toArray, List.getElem_cons_zero, List.getElem_cons_succ, List.setIfInBounds_toArray, List.set_cons_zero, List.set_cons_succ]
        refine' wpAnyFI_take (i := 7) (v := _) 13 (by kernel_rfl) rfl (by kernel_rfl) (by kernel_rfl) (by kernel_rfl) (by kernel_rfl) (by rfl) (by rfl) (fun _ _ _ h => h) (fun _ h => absurd h (by decide)) ⟨Or.inl ⟨by rfl, ?hy⟩, fun _ => rfl⟩ (fun kx _ => hall kx) _
        case hy => (intro w0 hC; replace hC := hC rfl; (try dsimp only at hC); simp only [List.getElem_toArray, List.getElem_cons_zero, List.getElem_cons_succ]; go_simp; first | done | with_reducible rfl)
        try simp only [Act.put, List.getElem_toArray, List.getElem_cons_zero, List.getElem_cons_succ, List.setIfInBounds_toArray, List.set_cons_zero, List.set_cons_succ]
        refine' wpAnyFI_take (i := 8) (v := _) 13 (by kernel_rfl) rfl (by kernel_rfl) (by kernel_rfl) (by kernel_rfl) (by kernel_rfl) (by rfl) (by rfl) (fun _ _ _ h => h) (fun _ h => absurd h (by decide)) ⟨Or.inl ⟨by rfl, ?hy⟩, fun _ => rfl⟩ (fun kx _ => hall kx) _
        case hy => (intro w0 hC; replace hC := hC rfl; (try dsimp only at hC); simp only [List.getElem_toArray, List.getElem_cons_zero, List.getElem_cons_succ]; go_simp; first | done | with_reducible rfl)
        try simp only [Act.put, List.getElem_toArray, List.getElem_cons_zero, List.getElem_cons_succ, List.setIfInBounds_toArray, List.set_cons_zero, List.set_cons_succ]
        refine' wpAnyFI_take (i := 10) (v := _) 13 (by kernel_rfl) rfl (by kernel_rfl) (by kernel_rfl) (by kernel_rfl) (by kernel_rfl) (by rfl) (by rfl) (fun _ _ _ h => h) (fun _ h => absurd h (by decide)) ⟨Or.inl ⟨by rfl, ?hy⟩, fun _ => rfl⟩ (fun kx _ => hall kx) _
        case hy => (intro w0 hC; replace hC := hC rfl; (try dsimp only at hC); simp only [List.getElem_toArray, List.getElem_cons_zero, List.getElem_cons_succ]; go_simp; first | done | with_reducible rfl)
        try simp only [Act.put, List.getElem_toArray, List.getElem_cons_zero, List.getElem_cons_succ, List.setIfInBounds_toArray, List.set_cons_zero, List.set_cons_succ]
        refine wpAnyFI_one (i := 3) (by kernel_rfl) rfl ?_
        intro K' hK
        rw [if_pos (by kernel_rfl)]
        gi_wp2
        refine rcall (takes_any (O := O) W2.drew) ?_
        rintro e w3 ⟨rfl, hb3, hbx3⟩
        have HB3 := Lib.hid (And.intro ((Below.refl W2.heap.size W2).drew.trans hb3) hbx3)
        clear hb3 hbx3
        refine hK.out _ _ (fun k _ _ => HCB.out _ HB3.out.1) ?_
        clear hK K'
        try simp only [Act.put, List.getElem_toArray, List.getElem_cons_zero, List.getElem_cons_succ, List.setIfInBounds_toArray, List.set_cons_zero, List.set_cons_succ]
        refine wpAnyFI_one (i := 9) (by kernel_rfl) rfl ?_
        intro K' hK
        rw [if_pos (by kernel_rfl)]
        gi_wp2
        refine hK.out _ _ (fun k _ _ => HCB.out _ HB3.out.1) ?_
        clear hK K'
        try simp only [Act.put, List.getElem_toArray, List.getElem_cons_zero, List.getElem_cons_succ, List.setIfInBounds_toArray, List.set_cons_zero, List.set_cons_succ]
        refine wpAnyFI_one (i := 11) (by kernel_rfl) rfl ?_
        intro K' hK
        rw [if_pos (by kernel_rfl)]
        gi_wp2
        refine rcall (HTT.out w3 (HMM.out.below HB3.out.1) HB3.out.2) ?_
        rintro e w4 ⟨rfl, hb4⟩
        have HB4 := Lib.hid (HB3.out.1.trans (hb4.mono HB3.out.1.size))
        clear hb4
        refine hK.out _ _ (fun k _ _ => HCB.out _ HB4.out) ?_
        clear hK K'
        try simp only [Act.put, List.getElem_toArray, List.getElem_cons_zero, List.getElem_cons_succ, List.setIfInBounds_toArray, List.set_cons_zero, List.set_cons_succ]
        refine wpAnyFI_one (i := 12) (by kernel_rfl) rfl ?_
        intro K' hK
        rw [if_pos (by kernel_rfl)]
        gi_wp2
        refine hK.out _ _ (fun k _ _ => HCB.out _ HB4.out) ?_
        clear hK K'
        try simp only [Act.put, List.getElem_toArray, List.getElem_cons_zero, List.getElem_cons_succ, List.setIfInBounds_toArray, List.set_cons_zero, List.set_cons_succ]
        refine wpAnyFI_one (i := 13) (by kernel_rfl) rfl ?_
        intro K' hK
        rw [if_pos (by kernel_rfl)]
        refine wpIn_store_line (.tmp 35) (.tmp 34) rfl rfl (by first | rfl | exact HTV.out) (HOW.out w4 HB4.out).2 ?_
        refine hK.out _ _ (fun k hk h => Bool.noConfusion (hk.symm.trans (by subst h; kernel_rfl : _ = true))) ?_
        clear hK K'
        try simp only [Act.put, List.getElem_toArray, List.getElem_cons_zero, List.getElem_cons_succ, List.setIfInBounds_toArray, List.set_cons_zero, List.set_cons_succ]
        refine wpAnyFI_done (by kernel_rfl) ?_ _
        refine NoPanic.normal ?_
        have hF5 : Frn (fun x => x = ga) w4 (w4.setCells ga (oa + at' * 8) (ec v)) := setCells_frn _ _ _
        have hO5 : OwnL (w4.setCells ga (oa + at' * 8) (ec v)) (some ⟨ga, oa, none⟩) ca ((allK m pk k).set at' v) := own_setLine (HOW.out w4 HB4.out).1 at' (by rw [allK_len]; exact HAT.out) v
        have hcf := (hF5.block (S1 + 1) (Nat.lt_of_lt_of_le HS1.out HB4.out.size) HGS.out).trans ((HB4.out.block _ HS1.out).trans HNC.out)
        have hc7 : (w4.setCells ga (oa + at' * 8) (ec v)).cell? ⟨S1 + 1, 0, none⟩ = some (.int .i64 (k : Int)) := by simp [World.cell?, hcf]
        have hk5 := HKP.out _ _ HB4.out hF5
        have H5 := Lib.hid (And.intro hO5 (And.intro hcf hk5))
        have hfz : (w4.setCells ga (oa + at' * 8) (ec v)).frozen? ⟨S1 + 1, 0, none⟩ = false := by simp [World.frozen?, hcf]
        generalize w4.setCells ga (oa + at' * 8) (ec v) = w5 at *
        clear hall HEN hF5 hO5 hcf hk5 q0 hn7c hn7f
        gi_wp2
        exact HEND.out w5 _ HNW.out H5.out
      · obtain ⟨v, hv⟩ : ∃ v, (m[at']'HAT.out).now = v := ⟨_, rfl⟩
        have HTT := Lib.hid (show ∀ V, MAt V O m N → Box V W2.heap.size 26 (.pointer (some ⟨O, 0, none⟩)) → Calls Try.prog 84 #[.int .i64 at', .pointer (some ⟨W2.heap.size, 0, none⟩)] V fun e w' => e = .returned (lineV v) ∧ Below V.heap.size V w' from fun V hm hbx => by
          have := takes3_any at' V hm HAT.out hbx.cell hbx.lt
          rw [hv] at this
          exact this)
        have HNW := Lib.hid (show allK m pk (k + 1) = (allK m pk k).set at' v by
          obtain ⟨hl, e⟩ := HNV.out
          rw [e, HBV.out, ← hv]
          unfold takeL
          rw [HBB.out]
          rw [if_neg (by omega), if_neg (by omega)])
        have hrt : (B : Int).tmod 3 = 2 := by rw [Int.tmod_eq_emod_of_nonneg (by omega)]; exact hr3
        have HEN := enters_of (P := Try.prog) Try.func84 (by kernel_rfl) rfl
        have hix : ∀ W, (Instr.index 106 (.agg #[.func (.func 82) #[] #[.pointer (some ⟨W2.heap.size, 0, none⟩)], .func (.func 83) #[] #[.pointer (some ⟨W2.heap.size, 0, none⟩)], .func (.func 84) #[] #[.pointer (some ⟨W2.heap.size, 0, none⟩)]]) (.int .u8 2)).run Try.prog W = .ok (.func (.func 84) #[] #[.pointer (some ⟨W2.heap.size, 0, none⟩)]) W := fun W => by kernel_rfl
        clear HNV hv
        gi_wp2
        refine wpIn_np ?_
        refine wpIn_region_FI (fun kx w' => kx = 13 → (fun w' => w'.cell? ⟨S1, 0, none⟩ = some (.slice (some ⟨ga, oa, none⟩) n ca) ∧ w'.cell? ⟨w.heap.size, 0, none⟩ = some (.pointer (some ⟨O, 0, none⟩)) ∧ w'.cell? ⟨w.heap.size + 1, 0, none⟩ = some (.slice (some ⟨bp, op, none⟩) L cp) ∧ w'.cell? ⟨S1 + 1, 0, none⟩ = some (.int .i64 k) ∧ w'.cell? ⟨bp, op + k, none⟩ = some (.int .u8 B)) w') (by kernel_rfl) (fun _ _ => HCB.out _ (Below.refl _ _).drew) ?_
        intro hTill
        clear hTill
        have hall : ∀ kx : Nat, kx = 13 → (fun w' => w'.cell? ⟨S1, 0, none⟩ = some (.slice (some ⟨ga, oa, none⟩) n ca) ∧ w'.cell? ⟨w.heap.size, 0, none⟩ = some (.pointer (some ⟨O, 0, none⟩)) ∧ w'.cell? ⟨w.heap.size + 1, 0, none⟩ = some (.slice (some ⟨bp, op, none⟩) L cp) ∧ w'.cell? ⟨S1 + 1, 0, none⟩ = some (.int .i64 k) ∧ w'.cell? ⟨bp, op + k, none⟩ = some (.int .u8 B)) W2.drew := fun _ _ => HCB.out _ (Below.refl _ _).drew
        refine' wpAnyFI_take (i := 0) (v := _) 13 (by kernel_rfl) rfl (by kernel_rfl) (by kernel_rfl) (by kernel_rfl) (by kernel_rfl) (by rfl) (by rfl) (fun _ _ _ h => h) (fun _ h => absurd h (by decide)) ⟨Or.inl ⟨by rfl, ?hy⟩, fun _ => rfl⟩ (fun kx _ => hall kx) _
        case hy => (intro w0 hC; replace hC := hC rfl; (try dsimp only at hC); simp only [List.getElem_toArray, List.getElem_cons_zero]; go_simp; first | done | with_reducible rfl)
        try simp only [Act.put, List.getElem_toArray, List.getElem_cons_zero, List.setIfInBounds_toArray, List.set_cons_zero, List.set_cons_succ]
        refine' wpAnyFI_take (i := 1) (v := _) 13 (by kernel_rfl) rfl (by kernel_rfl) (by kernel_rfl) (by kernel_rfl) (by kernel_rfl) (by rfl) (by rfl) (fun _ _ _ h => h) (fun _ h => absurd h (by decide)) ⟨Or.inl ⟨by rfl, ?hy⟩, fun _ => rfl⟩ (fun kx _ => hall kx) _
        case hy => (intro w0 hC; replace hC := hC rfl; (try dsimp only at hC); simp only [List.getElem_toArray, List.getElem_cons_zero, List.getElem_cons_succ]; go_simp; first | done | with_reducible rfl)
        try simp only [Act.put, List.getElem_toArray, List.getElem_cons_zero, List.getElem_cons_succ, List.setIfInBounds_toArray, List.set_cons_zero, List.set_cons_succ]
        refine' wpAnyFI_take (i := 2) (v := _) 13 (by kernel_rfl) rfl (by kernel_rfl) (by kernel_rfl) (by kernel_rfl) (by kernel_rfl) (by rfl) (by rfl) (fun _ _ _ h => h) (fun _ h => absurd h (by decide)) ⟨Or.inl ⟨by rfl, ?hy⟩, fun _ => rfl⟩ (fun kx _ => hall kx) _
        case hy => (intro w0 hC; replace hC := hC rfl; (try dsimp only at hC); simp only [List.getElem_toArray, List.getElem_cons_zero, List.getElem_cons_succ]; go_simp; first | done | with_reducible rfl)
        try simp only [Act.put, List.getElem_toArray, List.getElem_cons_zero, List.getElem_cons_succ, List.setIfInBounds_toArray, List.set_cons_zero, List.set_cons_succ]
        refine' wpAnyFI_take (i := 4) (v := _) 13 (by kernel_rfl) rfl (by kernel_rfl) (by kernel_rfl) (by kernel_rfl) (by kernel_rfl) (by rfl) (by rfl) (fun _ _ _ h => h) (fun _ h => absurd h (by decide)) ⟨Or.inl ⟨by rfl, ?hy⟩, fun _ => rfl⟩ (fun kx _ => hall kx) _
        case hy => (intro w0 hC; replace hC := hC rfl; (try dsimp only at hC); simp only [List.getElem_toArray, List.getElem_cons_zero, List.getElem_cons_succ]; go_simp; first | done | with_reducible rfl)
        try simp only [Act.put, List.getElem_toArray, List.getElem_cons_zero, List.getElem_cons_succ, List.setIfInBounds_toArray, List.set_cons_zero, List.set_cons_succ]
        refine' wpAnyFI_take (i := 5) (v := _) 13 (by kernel_rfl) rfl (by kernel_rfl) (by kernel_rfl) (by kernel_rfl) (by kernel_rfl) (by rfl) (by rfl) (fun _ _ _ h => h) (fun _ h => absurd h (by decide)) ⟨Or.inl ⟨by rfl, ?hy⟩, fun _ => rfl⟩ (fun kx _ => hall kx) _
        case hy => (intro w0 hC; replace hC := hC rfl; (try dsimp only at hC); simp only [List.getElem_toArray, List.getElem_cons_zero, List.getElem_cons_succ]; go_simp; first | done | with_reducible rfl)
        try simp only [Act.put, List.getElem_toArray, List.getElem_cons_zero, List.getElem_cons_succ, List.setIfInBounds_toArray, List.set_cons_zero, List.set_cons_succ]
        refine' wpAnyFI_take (i := 6) (v := _) 13 (by kernel_rfl) rfl (by kernel_rfl) (by kernel_rfl) (by kernel_rfl) (by kernel_rfl) (by rfl) (by rfl) (fun _ _ _ h => h) (fun _ h => absurd h (by decide)) ⟨Or.inl ⟨by rfl, ?hy⟩, fun _ => rfl⟩ (fun kx _ => hall kx) _
        case hy => (intro w0 hC; replace hC := hC rfl; (try dsimp only at hC); simp only [List.getElem_toArray, List.getElem_cons_zero, List.getElem_cons_succ]; go_simp; first | done | with_reducible rfl)
        try simp only [Act.put, List.getElem_toArray, List.getElem_cons_zero, List.getElem_cons_succ, List.setIfInBounds_toArray, List.set_cons_zero, List.set_cons_succ]
        refine' wpAnyFI_take (i := 7) (v := _) 13 (by kernel_rfl) rfl (by kernel_rfl) (by kernel_rfl) (by kernel_rfl) (by kernel_rfl) (by rfl) (by rfl) (fun _ _ _ h => h) (fun _ h => absurd h (by decide)) ⟨Or.inl ⟨by rfl, ?hy⟩, fun _ => rfl⟩ (fun kx _ => hall kx) _
        case hy => (intro w0 hC; replace hC := hC rfl; (try dsimp only at hC); simp only [List.getElem_toArray, List.getElem_cons_zero, List.getElem_cons_succ]; go_simp; first | done | with_reducible rfl)
        try simp only [Act.put, List.getElem_toArray, List.getElem_cons_zero, List.getElem_cons_succ, List.setIfInBounds_toArray, List.set_cons_zero, List.set_cons_succ]
        refine' wpAnyFI_take (i := 8) (v := _) 13 (by kernel_rfl) rfl (by kernel_rfl) (by kernel_rfl) (by kernel_rfl) (by kernel_rfl) (by rfl) (by rfl) (fun _ _ _ h => h) (fun _ h => absurd h (by decide)) ⟨Or.inl ⟨by rfl, ?hy⟩, fun _ => rfl⟩ (fun kx _ => hall kx) _
        case hy => (intro w0 hC; replace hC := hC rfl; (try dsimp only at hC); simp only [List.getElem_toArray, List.getElem_cons_zero, List.getElem_cons_succ]; go_simp; first | done | with_reducible rfl)
        try simp only [Act.put, List.getElem_toArray, List.getElem_cons_zero, List.getElem_cons_succ, List.setIfInBounds_toArray, List.set_cons_zero, List.set_cons_succ]
        refine' wpAnyFI_take (i := 10) (v := _) 13 (by kernel_rfl) rfl (by kernel_rfl) (by kernel_rfl) (by kernel_rfl) (by kernel_rfl) (by rfl) (by rfl) (fun _ _ _ h => h) (fun _ h => absurd h (by decide)) ⟨Or.inl ⟨by rfl, ?hy⟩, fun _ => rfl⟩ (fun kx _ => hall kx) _
        case hy => (intro w0 hC; replace hC := hC rfl; (try dsimp only at hC); simp only [List.getElem_toArray, List.getElem_cons_zero, List.getElem_cons_succ]; go_simp; first | done | with_reducible rfl)
        try simp only [Act.put, List.getElem_toArray, List.getElem_cons_zero, List.getElem_cons_succ, List.setIfInBounds_toArray, List.set_cons_zero, List.set_cons_succ]
        refine wpAnyFI_one (i := 3) (by kernel_rfl) rfl ?_
        intro K' hK
        rw [if_pos (by kernel_rfl)]
        gi_wp2
        refine rcall (takes_any (O := O) W2.drew) ?_
        rintro e w3 ⟨rfl, hb3, hbx3⟩
        have HB3 := Lib.hid (And.intro ((Below.refl W2.heap.size W2).drew.trans hb3) hbx3)
        clear hb3 hbx3
        refine hK.out _ _ (fun k _ _ => HCB.out _ HB3.out.1) ?_
        clear hK K'
        try simp only [Act.put, List.getElem_toArray, List.getElem_cons_zero, List.getElem_cons_succ, List.setIfInBounds_toArray, List.set_cons_zero, List.set_cons_succ]
        refine wpAnyFI_one (i := 9) (by kernel_rfl) rfl ?_
        intro K' hK
        rw [if_pos (by kernel_rfl)]
        gi_wp2
        refine hK.out _ _ (fun k _ _ => HCB.out _ HB3.out.1) ?_
        clear hK K'
        try simp only [Act.put, List.getElem_toArray, List.getElem_cons_zero, List.getElem_cons_succ, List.setIfInBounds_toArray, List.set_cons_zero, List.set_cons_succ]
        refine wpAnyFI_one (i := 11) (by kernel_rfl) rfl ?_
        intro K' hK
        rw [if_pos (by kernel_rfl)]
        gi_wp2
        refine rcall (HTT.out w3 (HMM.out.below HB3.out.1) HB3.out.2) ?_
        rintro e w4 ⟨rfl, hb4⟩
        have HB4 := Lib.hid (HB3.out.1.trans (hb4.mono HB3.out.1.size))
        clear hb4
        refine hK.out _ _ (fun k _ _ => HCB.out _ HB4.out) ?_
        clear hK K'
        try simp only [Act.put, List.getElem_toArray, List.getElem_cons_zero, List.getElem_cons_succ, List.setIfInBounds_toArray, List.set_cons_zero, List.set_cons_succ]
        refine wpAnyFI_one (i := 12) (by kernel_rfl) rfl ?_
        intro K' hK
        rw [if_pos (by kernel_rfl)]
        gi_wp2
        refine hK.out _ _ (fun k _ _ => HCB.out _ HB4.out) ?_
        clear hK K'
        try simp only [Act.put, List.getElem_toArray, List.getElem_cons_zero, List.getElem_cons_succ, List.setIfInBounds_toArray, List.set_cons_zero, List.set_cons_succ]
        refine wpAnyFI_one (i := 13) (by kernel_rfl) rfl ?_
        intro K' hK
        rw [if_pos (by kernel_rfl)]
        refine wpIn_store_line (.tmp 35) (.tmp 34) rfl rfl (by first | rfl | exact HTV.out) (HOW.out w4 HB4.out).2 ?_
        refine hK.out _ _ (fun k hk h => Bool.noConfusion (hk.symm.trans (by subst h; kernel_rfl : _ = true))) ?_
        clear hK K'
        try simp only [Act.put, List.getElem_toArray, List.getElem_cons_zero, List.getElem_cons_succ, List.setIfInBounds_toArray, List.set_cons_zero, List.set_cons_succ]
        refine wpAnyFI_done (by kernel_rfl) ?_ _
        refine NoPanic.normal ?_
        have hF5 : Frn (fun x => x = ga) w4 (w4.setCells ga (oa + at' * 8) (ec v)) := setCells_frn _ _ _
        have hO5 : OwnL (w4.setCells ga (oa + at' * 8) (ec v)) (some ⟨ga, oa, none⟩) ca ((allK m pk k).set at' v) := own_setLine (HOW.out w4 HB4.out).1 at' (by rw [allK_len]; exact HAT.out) v
        have hcf := (hF5.block (S1 + 1) (Nat.lt_of_lt_of_le HS1.out HB4.out.size) HGS.out).trans ((HB4.out.block _ HS1.out).trans HNC.out)
        have hc7 : (w4.setCells ga (oa + at' * 8) (ec v)).cell? ⟨S1 + 1, 0, none⟩ = some (.int .i64 (k : Int)) := by simp [World.cell?, hcf]
        have hk5 := HKP.out _ _ HB4.out hF5
        have H5 := Lib.hid (And.intro hO5 (And.intro hcf hk5))
        have hfz : (w4.setCells ga (oa + at' * 8) (ec v)).frozen? ⟨S1 + 1, 0, none⟩ = false := by simp [World.frozen?, hcf]
        generalize w4.setCells ga (oa + at' * 8) (ec v) = w5 at *
        clear hall HEN hF5 hO5 hcf hk5 q0 hn7c hn7f
        gi_wp2
        exact HEND.out w5 _ HNW.out H5.out
    · have hkl' : (L : Int) ≤ (k : Int) := by omega
      have HNV := Lib.hid (allK_none m pk k at' HKK.out HATT.out (by rw [HLL.out]; exact hkl))
      clear hkl
      gi_wp2
      exact HEND.out W2 _ HNV.out ⟨HOWN.out, HNC.out, HKS.out, Kps.refl _ _⟩
  case hstop =>
    intro D c k T W _ _ h
    exact h.elim
  case hdone =>
    rintro D T W ⟨hs, hn7, how⟩ hTD hTW hkW hD hK
    rw [encI_len, allK_all] at how
    have hWl : W0.heap.size ≤ W.heap.size := hs.frn.size
    have hHL : OwnL W.drew (some ⟨ga, oa, none⟩) ca (crashV m pk) := OwnG.keep how fun _ _ => rfl
    have hcd : W.drew.cell? ⟨S1, 0, none⟩ = some (.slice (some ⟨ga, oa, none⟩) n ca) := (hs.box HX.out.2.2.1 (fun h => h.elim (fun h => by omega) (fun h => by have := (HP1.out _ h).2; omega))).cell
    have HOL := Lib.hid (show S1 < W.heap.size by have := HB0.out.2.1; omega)
    have HGW := Lib.hid (And.intro hHL (And.intro (show ∀ b, inP (some ⟨ga, oa, none⟩) ca b → w.heap.size ≤ b ∧ b < W.heap.size from fun b hb => ⟨by have := (HP1.out b hb).1; omega, OwnG.lt how hb⟩) (And.intro hK (show D < W.heap.size from hTW D hTD))))
    have HWL := Lib.hid (show w.heap.size < W.heap.size by have := HB0.out.2; omega)
    have HSS := Lib.hid hs
    have HLL := Lib.hid (show (crashV m pk).length = n by rw [crashV_len, HLN.out])
    have HKD := Lib.hid (show ∀ x, inP (some ⟨ga, oa, none⟩) ca x → x ≠ D from fun x hx => by have := (HP1.out x hx).2; have := HB0.out.2.1; omega)
    have HCL := Lib.hid (show ∀ V, Below W.heap.size W.drew V → Calls Try.prog 46 #[.slice (some ⟨ga, oa, none⟩) n ca] V fun e w' => ∃ p' c', e = .returned (.slice p' n c') ∧ OwnL w' p' c' (crashV m pk) ∧ (∀ b, inP p' c' b → V.heap.size ≤ b) ∧ Below V.heap.size V w' from fun V hV => by
      have hh := cloneL_any (some ⟨ga, oa, none⟩) ca (crashV m pk) V ((OwnG.keep HGW.out.1 (fun x hx => hV.block x (HGW.out.2.1 x hx).2)).rds ec_len) (by rw [HLL.out]; exact hn0) (by rw [HLL.out]; omega)
      rw [HLL.out] at hh
      exact hh)
    have hD2 := Lib.hid (show w.heap.size ≤ D by have := HB0.out.1.size; omega)
    have HZ0 := Lib.hid HB0.out.2
    clear hkW hs hn7 how hK hTW hHL hTD hD
    gi_wp2
    refine (wpIn_wide (n := 0)).2 ?_
    refine wp_region_noPanic ?_
    refine wp_region_F 6 (fun w' => w'.cell? ⟨S1, 0, none⟩ = some (.slice (some ⟨ga, oa, none⟩) n ca)) (by kernel_rfl) ?_ (fun hHeld => ?_)
    · exact hcd
    refine' wpAnyF_take (i := 0) (v := _) rfl (by kernel_rfl) (by kernel_rfl) (by kernel_rfl) (by kernel_rfl) (by rfl) (by kernel_rfl) (fun _ _ _ h => h) (Or.inl ⟨by rfl, ?hy⟩) hHeld _
    case hy => (intro w0 hSw; (try dsimp only at hSw); simp only [List.getElem_toArray, List.getElem_cons_zero]; go_simp; first | done | with_reducible rfl)
    simp only [Act.put, List.getElem_toArray, List.getElem_cons_zero, List.setIfInBounds_toArray, List.set_cons_zero, List.set_cons_succ]
    refine' wpAnyF_take (i := 1) (v := _) rfl (by kernel_rfl) (by kernel_rfl) (by kernel_rfl) (by kernel_rfl) (by rfl) (by kernel_rfl) (fun _ _ _ h => h) (Or.inl ⟨by rfl, ?hy⟩) hHeld _
    case hy => (intro w0 hSw; (try dsimp only at hSw); simp only [List.getElem_toArray, List.getElem_cons_zero, List.getElem_cons_succ]; go_simp; first | done | with_reducible rfl)
    simp only [Act.put, List.getElem_toArray, List.getElem_cons_zero, List.getElem_cons_succ, List.setIfInBounds_toArray, List.set_cons_zero, List.set_cons_succ]
    refine wpAnyF_two (i := 2) (j := 3) (by kernel_rfl) rfl rfl (fun K hK => ?_) (fun K hK => ?_)
    · have HBV := Lib.hid (show Below W.heap.size W.drew W.drew from Below.refl _ _)
      go_simp
      refine (HCL.out _ HBV.out).mono ?_
      rintro e w1 ⟨p2, c2, rfl, ho2, hp2, hb1⟩
      have hb2 : Below W.heap.size W.drew w1 := HBV.out.trans (hb1.mono HBV.out.size)
      have hx1 := (hb2.cell (p := ⟨S1, 0, none⟩) HOL.out).trans hcd
      have H1 := Lib.hid (And.intro ho2 (And.intro hp2 (And.intro hb1 hb2)))
      clear ho2 hp2 hb1 hb2
      refine hK.out _ _ (fun _ => hx1) ?_
      clear hK K
      try simp only [Act.put, List.getElem_toArray, List.getElem_cons_zero, List.getElem_cons_succ, List.setIfInBounds_toArray, List.set_cons_zero, List.set_cons_succ]
      refine wpAnyF_one (i := 3) (by kernel_rfl) rfl (fun K hK => ?_)
      go_simp
      refine hK.out _ _ (fun _ => ?_) ?_
      · exact ((H1.out.2.2.2.alloc H1.out.2.2.2.size _).cell (p := ⟨S1, 0, none⟩) HOL.out).trans hcd
      clear hK K
      try simp only [Act.put, List.getElem_toArray, List.getElem_cons_zero, List.getElem_cons_succ, List.setIfInBounds_toArray, List.set_cons_zero, List.set_cons_succ]
      refine wpAnyF_one (i := 4) (by kernel_rfl) rfl (fun K hK => ?_)
      go_simp
      refine hK.out _ _ (fun _ => ?_) ?_
      · exact ((H1.out.2.2.2.alloc H1.out.2.2.2.size _).cell (p := ⟨S1, 0, none⟩) HOL.out).trans hcd
      clear hK K
      try simp only [Act.put, List.getElem_toArray, List.getElem_cons_zero, List.getElem_cons_succ, List.setIfInBounds_toArray, List.set_cons_zero, List.set_cons_succ]
      refine wpAnyF_one (i := 5) (by kernel_rfl) rfl (fun K hK => ?_)
      go_simp
      refine hK.out _ _ (fun _ => ?_) ?_
      · exact (((H1.out.2.2.2.alloc H1.out.2.2.2.size _).alloc (Nat.le_trans H1.out.2.2.2.size (by simp)) _).cell (p := ⟨S1, 0, none⟩) HOL.out).trans hcd
      clear hK K
      try simp only [Act.put, List.getElem_toArray, List.getElem_cons_zero, List.getElem_cons_succ, List.setIfInBounds_toArray, List.set_cons_zero, List.set_cons_succ]
      refine wpAnyF_one (i := 6) (by kernel_rfl) rfl (fun K hK => ?_)
      go_simp
      refine hK.out _ _ (fun h => Bool.noConfusion (h.symm.trans (by kernel_rfl : _ = true))) ?_
      clear hK K
      try simp only [Act.put, List.getElem_toArray, List.getElem_cons_zero, List.getElem_cons_succ, List.setIfInBounds_toArray, List.set_cons_zero, List.set_cons_succ]
      refine wpAnyF_one (i := 7) (by kernel_rfl) rfl (fun K hK => ?_)
      go_simp
      refine hK.out _ _ (fun h => Bool.noConfusion (h.symm.trans (by kernel_rfl : _ = true))) ?_
      clear hK K
      try simp only [Act.put, List.getElem_toArray, List.getElem_cons_zero, List.getElem_cons_succ, List.setIfInBounds_toArray, List.set_cons_zero, List.set_cons_succ]
      refine wpAnyF_done (by kernel_rfl) ?_ _
      refine NoPanic.normal ?_
      gi_wp2
      have hbm : Below w1.heap.size w1 (w1.alloc (.map #[] 0)) := (Below.refl _ _).alloc (Nat.le_refl _) _
      have hbf : Below (w1.alloc (.map #[] 0)).heap.size (w1.alloc (.map #[] 0)) ((w1.alloc (.map #[] 0)).alloc (.cells #[.slice (some ⟨ga, oa, none⟩) n ca, .slice p2 n c2, .map (some w1.heap.size)] 64)) := (Below.refl _ _).alloc (Nat.le_refl _) _
      have hbmf : Below w1.heap.size w1 ((w1.alloc (.map #[] 0)).alloc (.cells #[.slice (some ⟨ga, oa, none⟩) n ca, .slice p2 n c2, .map (some w1.heap.size)] 64)) := hbm.trans (hbf.mono (by simp))
      have hOo : ((w1.alloc (.map #[] 0)).alloc (.cells #[.slice (some ⟨ga, oa, none⟩) n ca, .slice p2 n c2, .map (some w1.heap.size)] 64)).heap[w1.heap.size + 1]? = some (.cells #[.slice (some ⟨ga, oa, none⟩) n ca, .slice p2 n c2, .map (some w1.heap.size)] 64 (0, 0)) := by
        have := World.alloc_heap_new (w1.alloc (.map #[] 0)) (.cells #[.slice (some ⟨ga, oa, none⟩) n ca, .slice p2 n c2, .map (some w1.heap.size)] 64)
        rw [World.size_alloc] at this
        exact this
      have hs1 : W.heap.size ≤ w1.heap.size := H1.out.2.2.2.size
      have hfin := MAt.fin (S := W.heap.size) (D := D) (base := w.heap.size) HLL.out hn0 hnx hOo ((HGW.out.1.keep (fun x hx => H1.out.2.2.2.block x (HGW.out.2.1 x hx).2)).below hbmf) (H1.out.1.below hbmf) ((QAt.made w1).keep (hbf.block _ (by simp))) (fun x hx => ⟨by have := (HGW.out.2.1 x hx).1; have := HB0.out.1.size; omega, (HGW.out.2.1 x hx).2, HKD.out x hx⟩) (fun x hx => ⟨H1.out.2.1 x hx, by have := H1.out.1.lt hx; omega, by have := H1.out.1.lt hx; omega⟩) ⟨hs1, by omega⟩ (by omega) HGW.out.2.2.2 (Nat.le_of_lt HWL.out)
      have hend := H1.out.2.2.2.trans (hbmf.mono hs1)
      generalize (w1.alloc (.map #[] 0)).alloc (.cells #[.slice (some ⟨ga, oa, none⟩) n ca, .slice p2 n c2, .map (some w1.heap.size)] 64) = WF at *
      have hDF : WF.heap[D]? = some (.deferred (some [])) := (hend.block D HGW.out.2.2.2).trans HGW.out.2.2.1
      refine leave1 (v := .tuple #[.pointer (some ⟨w1.heap.size + 1, 0, none⟩), .int .i64 0]) rfl hDF (by simp [results, Try.results24, go_sem]) ⟨w1.heap.size + 1, _, rfl, hfin, fun x hx => ⟨hx.1, by simpa using hx.2⟩, ?_⟩
      exact below_putObj (HB0.out.1.trans (((HSS.out.frn.below (n := w.heap.size) HB0.out.1.size (by rintro b (rfl | hb); exact (by have := HZ0.out.2; omega); exact (by have := (HP1.out b hb).1; omega))).drew).trans (hend.mono (Nat.le_of_lt HWL.out)))) hD2.out _
    · go_simp
      refine hK.out _ _ (fun _ => (((Below.refl W.heap.size W.drew).alloc (Nat.le_refl _) (.map #[] 0)).cell (p := ⟨S1, 0, none⟩) HOL.out).trans hcd) ?_
      clear hK K
      try simp only [Act.put, List.getElem_toArray, List.getElem_cons_zero, List.getElem_cons_succ, List.setIfInBounds_toArray, List.set_cons_zero, List.set_cons_succ]
      have HBV := Lib.hid (show Below W.heap.size W.drew (W.drew.alloc (.map #[] 0)) from (Below.refl W.heap.size W.drew).alloc (Nat.le_refl _) (.map #[] 0))
      refine wpAnyF_one (i := 2) (by kernel_rfl) rfl (fun K hK => ?_)
      go_simp
      refine (HCL.out _ HBV.out).mono ?_
      rintro e w1 ⟨p2, c2, rfl, ho2, hp2, hb1⟩
      have hb2 : Below W.heap.size W.drew w1 := HBV.out.trans (hb1.mono HBV.out.size)
      have hx1 := (hb2.cell (p := ⟨S1, 0, none⟩) HOL.out).trans hcd
      have H1 := Lib.hid (And.intro ho2 (And.intro hp2 (And.intro hb1 hb2)))
      clear ho2 hp2 hb1 hb2
      refine hK.out _ _ (fun _ => hx1) ?_
      clear hK K
      try simp only [Act.put, List.getElem_toArray, List.getElem_cons_zero, List.getElem_cons_succ, List.setIfInBounds_toArray, List.set_cons_zero, List.set_cons_succ]
      refine wpAnyF_one (i := 4) (by kernel_rfl) rfl (fun K hK => ?_)
      go_simp
      refine hK.out _ _ (fun _ => ?_) ?_
      · exact (H1.out.2.2.2.cell (p := ⟨S1, 0, none⟩) HOL.out).trans hcd
      clear hK K
      try simp only [Act.put, List.getElem_toArray, List.getElem_cons_zero, List.getElem_cons_succ, List.setIfInBounds_toArray, List.set_cons_zero, List.set_cons_succ]
      refine wpAnyF_one (i := 5) (by kernel_rfl) rfl (fun K hK => ?_)
      go_simp
      refine hK.out _ _ (fun _ => ?_) ?_
      · exact ((H1.out.2.2.2.alloc H1.out.2.2.2.size _).cell (p := ⟨S1, 0, none⟩) HOL.out).trans hcd
      clear hK K
      try simp only [Act.put, List.getElem_toArray, List.getElem_cons_zero, List.getElem_cons_succ, List.setIfInBounds_toArray, List.set_cons_zero, List.set_cons_succ]
      refine wpAnyF_one (i := 6) (by kernel_rfl) rfl (fun K hK => ?_)
      go_simp
      refine hK.out _ _ (fun h => Bool.noConfusion (h.symm.trans (by kernel_rfl : _ = true))) ?_
      clear hK K
      try simp only [Act.put, List.getElem_toArray, List.getElem_cons_zero, List.getElem_cons_succ, List.setIfInBounds_toArray, List.set_cons_zero, List.set_cons_succ]
      refine wpAnyF_one (i := 7) (by kernel_rfl) rfl (fun K hK => ?_)
      go_simp
      refine hK.out _ _ (fun h => Bool.noConfusion (h.symm.trans (by kernel_rfl : _ = true))) ?_
      clear hK K
      try simp only [Act.put, List.getElem_toArray, List.getElem_cons_zero, List.getElem_cons_succ, List.setIfInBounds_toArray, List.set_cons_zero, List.set_cons_succ]
      refine wpAnyF_done (by kernel_rfl) ?_ _
      refine NoPanic.normal ?_
      gi_wp2
      have hbf : Below w1.heap.size w1 (w1.alloc (.cells #[.slice (some ⟨ga, oa, none⟩) n ca, .slice p2 n c2, .map (some W.heap.size)] 64)) := (Below.refl _ _).alloc (Nat.le_refl _) _
      have hOo : (w1.alloc (.cells #[.slice (some ⟨ga, oa, none⟩) n ca, .slice p2 n c2, .map (some W.heap.size)] 64)).heap[w1.heap.size]? = some (.cells #[.slice (some ⟨ga, oa, none⟩) n ca, .slice p2 n c2, .map (some W.heap.size)] 64 (0, 0)) := World.alloc_heap_new w1 _
      have hs1 : W.heap.size + 1 ≤ w1.heap.size := by have := H1.out.2.2.1.size; simpa using this
      have hp3 : ∀ x, inP p2 c2 x → W.heap.size + 1 ≤ x := fun x hx => by have := H1.out.2.1 x hx; simpa using this
      have hfin := MAt.fin (S := W.heap.size) (D := D) (base := w.heap.size) HLL.out hn0 hnx hOo ((HGW.out.1.keep (fun x hx => H1.out.2.2.2.block x (HGW.out.2.1 x hx).2)).below hbf) (H1.out.1.below hbf) ((QAt.made W.drew).keep ((hbf.block _ (show W.heap.size < w1.heap.size by omega)).trans (H1.out.2.2.1.block _ (by simp)))) (fun x hx => ⟨by have := (HGW.out.2.1 x hx).1; have := HB0.out.1.size; omega, (HGW.out.2.1 x hx).2, HKD.out x hx⟩) (fun x hx => ⟨by have := hp3 x hx; omega, by have := hp3 x hx; omega, by have := H1.out.1.lt hx; omega⟩) ⟨Nat.le_refl _, by omega⟩ (by omega) HGW.out.2.2.2 (Nat.le_of_lt HWL.out)
      have hend := H1.out.2.2.2.trans (hbf.mono (by omega))
      generalize w1.alloc (.cells #[.slice (some ⟨ga, oa, none⟩) n ca, .slice p2 n c2, .map (some W.heap.size)] 64) = WF at *
      have hDF : WF.heap[D]? = some (.deferred (some [])) := (hend.block D HGW.out.2.2.2).trans HGW.out.2.2.1
      refine leave1 (v := .tuple #[.pointer (some ⟨w1.heap.size, 0, none⟩), .int .i64 0]) rfl hDF (by simp [results, Try.results24, go_sem]) ⟨w1.heap.size, _, rfl, hfin, fun x hx => ⟨hx.1, by simpa using hx.2⟩, ?_⟩
      exact below_putObj (HB0.out.1.trans (((HSS.out.frn.below (n := w.heap.size) HB0.out.1.size (by rintro b (rfl | hb); exact (by have := HZ0.out.2; omega); exact (by have := (HP1.out b hb).1; omega))).drew).trans (hend.mono (Nat.le_of_lt HWL.out)))) hD2.out _
end Go.Proofs.Ytaflbfmlajbjcaa
