/- The walks of the reference's memory: Words. -/
import Derived.Test.YtaflbfmlajbjcaaPmemX
namespace Go.Proofs.Ytaflbfmlajbjcaa
open Go Go.RowKit

theorem flatW_get : ∀ (l : List V8) (i : Nat) (hi : i < l.length) (j : Nat) (hj : j < 8), (flatW l)[8 * i + j]? = some (l[i][j])
  | [], i, hi, _, _ => by simp at hi
  | v :: l, 0, _, j, hj => by
    show (v.toList ++ flatW l)[8 * 0 + j]? = _
    rw [List.getElem?_append_left (by simp; omega)]
    simp [hj]
  | v :: l, i + 1, hi, j, hj => by
    show (v.toList ++ flatW l)[8 * (i + 1) + j]? = _
    rw [List.getElem?_append_right (by simp; omega)]
    have := flatW_get l i (by simpa using hi) j hj
    rw [show 8 * (i + 1) + j - v.toList.length = 8 * i + j by simp; omega, this]
    rfl
theorem flatW_at (l : List V8) (k : Nat) (hk : k < 8 * l.length) : (flatW l)[k]? = some ((l[k / 8]'(by omega))[k % 8]'(by omega)) := by
  have := flatW_get l (k / 8) (by omega) (k % 8) (by omega)
  rwa [show 8 * (k / 8) + k % 8 = k by omega] at this
/-- The first k words of F, noughts behind. -/
def wP (F : List (BitVec 64)) (k : Nat) : List (BitVec 64) := F.take k ++ List.replicate (F.length - k) 0#64
theorem wP_len (F : List (BitVec 64)) (k : Nat) (h : k ≤ F.length) : (wP F k).length = F.length := by simp [wP]; omega
theorem wP_zero (F : List (BitVec 64)) : wP F 0 = List.replicate F.length 0#64 := by simp [wP]
theorem wP_all (F : List (BitVec 64)) : wP F F.length = F := by simp [wP]
theorem wP_succ (F : List (BitVec 64)) (k : Nat) (x : BitVec 64) (h : F[k]? = some x) : (wP F k).set k x = wP F (k + 1) := by
  obtain ⟨hk, hx⟩ := List.getElem?_eq_some_iff.1 h
  unfold wP
  have hl : (F.take k).length = k := by simp; omega
  rw [List.set_append_right _ _ (by omega), hl, Nat.sub_self, List.take_succ_eq_append_getElem hk, hx]
  obtain ⟨r, hr⟩ : ∃ r, F.length - k = r + 1 := ⟨F.length - k - 1, by omega⟩
  rw [hr, show F.length - (k + 1) = r by omega]
  simp [List.replicate_succ]
def WAt (W : World) (B : Nat) (ws : List (BitVec 64)) : Prop := W.heap[B]? = some (.cells (ws.map vw).toArray 36 (0, 0))
theorem WAt.cell {W : World} {B : Nat} {ws : List (BitVec 64)} (h : WAt W B ws) (k : Nat) (hk : k < ws.length) : W.cell? ⟨B, k, none⟩ = some (vw ws[k]) ∧ W.frozen? ⟨B, k, none⟩ = false := by
  unfold WAt at h
  constructor
  · simp [World.cell?, h, hk]
  · simp [World.frozen?, h]
theorem WAt.set {W : World} {B : Nat} {ws : List (BitVec 64)} (h : WAt W B ws) (k : Nat) (x : BitVec 64) : WAt (W.setCell ⟨B, k, none⟩ (vw x)) B (ws.set k x) := by
  have := heap_setCell_same W B k _ _ (vw x) h
  unfold WAt
  rw [this]
  simp [List.map_set]
theorem WAt.rdl {W : World} {B : Nat} {ws : List (BitVec 64)} (h : WAt W B ws) (hm : ws.length ≤ maxLen) : RdL W.heap.size W (some ⟨B, 0, none⟩) ws.length vw ws := by
  refine ⟨Nat.le_refl _, hm, .inr ⟨B, 0, rfl, (Array.getElem?_eq_some_iff.1 h).1, fun i hi => ?_⟩⟩
  rw [Nat.zero_add]
  exact (h.cell i hi).1
set_option maxRecDepth 100000 in
set_option maxHeartbeats 8000000 in
theorem words7_any (p : Option Addr) (cap : Nat) (m : Mem) (bb : Bool) (w : World) (hrd : RdS w.heap.size w p cap 25 lc m) (hn : m.length ≤ 1000) :
    Calls Try.prog 63 #[.slice p m.length cap, .bool bb] w fun e w' => ∃ p' c', e = .returned (.slice p' (8 * m.length) c') ∧ RdL w'.heap.size w' p' c' vw (flatW (if bb = true then m.lst else m.nows)) ∧ Below w.heap.size w w' := by
  obtain ⟨A, hA⟩ : ∃ A, 8 * m.length = A := ⟨_, rfl⟩
  have hmk := made_w64 A (by omega)
  have hwr : IntKind.i64.wrap (8 * (m.length : Int)) = (A : Int) := by rw [IntKind.wrap_i64]; omega
  obtain ⟨F, hF⟩ : ∃ F, flatW (if bb = true then m.lst else m.nows) = F := ⟨_, rfl⟩
  have hFl : F.length = A := by
    rw [← hF, flatW_len]
    cases bb
    · rw [if_neg Bool.false_ne_true, nows_len]; exact hA
    · rw [if_pos rfl, lst_len]; exact hA
  have hFn : ∀ k (hk : k < 8 * m.length), F[k]? = some (if bb = true then (m[k / 8]'(by omega)).lasts[k % 8]'(by omega) else (m[k / 8]'(by omega)).now[k % 8]'(by omega)) := by
    intro k hk
    rw [← hF]
    cases bb
    · rw [if_neg Bool.false_ne_true, if_neg Bool.false_ne_true, flatW_at _ k (by rw [nows_len]; exact hk)]
      simp only [nows_get]
    · rw [if_pos rfl, if_pos rfl, flatW_at _ k (by rw [lst_len]; exact hk)]
      simp only [lst_get]
  rw [hF, hA]
  obtain ⟨wa, hwa⟩ : ∃ wa, w.alloc (.cells (Array.replicate A (vw 0#64)) 36) = wa := ⟨_, rfl⟩
  have hba : Below w.heap.size w wa := by rw [← hwa]; exact (Below.refl _ _).alloc (Nat.le_refl _) _
  have hga : WAt wa w.heap.size (wP F 0) := by
    unfold WAt
    rw [wP_zero, hFl, ← hwa, List.map_replicate, List.toArray_replicate]
    exact World.alloc_heap_new _ _
  have HRD := Lib.hid hrd
  have HW := Lib.hid (And.intro hga hba)
  have HFN := Lib.hid hFn
  have HFL := Lib.hid (And.intro hFl hA)
  have hAl : (A : Int) ≤ 8000 := by omega
  clear hba hga hrd hFn hF hFl hA
  go_enter Try.func63, Try.ntmps63
  go_wp2_with fail
  clear hmk hwa
  go_loopw [6] (fun i wr => ∃ k : Nat, k ≤ A ∧ i = .int .i64 k ∧ WAt wr w.heap.size (wP F k) ∧ Below w.heap.size w wr) (fun i _ => A - (intOf i).toNat)
  case atStart => exact ⟨0, Nat.zero_le _, rfl, HW.out⟩
  case round =>
    obtain ⟨k, hk, rfl, ho, hb⟩ := hrel
    by_cases hlt : k < A
    · have hlt' : (k : Int) < (A : Int) := by omega
      have hkm : k < 8 * m.length := by have := HFL.out.2; omega
      have hI : k / 8 < m.length := by omega
      obtain ⟨g, o, rfl⟩ := own_ptr HRD.out (by omega)
      obtain ⟨hr0, hg⟩ := rds_ln HRD.out (k / 8) hI
      have hr : wr.rangeAt g (o + k / 8 * 25) (lc m[k / 8]) := fun j u hu => (hb.cell (p := ⟨g, o + k / 8 * 25 + j, none⟩) hg).trans (hr0 j u hu)
      have hgw : g ≠ w.heap.size := Nat.ne_of_lt hg
      have hfn := HFN.out k hkm
      obtain ⟨x, hx⟩ : ∃ x, m[k / 8] = x := ⟨_, rfl⟩
      rw [hx] at hr hfn
      obtain ⟨J, hJ⟩ : ∃ J, k % 8 = J := ⟨_, rfl⟩
      obtain ⟨I, hII⟩ : ∃ I, k / 8 = I := ⟨_, rfl⟩
      have hJ8 : J < 8 := by omega
      obtain ⟨a, ha⟩ : ∃ a, x.now[k % 8]'(by omega) = a := ⟨_, rfl⟩
      obtain ⟨b, hb2⟩ : ∃ b, x.lasts[k % 8]'(by omega) = b := ⟨_, rfl⟩
      rw [ha, hb2] at hfn
      rw [hII] at hr hI
      simp only [hJ] at ha hb2
      obtain ⟨r1, r2, -, -⟩ := range_ln.1 hr
      have n1 : wr.cell? ⟨g, o + I * 25 + J, none⟩ = some (vw a) := r1 J (vw a) (by simp [ec, hJ8, ha])
      have n2 : wr.cell? ⟨g, o + I * 25 + 8 + J, none⟩ = some (vw b) := r2 J (vw b) (by simp [ec, hJ8, hb2])
      obtain ⟨c1, f1⟩ := ho.cell k (by rw [wP_len F k (by have := HFL.out.1; omega)]; have := HFL.out.1; omega)
      obtain ⟨u, hu⟩ : ∃ u, (wP F k)[k]'(by rw [wP_len F k (by have := HFL.out.1; omega)]; have := HFL.out.1; omega) = u := ⟨_, rfl⟩
      rw [hu] at c1
      have hq1 : (k : Int).tdiv 8 = (I : Int) := by rw [Int.tdiv_eq_ediv_of_nonneg (by omega)]; omega
      have hq3 : (k : Int) / 8 = (I : Int) := by omega
      have hr1 : (k : Int).tmod 8 = (J : Int) := by rw [Int.tmod_eq_emod_of_nonneg (by omega)]; omega
      have hr2 : (k : Int) % 8 = (J : Int) := by omega
      have hw1 : IntKind.i64.wrap (I : Int) = (I : Int) := by rw [IntKind.wrap_i64]; omega
      have hw2 : IntKind.i64.wrap (J : Int) = (J : Int) := by rw [IntKind.wrap_i64]; omega
      have hIn : (I : Int) < (m.length : Int) := by omega
      have hJn : (J : Int) < 8 := by omega
      obtain ⟨W1, hW1⟩ : ∃ W1, wr.setCell ⟨w.heap.size, k, none⟩ (vw a) = W1 := ⟨_, rfl⟩
      have ho1 := ho.set k a
      have hb1 := hb.setCell (p := ⟨w.heap.size, k, none⟩) (Nat.le_refl _) (vw a)
      rw [hW1] at ho1 hb1
      cases bb with
      | false =>
        have hfin : WAt W1 w.heap.size (wP F (k + 1)) := by rw [← wP_succ F k a hfn]; exact ho1
        have HF := Lib.hid (And.intro hfin hb1)
        clear ho hb hr0 hg hr hfn hx r1 r2 ho1 hb1 hfin hu hI hJ8 ha hb2 hII hJ hkm n2
        go_wp2_with fail
        go_roundw
        case rel => exact ⟨k + 1, hlt, by go_num, HF.out⟩
        case measure => simp [intOf]; omega
      | true =>
        have hl1 : k < ((wP F k).set k a).length := by rw [List.length_set, wP_len F k (by have := HFL.out.1; omega)]; have := HFL.out.1; omega
        obtain ⟨c2, f2⟩ := ho1.cell k hl1
        rw [List.getElem_set_self] at c2
        have n3 : W1.cell? ⟨g, o + I * 25 + 8 + J, none⟩ = some (vw b) := by
          rw [← hW1, World.cell?_setCell_other _ _ _ _ (fun e => hgw (by injection e with e1; exact e1.symm))]
          exact n2
        have hfin : WAt (W1.setCell ⟨w.heap.size, k, none⟩ (vw b)) w.heap.size (wP F (k + 1)) := by
          rw [← wP_succ F k b hfn]
          have := ho1.set k b
          rwa [List.set_set] at this
        have HF := Lib.hid (And.intro hfin (hb1.setCell (p := ⟨w.heap.size, k, none⟩) (Nat.le_refl _) (vw b)))
        clear ho hb hr0 hg hr hfn hx r1 r2 ho1 hb1 hfin hu hI hJ8 ha hb2 hII hJ hkm n2 hl1
        go_wp2_with fail
        go_roundw
        case rel => exact ⟨k + 1, hlt, by go_num, HF.out⟩
        case measure => simp [intOf]; omega
    · obtain rfl : k = A := by omega
      have hnl : ¬ (k : Int) < (k : Int) := by omega
      have hal := wP_all F
      rw [HFL.out.1] at hal
      rw [hal] at ho
      have hrl := ho.rdl (by rw [HFL.out.1]; unfold maxLen; omega)
      rw [HFL.out.1] at hrl
      have HO := Lib.hid (And.intro hrl hb)
      clear ho hb hal hrl
      go_wp2_with fail
      go_ret
      exact ⟨_, _, rfl, HO.out⟩
end Go.Proofs.Ytaflbfmlajbjcaa
