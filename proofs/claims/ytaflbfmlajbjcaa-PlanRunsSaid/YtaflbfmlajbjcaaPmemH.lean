/- The walks of the memory: Open, and what it goes over. -/
import Derived.Test.YtaflbfmlajbjcaaPmemG
import Derived.Test.YtaflbfmlajbjcaaKeep
namespace Go.Proofs.Ytaflbfmlajbjcaa
open Go Go.RowKit
attribute [local go_sem] Oper.semAt_some

def isOpen (m : Mem) (i : Nat) : Bool := ((m[i]?).map (·.open)).getD false
def opensT (m : Mem) (k : Nat) : List Nat := (List.range k).filter (isOpen m)
theorem opens_T (m : Mem) : m.opens = opensT m m.length := rfl
theorem isOpen_get (m : Mem) (i : Nat) (h : i < m.length) : isOpen m i = m[i].open := by simp [isOpen, h]
theorem opensT_succ (m : Mem) (k : Nat) : opensT m (k + 1) = if isOpen m k = true then opensT m k ++ [k] else opensT m k := by
  unfold opensT
  rw [List.range_succ, List.filter_append]
  by_cases h : isOpen m k = true
  · simp [h]
  · simp [h]
theorem opensT_pre (m : Mem) : ∀ (n k : Nat), k ≤ n → ∃ t, opensT m n = opensT m k ++ t
  | 0, k, h => ⟨[], by rw [show k = 0 by omega]; simp⟩
  | n + 1, k, h => by
    by_cases hk : k = n + 1
    · subst hk; exact ⟨[], by simp⟩
    · obtain ⟨t, ht⟩ := opensT_pre m n k (by omega)
      rw [opensT_succ]
      by_cases ho : isOpen m n = true
      · rw [if_pos ho, ht]; exact ⟨t ++ [n], by rw [List.append_assoc]⟩
      · rw [if_neg ho]; exact ⟨t, ht⟩
theorem opensT_get (m : Mem) {k n : Nat} (hk : k < n) (ho : isOpen m k = true) : ∃ hl : (opensT m k).length < (opensT m n).length, (opensT m n)[(opensT m k).length] = k := by
  obtain ⟨t, ht⟩ := opensT_pre m n (k + 1) hk
  rw [opensT_succ, if_pos ho] at ht
  exact List.getElem?_eq_some_iff.1 (by rw [ht]; simp)
def encI (l : List Nat) : List (Array Value) := l.map fun (i : Nat) => #[.int .i64 (i : Int)]
theorem encI_len (l : List Nat) : (encI l).length = l.length := by simp [encI]
theorem encI_get (l : List Nat) (k : Nat) (h : k < (encI l).length) : (encI l)[k] = #[.int .i64 ((l[k]'(by simpa [encI] using h) : Nat) : Int)] := by simp [encI]
set_option maxHeartbeats 1000000 in
theorem openS_any (p : Option Addr) (w : World) : Calls Try.prog 18 #[.pointer p] w fun e w' => e = .returned (.func (.func 52) #[] #[.pointer (some ⟨w.heap.size, 0, none⟩)]) ∧ w.alloc (.cells #[.pointer p] 26) = w' := by
  go_enter Try.func18, Try.ntmps18
  go_wp2
  go_ret
  exact ⟨rfl, rfl⟩
set_option maxRecDepth 100000 in
set_option maxHeartbeats 4000000 in
theorem open1_iter {O : Nat} {m : Mem} {N : Nat → Prop} (Bm : Nat) (w : World) (hm : Box w Bm 26 (.pointer (some ⟨O, 0, none⟩))) (h : MAt w O m N) (hN : ∀ x, N x → x < w.heap.size) :
    Iter Try.prog 52 #[.pointer (some ⟨Bm, 0, none⟩)] (encI m.opens) (fun b => b = Bm ∨ N b) w := by
  intro L J Jx W T hW hT hJ hJx hY h0
  have hmW : Box W Bm 26 (.pointer (some ⟨O, 0, none⟩)) := hm.kept (hW.block _ (.inl rfl) hm.lt)
  have hbW : MAt W O m N := h.keep (fun x hx hl => hW.block _ (.inr hx) hl)
  obtain ⟨p1, c1, p2, c2, b, n, hr⟩ := hbW
  have hln := hr.len
  have hle := hr.le
  have hNW : ∀ x, N x → x < W.heap.size := fun x hx => Nat.lt_of_lt_of_le (hN x hx) hW.size
  rw [encI_len]
  have HY := Lib.hid hY
  have HJ := Lib.hid hJ
  have HJX := Lib.hid hJx
  have H0 := Lib.hid (And.intro hmW (And.intro hr hNW))
  have HNN := Lib.hid (noneM_any W hr.cells.1 hr.pos)
  have q0 := hmW.cell
  have q1 := hr.cells.1
  have HS : Hid (J 0 T W ∧ (∀ b, T b → b < W.heap.size) ∧ Kps (fun b => b = Bm ∨ N b) W W) := Lib.hid ⟨h0, hT, Kps.refl _ _⟩
  have HOT := Lib.hid (show m.opens = opensT m n by rw [opens_T, hln])
  have hlBm : Bm < W.heap.size := hmW.lt
  clear hY hJ hJx hW hT hm h hmW hr h0 hN hNW
  refine callsIn_of_wp Try.func52 rfl trivial ?_ rfl
  simp only [Try.ntmps52, List.size_toArray, List.length_cons, List.length_nil, Nat.reduceAdd, Nat.reduceSub, Array.replicate_succ, Array.replicate_zero, List.push_toArray, List.append_toArray, List.nil_append, List.cons_append]
  gi_wp2
  apply wpIn_scope_wide
  gi_wp2
  refine wcall HNN.out ?_
  rintro e w' ⟨rfl, rfl⟩
  gi_wp2
  apply wpIn_label
  gi_wp2
  gi_loopw [11] (fun i wr => ∃ (k : Nat) (T' : Nat → Prop), k ≤ n ∧ i = .int .i64 k ∧ J (opensT m k).length T' wr ∧ (∀ b, T' b → b < wr.heap.size) ∧ Kps (fun b => b = Bm ∨ N b) W wr)
    (fun i _ => n - (intOf i).toNat)
  case atStart => exact ⟨0, _, by omega, rfl, HS.out⟩
  case round =>
    clear HS q0 q1
    obtain ⟨k, T', hk, rfl, hJs, hTs, hnx⟩ := hrel
    have hmr := H0.out.1.kept (hnx.block _ (.inl rfl) hlBm)
    have hbr := H0.out.2.1.keep (fun x hx hl => hnx.block _ (.inr hx) hl)
    have q0 := hmr.cell
    have q1 := hbr.cells.1
    have HT := Lib.hid (And.intro hJs (And.intro hTs hnx))
    by_cases hlt : k < n
    · have hkm : k < m.length := by omega
      have HOP := Lib.hid (open_any k wr ⟨_, _, _, _, _, _, hbr⟩ hkm)
      have hio := isOpen_get m k hkm
      have HBR := Lib.hid (And.intro hmr hbr)
      clear hmr hbr hJs hTs hnx
      cases hop : m[k].open with
      | true =>
        rw [hop] at HOP hio
        have HIL := Lib.hid (opensT_get m hlt hio)
        have HNX := Lib.hid (show (opensT m (k + 1)).length = (opensT m k).length + 1 by rw [opensT_succ, if_pos hio]; simp)
        clear hop hio
        gi_wp2
        refine wcall HOP.out ?_
        rintro e w5 ⟨rfl, hb5⟩
        obtain ⟨hil, hig⟩ := HIL.out
        have hyy := HY.out (opensT m k).length (by rw [encI_len, HOT.out]; exact hil) (grow T' wr w5) w5 (fun b hb => hb.elim (fun hb => Nat.lt_of_lt_of_le (HT.out.2.1 b hb) hb5.size) (fun hb => hb.2)) (HJ.out _ _ _ _ HT.out.1 (Frn.of_below hb5))
        have hik : (m.opens)[(opensT m k).length]'(by rw [HOT.out]; exact hil) = k := by
          simp only [HOT.out, hig]
        rw [encI_get, hik] at hyy
        obtain ⟨fn, tmps, assign, body, hy, hR2⟩ := hyy
        have HRR2 := Lib.hid hR2
        have H5 := Lib.hid (And.intro (show ∀ b, grow T' wr w5 b → b < w5.heap.size from fun b hb => hb.elim (fun hb => Nat.lt_of_lt_of_le (HT.out.2.1 b hb) hb5.size) (fun hb => hb.2)) (HT.out.2.2.trans (Kps.of_below hb5 (fun b hb => hb.elim (fun e => by rw [e]; exact Nat.lt_of_lt_of_le hlBm HT.out.2.2.size) (fun hb => Nat.lt_of_lt_of_le (H0.out.2.2 b hb) HT.out.2.2.size)))))
        clear hR2 hik hb5 hil hig
        gi_wp2
        refine ⟨rfl, HRR2.out.mono ?_⟩
        clear hy HRR2 q0 q1
        rintro e w8 (⟨rfl, hJ8, hk8⟩ | ⟨rfl, hJx8, hk8⟩)
        · have H8 : Hid (J (opensT m (k + 1)).length (grow T' wr w5) w8 ∧ (∀ b, grow T' wr w5 b → b < w8.heap.size) ∧ Kps (fun b => b = Bm ∨ N b) W w8) := Lib.hid ⟨by rw [HNX.out]; exact hJ8, fun b hb => Nat.lt_of_lt_of_le (H5.out.1 b hb) hk8.size, H5.out.2.trans (hk8.mono fun b hb => .inl hb)⟩
          clear hJ8 hk8
          gi_wp2
          go_roundw
          case rel => exact ⟨k + 1, _, by omega, by go_num, H8.out⟩
          case measure => simp [intOf]; omega
        · have H8 := Lib.hid (show Jx ((opensT m k).length + 1) (grow T' wr w5) w8 ∧ (∀ b, grow T' wr w5 b → b < w8.heap.size) from ⟨hJx8, fun b hb => Nat.lt_of_lt_of_le (H5.out.1 b hb) hk8.size⟩)
          clear hJx8 hk8
          gi_wp2
          rw [Exit.noGoto_normal]
          gi_wp2
          go_end0
          exact ⟨⟨_, rfl⟩, .inr ⟨(opensT m k).length + 1, _, by rw [HOT.out]; exact HIL.out.1, by omega, H8.out.1, H8.out.2⟩⟩
      | false =>
        rw [hop] at HOP hio
        have HNX := Lib.hid (show (opensT m (k + 1)).length = (opensT m k).length by rw [opensT_succ, if_neg (by rw [hio]; exact Bool.false_ne_true)])
        clear hop hio
        gi_wp2
        refine wcall HOP.out ?_
        rintro e w5 ⟨rfl, hb5⟩
        have H8 : Hid (J (opensT m (k + 1)).length (grow T' wr w5) w5 ∧ (∀ b, grow T' wr w5 b → b < w5.heap.size) ∧ Kps (fun b => b = Bm ∨ N b) W w5) := Lib.hid ⟨by rw [HNX.out]; exact HJ.out _ _ _ _ HT.out.1 (Frn.of_below hb5), fun b hb => hb.elim (fun hb => Nat.lt_of_lt_of_le (HT.out.2.1 b hb) hb5.size) (fun hb => hb.2), HT.out.2.2.trans (Kps.of_below hb5 (fun b hb => hb.elim (fun e => by rw [e]; exact Nat.lt_of_lt_of_le hlBm HT.out.2.2.size) (fun hb => Nat.lt_of_lt_of_le (H0.out.2.2 b hb) HT.out.2.2.size)))⟩
        clear hb5
        gi_wp2
        refine ⟨fun _ h => (by cases h), ?_⟩
        gi_wp2
        go_roundw
        case rel => exact ⟨k + 1, _, by omega, by go_num, H8.out⟩
        case measure => simp [intOf]; omega
    · obtain rfl : k = n := by omega
      have hnl : ¬ (k : Int) < (k : Int) := by omega
      clear hmr hbr hJs hTs hnx
      gi_wp2
      go_end0
      exact ⟨⟨_, rfl⟩, .inl ⟨T', by rw [HOT.out]; exact HT.out.1, HT.out.2.1⟩⟩
end Go.Proofs.Ytaflbfmlajbjcaa
