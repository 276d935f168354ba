/- The walk of the law LatchPlays. -/
import Derived.Test.YthhdipfadnihjaaLatchR
namespace Go.Proofs.Ythhdipfadnihjaa
open Go Go.RowKit

abbrev ActT := Int × Int
def ac (t : ActT) : List Value := [.int .i64 t.1, .int .i64 t.2]
theorem RdS.acts {B : Nat} {w : World} {p : Option Addr} {cap : Nat} {ys : List ActT} (h : RdS B w p cap 2 ac ys) (i : Nat) (hi : i < ys.length) :
    ∃ b off, p = some ⟨b, off, none⟩ ∧ b < B ∧ w.cell? ⟨b, off + i * 2, none⟩ = some (.int .i64 ys[i].1) ∧ w.cell? ⟨b, off + i * 2 + 1, none⟩ = some (.int .i64 ys[i].2) := by
  obtain ⟨h1, h2, h3⟩ := h
  rcases h3 with rfl | ⟨b, off, hp, hb, hc⟩
  · omega
  · exact ⟨b, off, hp, hb, by simpa using hc i hi 0 _ rfl, by rw [Nat.add_assoc]; exact hc i hi 1 _ rfl⟩
def runS (l : List ActT) : List Turn × List Turn := l.foldl (fun s a => (actS s a.1 a.2).1) ([], [])
theorem runS_snoc (l : List ActT) (a : ActT) : runS (l ++ [a]) = (actS (runS l) a.1 a.2).1 := by simp [runS]
theorem runS_ok (l : List ActT) : OkS (runS l) := by
  unfold runS
  have : ∀ (l : List ActT) (s : List Turn × List Turn), OkS s → OkS (l.foldl (fun s a => (actS s a.1 a.2).1) s) := by
    intro l
    induction l with
    | nil => exact fun s h => h
    | cons a l ih => exact fun s h => ih _ (h.act _ _)
  exact this l _ OkS.nil
/-- What holds between the rounds: the latch and the document's lists (a variable in block Wb) stand alike. -/
structure PInv (n : Nat) (w0 : World) (Wb : Nat) (T : Nat → Prop) (W : World) (L : Nat) (s : List Turn × List Turn) (p : Option Addr) (c : Nat) (q : Option Addr) (d : Nat) : Prop where
  lt : Lt n w0 T W L s
  bx : W.heap[Wb]? = some (.cells #[.slice p s.1.length c, .slice q s.2.length d] 62 (0, 0))
  rx : RdS W.heap.size W p c 2 tc s.1
  ry : RdS W.heap.size W q d 2 tc s.2
  nT : ∀ b, (b = Wb ∨ inP p c b ∨ inP q d b) → ¬ T b
  nW : ∀ b, (inP p c b ∨ inP q d b) → b ≠ Wb
  ge : n ≤ Wb
theorem PInv.below {n : Nat} {w0 : World} {Wb : Nat} {T : Nat → Prop} {W W' : World} {L : Nat} {s : List Turn × List Turn} {p : Option Addr} {c : Nat} {q : Option Addr} {d : Nat} (h : PInv n w0 Wb T W L s p c q d) (hb : Below W.heap.size W W') : PInv n w0 Wb T W' L s p c q d :=
  ⟨h.lt.below hb, (hb.block Wb (Array.getElem?_eq_some_iff.1 h.bx).1).trans h.bx, (h.rx.kept hb).wide hb.size, (h.ry.kept hb).wide hb.size, h.nT, h.nW, h.ge⟩
theorem PInv.wlt {n : Nat} {w0 : World} {Wb : Nat} {T : Nat → Prop} {W : World} {L : Nat} {s : List Turn × List Turn} {p : Option Addr} {c : Nat} {q : Option Addr} {d : Nat} (h : PInv n w0 Wb T W L s p c q d) : Wb < W.heap.size := (Array.getElem?_eq_some_iff.1 h.bx).1
/-- Another latch takes its place. -/
theorem PInv.copied {n : Nat} {w0 : World} {Wb : Nat} {T : Nat → Prop} {W W' : World} {L B : Nat} {s : List Turn × List Turn} {p : Option Addr} {c : Nat} {q : Option Addr} {d : Nat} (h : PInv n w0 Wb T W L s p c q d)
    (ho : LOwn (fun b => W.heap.size ≤ b ∧ b < W'.heap.size) W' B s.1 s.2) (hb : Below W.heap.size W W') : PInv n w0 Wb (fun b => W.heap.size ≤ b ∧ b < W'.heap.size) W' B s p c q d := by
  have h1 := h.below hb
  refine ⟨⟨ho, fun b hb => hb.2, fun b hb => Nat.le_trans h.lt.at_.2 hb.1, h1.lt.at_⟩, h1.bx, h1.rx, h1.ry, fun b hb ht => ?_, h.nW, h.ge⟩
  have : b < W.heap.size := by
    rcases hb with rfl | hb | hb
    · exact h.wlt
    · exact h.rx.inlt hb
    · exact h.ry.inlt hb
  have := ht.1
  omega
/-- One call by both: the variable is written anew; N: the block between. -/
theorem pinv_act {n : Nat} {w0 : World} {Wb N : Nat} {T T' : Nat → Prop} {wr wS w2 wf : World} {L : Nat} {s s' : List Turn × List Turn} {p : Option Addr} {c : Nat} {q : Option Addr} {d : Nat} {p' : Option Addr} {c' : Nat} {q' : Option Addr} {d' : Nat}
    (h : PInv n w0 Wb T wr L s p c q d) (hS : Below wr.heap.size wr wS) (a1 : LOwn T' w2 L s'.1 s'.2) (a2 : ∀ b, T' b → b < w2.heap.size) (a3 : ∀ b, T' b → T b ∨ wS.heap.size ≤ b) (a4 : Frn T wS w2)
    (a5 : RdS w2.heap.size w2 p' c' 2 tc s'.1) (a6 : RdS w2.heap.size w2 q' d' 2 tc s'.2) (a7 : ∀ b, inP p' c' b ∨ inP q' d' b → ¬ T' b ∧ ((inP p c b ∨ inP q d b) ∨ wS.heap.size ≤ b))
    (hN : (wr.heap.size ≤ N ∧ N < wS.heap.size) ∨ w2.heap.size ≤ N) (hsz : w2.heap.size ≤ wf.heap.size) (hoth : ∀ b, b < w2.heap.size → b ≠ N → b ≠ Wb → wf.heap[b]? = w2.heap[b]?)
    (hbx : wf.heap[Wb]? = some (.cells #[.slice p' s'.1.length c', .slice q' s'.2.length d'] 62 (0, 0))) (hmet : wf.os = w2.os ∧ wf.tape = w2.tape ∧ wf.output = w2.output) :
    PInv n w0 Wb T' wf L s' p' c' q' d' := by
  have hw := h.wlt
  have h1 := hS.size
  have h2 := a4.size
  have hn := h.lt.at_.2
  have hge := h.ge
  have hTr := h.lt.lt
  have hTn : ∀ b, T' b → n ≤ b := fun b hb => (a3 b hb).elim (h.lt.ge b) (fun h => by omega)
  have hTN : ¬ T' N := fun ht => by
    have := a2 N ht
    rcases a3 N ht with h' | h'
    · have := hTr N h'; omega
    · omega
  have hTW : ¬ T' Wb := fun ht => by
    rcases a3 Wb ht with h' | h'
    · exact h.nT Wb (.inl rfl) h'
    · omega
  have hlN : ∀ b, inP p' c' b ∨ inP q' d' b → b ≠ N := fun b hb e => by
    subst e
    have hl : b < w2.heap.size := hb.elim a5.inlt a6.inlt
    rcases (a7 b hb).2 with h' | h'
    · have : b < wr.heap.size := h'.elim h.rx.inlt h.ry.inlt
      omega
    · omega
  have hlW : ∀ b, inP p' c' b ∨ inP q' d' b → b ≠ Wb := fun b hb e => by
    subst e
    rcases (a7 b hb).2 with h' | h'
    · exact h.nW b h' rfl
    · omega
  refine ⟨⟨a1.keepT fun b hb => hoth b (a2 b hb) (fun e => hTN (e ▸ hb)) (fun e => hTW (e ▸ hb)), fun b hb => Nat.lt_of_lt_of_le (a2 b hb) hsz, hTn, ⟨⟨?_, ?_, ?_, ?_, fun b hb => ?_⟩, by omega⟩⟩, hbx, ?_, ?_, fun b hb => ?_, hlW, hge⟩
  · exact hmet.1.trans (a4.os.trans (hS.os.trans h.lt.at_.1.os))
  · exact hmet.2.1.trans (a4.tape.trans (hS.tape.trans h.lt.at_.1.tape))
  · exact hmet.2.2.trans (a4.output.trans (hS.output.trans h.lt.at_.1.output))
  · exact Nat.le_trans h.lt.at_.1.size (by omega)
  · exact (hoth b (by omega) (by omega) (by omega)).trans ((a4.block b (by omega) (fun ht => by have := h.lt.ge b ht; omega)).trans ((hS.block b (by omega)).trans (h.lt.at_.1.block b hb)))
  · exact (a5.keep fun b hb => hoth b (a5.inlt hb) (hlN b (.inl hb)) (hlW b (.inl hb))).wide hsz
  · exact (a6.keep fun b hb => hoth b (a6.inlt hb) (hlN b (.inr hb)) (hlW b (.inr hb))).wide hsz
  · rcases hb with rfl | hb
    · exact hTW
    · exact (a7 b hb).1

theorem hrd_at {α : Type} {w W : World} {p : Option Addr} {cap c : Nat} {enc : α → List Value} {ys : List α} (h : RdS w.heap.size w p cap c enc ys) (hA : At w.heap.size w W) : RdS w.heap.size W p cap c enc ys := h.kept hA.1

theorem RdS.map {α β : Type} {B : Nat} {w : World} {p : Option Addr} {cap c : Nat} {enc : α → List Value} {enc' : β → List Value} {ys : List α} (h : RdS B w p cap c enc ys) (f : α → β) (he : ∀ y, enc y = enc' (f y)) : RdS B w p cap c enc' (ys.map f) := by
  obtain ⟨h1, h2, h3⟩ := h
  refine ⟨by simpa using h1, h2, h3.imp id ?_⟩
  rintro ⟨b, off, hp, hb, hc⟩
  refine ⟨b, off, hp, hb, fun i hi j v hv => ?_⟩
  have hi' : i < ys.length := by simpa using hi
  refine hc i hi' j v ?_
  rw [he]
  simpa using hv

set_option maxRecDepth 100000 in
set_option maxHeartbeats 4000000 in
theorem lawLatchPlays (p : Option Addr) (cap : Nat) (ys : List ActT) (w : World) (hrd : RdS w.heap.size w p cap 2 ac ys) :
    Calls Try.prog 6 #[.slice p ys.length cap] w fun e w' => e = .returned (.bool true) ∧ Below w.heap.size w w' := by
  have hlen := hrd.len
  by_cases h60 : 60 < ys.length
  · have h60' : (60 : Int) < (ys.length : Int) := by omega
    clear hrd h60
    go_enter Try.func6, Try.ntmps6
    go_wp2_with fail
    refine (works25_any _).mono ?_
    rintro e w1 ⟨rfl, b1⟩
    have HB := Lib.hid b1
    clear b1
    go_wp2_with fail
    go_ret
    exact ⟨rfl, HB.out⟩
  have h60' : (ys.length : Int) ≤ 60 := by omega
  have HR := Lib.hid hrd
  clear hrd h60
  go_enter Try.func6, Try.ntmps6
  go_wp2_with fail
  refine (lt_new w w w.heap.size (At.start w)).mono ?_
  rintro e w1 ⟨L0, T0, rfl, h1, hb1⟩
  obtain ⟨wa, hwa⟩ : ∃ wa, w1.alloc (.cells #[.slice none 0 0, .slice none 0 0] 62) = wa := ⟨_, rfl⟩
  have hba : Below w1.heap.size w1 wa := by rw [← hwa]; exact (Below.refl _ _).alloc (Nat.le_refl _) _
  have hi : PInv w.heap.size w w1.heap.size T0 wa L0 (runS (ys.take 0)) none 0 none 0 := by
    refine ⟨h1.below hba, by rw [← hwa]; exact World.alloc_heap_new w1 _, ⟨Nat.le_refl _, by simp [maxLen], .inl rfl⟩, ⟨Nat.le_refl _, by simp [maxLen], .inl rfl⟩, ?_, ?_, h1.at_.2⟩
    · rintro b (rfl | ⟨a, ha, _⟩ | ⟨a, ha, _⟩) ht
      · have := h1.lt _ ht; omega
      · cases ha
      · cases ha
    · rintro b (⟨a, ha, _⟩ | ⟨a, ha, _⟩)
      · cases ha
      · cases ha
  obtain ⟨Wb, hWb⟩ : ∃ Wb, w1.heap.size = Wb := ⟨_, rfl⟩
  rw [hWb] at hi
  have HI := Lib.hid hi
  have HWA := Lib.hid hwa
  have HWB := Lib.hid hWb
  clear h1 hb1 hba hi hwa hWb
  go_wp2_with fail
  rw [HWA.out, HWB.out]
  go_loopw [3, 5] (fun a i wr => ∃ (k L : Nat) (T : Nat → Prop) (p' : Option Addr) (c' : Nat) (q' : Option Addr) (d' : Nat), k ≤ ys.length ∧ a = .pointer (some ⟨L, 0, none⟩) ∧ i = .int .i64 k ∧ PInv w.heap.size w Wb T wr L (runS (ys.take k)) p' c' q' d') (fun _ i _ => ys.length - (intOf i).toNat)
  case atStart => exact ⟨0, L0, T0, none, 0, none, 0, Nat.zero_le _, rfl, rfl, HI.out⟩
  case round =>
    obtain ⟨k, L, T, p', c', q', d', hk, rfl, rfl, hI⟩ := hrel
    by_cases hlt : k < ys.length
    · have hra := (hrd_at HR.out hI.lt.at_)
      obtain ⟨b, off, rfl, hbl, s0, s1⟩ := hra.acts k hlt
      have hlt' : (k : Int) < (ys.length : Int) := by omega
      have hts : runS (ys.take (k + 1)) = (actS (runS (ys.take k)) ys[k].1 ys[k].2).1 := by rw [List.take_succ_eq_append_getElem hlt, runS_snoc]
      have hok := runS_ok (ys.take k)
      have hok2 := runS_ok (ys.take (k + 1))
      obtain ⟨y, hy⟩ : ∃ y, ys[k] = y := ⟨_, rfl⟩
      rw [hy] at s0 s1 hts
      obtain ⟨y1, y2⟩ := y
      simp only at s0 s1 hts
      obtain ⟨s, hs⟩ : ∃ s, runS (ys.take k) = s := ⟨_, rfl⟩
      rw [hs] at hI hts hok
      obtain ⟨s', hs'⟩ : ∃ s', (actS s y1 y2).1 = s' := ⟨_, rfl⟩
      rw [hs'] at hts
      rw [hts] at hok2
      have HTS := Lib.hid hts
      have HI := Lib.hid hI
      have HOK := Lib.hid hok
      have HOK2 := Lib.hid hok2
      have HS' := Lib.hid hs'
      have HBL := Lib.hid (Nat.lt_of_lt_of_le hbl hI.lt.at_.2)
      have hbT : ¬ T b := fun ht => by have := hI.lt.ge b ht; omega
      have hyk0 : ys[k].1 = y1 := by rw [hy]
      have HSC := Lib.hid (And.intro s0 s1)
      have m0 : wr.drew.cell? ⟨Wb, 0, none⟩ = some (.slice p' s.1.length c') := pair_c0 hI.bx
      have m1 : wr.drew.cell? ⟨Wb, 1, none⟩ = some (.slice q' s.2.length d') := pair_c1 hI.bx
      have s0d : wr.drew.cell? ⟨b, off + k * 2, none⟩ = some (.int .i64 y1) := s0
      have s1d : wr.drew.cell? ⟨b, off + k * 2 + 1, none⟩ = some (.int .i64 y2) := s1
      have HSZ := Lib.hid hI.lt.at_.2
      have HWL := Lib.hid hI.wlt
      have HLN := Lib.hid hok.len
      clear hra hts hy hs hs' hI hok hok2 s0 s1 hbl
      go_wp2_with fail
      have HBS0 := Lib.hid (Below.refl wr.heap.size wr).drew
      have HBT := Lib.hid hbT
      have HYK := Lib.hid hyk0
      clear hbT hyk0
      refine wp_region_noPanic ?_
      refine wp_region_held_drew (S := (fun w' => w'.cell? ⟨Wb, 0, none⟩ = some (.slice p' s.1.length c') ∧ w'.cell? ⟨Wb, 1, none⟩ = some (.slice q' s.2.length d') ∧ w'.cell? ⟨b, off + k * 2, none⟩ = some (.int .i64 y1) ∧ w'.cell? ⟨b, off + k * 2 + 1, none⟩ = some (.int .i64 y2))) (by kernel_rfl) ?_ (fun hHeld => ?_)
      · exact ⟨m0, m1, s0d, s1d⟩
      refine' wpAnyH_take (i := 0) (v := _) rfl (by kernel_rfl) (by kernel_rfl) (by kernel_rfl) (fun _ _ _ h => h) (Or.inl ⟨by rfl, ?hy⟩) hHeld _
      case hy => (intro w0 hSw; (try dsimp only at hSw); simp only [List.getElem_toArray, List.getElem_cons_zero]; go_simp; first | done | with_reducible rfl)
      simp only [Act.put, List.getElem_toArray, List.getElem_cons_zero, List.setIfInBounds_toArray, List.set_cons_zero, List.set_cons_succ]
      refine' wpAnyH_take (i := 1) (v := _) rfl (by kernel_rfl) (by kernel_rfl) (by kernel_rfl) (fun _ _ _ h => h) (Or.inl ⟨by rfl, ?hy⟩) hHeld _
      case hy => (intro w0 hSw; (try dsimp only at hSw); simp only [List.getElem_toArray, List.getElem_cons_zero, List.getElem_cons_succ]; go_simp; first | done | with_reducible rfl)
      simp only [Act.put, List.getElem_toArray, List.getElem_cons_zero, List.getElem_cons_succ, List.setIfInBounds_toArray, List.set_cons_zero, List.set_cons_succ]
      refine' wpAnyH_take (i := 2) (v := _) rfl (by kernel_rfl) (by kernel_rfl) (by kernel_rfl) (fun _ _ _ h => h) (Or.inl ⟨by rfl, ?hy⟩) hHeld _
      case hy => (intro w0 hSw; (try dsimp only at hSw); simp only [List.getElem_toArray, List.getElem_cons_zero, List.getElem_cons_succ]; go_simp; first | done | with_reducible rfl)
      simp only [Act.put, List.getElem_toArray, List.getElem_cons_zero, List.getElem_cons_succ, List.setIfInBounds_toArray, List.set_cons_zero, List.set_cons_succ]
      refine' wpAnyH_take (i := 3) (v := _) rfl (by kernel_rfl) (by kernel_rfl) (by kernel_rfl) (fun _ _ _ h => h) (Or.inl ⟨by rfl, ?hy⟩) hHeld _
      case hy => (intro w0 hSw; (try dsimp only at hSw); simp only [List.getElem_toArray, List.getElem_cons_zero, List.getElem_cons_succ]; go_simp; first | done | with_reducible rfl)
      simp only [Act.put, List.getElem_toArray, List.getElem_cons_zero, List.getElem_cons_succ, List.setIfInBounds_toArray, List.set_cons_zero, List.set_cons_succ]
      refine' wpAnyH_take (i := 4) (v := _) rfl (by kernel_rfl) (by kernel_rfl) (by kernel_rfl) (fun _ _ _ h => h) (Or.inl ⟨by rfl, ?hy⟩) hHeld _
      case hy => (intro w0 hSw; (try dsimp only at hSw); simp only [List.getElem_toArray, List.getElem_cons_zero, List.getElem_cons_succ]; go_simp; first | done | with_reducible rfl)
      simp only [Act.put, List.getElem_toArray, List.getElem_cons_zero, List.getElem_cons_succ, List.setIfInBounds_toArray, List.set_cons_zero, List.set_cons_succ]
      refine' wpAnyH_take (i := 5) (v := _) rfl (by kernel_rfl) (by kernel_rfl) (by kernel_rfl) (fun _ _ _ h => h) (Or.inl ⟨by rfl, ?hy⟩) hHeld _
      case hy => (intro w0 hSw; (try dsimp only at hSw); simp only [List.getElem_toArray, List.getElem_cons_zero, List.getElem_cons_succ]; go_simp; first | done | with_reducible rfl)
      simp only [Act.put, List.getElem_toArray, List.getElem_cons_zero, List.getElem_cons_succ, List.setIfInBounds_toArray, List.set_cons_zero, List.set_cons_succ]
      refine wpAnyH_ready (rs := [6, 10]) (by kernel_rfl) (by simp) ?_
      refine AllReadyH.cons rfl (fun K hK => ?_) (AllReadyH.cons rfl (fun K hK => ?_) AllReadyH.nil)
      · skip
        go_simp
        refine (act_any T L s.1 s.2 p' c' s.1 q' d' s.2 y1 y2 wr.drew (HI.out.lt.own.below HBS0.out) (fun b hb => Nat.lt_of_lt_of_le (HI.out.lt.lt b hb) HBS0.out.size) (by have := HLN.out; omega) ((HI.out.rx.kept HBS0.out).wide HBS0.out.size) ((HI.out.ry.kept HBS0.out).wide HBS0.out.size) (by have := HLN.out; omega) (fun b hb => HI.out.nT b (.inr hb))).mono ?_
        rintro e w2 ⟨T', p2, c2, q2, d2, rfl, a1, a2, a3, a4, a5, a6, a7⟩
        rw [show ((s.1, s.2) : List Turn × List Turn) = s from rfl] at a1 a5 a6 ⊢
        rw [HS'.out] at a1 a5 a6
        rw [HS'.out, beq_self_eq_true]
        have HA := Lib.hid (And.intro a1 (And.intro a2 (And.intro a3 (And.intro a4 (And.intro a5 (And.intro a6 a7))))))
        have g2 : ∀ j, j < wr.heap.size → ¬ T j → w2.heap[j]? = wr.heap[j]? := fun j hj hn => (a4.block j (Nat.lt_of_lt_of_le hj HBS0.out.size) hn).trans (HBS0.out.block j hj)
        have hWb2 := (g2 Wb HWL.out (HI.out.nT Wb (.inl rfl))).trans HI.out.bx
        have hsb : ∀ o, w2.cell? ⟨b, o, none⟩ = wr.cell? ⟨b, o, none⟩ := fun o => World.cell?_of_block (w := wr) (a := ⟨b, o, none⟩) (g2 b (Nat.lt_of_lt_of_le HBL.out (Nat.le_refl _)) (HBT.out))
        have kk2 : w2.cell? ⟨Wb, 0, none⟩ = some (.slice p' s.1.length c') ∧ w2.cell? ⟨Wb, 1, none⟩ = some (.slice q' s.2.length d') ∧ w2.cell? ⟨b, off + k * 2, none⟩ = some (.int .i64 y1) ∧ w2.cell? ⟨b, off + k * 2 + 1, none⟩ = some (.int .i64 y2) := ⟨pair_c0 hWb2, pair_c1 hWb2, (hsb _).trans HSC.out.1, (hsb _).trans HSC.out.2⟩
        have HWB2 := Lib.hid hWb2
        have HSB := Lib.hid hsb
        have HG2 := Lib.hid g2
        clear a1 a2 a3 a4 a5 a6 a7 hWb2 hsb g2
        go_wp2_with fail
        clear hHeld
        refine hK.out _ _ ?_ (fun hHeld => ?_)
        · exact ⟨kk2.1, kk2.2.1, kk2.2.2.1, kk2.2.2.2⟩
        clear hK K
        try simp only [Act.put, List.getElem_toArray, List.getElem_cons_zero, List.getElem_cons_succ, List.setIfInBounds_toArray, List.set_cons_zero, List.set_cons_succ]
        refine' wpAnyH_take (i := 7) (v := _) rfl (by kernel_rfl) (by kernel_rfl) (by kernel_rfl) (fun _ _ _ h => h) (Or.inl ⟨by rfl, ?hy⟩) hHeld _
        case hy => (intro w0 hSw; (try dsimp only at hSw); simp only [List.getElem_toArray, List.getElem_cons_zero, List.getElem_cons_succ]; go_simp; first | done | with_reducible rfl)
        simp only [Act.put, List.getElem_toArray, List.getElem_cons_zero, List.getElem_cons_succ, List.setIfInBounds_toArray, List.set_cons_zero, List.set_cons_succ]
        refine' wpAnyH_take (i := 8) (v := _) rfl (by kernel_rfl) (by kernel_rfl) (by kernel_rfl) (fun _ _ _ h => h) (Or.inl ⟨by rfl, ?hy⟩) hHeld _
        case hy => (intro w0 hSw; (try dsimp only at hSw); simp only [List.getElem_toArray, List.getElem_cons_zero, List.getElem_cons_succ]; go_simp; first | done | with_reducible rfl)
        simp only [Act.put, List.getElem_toArray, List.getElem_cons_zero, List.getElem_cons_succ, List.setIfInBounds_toArray, List.set_cons_zero, List.set_cons_succ]
        refine' wpAnyH_take (i := 9) (v := _) rfl (by kernel_rfl) (by kernel_rfl) (by kernel_rfl) (fun _ _ _ h => h) (Or.inl ⟨by rfl, ?hy⟩) hHeld _
        case hy => (intro w0 hSw; (try dsimp only at hSw); simp only [List.getElem_toArray, List.getElem_cons_zero, List.getElem_cons_succ]; go_simp; first | done | with_reducible rfl)
        simp only [Act.put, List.getElem_toArray, List.getElem_cons_zero, List.getElem_cons_succ, List.setIfInBounds_toArray, List.set_cons_zero, List.set_cons_succ]
        refine wpAnyH_ready (rs := [10]) (by kernel_rfl) (by simp) ?_
        refine AllReadyH.cons rfl (fun K hK => ?_) AllReadyH.nil
        have HBS := HBS0
        have hal : Below w2.heap.size w2 (w2.alloc (.cells #[.slice none 0 0, .slice none 0 0] 62)) := (Below.refl _ _).alloc (Nat.le_refl _) _
        have hwl2 : Wb < w2.heap.size := (Array.getElem?_eq_some_iff.1 HWB2.out).1
        have hbl2 : b < w2.heap.size := Nat.lt_of_lt_of_le (Nat.lt_of_lt_of_le HBL.out (Nat.le_refl _)) (by have := HA.out.2.2.2.1.size; exact this)
        have kk3 : (w2.alloc (.cells #[.slice none 0 0, .slice none 0 0] 62)).cell? ⟨Wb, 0, none⟩ = some (.slice p' s.1.length c') ∧ (w2.alloc (.cells #[.slice none 0 0, .slice none 0 0] 62)).cell? ⟨Wb, 1, none⟩ = some (.slice q' s.2.length d') ∧ (w2.alloc (.cells #[.slice none 0 0, .slice none 0 0] 62)).cell? ⟨b, off + k * 2, none⟩ = some (.int .i64 y1) ∧ (w2.alloc (.cells #[.slice none 0 0, .slice none 0 0] 62)).cell? ⟨b, off + k * 2 + 1, none⟩ = some (.int .i64 y2) := ⟨pair_c0 ((hal.block _ hwl2).trans HWB2.out), pair_c1 ((hal.block _ hwl2).trans HWB2.out), (hal.cell (p := ⟨b, off + k * 2, none⟩) hbl2).trans kk2.2.2.1, (hal.cell (p := ⟨b, off + k * 2 + 1, none⟩) hbl2).trans kk2.2.2.2⟩
        have HAL := Lib.hid (And.intro hal (And.intro hwl2 hbl2))
        clear hal hwl2 hbl2
        go_simp
        clear hHeld
        refine hK.out _ _ ?_ (fun hHeld => ?_)
        · exact ⟨kk3.1, kk3.2.1, kk3.2.2.1, kk3.2.2.2⟩
        clear hK K
        try simp only [Act.put, List.getElem_toArray, List.getElem_cons_zero, List.getElem_cons_succ, List.setIfInBounds_toArray, List.set_cons_zero, List.set_cons_succ]
        refine wpAnyH_ready (rs := [11]) (by kernel_rfl) (by simp) ?_
        refine AllReadyH.cons rfl (fun K hK => ?_) AllReadyH.nil
        have hnf : (w2.alloc (.cells #[(.slice p2 s'.1.length c2), (.slice q2 s'.2.length d2)] 62)).heap[w2.heap.size]? = some (.cells #[(.slice p2 s'.1.length c2), (.slice q2 s'.2.length d2)] 62 (0, 0)) := World.alloc_heap_new w2 _
        have halN : Below w2.heap.size w2 (w2.alloc (.cells #[(.slice p2 s'.1.length c2), (.slice q2 s'.2.length d2)] 62)) := (Below.refl _ _).alloc (Nat.le_refl _) _
        have HNF := Lib.hid hnf
        have HWF := Lib.hid ((halN.block _ HAL.out.2.1).trans HWB2.out)
        have kk4 : (w2.alloc (.cells #[(.slice p2 s'.1.length c2), (.slice q2 s'.2.length d2)] 62)).cell? ⟨Wb, 0, none⟩ = some (.slice p' s.1.length c') ∧ (w2.alloc (.cells #[(.slice p2 s'.1.length c2), (.slice q2 s'.2.length d2)] 62)).cell? ⟨Wb, 1, none⟩ = some (.slice q' s.2.length d') ∧ (w2.alloc (.cells #[(.slice p2 s'.1.length c2), (.slice q2 s'.2.length d2)] 62)).cell? ⟨b, off + k * 2, none⟩ = some (.int .i64 y1) ∧ (w2.alloc (.cells #[(.slice p2 s'.1.length c2), (.slice q2 s'.2.length d2)] 62)).cell? ⟨b, off + k * 2 + 1, none⟩ = some (.int .i64 y2) := ⟨pair_c0 HWF.out, pair_c1 HWF.out, (halN.cell (p := ⟨b, off + k * 2, none⟩) HAL.out.2.2).trans kk2.2.2.1, (halN.cell (p := ⟨b, off + k * 2 + 1, none⟩) HAL.out.2.2).trans kk2.2.2.2⟩
        have HOF := Lib.hid (show w2.heap.size ≤ (w2.alloc (.cells #[(.slice p2 s'.1.length c2), (.slice q2 s'.2.length d2)] 62)).heap.size ∧ (∀ b, b < w2.heap.size → b ≠ w2.heap.size → (w2.alloc (.cells #[(.slice p2 s'.1.length c2), (.slice q2 s'.2.length d2)] 62)).heap[b]? = w2.heap[b]?) ∧ (w2.alloc (.cells #[(.slice p2 s'.1.length c2), (.slice q2 s'.2.length d2)] 62)).os = w2.os ∧ (w2.alloc (.cells #[(.slice p2 s'.1.length c2), (.slice q2 s'.2.length d2)] 62)).tape = w2.tape ∧ (w2.alloc (.cells #[(.slice p2 s'.1.length c2), (.slice q2 s'.2.length d2)] 62)).output = w2.output from ⟨halN.size, fun b hb _ => halN.block b hb, rfl, rfl, rfl⟩)
        clear hnf halN
        go_simp
        clear hHeld
        refine hK.out _ _ ?_ (fun hHeld => ?_)
        · exact ⟨kk4.1, kk4.2.1, kk4.2.2.1, kk4.2.2.2⟩
        clear hK K
        try simp only [Act.put, List.getElem_toArray, List.getElem_cons_zero, List.getElem_cons_succ, List.setIfInBounds_toArray, List.set_cons_zero, List.set_cons_succ]
        refine' wpAnyH_take (i := 12) (v := _) rfl (by kernel_rfl) (by kernel_rfl) (by kernel_rfl) (fun _ _ _ h => h) (Or.inl ⟨by rfl, ?hy⟩) hHeld _
        case hy => (intro w0 hSw; (try dsimp only at hSw); simp only [List.getElem_toArray, List.getElem_cons_zero, List.getElem_cons_succ]; go_simp; first | done | with_reducible rfl)
        simp only [Act.put, List.getElem_toArray, List.getElem_cons_zero, List.getElem_cons_succ, List.setIfInBounds_toArray, List.set_cons_zero, List.set_cons_succ]
        refine wpAnyH_done (by kernel_rfl) ?_ _
        refine NoPanic.normal ?_
        clear kk2 kk3 kk4 m0 m1 s0d s1d hHeld
        have hx0 : (w2.alloc (.cells #[(.slice p2 s'.1.length c2), (.slice q2 s'.2.length d2)] 62)).cell? ⟨w2.heap.size, 0, none⟩ = some (.slice p2 s'.1.length c2) := pair_c0 HNF.out
        have hx1 : (w2.alloc (.cells #[(.slice p2 s'.1.length c2), (.slice q2 s'.2.length d2)] 62)).cell? ⟨w2.heap.size, 1, none⟩ = some (.slice q2 s'.2.length d2) := pair_c1 HNF.out
        have hw0 : (w2.alloc (.cells #[(.slice p2 s'.1.length c2), (.slice q2 s'.2.length d2)] 62)).cell? ⟨Wb, 0, none⟩ = some (.slice p' s.1.length c') := pair_c0 HWF.out
        have hw1 : (w2.alloc (.cells #[(.slice p2 s'.1.length c2), (.slice q2 s'.2.length d2)] 62)).cell? ⟨Wb, 1, none⟩ = some (.slice q' s.2.length d') := pair_c1 HWF.out
        have hwf0 := pair_fr HWF.out 0
        have hwf1 := pair_fr HWF.out 1
        obtain ⟨wf, hwf⟩ : ∃ wf, ((w2.alloc (.cells #[(.slice p2 s'.1.length c2), (.slice q2 s'.2.length d2)] 62)).setCell ⟨Wb, 0, none⟩ (.slice p2 s'.1.length c2)).setCell ⟨Wb, 1, none⟩ (.slice q2 s'.2.length d2) = wf := ⟨_, rfl⟩
        have hbxf : wf.heap[Wb]? = some (.cells #[(.slice p2 s'.1.length c2), (.slice q2 s'.2.length d2)] 62 (0, 0)) := by rw [← hwf]; exact pair_set1 (pair_set0 HWF.out)
        have hothf : ∀ b, b ≠ Wb → wf.heap[b]? = (w2.alloc (.cells #[(.slice p2 s'.1.length c2), (.slice q2 s'.2.length d2)] 62)).heap[b]? := fun b hb => by rw [← hwf]; exact (heap_setCell_other _ ⟨Wb, 1, none⟩ b _ hb).trans (heap_setCell_other _ ⟨Wb, 0, none⟩ b _ hb)
        have hszf : wf.heap.size = (w2.alloc (.cells #[(.slice p2 s'.1.length c2), (.slice q2 s'.2.length d2)] 62)).heap.size := by rw [← hwf]; simp [World.setCell]
        have hmetf : wf.os = (w2.alloc (.cells #[(.slice p2 s'.1.length c2), (.slice q2 s'.2.length d2)] 62)).os ∧ wf.tape = (w2.alloc (.cells #[(.slice p2 s'.1.length c2), (.slice q2 s'.2.length d2)] 62)).tape ∧ wf.output = (w2.alloc (.cells #[(.slice p2 s'.1.length c2), (.slice q2 s'.2.length d2)] 62)).output := by rw [← hwf]; exact ⟨rfl, rfl, rfl⟩
        obtain ⟨a1, a2, a3, a4, a5, a6, a7⟩ := HA.out
        have hPF := pinv_act (N := w2.heap.size) HI.out HBS.out a1 a2 a3 a4 a5 a6 a7 (.inr (Nat.le_refl _)) (by rw [hszf]; exact HOF.out.1) (fun b hb h1 h2 => (hothf b h2).trans (HOF.out.2.1 b hb h1)) hbxf ⟨hmetf.1.trans HOF.out.2.2.1, hmetf.2.1.trans HOF.out.2.2.2.1, hmetf.2.2.trans HOF.out.2.2.2.2⟩
        have w0 := pair_c0 hbxf
        have w1' := pair_c1 hbxf
        have HPF := Lib.hid hPF
        have HWFF := Lib.hid hwf
        have hw0b : (((w2.alloc (.cells #[(.slice p2 s'.1.length c2), (.slice q2 s'.2.length d2)] 62)).setCell ⟨Wb, 0, none⟩ (.slice p2 s'.1.length c2)).setCell ⟨Wb, 1, none⟩ (.slice q2 s'.2.length d2)).cell? ⟨Wb, 0, none⟩ = some (.slice p2 s'.1.length c2) := by rw [hwf]; exact w0
        have hw1b : (((w2.alloc (.cells #[(.slice p2 s'.1.length c2), (.slice q2 s'.2.length d2)] 62)).setCell ⟨Wb, 0, none⟩ (.slice p2 s'.1.length c2)).setCell ⟨Wb, 1, none⟩ (.slice q2 s'.2.length d2)).cell? ⟨Wb, 1, none⟩ = some (.slice q2 s'.2.length d2) := by rw [hwf]; exact w1'
        clear hbxf hothf hszf hmetf a1 a2 a3 a4 a5 a6 a7 hPF hwf
        go_wp2_with fail
        rw [HWFF.out]
        clear hx0 hx1 hw0 hw1 hwf0 hwf1 hw0b hw1b w0 w1'
        refine (is_any T' L s'.1 s'.2 p2 c2 q2 d2 wf HPF.out.lt.own HOK2.out.held (by have := HOK2.out.len; omega) HPF.out.rx HPF.out.ry).mono ?_
        rintro e w7 ⟨rfl, hb7⟩
        have HP7 := Lib.hid (HPF.out.below hb7)
        have hr7 := hrd_at HR.out HP7.out.lt.at_
        obtain ⟨b', off', hbo, _, t0, _⟩ := hr7.acts k hlt
        cases hbo
        have hyk : ys[k].1 = y1 := HYK.out
        rw [hyk] at t0
        clear hb7 hr7 hyk
        by_cases h3 : y1 = 3
        · subst h3
          go_wp2_with fail
          refine (copy_any T' L s'.1 s'.2 w7 HP7.out.lt.own (by have := HOK2.out.len; omega)).mono ?_
          rintro e w8 ⟨B, rfl, ho8, hb8⟩
          have HP8 := Lib.hid (HP7.out.copied ho8 hb8)
          clear ho8 hb8
          go_wp2_with fail
          refine ⟨⟨k + 1, B, _, p2, c2, q2, d2, by omega, rfl, by go_num, by rw [HTS.out]; exact HP8.out⟩, by simp [intOf]; omega⟩
        · have h3' : (y1 == 3) = false := by simpa using h3
          clear h3
          go_wp2_with fail
          refine ⟨⟨k + 1, L, T', p2, c2, q2, d2, by omega, rfl, by go_num, by rw [HTS.out]; exact HP7.out⟩, by simp [intOf]; omega⟩
      · skip
        have HBS := Lib.hid (show Below wr.heap.size wr (wr.alloc (.cells #[.slice none 0 0, .slice none 0 0] 62)).drew from ((Below.refl _ _).alloc (Nat.le_refl _) _).drew)
        have kk1 : (wr.alloc (.cells #[.slice none 0 0, .slice none 0 0] 62)).drew.cell? ⟨Wb, 0, none⟩ = some (.slice p' s.1.length c') ∧ (wr.alloc (.cells #[.slice none 0 0, .slice none 0 0] 62)).drew.cell? ⟨Wb, 1, none⟩ = some (.slice q' s.2.length d') ∧ (wr.alloc (.cells #[.slice none 0 0, .slice none 0 0] 62)).drew.cell? ⟨b, off + k * 2, none⟩ = some (.int .i64 y1) ∧ (wr.alloc (.cells #[.slice none 0 0, .slice none 0 0] 62)).drew.cell? ⟨b, off + k * 2 + 1, none⟩ = some (.int .i64 y2) := ⟨pair_c0 ((HBS.out.block _ HWL.out).trans HI.out.bx), pair_c1 ((HBS.out.block _ HWL.out).trans HI.out.bx), (HBS.out.cell (p := ⟨b, off + k * 2, none⟩) (Nat.lt_of_lt_of_le HBL.out (Nat.le_refl _))).trans HSC.out.1, (HBS.out.cell (p := ⟨b, off + k * 2 + 1, none⟩) (Nat.lt_of_lt_of_le HBL.out (Nat.le_refl _))).trans HSC.out.2⟩
        go_simp
        clear hHeld
        refine hK.out _ _ ?_ (fun hHeld => ?_)
        · exact ⟨kk1.1, kk1.2.1, kk1.2.2.1, kk1.2.2.2⟩
        clear hK K
        try simp only [Act.put, List.getElem_toArray, List.getElem_cons_zero, List.getElem_cons_succ, List.setIfInBounds_toArray, List.set_cons_zero, List.set_cons_succ]
        refine wpAnyH_ready (rs := [6]) (by kernel_rfl) (by simp) ?_
        refine AllReadyH.cons rfl (fun K hK => ?_) AllReadyH.nil
        have hN0 : (wr.alloc (.cells #[.slice none 0 0, .slice none 0 0] 62)).drew.heap[wr.heap.size]? = some (.cells #[.slice none 0 0, .slice none 0 0] 62 (0, 0)) := World.alloc_heap_new wr _
        have hszS : (wr.alloc (.cells #[.slice none 0 0, .slice none 0 0] 62)).drew.heap.size = wr.heap.size + 1 := by simp
        have HN0 := Lib.hid hN0
        have HSS := Lib.hid hszS
        clear hN0 hszS
        go_simp
        refine (act_any T L s.1 s.2 p' c' s.1 q' d' s.2 y1 y2 (wr.alloc (.cells #[.slice none 0 0, .slice none 0 0] 62)).drew (HI.out.lt.own.below HBS.out) (fun b hb => Nat.lt_of_lt_of_le (HI.out.lt.lt b hb) HBS.out.size) (by have := HLN.out; omega) ((HI.out.rx.kept HBS.out).wide HBS.out.size) ((HI.out.ry.kept HBS.out).wide HBS.out.size) (by have := HLN.out; omega) (fun b hb => HI.out.nT b (.inr hb))).mono ?_
        rintro e w2 ⟨T', p2, c2, q2, d2, rfl, a1, a2, a3, a4, a5, a6, a7⟩
        rw [show ((s.1, s.2) : List Turn × List Turn) = s from rfl] at a1 a5 a6 ⊢
        rw [HS'.out] at a1 a5 a6
        rw [HS'.out, beq_self_eq_true]
        have HA := Lib.hid (And.intro a1 (And.intro a2 (And.intro a3 (And.intro a4 (And.intro a5 (And.intro a6 a7))))))
        have g2 : ∀ j, j < wr.heap.size → ¬ T j → w2.heap[j]? = wr.heap[j]? := fun j hj hn => (a4.block j (Nat.lt_of_lt_of_le hj HBS.out.size) hn).trans (HBS.out.block j hj)
        have hWb2 := (g2 Wb HWL.out (HI.out.nT Wb (.inl rfl))).trans HI.out.bx
        have hsb : ∀ o, w2.cell? ⟨b, o, none⟩ = wr.cell? ⟨b, o, none⟩ := fun o => World.cell?_of_block (w := wr) (a := ⟨b, o, none⟩) (g2 b (Nat.lt_of_lt_of_le HBL.out (Nat.le_refl _)) (HBT.out))
        have kk2 : w2.cell? ⟨Wb, 0, none⟩ = some (.slice p' s.1.length c') ∧ w2.cell? ⟨Wb, 1, none⟩ = some (.slice q' s.2.length d') ∧ w2.cell? ⟨b, off + k * 2, none⟩ = some (.int .i64 y1) ∧ w2.cell? ⟨b, off + k * 2 + 1, none⟩ = some (.int .i64 y2) := ⟨pair_c0 hWb2, pair_c1 hWb2, (hsb _).trans HSC.out.1, (hsb _).trans HSC.out.2⟩
        have HWB2 := Lib.hid hWb2
        have HSB := Lib.hid hsb
        have HG2 := Lib.hid g2
        clear a1 a2 a3 a4 a5 a6 a7 hWb2 hsb g2
        go_wp2_with fail
        have hN2 := (HA.out.2.2.2.1.block wr.heap.size (by have := HSS.out; omega) (fun ht => Nat.lt_irrefl _ (HI.out.lt.lt _ ht))).trans HN0.out
        have HN2 := Lib.hid hN2
        have hn0 := pair_c0 hN2
        have hn1 := pair_c1 hN2
        have hn2 := pair_fr hN2 0
        have hn3 := pair_fr hN2 1
        clear hN2
        clear hHeld
        refine hK.out _ _ ?_ (fun hHeld => ?_)
        · exact ⟨kk2.1, kk2.2.1, kk2.2.2.1, kk2.2.2.2⟩
        clear hK K
        try simp only [Act.put, List.getElem_toArray, List.getElem_cons_zero, List.getElem_cons_succ, List.setIfInBounds_toArray, List.set_cons_zero, List.set_cons_succ]
        refine' wpAnyH_take (i := 7) (v := _) rfl (by kernel_rfl) (by kernel_rfl) (by kernel_rfl) (fun _ _ _ h => h) (Or.inl ⟨by rfl, ?hy⟩) hHeld _
        case hy => (intro w0 hSw; (try dsimp only at hSw); simp only [List.getElem_toArray, List.getElem_cons_zero, List.getElem_cons_succ]; go_simp; first | done | with_reducible rfl)
        simp only [Act.put, List.getElem_toArray, List.getElem_cons_zero, List.getElem_cons_succ, List.setIfInBounds_toArray, List.set_cons_zero, List.set_cons_succ]
        refine' wpAnyH_take (i := 8) (v := _) rfl (by kernel_rfl) (by kernel_rfl) (by kernel_rfl) (fun _ _ _ h => h) (Or.inl ⟨by rfl, ?hy⟩) hHeld _
        case hy => (intro w0 hSw; (try dsimp only at hSw); simp only [List.getElem_toArray, List.getElem_cons_zero, List.getElem_cons_succ]; go_simp; first | done | with_reducible rfl)
        simp only [Act.put, List.getElem_toArray, List.getElem_cons_zero, List.getElem_cons_succ, List.setIfInBounds_toArray, List.set_cons_zero, List.set_cons_succ]
        refine' wpAnyH_take (i := 9) (v := _) rfl (by kernel_rfl) (by kernel_rfl) (by kernel_rfl) (fun _ _ _ h => h) (Or.inl ⟨by rfl, ?hy⟩) hHeld _
        case hy => (intro w0 hSw; (try dsimp only at hSw); simp only [List.getElem_toArray, List.getElem_cons_zero, List.getElem_cons_succ]; go_simp; first | done | with_reducible rfl)
        simp only [Act.put, List.getElem_toArray, List.getElem_cons_zero, List.getElem_cons_succ, List.setIfInBounds_toArray, List.set_cons_zero, List.set_cons_succ]
        refine wpAnyH_ready (rs := [11]) (by kernel_rfl) (by simp) ?_
        refine AllReadyH.cons rfl (fun K hK => ?_) AllReadyH.nil
        have hnf := pair_set1 (v' := (.slice q2 s'.2.length d2)) (pair_set0 (u' := (.slice p2 s'.1.length c2)) HN2.out)
        have hot : ∀ j, j ≠ wr.heap.size → ((w2.setCell ⟨wr.heap.size, 0, none⟩ (.slice p2 s'.1.length c2)).setCell ⟨wr.heap.size, 1, none⟩ (.slice q2 s'.2.length d2)).heap[j]? = w2.heap[j]? := fun j hj => (heap_setCell_other _ ⟨wr.heap.size, 1, none⟩ j _ hj).trans (heap_setCell_other _ ⟨wr.heap.size, 0, none⟩ j _ hj)
        have hneW : Wb ≠ wr.heap.size := Nat.ne_of_lt HWL.out
        have hneb : b ≠ wr.heap.size := Nat.ne_of_lt (Nat.lt_of_lt_of_le HBL.out (Nat.le_refl _))
        have HNF := Lib.hid hnf
        have HWF := Lib.hid ((hot _ hneW).trans HWB2.out)
        have hcb : ∀ o, ((w2.setCell ⟨wr.heap.size, 0, none⟩ (.slice p2 s'.1.length c2)).setCell ⟨wr.heap.size, 1, none⟩ (.slice q2 s'.2.length d2)).cell? ⟨b, o, none⟩ = w2.cell? ⟨b, o, none⟩ := fun o => World.cell?_of_block (w := w2) (a := ⟨b, o, none⟩) (hot b hneb)
        have kk4 : ((w2.setCell ⟨wr.heap.size, 0, none⟩ (.slice p2 s'.1.length c2)).setCell ⟨wr.heap.size, 1, none⟩ (.slice q2 s'.2.length d2)).cell? ⟨Wb, 0, none⟩ = some (.slice p' s.1.length c') ∧ ((w2.setCell ⟨wr.heap.size, 0, none⟩ (.slice p2 s'.1.length c2)).setCell ⟨wr.heap.size, 1, none⟩ (.slice q2 s'.2.length d2)).cell? ⟨Wb, 1, none⟩ = some (.slice q' s.2.length d') ∧ ((w2.setCell ⟨wr.heap.size, 0, none⟩ (.slice p2 s'.1.length c2)).setCell ⟨wr.heap.size, 1, none⟩ (.slice q2 s'.2.length d2)).cell? ⟨b, off + k * 2, none⟩ = some (.int .i64 y1) ∧ ((w2.setCell ⟨wr.heap.size, 0, none⟩ (.slice p2 s'.1.length c2)).setCell ⟨wr.heap.size, 1, none⟩ (.slice q2 s'.2.length d2)).cell? ⟨b, off + k * 2 + 1, none⟩ = some (.int .i64 y2) := ⟨pair_c0 HWF.out, pair_c1 HWF.out, (hcb _).trans kk2.2.2.1, (hcb _).trans kk2.2.2.2⟩
        have HOF := Lib.hid (show w2.heap.size ≤ ((w2.setCell ⟨wr.heap.size, 0, none⟩ (.slice p2 s'.1.length c2)).setCell ⟨wr.heap.size, 1, none⟩ (.slice q2 s'.2.length d2)).heap.size ∧ (∀ b, b < w2.heap.size → b ≠ wr.heap.size → ((w2.setCell ⟨wr.heap.size, 0, none⟩ (.slice p2 s'.1.length c2)).setCell ⟨wr.heap.size, 1, none⟩ (.slice q2 s'.2.length d2)).heap[b]? = w2.heap[b]?) ∧ ((w2.setCell ⟨wr.heap.size, 0, none⟩ (.slice p2 s'.1.length c2)).setCell ⟨wr.heap.size, 1, none⟩ (.slice q2 s'.2.length d2)).os = w2.os ∧ ((w2.setCell ⟨wr.heap.size, 0, none⟩ (.slice p2 s'.1.length c2)).setCell ⟨wr.heap.size, 1, none⟩ (.slice q2 s'.2.length d2)).tape = w2.tape ∧ ((w2.setCell ⟨wr.heap.size, 0, none⟩ (.slice p2 s'.1.length c2)).setCell ⟨wr.heap.size, 1, none⟩ (.slice q2 s'.2.length d2)).output = w2.output from ⟨by simp [World.setCell], fun b _ hb => hot b hb, rfl, rfl, rfl⟩)
        clear hnf hot hcb
        go_simp
        clear hHeld
        refine hK.out _ _ ?_ (fun hHeld => ?_)
        · exact ⟨kk4.1, kk4.2.1, kk4.2.2.1, kk4.2.2.2⟩
        clear hK K
        try simp only [Act.put, List.getElem_toArray, List.getElem_cons_zero, List.getElem_cons_succ, List.setIfInBounds_toArray, List.set_cons_zero, List.set_cons_succ]
        refine' wpAnyH_take (i := 12) (v := _) rfl (by kernel_rfl) (by kernel_rfl) (by kernel_rfl) (fun _ _ _ h => h) (Or.inl ⟨by rfl, ?hy⟩) hHeld _
        case hy => (intro w0 hSw; (try dsimp only at hSw); simp only [List.getElem_toArray, List.getElem_cons_zero, List.getElem_cons_succ]; go_simp; first | done | with_reducible rfl)
        simp only [Act.put, List.getElem_toArray, List.getElem_cons_zero, List.getElem_cons_succ, List.setIfInBounds_toArray, List.set_cons_zero, List.set_cons_succ]
        refine wpAnyH_done (by kernel_rfl) ?_ _
        refine NoPanic.normal ?_
        clear kk1 kk2 kk4 m0 m1 s0d s1d hHeld hn0 hn1 hn2 hn3
        have hx0 : ((w2.setCell ⟨wr.heap.size, 0, none⟩ (.slice p2 s'.1.length c2)).setCell ⟨wr.heap.size, 1, none⟩ (.slice q2 s'.2.length d2)).cell? ⟨wr.heap.size, 0, none⟩ = some (.slice p2 s'.1.length c2) := pair_c0 HNF.out
        have hx1 : ((w2.setCell ⟨wr.heap.size, 0, none⟩ (.slice p2 s'.1.length c2)).setCell ⟨wr.heap.size, 1, none⟩ (.slice q2 s'.2.length d2)).cell? ⟨wr.heap.size, 1, none⟩ = some (.slice q2 s'.2.length d2) := pair_c1 HNF.out
        have hw0 : ((w2.setCell ⟨wr.heap.size, 0, none⟩ (.slice p2 s'.1.length c2)).setCell ⟨wr.heap.size, 1, none⟩ (.slice q2 s'.2.length d2)).cell? ⟨Wb, 0, none⟩ = some (.slice p' s.1.length c') := pair_c0 HWF.out
        have hw1 : ((w2.setCell ⟨wr.heap.size, 0, none⟩ (.slice p2 s'.1.length c2)).setCell ⟨wr.heap.size, 1, none⟩ (.slice q2 s'.2.length d2)).cell? ⟨Wb, 1, none⟩ = some (.slice q' s.2.length d') := pair_c1 HWF.out
        have hwf0 := pair_fr HWF.out 0
        have hwf1 := pair_fr HWF.out 1
        obtain ⟨wf, hwf⟩ : ∃ wf, (((w2.setCell ⟨wr.heap.size, 0, none⟩ (.slice p2 s'.1.length c2)).setCell ⟨wr.heap.size, 1, none⟩ (.slice q2 s'.2.length d2)).setCell ⟨Wb, 0, none⟩ (.slice p2 s'.1.length c2)).setCell ⟨Wb, 1, none⟩ (.slice q2 s'.2.length d2) = wf := ⟨_, rfl⟩
        have hbxf : wf.heap[Wb]? = some (.cells #[(.slice p2 s'.1.length c2), (.slice q2 s'.2.length d2)] 62 (0, 0)) := by rw [← hwf]; exact pair_set1 (pair_set0 HWF.out)
        have hothf : ∀ b, b ≠ Wb → wf.heap[b]? = ((w2.setCell ⟨wr.heap.size, 0, none⟩ (.slice p2 s'.1.length c2)).setCell ⟨wr.heap.size, 1, none⟩ (.slice q2 s'.2.length d2)).heap[b]? := fun b hb => by rw [← hwf]; exact (heap_setCell_other _ ⟨Wb, 1, none⟩ b _ hb).trans (heap_setCell_other _ ⟨Wb, 0, none⟩ b _ hb)
        have hszf : wf.heap.size = ((w2.setCell ⟨wr.heap.size, 0, none⟩ (.slice p2 s'.1.length c2)).setCell ⟨wr.heap.size, 1, none⟩ (.slice q2 s'.2.length d2)).heap.size := by rw [← hwf]; simp [World.setCell]
        have hmetf : wf.os = ((w2.setCell ⟨wr.heap.size, 0, none⟩ (.slice p2 s'.1.length c2)).setCell ⟨wr.heap.size, 1, none⟩ (.slice q2 s'.2.length d2)).os ∧ wf.tape = ((w2.setCell ⟨wr.heap.size, 0, none⟩ (.slice p2 s'.1.length c2)).setCell ⟨wr.heap.size, 1, none⟩ (.slice q2 s'.2.length d2)).tape ∧ wf.output = ((w2.setCell ⟨wr.heap.size, 0, none⟩ (.slice p2 s'.1.length c2)).setCell ⟨wr.heap.size, 1, none⟩ (.slice q2 s'.2.length d2)).output := by rw [← hwf]; exact ⟨rfl, rfl, rfl⟩
        obtain ⟨a1, a2, a3, a4, a5, a6, a7⟩ := HA.out
        have hPF := pinv_act (N := wr.heap.size) HI.out HBS.out a1 a2 a3 a4 a5 a6 a7 (.inl ⟨Nat.le_refl _, by have := HSS.out; omega⟩) (by rw [hszf]; exact HOF.out.1) (fun b hb h1 h2 => (hothf b h2).trans (HOF.out.2.1 b hb h1)) hbxf ⟨hmetf.1.trans HOF.out.2.2.1, hmetf.2.1.trans HOF.out.2.2.2.1, hmetf.2.2.trans HOF.out.2.2.2.2⟩
        have w0 := pair_c0 hbxf
        have w1' := pair_c1 hbxf
        have HPF := Lib.hid hPF
        have HWFF := Lib.hid hwf
        have hw0b : ((((w2.setCell ⟨wr.heap.size, 0, none⟩ (.slice p2 s'.1.length c2)).setCell ⟨wr.heap.size, 1, none⟩ (.slice q2 s'.2.length d2)).setCell ⟨Wb, 0, none⟩ (.slice p2 s'.1.length c2)).setCell ⟨Wb, 1, none⟩ (.slice q2 s'.2.length d2)).cell? ⟨Wb, 0, none⟩ = some (.slice p2 s'.1.length c2) := by rw [hwf]; exact w0
        have hw1b : ((((w2.setCell ⟨wr.heap.size, 0, none⟩ (.slice p2 s'.1.length c2)).setCell ⟨wr.heap.size, 1, none⟩ (.slice q2 s'.2.length d2)).setCell ⟨Wb, 0, none⟩ (.slice p2 s'.1.length c2)).setCell ⟨Wb, 1, none⟩ (.slice q2 s'.2.length d2)).cell? ⟨Wb, 1, none⟩ = some (.slice q2 s'.2.length d2) := by rw [hwf]; exact w1'
        clear hbxf hothf hszf hmetf a1 a2 a3 a4 a5 a6 a7 hPF hwf
        go_wp2_with fail
        rw [HWFF.out]
        clear hx0 hx1 hw0 hw1 hwf0 hwf1 hw0b hw1b w0 w1'
        refine (is_any T' L s'.1 s'.2 p2 c2 q2 d2 wf HPF.out.lt.own HOK2.out.held (by have := HOK2.out.len; omega) HPF.out.rx HPF.out.ry).mono ?_
        rintro e w7 ⟨rfl, hb7⟩
        have HP7 := Lib.hid (HPF.out.below hb7)
        have hr7 := hrd_at HR.out HP7.out.lt.at_
        obtain ⟨b', off', hbo, _, t0, _⟩ := hr7.acts k hlt
        cases hbo
        have hyk : ys[k].1 = y1 := HYK.out
        rw [hyk] at t0
        clear hb7 hr7 hyk
        by_cases h3 : y1 = 3
        · subst h3
          go_wp2_with fail
          refine (copy_any T' L s'.1 s'.2 w7 HP7.out.lt.own (by have := HOK2.out.len; omega)).mono ?_
          rintro e w8 ⟨B, rfl, ho8, hb8⟩
          have HP8 := Lib.hid (HP7.out.copied ho8 hb8)
          clear ho8 hb8
          go_wp2_with fail
          refine ⟨⟨k + 1, B, _, p2, c2, q2, d2, by omega, rfl, by go_num, by rw [HTS.out]; exact HP8.out⟩, by simp [intOf]; omega⟩
        · have h3' : (y1 == 3) = false := by simpa using h3
          clear h3
          go_wp2_with fail
          refine ⟨⟨k + 1, L, T', p2, c2, q2, d2, by omega, rfl, by go_num, by rw [HTS.out]; exact HP7.out⟩, by simp [intOf]; omega⟩
    · obtain rfl : k = ys.length := by omega
      have HI := Lib.hid hI
      clear hI
      go_wp2_with fail
      refine (works25_any _).mono ?_
      rintro e w9 ⟨rfl, b9⟩
      have HB := Lib.hid (HI.out.lt.at_.1.trans (b9.mono HI.out.lt.at_.2))
      clear b9
      go_wp2_with fail
      go_ret
      exact ⟨rfl, HB.out⟩
theorem lawLatchPlays_of {α : Type} {enc : α → List Value} (p : Option Addr) (cap : Nat) (ys : List α) (w : World) (hrd : RdS w.heap.size w p cap 2 enc ys) (f : α → ActT) (he : ∀ y, enc y = ac (f y)) :
    Calls Try.prog 6 #[.slice p ys.length cap] w fun e w' => e = .returned (.bool true) ∧ Below w.heap.size w w' := by
  have := lawLatchPlays p cap (ys.map f) w (hrd.map f he)
  rwa [List.length_map] at this
end Go.Proofs.Ythhdipfadnihjaa
