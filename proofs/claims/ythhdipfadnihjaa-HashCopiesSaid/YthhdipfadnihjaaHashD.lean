/- The walk of the whole words of bytes: a range over chunks, which hands on to another range. -/
import Derived.Test.YthhdipfadnihjaaHashC
import Derived.Stop.RegionWithIn
import Derived.Sort.CutIn
import Derived.Laws.EntriesVeiled
namespace Go.Proofs.Ythhdipfadnihjaa
open Go Go.RowKit
attribute [local go_sem] Oper.semAt_some

def wholeW (bs : List (BitVec 8)) : List (BitVec 64) := (List.range (bs.length / 8)).map fun i => wordOf ((bs.drop (8 * i)).take 8)
theorem wholeW_len (bs : List (BitVec 8)) : (wholeW bs).length = bs.length / 8 := by simp [wholeW]
theorem wholeW_get (bs : List (BitVec 8)) (k : Nat) (h : k < (wholeW bs).length) : (wholeW bs)[k] = wordOf ((bs.drop (8 * k)).take 8) := by simp [wholeW]

/-- What the inner loop's rounds know of the outer's. -/
def Inn (J : Nat → (Nat → Prop) → World → Prop) (R : Nat → Prop) (S : Nat → Prop) (W1 : World) (k : Nat) (T2 : Nat → Prop) (V : World) : Prop :=
  ∃ T1, J k T1 V ∧ (∀ b, T2 b → T1 b) ∧ (∀ b, S b → T1 b) ∧ (∀ b, T1 b → b < V.heap.size) ∧ Kps R W1 V ∧ (∀ b, T2 b → W1.heap.size ≤ b)
theorem Inn.abd {J : Nat → (Nat → Prop) → World → Prop} {R S : Nat → Prop} {W1 : World} (hJ : Abd J) : Abd (Inn J R S W1) := by
  rintro k T2 V V' ⟨T1, h1, h2, h3, h4, h5, h6⟩ hf
  have hf1 : Frn T1 V V' := ⟨hf.os, hf.tape, hf.output, hf.size, fun b hb hn => hf.block b hb (fun h => hn (h2 b h))⟩
  refine ⟨grow T1 V V', hJ k T1 V V' h1 hf1, ?_, fun b hb => .inl (h3 b hb), ?_, ?_, ?_⟩
  · rintro b (hb | hb)
    · exact .inl (h2 b hb)
    · exact .inr hb
  · rintro b (hb | hb)
    · exact Nat.lt_of_lt_of_le (h4 b hb) hf.size
    · exact hb.2
  · exact ⟨hf.os.trans h5.os, hf.tape.trans h5.tape, hf.output.trans h5.output, Nat.le_trans h5.size hf.size, fun b hb hl =>
      (hf.block b (Nat.lt_of_lt_of_le hl h5.size) (fun ht => by have := h6 b ht; omega)).trans (h5.block b hb hl)⟩
  · rintro b (hb | hb)
    · exact h6 b hb
    · exact Nat.le_trans h5.size hb.1

/-- What a round of the outer loop leaves. -/
def YR (J Jx : Nat → (Nat → Prop) → World → Prop) (R : Nat → Prop) (k : Nat) (T1 : Nat → Prop) (V : World) (c : Bool) (W' : World) : Prop :=
  (if c then J (k + 1) T1 W' else Jx (k + 1) T1 W') ∧ Kps (fun b => R b ∨ T1 b) V W'

set_option maxRecDepth 100000 in
set_option maxHeartbeats 2000000 in
theorem wholes1_iter (Bb : Nat) (p : Option Addr) (cap : Nat) (bs : List (BitVec 8)) (w : World) (hBb : w.cell? ⟨Bb, 0, none⟩ = some (.slice p bs.length cap)) (hrd : RdL w.heap.size w p cap vb bs) (hbl : bs.length ≤ 1000000) :
    Iter Try.prog 106 #[.pointer (some ⟨Bb, 0, none⟩)] ((wholeW bs).map fun x => #[vw x]) (fun b => b = Bb ∨ inP p cap b) w := by
  intro l J Jx W T hW hTT hJ hJx hY h0
  have hlb := World.block_lt_of_cell? w _ hBb
  have hBb' : W.cell? ⟨Bb, 0, none⟩ = some (.slice p bs.length cap) := (World.cell?_of_block (w := w) (a := ⟨Bb, 0, none⟩) (hW.block Bb (.inl rfl) hlb)).trans hBb
  have hBbo : ∀ o, (W.alloc o).cell? ⟨Bb, 0, none⟩ = some (.slice p bs.length cap) := fun o => (World.cell?_alloc_lt (w := W) (a := ⟨Bb, 0, none⟩) (o := o) (Nat.lt_of_lt_of_le hlb hW.size)).trans hBb'
  have hrd' : RdL w.heap.size W p cap vb bs := hrd.kps (Nat.le_refl _) hW (fun b h => .inr h)
  have hlen := hrd.len
  have hcapm := hrd.2.1
  unfold maxLen at hcapm
  have hcap := hrd.1
  have hY' : ∀ k (hk : k < (wholeW bs).length) T' W1, (∀ b, T' b → b < W1.heap.size) → J k T' W1 → YieldAt Fence.wide 0 Try.prog l #[vw (wordOf ((bs.drop (8 * k)).take 8))] W1 fun e W' =>
      (e = .returned (.bool true) ∧ J (k + 1) T' W' ∧ Kps (fun b => (b = Bb ∨ inP p cap b) ∨ T' b) W1 W') ∨
      (e = .returned (.bool false) ∧ Jx (k + 1) T' W' ∧ Kps (fun b => (b = Bb ∨ inP p cap b) ∨ T' b) W1 W') := by
    intro k hk T' W1 h1 h2
    have := hY k (by simpa using hk) T' W1 h1 h2
    simpa [wholeW_get] using this
  rw [List.length_map]
  clear hY
  have HY := Lib.hid hY'
  have HJ := Lib.hid hJ
  have HJX := Lib.hid hJx
  have HRD := Lib.hid hrd'
  have he : (bs.length : Int) - (bs.length : Int) % 8 = ((8 * (bs.length / 8) : Nat) : Int) := by omega
  have hle : 8 * (bs.length / 8) ≤ bs.length := by omega
  obtain ⟨m, hm⟩ : ∃ m, bs.length / 8 = m := ⟨_, rfl⟩
  rw [hm] at he hle
  have HM := Lib.hid hm
  have hle2 : 8 * m ≤ cap := by omega
  clear hm
  have hlbW : Bb < W.heap.size := Nat.lt_of_lt_of_le hlb hW.size
  clear hY' hJ hJx hBb hrd hrd' hlb
  refine callsIn_of_wp_marks Try.func106 rfl trivial ?_ rfl
  simp only [Try.ntmps106, List.size_toArray, List.length_cons, List.length_nil, Nat.reduceAdd, Nat.reduceSub, Array.replicate_succ, Array.replicate_zero, List.push_toArray, List.append_toArray, List.nil_append, List.cons_append]
  gi_wp2
  refine wcall (chunk_any _ _ _ _) ?_
  rintro e w1 ⟨rfl, rfl⟩
  clear hBbo hBb'
  gi_wp2
  obtain ⟨W1, hW1⟩ : ∃ W1, ((W.alloc (Obj.cells #[Value.func (Fn.yield l) #[] #[]] 179)).alloc (Obj.cells #[Value.slice p (8 * m) cap] 70)).alloc (Obj.cells #[Value.int IntKind.i64 8] 3) = W1 := ⟨_, rfl⟩
  have hS1 : W1.heap.size = W.heap.size + 3 := by rw [← hW1]; simp
  have hA1 : At W.heap.size W W1 := by rw [← hW1]; exact (((At.start W).alloc _).alloc _).alloc _
  have bY : Box W1 W.heap.size 179 (Value.func (Fn.yield l) #[] #[]) := by rw [← hW1]; exact ((Box.new _ _ _).alloc _).alloc _
  have bS : Box W1 (W.heap.size + 1) 70 (Value.slice p (8 * m) cap) := by
    rw [← hW1]; have := Box.new (W.alloc (Obj.cells #[Value.func (Fn.yield l) #[] #[]] 179)) 70 (Value.slice p (8 * m) cap)
    rw [World.size_alloc] at this; exact this.alloc _
  have bN : Box W1 (W.heap.size + 2) 3 (Value.int IntKind.i64 8) := by
    rw [← hW1]; have := Box.new ((W.alloc (Obj.cells #[Value.func (Fn.yield l) #[] #[]] 179)).alloc (Obj.cells #[Value.slice p (8 * m) cap] 70)) 3 (Value.int IntKind.i64 8)
    rw [World.size_alloc, World.size_alloc] at this; exact this
  have hJ1 : J 0 (grow T W W1) W1 := HJ.out 0 T W W1 h0 (Frn.of_below hA1.1)
  have hFPW : ∀ b, (b = Bb ∨ inP p cap b) → b < W.heap.size := by
    rintro b (rfl | hb)
    · exact hlbW
    · exact Nat.lt_of_lt_of_le (HRD.out.inlt hb) hW.size
  have hK1 : Kps (fun b => b = Bb ∨ inP p cap b) W W1 := Kps.of_below hA1.1 hFPW
  have hpp : m = 0 ∨ ∃ b off, p = some ⟨b, off, none⟩ := by
    rcases HRD.out.2.2 with h | ⟨b, off, h, _⟩
    · left; omega
    · exact .inr ⟨b, off, h⟩
  rw [hW1]
  have HW1 := Lib.hid hW1
  clear hW1
  refine rf_law (gf := 136) (lb := #[.pointer (some ⟨W.heap.size + 1, 0, none⟩), .pointer (some ⟨W.heap.size + 1 + 1, 0, none⟩)]) rfl (enters_of Try.func136 (by kernel_rfl) rfl)
    (chunks_iter (W.heap.size + 1) (W.heap.size + 1 + 1) p m cap W1 bS.cell bN.cell hle2 hcapm (by omega) hpp) (by simp [chunksOf]) ?hFP
    (Inn J (fun b => (b = Bb ∨ inP p cap b) ∨ (W.heap.size ≤ b ∧ b < W1.heap.size)) (fun b => W.heap.size ≤ b ∧ b < W1.heap.size) W1)
    (fun c k T V => c = .ret ∧ Inn Jx (fun b => (b = Bb ∨ inP p cap b) ∨ (W.heap.size ≤ b ∧ b < W1.heap.size)) (fun b => W.heap.size ≤ b ∧ b < W1.heap.size) W1 k T V)
    (Inn.abd HJ.out) (fun c k T V V' h hf => ⟨h.1, Inn.abd HJX.out k T V V' h.2 hf⟩) ?h0 ?hround ?hdone ?hstop
  case hFP =>
    rintro b (rfl | rfl) <;> omega
  case h0 =>
    refine ⟨_, hJ1, fun _ h => h.elim, fun b hb => .inr hb, ?_, Kps.refl _ _, fun _ h => h.elim⟩
    rintro b (hb | hb)
    · exact Nat.lt_of_lt_of_le (hTT b hb) hA1.1.size
    · exact hb.2
  case hround =>
    rintro l2 k hk T2 V hI hTl hTW hkW
    have hkm : k < m := by rw [chunksOf_len] at hk; exact hk
    obtain ⟨b, off, rfl⟩ := hpp.resolve_left (by omega)
    rw [chunksOf_get]
    gi_wp2
    refine ⟨Kps.refl _ _, fun V2 hf hsz hk2 _ => ?_⟩
    obtain ⟨T1, j1, j2, j3, j4, j5, j6⟩ := (Inn.abd HJ.out).same hsz hI hf
    have hl8 : ((bs.drop (8 * k)).take 8).length = 8 := by have := HM.out; simp; omega
    have hrV : RdL w.heap.size V2 (some ⟨b, off, none⟩) cap vb bs := HRD.out.kps hW.size (hK1.trans (j5.mono fun b hb => .inl hb)) (fun b hb => .inr hb)
    have hr8 : RdL V2.heap.size V2 (some ⟨b, off + 8 * k, none⟩) 8 vb ((bs.drop (8 * k)).take 8) := by
      have h1 := hrV.tail (8 * k) (by have := HM.out; omega)
      have h2 : RdL w.heap.size V2 (some ⟨b, off + 8 * k, none⟩) (cap - 8 * k) vb ((bs.drop (8 * k)).take 8 ++ (bs.drop (8 * k)).drop 8) := by rw [List.take_append_drop]; exact h1
      exact (h2.front (by omega) (by have := HM.out; omega)).wide (Nat.le_trans (Nat.le_trans hW.size hA1.1.size) j5.size)
    have hlay := lay_any (some ⟨b, off + 8 * k, none⟩) 8 _ V2 hr8 (by omega)
    rw [hl8] at hlay
    have hl1 : layL ((bs.drop (8 * k)).take 8) = [wordOf ((bs.drop (8 * k)).take 8)] := by
      have := layL_append8 ((bs.drop (8 * k)).take 8) [] hl8
      simpa [layL_nil] using this
    rw [hl1] at hlay
    have HLAY := Lib.hid hlay
    have hYb : V2.heap[W.heap.size]? = W1.heap[W.heap.size]? := j5.block W.heap.size (.inr ⟨Nat.le_refl _, by omega⟩) (by omega)
    have bY2 := bY.kept hYb
    have HY2 := Lib.hid bY2
    clear hf hkW hk2 hI hlay hr8 hrV hYb bY2 hl1
    gi_wp2
    refine rcall HLAY.out ?_
    rintro e V3 ⟨v, rfl, hown, hb3⟩
    obtain ⟨g, c3, rfl, hg, hc3, hc3m⟩ := own_pos hown (by simp)
    have hcw := own_at hown 0 (by simp)
    have hcy := (HY2.out.below hb3 HY2.out.lt).cell
    simp only [List.getElem_cons_zero] at hcw
    have HB3 := Lib.hid hb3
    clear HLAY hown hb3
    gi_wp2
    have hj3 : J k (grow T1 V2 V3.drew) V3.drew := HJ.out k T1 V2 V3.drew j1 (Frn.of_below HB3.out).drew
    have hT3 : ∀ b, grow T1 V2 V3.drew b → b < V3.drew.heap.size := by
      rintro b (hb | hb)
      · exact Nat.lt_of_lt_of_le (j4 b hb) HB3.out.size
      · exact hb.2
    have hy := HY.out k (by rw [wholeW_len, HM.out]; exact hkm) (grow T1 V2 V3.drew) V3.drew hT3 hj3
    obtain ⟨fn, tmps, assign, body, hyy, hR⟩ := hy
    have hR' := hR.mono (R' := fun e W' => ∃ c : Bool, e = .returned (.bool c) ∧ YR J Jx (fun b_1 => b_1 = Bb ∨ inP (some ⟨b, off, none⟩) cap b_1) k (grow T1 V2 V3.drew) V3.drew c W') (by
      rintro e W' (⟨rfl, h1, h2⟩ | ⟨rfl, h1, h2⟩)
      · exact ⟨true, rfl, h1, h2⟩
      · exact ⟨false, rfl, h1, h2⟩)
    clear HY hR
    gi_cut [22] from 17 (fun s22 wc => ∃ c : Bool, s22 = .bool (!c) ∧ YR J Jx (fun b_1 => b_1 = Bb ∨ inP (some ⟨b, off, none⟩) cap b_1) k (grow T1 V2 V3.drew) V3.drew c wc)
    case first =>
      refine wpIn_noQ ?_
      gi_region_with (first
        | (refine ⟨rfl, hR'.mono ?_⟩
           rintro e W4 ⟨c, rfl, hyr⟩))
      all_goals
        gi_wp2
        gi_meet
        exact ⟨c, rfl, hyr⟩
    obtain ⟨c, rfl, hyr⟩ := hcut
    have hle1 : W.heap.size ≤ V2.heap.size := Nat.le_trans hA1.1.size j5.size
    have hb23 : Below V2.heap.size V2 V3.drew := HB3.out.drew
    have hin : ∀ (J' : Nat → (Nat → Prop) → World → Prop), J' (k + 1) (grow T1 V2 V3.drew) wc → Inn J' (fun b_1 => (b_1 = Bb ∨ inP (some ⟨b, off, none⟩) cap b_1) ∨ (W.heap.size ≤ b_1 ∧ b_1 < W1.heap.size)) (fun b => W.heap.size ≤ b ∧ b < W1.heap.size) W1 (k + 1) T2 wc := by
      intro J' h
      refine ⟨_, h, fun b hb => .inl (j2 b hb), fun b hb => .inl (j3 b hb), fun b hb => Nat.lt_of_lt_of_le (hT3 b hb) hyr.2.size, ?_, j6⟩
      refine (j5.trans (Kps.of_below hb23 ?_)).trans (hyr.2.mono ?_)
      · rintro b1 (hb | hb)
        · exact Nat.lt_of_lt_of_le (hFPW b1 hb) hle1
        · exact Nat.lt_of_lt_of_le hb.2 j5.size
      · rintro b1 (hb | hb)
        · exact .inl hb
        · exact .inr (.inl (j3 b1 hb))
    have hkp : Kps (fun b_1 => (b_1 = W.heap.size + 1 ∨ b_1 = W.heap.size + 1 + 1) ∨ T2 b_1) V2 wc := by
      have hT1 : ∀ b1, ((b1 = W.heap.size + 1 ∨ b1 = W.heap.size + 1 + 1) ∨ T2 b1) → T1 b1 := by
        rintro b1 ((rfl | rfl) | hb)
        · exact j3 _ ⟨by omega, by omega⟩
        · exact j3 _ ⟨by omega, by omega⟩
        · exact j2 b1 hb
      exact (Kps.of_below hb23 (fun b1 hb => j4 b1 (hT1 b1 hb))).trans (hyr.2.mono fun b1 hb => .inr (.inl (hT1 b1 hb)))
    cases c with
    | true =>
      gi_wp2
      exact ⟨hin J hyr.1, hkp⟩
    | false =>
      gi_wp2
      exact ⟨⟨rfl, hin Jx hyr.1⟩, hkp⟩
  case hdone =>
    rintro D T2 V ⟨T1, j1, j2, j3, j4, j5, j6⟩ hTD hTW hkW hD hK
    rw [chunksOf_len] at j1
    have hK' := Lib.hid hK
    have HWL := Lib.hid (wholeW_len bs)
    clear hkW bS bN bY hFPW hK1
    gi_wp2
    refine ⟨by simp, .inl ⟨_, _, rfl, run_takeDeferred hK'.out, ?_⟩⟩
    refine ⟨_, results_none rfl _ _ _, ⟨_, rfl⟩, .inl ⟨T1, ?_, ?_⟩⟩
    · rw [HWL.out, HM.out]
      exact HJ.out.same (by simp) j1 (Frn.putObj V (j2 D hTD) _)
    · intro b hb; simpa using j4 b hb
  case hstop =>
    rintro D c k T2 V hk hk1 ⟨rfl, T1, j1, j2, j3, j4, j5, j6⟩ hTD hTW hkW hD hK
    rw [chunksOf_len] at hk
    have hK' := Lib.hid hK
    have HWL := Lib.hid (wholeW_len bs)
    clear hkW bS bN bY hFPW hK1
    gi_wp2
    refine ⟨by simp, .inl ⟨_, _, rfl, run_takeDeferred hK'.out, ?_⟩⟩
    refine ⟨_, results_none rfl _ _ _, ⟨_, rfl⟩, .inr ⟨k, by rw [HWL.out, HM.out]; exact hk, hk1, T1, ?_, ?_⟩⟩
    · exact HJX.out.same (by simp) j1 (Frn.putObj V (j2 D hTD) _)
    · intro b hb; simpa using j4 b hb

end Go.Proofs.Ythhdipfadnihjaa
