/- The walks of package scan: of, Trace's iterator, Look. -/
import Derived.Test.YtenmogokbelahaaScanG
import Derived.Test.YtenmogokbelahaaKeep
namespace Go.Proofs.Ytenmogokbelahaa
open Go Go.RowKit

/-- May there be such a reader? -/
def FineR (way : Int) (left : BitVec 64) (s : List (BitVec 64)) : Prop := (way = 1 ∨ way = 2) ∧ left ≠ 0#64 ∧ s.length % 2 = 0 ∧ 2 ≤ s.length / 2 ∧ s.length / 2 ≤ 28
instance (way : Int) (left : BitVec 64) (s : List (BitVec 64)) : Decidable (FineR way left s) := by unfold FineR; infer_instance
def ofR (way : Int) (s : List (BitVec 64)) (key : BitVec 64) : Rd := newR way.toNat (s.length / 2) key
theorem ofR_ok {way : Int} {left : BitVec 64} {s : List (BitVec 64)} (h : FineR way left s) (key : BitVec 64) : OkR (ofR way s key) := by
  obtain ⟨h1, h2, h3, h4, h5⟩ := h
  exact newR_ok (by omega) h4 h5
set_option maxRecDepth 100000 in
set_option maxHeartbeats 4000000 in
theorem of_none (way : Int) (left : BitVec 64) (p : Option Addr) (cap : Nat) (s : List (BitVec 64)) (key : BitVec 64) (w : World) (hl : s.length ≤ 1000000) (h : ¬ FineR way left s) :
    Calls Try.prog 56 #[.int .i64 way, vw left, .slice p s.length cap, vw key] w fun e w' => e = .returned (.pointer none) ∧ Below w.heap.size w w' := by
  obtain ⟨n, hn⟩ : ∃ n, s.length = n := ⟨_, rfl⟩
  obtain ⟨V, hV⟩ : ∃ V : Int, (left.toNat : Int) = V := ⟨_, rfl⟩
  have hv : ∀ x : BitVec 64, vw x = .int .u64 x.toNat := fun _ => rfl
  have h0 : left = 0#64 ↔ V = 0 := by rw [← hV, word_eq0]
  unfold FineR at h
  rw [Ne, h0, hn] at h
  rw [hn] at hl
  rw [hv left, hV, hn]
  clear hn hV hv h0
  have hno : ∀ n, Below w.heap.size w (w.drewN n) := fun n => below_drewN (Below.refl _ _) n
  by_cases hx : V = 0
  · subst hx
    clear h
    go_enter Try.func56, Try.ntmps56
    go_wp2_with fail
    go_ret
    exact ⟨rfl, Below.refl _ _⟩
  · by_cases hm : n % 2 = 0
    · have hm' : (n : Int).tmod 2 = 0 := by rw [Int.tmod_eq_emod_of_nonneg (by omega)]; omega
      have HG := Lib.hid (new_bad way ((n : Int) / 2) key w (by rintro ⟨a, b, c⟩; exact h ⟨a, hx, hm, by omega, by omega⟩))
      have hd : IntKind.i64.wrap ((n : Int).tdiv 2) = (n : Int) / 2 := by rw [Int.tdiv_eq_ediv_of_nonneg (by omega), IntKind.wrap_i64]; omega
      have hd2 : IntKind.i64.wrap ((n : Int) / 2) = (n : Int) / 2 := by rw [IntKind.wrap_i64]; omega
      have hme : (n : Int) % 2 = 0 := by omega
      clear h hm
      go_enter Try.func56, Try.ntmps56
      go_wp2_with fail
      refine HG.out.mono ?_
      rintro e w1 ⟨rfl, hb⟩
      go_wp2_with fail
      go_ret
      exact ⟨rfl, hb⟩
    · have hm' : (n : Int).tmod 2 = 1 := by rw [Int.tmod_eq_emod_of_nonneg (by omega)]; omega
      have hme : (n : Int) % 2 = 1 := by omega
      clear h hm
      go_enter Try.func56, Try.ntmps56
      go_wp2_with fail
      go_ret
      exact ⟨rfl, Below.refl _ _⟩
set_option maxRecDepth 100000 in
set_option maxHeartbeats 4000000 in
theorem of_some (way : Int) (left : BitVec 64) (p : Option Addr) (cap : Nat) (s : List (BitVec 64)) (key : BitVec 64) (w : World) (h : FineR way left s) :
    Calls Try.prog 56 #[.int .i64 way, vw left, .slice p s.length cap, vw key] w fun e w' => ∃ O, e = .returned (.pointer (some ⟨O, 0, none⟩)) ∧ RAt w' O (ofR way s key) (fun b => w.heap.size ≤ b) ∧ Below w.heap.size w w' := by
  obtain ⟨h1, h2, h3, h4, h5⟩ := h
  obtain ⟨wn, rfl⟩ : ∃ k : Nat, way = k := ⟨way.toNat, by omega⟩
  have HG := Lib.hid (new_ok wn (s.length / 2) key w (by omega) h4 h5)
  unfold ofR
  rw [show ((wn : Int)).toNat = wn by simp]
  obtain ⟨rr, hrr⟩ : ∃ rr, newR wn (s.length / 2) key = rr := ⟨_, rfl⟩
  rw [hrr] at HG ⊢
  obtain ⟨n, hn⟩ : ∃ n, s.length = n := ⟨_, rfl⟩
  rw [hn] at h3 h4 h5 HG ⊢
  obtain ⟨V, hV⟩ : ∃ V : Int, (left.toNat : Int) = V := ⟨_, rfl⟩
  have hv : ∀ x : BitVec 64, vw x = .int .u64 x.toNat := fun _ => rfl
  have hx : ¬ V = 0 := by rw [← hV, word_eq0]; exact h2
  rw [hv left, hV]
  rw [show (((n / 2 : Nat)) : Int) = (n : Int) / 2 by omega] at HG
  have hm' : (n : Int).tmod 2 = 0 := by rw [Int.tmod_eq_emod_of_nonneg (by omega)]; omega
  have hd : IntKind.i64.wrap ((n : Int).tdiv 2) = (n : Int) / 2 := by rw [Int.tdiv_eq_ediv_of_nonneg (by omega), IntKind.wrap_i64]; omega
  have hd2 : IntKind.i64.wrap ((n : Int) / 2) = (n : Int) / 2 := by rw [IntKind.wrap_i64]; omega
  have hme : (n : Int) % 2 = 0 := by omega
  clear h1 h2 h3 h4 h5 hn hV hv hrr
  go_enter Try.func56, Try.ntmps56
  go_wp2_with fail
  refine HG.out.mono ?_
  rintro e w1 ⟨O, rfl, hr, hb⟩
  go_wp2_with fail
  go_ret
  exact ⟨O, rfl, hr, hb⟩
/-- What Trace goes over. -/
def trI (way : Int) (left : BitVec 64) (s : List (BitVec 64)) (key : BitVec 64) : List (Int × BitVec 64) := if FineR way left s then itemsA left s (ofR way s key) else []
def encT (l : List (Int × BitVec 64)) : List (Array Value) := l.map fun x => #[.int .i64 x.1, vw x.2]
theorem encT_len (l : List (Int × BitVec 64)) : (encT l).length = l.length := by simp [encT]
theorem encT_get (l : List (Int × BitVec 64)) (k : Nat) (h : k < (encT l).length) : (encT l)[k] = #[.int .i64 (l[k]'(by simpa [encT] using h)).1, vw (l[k]'(by simpa [encT] using h)).2] := by simp [encT]
set_option maxHeartbeats 1000000 in
theorem trace_any (way : Int) (left : BitVec 64) (sv : Value) (hs1 : ∃ p n c, sv = .slice p n c) (key : BitVec 64) (w : World) :
    Calls Try.prog 16 #[.int .i64 way, vw left, sv, vw key] w fun e w' => e = .returned (.func (.func 58) #[] #[.pointer (some ⟨w.heap.size, 0, none⟩), .pointer (some ⟨w.heap.size + 1, 0, none⟩), .pointer (some ⟨w.heap.size + 2, 0, none⟩), .pointer (some ⟨w.heap.size + 3, 0, none⟩)]) ∧
      (((w.alloc (.cells #[.int .i64 way] 22)).alloc (.cells #[vw left] 23)).alloc (.cells #[sv] 24)).alloc (.cells #[vw key] 23) = w' := by
  obtain ⟨p, n, c, rfl⟩ := hs1
  go_enter Try.func16, Try.ntmps16
  go_wp2
  go_ret
  exact ⟨rfl, rfl⟩
/-- The captured variables of Trace's iterator. -/
structure TrBox (W : World) (b1 b2 b3 b4 : Nat) (way : Int) (left : BitVec 64) (p : Option Addr) (cap : Nat) (s : List (BitVec 64)) (key : BitVec 64) : Prop where
  bway : Box W b1 22 (.int .i64 way)
  bleft : Box W b2 23 (vw left)
  bs : Box W b3 24 (.slice p s.length cap)
  bkey : Box W b4 23 (vw key)
  rd : RdL W.heap.size W p cap vw s
/-- What the iterator reads. -/
def TrFP (b1 b2 b3 b4 : Nat) (p : Option Addr) (cap : Nat) (b : Nat) : Prop := b = b1 ∨ b = b2 ∨ b = b3 ∨ b = b4 ∨ inP p cap b
theorem TrBox.keep {W W' : World} {b1 b2 b3 b4 : Nat} {way : Int} {left : BitVec 64} {p : Option Addr} {cap : Nat} {s : List (BitVec 64)} {key : BitVec 64} (h : TrBox W b1 b2 b3 b4 way left p cap s key) (hk : Kps (TrFP b1 b2 b3 b4 p cap) W W') : TrBox W' b1 b2 b3 b4 way left p cap s key :=
  ⟨h.bway.kept (hk.block _ (.inl rfl) h.bway.lt), h.bleft.kept (hk.block _ (.inr (.inl rfl)) h.bleft.lt), h.bs.kept (hk.block _ (.inr (.inr (.inl rfl))) h.bs.lt), h.bkey.kept (hk.block _ (.inr (.inr (.inr (.inl rfl)))) h.bkey.lt),
    (h.rd.kps (Nat.le_refl _) hk (fun b hb => .inr (.inr (.inr (.inr hb))))).wide hk.size⟩
theorem TrBox.lt {W : World} {b1 b2 b3 b4 : Nat} {way : Int} {left : BitVec 64} {p : Option Addr} {cap : Nat} {s : List (BitVec 64)} {key : BitVec 64} (h : TrBox W b1 b2 b3 b4 way left p cap s key) (b : Nat) (hb : TrFP b1 b2 b3 b4 p cap b) : b < W.heap.size := by
  rcases hb with rfl | rfl | rfl | rfl | hb
  · exact h.bway.lt
  · exact h.bleft.lt
  · exact h.bs.lt
  · exact h.bkey.lt
  · exact h.rd.inlt hb
set_option maxRecDepth 100000 in
set_option maxHeartbeats 4000000 in
theorem trace1_iter (b1 b2 b3 b4 : Nat) (way : Int) (left : BitVec 64) (p : Option Addr) (cap : Nat) (s : List (BitVec 64)) (key : BitVec 64) (w : World) (h : TrBox w b1 b2 b3 b4 way left p cap s key) (hl : s.length ≤ 1000000) :
    Iter Try.prog 58 #[.pointer (some ⟨b1, 0, none⟩), .pointer (some ⟨b2, 0, none⟩), .pointer (some ⟨b3, 0, none⟩), .pointer (some ⟨b4, 0, none⟩)] (encT (trI way left s key)) (TrFP b1 b2 b3 b4 p cap) w := by
  intro L J Jx W T hW hT hJ hJx hY h0
  have hB := h.keep hW
  rw [encT_len]
  have q1 := hB.bway.cell
  have q2 := hB.bleft.cell
  have q3 := hB.bs.cell
  have q4 := hB.bkey.cell
  have HB := Lib.hid hB
  by_cases hf : FineR way left s
  · have HOF := Lib.hid (of_some way left p cap s key W hf)
    have e : trI way left s key = itemsA left s (ofR way s key) := by unfold trI; rw [if_pos hf]
    have hok := ofR_ok hf key
    have hsl : 2 * (ofR way s key).slots = s.length := by
      obtain ⟨-, -, h3, -, -⟩ := hf
      show 2 * (s.length / 2) = s.length
      omega
    have hl0 : (ofR way s key).loads = 0 := rfl
    obtain ⟨r0, hr0⟩ : ∃ r0, ofR way s key = r0 := ⟨_, rfl⟩
    rw [hr0] at e hok hsl hl0 HOF
    rw [e] at hY ⊢
    rw [itemsA_len]
    have HY := Lib.hid hY
    have HJ := Lib.hid hJ
    have HJX := Lib.hid hJx
    have HH := Lib.hid (And.intro hT h0)
    have HR := Lib.hid (And.intro hok (And.intro hsl hl0))
    clear hY hJ hJx hW hT h h0 hB e hok hsl hl0 hr0 hf
    refine callsIn_of_wp Try.func58 rfl trivial ?_ rfl
    simp only [Try.ntmps58, List.size_toArray, List.length_cons, List.length_nil, Nat.reduceAdd, Nat.reduceSub, Array.replicate_succ, Array.replicate_zero, List.push_toArray, List.append_toArray, List.nil_append, List.cons_append]
    gi_wp2
    apply wpIn_scope_wide
    gi_wp2
    refine wcall HOF.out ?_
    rintro e w1 ⟨O, rfl, hr, hb⟩
    have HS : Hid (J 0 (grow T W w1) w1 ∧ (∀ b, grow T W w1 b → b < w1.heap.size) ∧ Kps (TrFP b1 b2 b3 b4 p cap) W w1 ∧ RAt w1 O (stA left s r0 0) (grow T W w1)) := Lib.hid ⟨HJ.out 0 T W w1 HH.out.2 (Frn.of_below hb), by
        rintro b (hb' | hb')
        · exact Nat.lt_of_lt_of_le (HH.out.1 b hb') hb.size
        · exact hb'.2, Kps.of_below hb HB.out.lt, hr.mono (fun b h1 h2 => .inr ⟨h1, h2⟩)⟩
    have HOO := Lib.hid hr.own
    clear hr hb q1 q2 q3 q4
    gi_wp2
    apply wpIn_label
    gi_wp2
    gi_loopw [] (fun wr => ∃ (k : Nat) (T' : Nat → Prop), k ≤ (endA left s r0).loads ∧ J k T' wr ∧ (∀ b, T' b → b < wr.heap.size) ∧ Kps (TrFP b1 b2 b3 b4 p cap) W wr ∧ RAt wr O (stA left s r0 k) T')
      (fun wr => 4 * r0.slots - (intOf ((wr.cell? ⟨O, 9, none⟩).getD undef)).toNat)
    case atStart => exact ⟨0, _, Nat.zero_le _, HS.out⟩
    case round =>
      obtain ⟨k, T', hk, hJk, hTk, hkk, hrk⟩ := hrel
      have hBk := HB.out.keep hkk
      have q2 := hBk.bleft.cell
      have q3 := hBk.bs.cell
      have HWANT := Lib.hid (wantsR_any wr hrk)
      have hOW : W.heap.size ≤ O := HOO.out
      have hstk := (stA_ok left s HR.out.1 k)
      by_cases hlt : k < (endA left s r0).loads
      · have hd := (stA_lt (left := left) (s := s) HR.out.1 HR.out.2.2 k).2 hlt
        have hwin := wants_in hstk.1 hd
        rw [hstk.2.2.1] at hwin
        have hsucc := stA_succ (left := left) (s := s) (r := r0) (k := k) hd
        have hyy := HY.out k (by rw [encT_len, itemsA_len]; exact hlt) T' wr hTk hJk
        rw [encT_get, itemsA_get] at hyy
        have hwv : wantV (stA left s r0 k) = .tuple #[.int .i64 (stA left s r0 k).wants, .bool true] := by unfold wantV; rw [hd]; rfl
        rw [hwv] at HWANT
        obtain ⟨x, hx⟩ : ∃ x, (stA left s r0 k).wants = x := ⟨_, rfl⟩
        rw [hx] at HWANT hsucc hyy hwin
        have hWORD := Lib.hid (word_any left p cap s x wr hBk.rd (by have := HR.out.2.1; omega))
        obtain ⟨v, hv⟩ : ∃ v, atW left s x = v := ⟨_, rfl⟩
        rw [hv] at hsucc hyy hWORD
        obtain ⟨fn, tmps, assign, body, hy, hR2⟩ := hyy
        simp only at hy
        have HRR2 := Lib.hid hR2
        have HT := Lib.hid (And.intro hTk (And.intro hkk (And.intro hrk (And.intro hstk.1 (And.intro hd hsucc)))))
        have hml : (stA left s r0 k).loads = k := (stA_loads (left := left) (s := s) HR.out.1 HR.out.2.2 k).2 hd
        have hmx : k + 1 ≤ 4 * r0.slots := by
          have h1 := (stA_ok left s HR.out.1 (k + 1))
          have h2 := h1.1.rem
          have h3 := (give_ok hstk.1 hd v).2.1
          rw [← hsucc] at h3
          rw [h1.2.2.1] at h2
          omega
        have hm9 : (wr.cell? ⟨O, 9, none⟩).getD undef = .int .i64 (k : Int) := by
          obtain ⟨a, nx, hr, -⟩ := hrk.raw
          rw [hr.cells.2.2.2.2.2.2.2.2.2.1, hml]
          rfl
        have HM := Lib.hid (And.intro hmx hm9)
        have HLT := Lib.hid hlt
        clear hJk hTk hkk hrk hBk hstk hd hwin hsucc hwv hx hv hR2 hml hmx hm9 hlt hk
        gi_wp2
        refine wcall HWANT.out ?_
        rintro e w' ⟨rfl, rfl⟩
        gi_wp2
        refine wcall hWORD.out ?_
        rintro e w' ⟨rfl, rfl⟩
        gi_wp2
        refine ⟨rfl, HRR2.out.mono ?_⟩
        clear hy HRR2 q2 q3
        rintro e w8 (⟨rfl, hJ8, hk8⟩ | ⟨rfl, hJx8, hk8⟩)
        · have hr8 := HT.out.2.2.1.keep hk8.size (fun b hb _ => hk8.block b (.inr hb) (HT.out.1 b hb))
          have HG := Lib.hid (give_any v w8 hr8 HT.out.2.2.2.1 HT.out.2.2.2.2.1)
          have H8 := Lib.hid (And.intro hJ8 (And.intro hk8 hr8.own))
          clear hJ8 hk8 hr8
          gi_wp2
          refine wcall HG.out ?_
          rintro e w9 ⟨rfl, hr9, hf9⟩
          have hfT : Frn T' w8 w9 := ⟨hf9.os, hf9.tape, hf9.output, hf9.size, fun b hb hn => hf9.block b hb (fun h' => hn (by rw [h']; exact H8.out.2.2))⟩
          have hJ9 := HJ.out _ _ _ _ H8.out.1 hfT
          have hlt8 : ∀ b, T' b → b < w8.heap.size := fun b hb => Nat.lt_of_lt_of_le (HT.out.1 b hb) H8.out.2.1.size
          have hk9 : Kps (TrFP b1 b2 b3 b4 p cap) W w9 := (HT.out.2.1.trans (H8.out.2.1.mono fun b hb => .inl hb)).trans ⟨hf9.os, hf9.tape, hf9.output, hf9.size, fun b hb hl => hf9.block b hl (fun h' => by have := HB.out.lt b hb; omega)⟩
          have hr9' : RAt w9 O (stA left s r0 (k + 1)) (grow T' w8 w9) := by
            rw [HT.out.2.2.2.2.2]
            refine hr9.mono ?_
            rintro b (h1 | h1) h2
            · exact .inl h1
            · exact .inr ⟨h1, h2⟩
          have HS9 : Hid (J (k + 1) (grow T' w8 w9) w9 ∧ (∀ b, grow T' w8 w9 b → b < w9.heap.size) ∧ Kps (TrFP b1 b2 b3 b4 p cap) W w9 ∧ RAt w9 O (stA left s r0 (k + 1)) (grow T' w8 w9)) := Lib.hid ⟨hJ9, by
            rintro b (h1 | ⟨h1, h2⟩)
            · exact Nat.lt_of_lt_of_le (hlt8 b h1) hf9.size
            · exact h2, hk9, hr9'⟩
          have hm9 : (w9.cell? ⟨O, 9, none⟩).getD undef = .int .i64 ((k + 1 : Nat) : Int) := by
            obtain ⟨a, nx, hr, -⟩ := hr9'.raw
            have hgl := (give_ok HT.out.2.2.2.1 HT.out.2.2.2.2.1 v).2.1
            rw [← HT.out.2.2.2.2.2, (stA_loads (left := left) (s := s) HR.out.1 HR.out.2.2 k).2 HT.out.2.2.2.2.1] at hgl
            rw [hr.cells.2.2.2.2.2.2.2.2.2.1, hgl]
            rfl
          have HM9 := Lib.hid hm9
          clear hr9 hf9 hfT hJ9 hlt8 hk9 hr9' hm9
          gi_wp2
          go_roundw
          case rel => exact ⟨k + 1, _, HLT.out, HS9.out⟩
          case measure =>
            rw [HM9.out, HM.out.2]
            have := HM.out.1
            simp only [intOf]
            omega
        · have hb8 : ∀ b, T' b → b < w8.heap.size := fun b hb => Nat.lt_of_lt_of_le (HT.out.1 b hb) hk8.size
          have H8 := Lib.hid (And.intro hJx8 hb8)
          clear hJx8 hk8 hb8
          gi_wp2
          rw [Exit.noGoto_normal]
          gi_wp2
          go_end0
          exact ⟨⟨_, rfl⟩, .inr ⟨k + 1, T', HLT.out, by omega, H8.out.1, H8.out.2⟩⟩
      · obtain rfl : k = (endA left s r0).loads := by omega
        have hd : (stA left s r0 (endA left s r0).loads).done = true := by
          cases hdd : (stA left s r0 (endA left s r0).loads).done with
          | true => rfl
          | false => exact absurd ((stA_lt (left := left) (s := s) HR.out.1 HR.out.2.2 _).1 hdd) hlt
        have hwv : wantV (stA left s r0 (endA left s r0).loads) = .tuple #[.int .i64 0, .bool false] := by unfold wantV; rw [hd]; rfl
        rw [hwv] at HWANT
        have HT := Lib.hid (And.intro hJk hTk)
        clear hJk hTk hkk hrk hBk hstk hd hwv hlt hk HY
        gi_wp2
        refine wcall HWANT.out ?_
        rintro e w' ⟨rfl, rfl⟩
        gi_wp2
        rw [Exit.noGoto_normal]
        gi_wp2
        go_end0
        exact ⟨⟨_, rfl⟩, .inl ⟨T', HT.out.1, HT.out.2⟩⟩
  · have e : trI way left s key = [] := by unfold trI; rw [if_neg hf]
    have HOF := Lib.hid (of_none way left p cap s key W hl hf)
    rw [e]
    have HJ := Lib.hid hJ
    have HH := Lib.hid (And.intro hT h0)
    clear hY hJ hJx hW hT h h0 hB e hf
    refine callsIn_of_wp Try.func58 rfl trivial ?_ rfl
    simp only [Try.ntmps58, List.size_toArray, List.length_cons, List.length_nil, Nat.reduceAdd, Nat.reduceSub, Array.replicate_succ, Array.replicate_zero, List.push_toArray, List.append_toArray, List.nil_append, List.cons_append]
    gi_wp2
    apply wpIn_scope_wide
    gi_wp2
    refine wcall HOF.out ?_
    rintro e w1 ⟨rfl, hb⟩
    have HS : Hid (J 0 (grow T W w1) w1 ∧ (∀ b, grow T W w1 b → b < w1.heap.size)) := Lib.hid ⟨HJ.out 0 T W w1 HH.out.2 (Frn.of_below hb), by
        rintro b (hb' | hb')
        · exact Nat.lt_of_lt_of_le (HH.out.1 b hb') hb.size
        · exact hb'.2⟩
    have HN := Lib.hid (wants_none none w1 (none_nil w1))
    clear hb q1 q2 q3 q4
    gi_wp2
    apply wpIn_label
    gi_wp2
    gi_loopw [] (fun wr => wr = w1) (fun _ => 0)
    case atStart => rfl
    case round =>
      subst hrel
      gi_wp2
      refine wcall HN.out ?_
      rintro e w' ⟨rfl, rfl⟩
      gi_wp2
      rw [Exit.noGoto_normal]
      gi_wp2
      go_end0
      exact ⟨⟨_, rfl⟩, .inl ⟨_, HS.out.1, HS.out.2⟩⟩
end Go.Proofs.Ytenmogokbelahaa
