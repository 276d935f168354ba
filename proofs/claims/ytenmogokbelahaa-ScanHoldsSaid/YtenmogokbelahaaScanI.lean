/- The walk of scan.Look. -/
import Derived.Test.YtenmogokbelahaaScanH
namespace Go.Proofs.Ytenmogokbelahaa
open Go Go.RowKit
attribute [local go_sem] Oper.semAt_some

theorem RAt.frn {W W' : World} {O : Nat} {r : Rd} {T : Nat → Prop} (h : RAt W O r (fun b => ¬ T b)) (hf : Frn T W W') : RAt W' O r (fun b => ¬ grow T W W' b) := by
  obtain ⟨a, nx, B, h1, h2, h3, h4, h5⟩ := h
  have hg : ∀ b, ¬ T b → b < W.heap.size → ¬ grow T W W' b := by
    rintro b hn hl (hb | ⟨hb, -⟩)
    · exact hn hb
    · omega
  refine ⟨a, nx, B, h1.kept (hf.block _ h1.lt h2), hg _ h2 h1.lt, hg _ h3 h4, Nat.lt_of_lt_of_le h4 hf.size, ?_⟩
  rcases h5 with h5 | ⟨q1, q2, q3, q4⟩
  · exact .inl h5
  · exact .inr ⟨q1, q2, q3, fun x y => (q4 x y).kept (hf.block _ h4 h3)⟩
theorem RAt.mine {W W' : World} {O : Nat} {r : Rd} {T : Nat → Prop} (h : RAt W' O r (fun b => ¬ T b ∨ W.heap.size ≤ b)) (hT : ∀ b, T b → b < W.heap.size) : RAt W' O r (fun b => ¬ T b) :=
  h.mono (fun b hb _ => hb.elim id (fun hb ht => by have := hT b ht; omega))
theorem Keep.frnX {X : Nat → Prop} {W : World} {T : Nat → Prop} {W' W'' : World} (h : Keep X W T W') {O : Nat} (hO : X O) (hf : Frn (fun b => b = O) W' W'') : Keep X W T W'' :=
  ⟨h.frn.trans ⟨hf.os, hf.tape, hf.output, hf.size, fun b hl hn => hf.block b hl (fun e => hn (e ▸ hO))⟩, h.old⟩
def lookV (way : Int) (left : BitVec 64) (s : List (BitVec 64)) (key : BitVec 64) : BitVec 64 × Bool := if FineR way left s then (endA left s (ofR way s key)).found else (0#64, false)
/-- The world behind Trace: four boxes more. -/
theorem trace_box (way : Int) (left : BitVec 64) (p : Option Addr) (cap : Nat) (s : List (BitVec 64)) (key : BitVec 64) (w W : World)
    (h : (((w.alloc (.cells #[.int .i64 way] 22)).alloc (.cells #[vw left] 23)).alloc (.cells #[.slice p s.length cap] 24)).alloc (.cells #[vw key] 23) = W) (hrd : RdL w.heap.size w p cap vw s) :
    TrBox W w.heap.size (w.heap.size + 1) (w.heap.size + 2) (w.heap.size + 3) way left p cap s key ∧ W.heap.size = w.heap.size + 4 ∧ Below w.heap.size w W := by
  obtain ⟨w1, h1⟩ : ∃ w1, w.alloc (.cells #[.int .i64 way] 22) = w1 := ⟨_, rfl⟩
  rw [h1] at h
  obtain ⟨w2, h2⟩ : ∃ w2, w1.alloc (.cells #[vw left] 23) = w2 := ⟨_, rfl⟩
  rw [h2] at h
  obtain ⟨w3, h3⟩ : ∃ w3, w2.alloc (.cells #[.slice p s.length cap] 24) = w3 := ⟨_, rfl⟩
  rw [h3] at h
  have z1 : w1.heap.size = w.heap.size + 1 := by rw [← h1]; simp
  have z2 : w2.heap.size = w.heap.size + 2 := by rw [← h2]; simp [z1]
  have z3 : w3.heap.size = w.heap.size + 3 := by rw [← h3]; simp [z2]
  have z4 : W.heap.size = w.heap.size + 4 := by rw [← h]; simp [z3]
  have x1 : Box w1 w.heap.size 22 (.int .i64 way) := by rw [← h1]; exact Box.new _ _ _
  have x2 : Box w2 (w.heap.size + 1) 23 (vw left) := by rw [← h2, ← z1]; exact Box.new _ _ _
  have x3 : Box w3 (w.heap.size + 2) 24 (.slice p s.length cap) := by rw [← h3, ← z2]; exact Box.new _ _ _
  have x4 : Box W (w.heap.size + 3) 23 (vw key) := by rw [← h, ← z3]; exact Box.new _ _ _
  have b1 : Below w.heap.size w w1 := by rw [← h1]; exact (Below.refl _ _).alloc (Nat.le_refl _) _
  have b2 : Below w1.heap.size w1 w2 := by rw [← h2]; exact (Below.refl _ _).alloc (Nat.le_refl _) _
  have b3 : Below w2.heap.size w2 w3 := by rw [← h3]; exact (Below.refl _ _).alloc (Nat.le_refl _) _
  have b4 : Below w3.heap.size w3 W := by rw [← h]; exact (Below.refl _ _).alloc (Nat.le_refl _) _
  have hb : Below w.heap.size w W := b1.trans ((b2.mono (by omega)).trans ((b3.mono (by omega)).trans (b4.mono (by omega))))
  exact ⟨⟨((x1.below b2 (by omega)).below b3 (by omega)).below b4 (by omega), (x2.below b3 (by omega)).below b4 (by omega), x3.below b4 (by omega), x4, (hrd.below hb).wide (by omega)⟩, z4, hb⟩
set_option maxRecDepth 100000 in
set_option maxHeartbeats 8000000 in
theorem look_some (way : Int) (left : BitVec 64) (p : Option Addr) (cap : Nat) (s : List (BitVec 64)) (key : BitVec 64) (w : World) (hrd : RdL w.heap.size w p cap vw s) (hl : s.length ≤ 1000000) (hfine : FineR way left s) :
    Calls Try.prog 13 #[.int .i64 way, vw left, .slice p s.length cap, vw key] w fun e w' => e = .returned (.tuple #[vw (endA left s (ofR way s key)).found.1, .bool (endA left s (ofR way s key)).found.2]) ∧ Below w.heap.size w w' := by
  have HOF := Lib.hid (of_some way left p cap s key w hfine)
  have e : trI way left s key = itemsA left s (ofR way s key) := by unfold trI; rw [if_pos hfine]
  have HIT := Lib.hid (fun b1 b2 b3 b4 W hh => trace1_iter b1 b2 b3 b4 way left p cap s key W hh hl)
  have HTR := Lib.hid (fun W => trace_any way left (.slice p s.length cap) ⟨_, _, _, rfl⟩ key W)
  have hok := ofR_ok hfine key
  have hl0 : (ofR way s key).loads = 0 := rfl
  obtain ⟨r0, hr0⟩ : ∃ r0, ofR way s key = r0 := ⟨_, rfl⟩
  rw [hr0] at e hok hl0 HOF ⊢
  rw [e] at HIT
  have HR := Lib.hid (And.intro hok (And.intro hl0 hrd))
  obtain ⟨re, hre⟩ : ∃ re, endA left s r0 = re := ⟨_, rfl⟩
  rw [hre]
  have HRE := Lib.hid hre
  clear hrd hl hfine e hok hl0 hr0 hre
  refine (callsIn_wide (n := 0)).1 ?_
  refine callsIn_of_wp_marks Try.func13 rfl trivial ?_ rfl
  simp only [Try.ntmps13, List.size_toArray, List.length_cons, List.length_nil, Nat.reduceAdd, Nat.reduceSub, Array.replicate_succ, Array.replicate_zero, List.push_toArray, List.append_toArray, List.nil_append, List.cons_append]
  refine wpIn_wide.2 ?_
  go_wp2_with fail
  refine HOF.out.mono ?_
  rintro e w1 ⟨O, rfl, hr, hb⟩
  obtain ⟨w2, hw2⟩ : ∃ w2, w1.alloc (.cells #[.pointer (some ⟨O, 0, none⟩)] 60) = w2 := ⟨_, rfl⟩
  have hb2 : Below w1.heap.size w1 w2 := by rw [← hw2]; exact (Below.refl _ _).alloc (Nat.le_refl _) _
  have hx2 : Box w2 w1.heap.size 60 (.pointer (some ⟨O, 0, none⟩)) := by rw [← hw2]; exact Box.new _ _ _
  have hz2 : w2.heap.size = w1.heap.size + 1 := by rw [← hw2]; simp
  have hr2 : RAt w2 O r0 (fun b => w.heap.size ≤ b) := hr.keep hb2.size (fun b _ hl => hb2.block b hl)
  have hlO : O < w1.heap.size := hr.lt
  have H2 := Lib.hid (And.intro (hb.trans (hb2.mono hb.size)) (And.intro hx2 (And.intro hr2 hlO)))
  have HW2 := Lib.hid hw2
  have HZ := Lib.hid (And.intro hz2 hb.size)
  clear hr hb hb2 hx2 hr2 hw2 hz2 hlO
  go_wp2_with fail
  rw [HW2.out]
  refine (HTR.out w2).mono ?_
  rintro e w3 ⟨rfl, hw3⟩
  obtain ⟨hT3, hz3, hb3⟩ := trace_box way left p cap s key w2 w3 hw3 ((HR.out.2.2.below H2.out.1).wide H2.out.1.size)
  have hx3 := H2.out.2.1.below hb3 (by have := HZ.out.1; omega)
  have hr3 : RAt w3 O r0 (fun b => w.heap.size ≤ b) := H2.out.2.2.1.keep hb3.size (fun b _ hl => hb3.block b hl)
  have HI3 := Lib.hid (HIT.out _ _ _ _ w3 hT3)
  have H3 := Lib.hid (And.intro (H2.out.1.trans (hb3.mono H2.out.1.size)) (And.intro hx3 (And.intro hr3 (And.intro hT3 H2.out.2.2.2))))
  have hOin : ¬ inP p cap O := fun h => by have := HR.out.2.2.inlt h; have := H2.out.2.2.1.own; omega
  have HZ3 := Lib.hid hz3
  have HIN := Lib.hid hOin
  clear hw3 hx3 hr3 hT3 HTR HW2 hb3 hz3 hOin
  go_wp2_with fail
  refine (wpIn_wide (n := 0)).1 ?_
  refine rf_law (gf := 58) (lb := #[.pointer (some ⟨w2.heap.size, 0, none⟩), .pointer (some ⟨w2.heap.size + 1, 0, none⟩), .pointer (some ⟨w2.heap.size + 2, 0, none⟩), .pointer (some ⟨w2.heap.size + 3, 0, none⟩)]) rfl (enters_of Try.func58 (by kernel_rfl) rfl)
    HI3.out (by intro x hx; obtain ⟨y, _, rfl⟩ := List.mem_map.1 hx; rfl) ?hFP
    (fun k T V => Keep (fun b => b = O) w3 T V ∧ RAt V O (stA left s r0 k) (fun b => ¬ T b)) (fun _ _ _ _ => False) ?hJ ?hJx ?h0 ?hround ?hdone ?hstop
  case hFP => exact H3.out.2.2.2.1.lt
  case hJ =>
    rintro k T V V' ⟨h1, h2⟩ hf
    exact ⟨h1.go hf, h2.frn hf⟩
  case hJx =>
    intro cc' k T V V' h hf
    exact h
  case h0 => exact ⟨Keep.start _ _, H3.out.2.2.1.mono (fun b _ _ => id)⟩
  case hround =>
    rintro l' k hk T V ⟨hs, hrk⟩ hTl hTW hkW
    have hk' : k < (endA left s r0).loads := by rw [encT_len, itemsA_len] at hk; exact hk
    rw [encT_get, itemsA_get]
    have hd := (stA_lt (left := left) (s := s) HR.out.1 HR.out.2.1 k).2 hk'
    have hstk := (stA_ok left s HR.out.1 k).1
    have hsucc := stA_succ (left := left) (s := s) (r := r0) (k := k) hd
    obtain ⟨x, hx⟩ : ∃ x, (stA left s r0 k).wants = x := ⟨_, rfl⟩
    rw [hx] at hsucc ⊢
    obtain ⟨v, hv⟩ : ∃ v, atW left s x = v := ⟨_, rfl⟩
    rw [hv] at hsucc ⊢
    simp only
    have HK := Lib.hid (And.intro hs (And.intro hrk (And.intro hTW (And.intro hd (And.intro hstk hsucc)))))
    clear hs hrk hTl hTW hkW hd hstk hsucc hx hv hk hk'
    gi_wp2
    refine ⟨Kps.refl _ _, fun W2 hf hsz2 hk2 _ => ?_⟩
    have hs2 := HK.out.1.goSame hf hsz2
    have hr2 : RAt W2 O (stA left s r0 k) (fun b => ¬ T b) := by
      have := HK.out.2.1.frn hf
      rwa [grow_same hsz2] at this
    have hcb := (hs2.box H3.out.2.1 (by have := H3.out.2.2.2.2; show ¬ (w1.heap.size = O); omega)).cell
    have HG := Lib.hid (give_any v W2 hr2 HK.out.2.2.2.2.1 HK.out.2.2.2.1)
    have HS2 := Lib.hid (And.intro hs2 (And.intro hr2 (show ∀ b, T b → b < W2.heap.size from fun b hb => by rw [hsz2]; exact HK.out.2.2.1 b hb)))
    clear hf hsz2 hk2 hs2 hr2
    gi_wp2
    refine rcall HG.out ?_
    rintro e w9 ⟨rfl, hr9, hf9⟩
    have hO9 : ¬ TrFP w2.heap.size (w2.heap.size + 1) (w2.heap.size + 2) (w2.heap.size + 3) p cap O := by
      have := H3.out.2.2.2.2
      have := HZ.out.1
      rintro (h | h | h | h | h)
      · omega
      · omega
      · omega
      · omega
      · exact HIN.out h
    have HF : Hid (Keep (fun b => b = O) w3 T w9 ∧ RAt w9 O (stA left s r0 (k + 1)) (fun b => ¬ T b) ∧ Kps (fun b => TrFP w2.heap.size (w2.heap.size + 1) (w2.heap.size + 2) (w2.heap.size + 3) p cap b ∨ T b) W2 w9) := Lib.hid ⟨HS2.out.1.frnX rfl hf9, by rw [HK.out.2.2.2.2.2]; exact hr9.mine HS2.out.2.2,
      ⟨hf9.os, hf9.tape, hf9.output, hf9.size, fun b hb hl => hf9.block b hl (fun e => by subst e; exact hb.elim hO9 HS2.out.2.1.own)⟩⟩
    clear hr9 hf9 hO9
    gi_wp2
    exact ⟨⟨HF.out.1, HF.out.2.1⟩, HF.out.2.2⟩
  case hdone =>
    rintro D T V ⟨hs, hrk⟩ hTD hTW hkW hD hK
    rw [encT_len, itemsA_len] at hrk
    have hfin : stA left s r0 (endA left s r0).loads = re := by
      rw [← HRE.out]
      refine stA_end HR.out.1 ?_
      cases hdd : (stA left s r0 (endA left s r0).loads).done with
      | true => rfl
      | false => exact absurd ((stA_lt (left := left) (s := s) HR.out.1 HR.out.2.1 _).1 hdd) (Nat.lt_irrefl _)
    rw [hfin] at hrk
    have hO := H3.out.2.2.1.own
    have HFO := Lib.hid (foundR_any V hrk)
    have hcb := (hs.box H3.out.2.1 (by have := H3.out.2.2.2.2; show ¬ (w1.heap.size = O); omega)).cell
    have hbel : Below w.heap.size w V := H3.out.1.trans (hs.frn.below H3.out.1.size (by rintro b rfl; exact hO))
    have HV := Lib.hid (And.intro hbel (And.intro hK (show w.heap.size ≤ D from Nat.le_trans H3.out.1.size hD)))
    clear hs hrk hTD hTW hkW hD hK hbel HIT HI3 hfin
    unfold foundV at HFO
    obtain ⟨f1, hf1⟩ : ∃ f1, re.found.1 = f1 := ⟨_, rfl⟩
    obtain ⟨f2, hf2⟩ : ∃ f2, re.found.2 = f2 := ⟨_, rfl⟩
    rw [hf1, hf2] at HFO
    have HE := Lib.hid (And.intro hf1 hf2)
    clear hf1 hf2
    gi_wp2
    go_wp2_with fail
    refine HFO.out.mono ?_
    rintro e w' ⟨rfl, rfl⟩
    go_wp2_with fail
    refine leave1 rfl HV.out.2.1 (results_tmp2 (fn := Try.f13) rfl _ _ _) ⟨by rw [HE.out.1, HE.out.2]; rfl, below_putObj HV.out.1 HV.out.2.2 _⟩
  case hstop =>
    intro D c' k T V _ _ h
    exact h.elim
set_option maxRecDepth 100000 in
set_option maxHeartbeats 8000000 in
theorem look_none (way : Int) (left : BitVec 64) (p : Option Addr) (cap : Nat) (s : List (BitVec 64)) (key : BitVec 64) (w : World) (hrd : RdL w.heap.size w p cap vw s) (hl : s.length ≤ 1000000) (hfine : ¬ FineR way left s) :
    Calls Try.prog 13 #[.int .i64 way, vw left, .slice p s.length cap, vw key] w fun e w' => e = .returned (.tuple #[.int .u64 0, .bool false]) ∧ Below w.heap.size w w' := by
  have HOF := Lib.hid (of_none way left p cap s key w hl hfine)
  have e : trI way left s key = [] := by unfold trI; rw [if_neg hfine]
  have HIT := Lib.hid (fun b1 b2 b3 b4 W hh => trace1_iter b1 b2 b3 b4 way left p cap s key W hh hl)
  have HTR := Lib.hid (fun W => trace_any way left (.slice p s.length cap) ⟨_, _, _, rfl⟩ key W)
  rw [e] at HIT
  have HR := Lib.hid hrd
  clear hrd hl hfine e
  refine (callsIn_wide (n := 0)).1 ?_
  refine callsIn_of_wp_marks Try.func13 rfl trivial ?_ rfl
  simp only [Try.ntmps13, List.size_toArray, List.length_cons, List.length_nil, Nat.reduceAdd, Nat.reduceSub, Array.replicate_succ, Array.replicate_zero, List.push_toArray, List.append_toArray, List.nil_append, List.cons_append]
  refine wpIn_wide.2 ?_
  go_wp2_with fail
  refine HOF.out.mono ?_
  rintro e w1 ⟨rfl, hb⟩
  obtain ⟨w2, hw2⟩ : ∃ w2, w1.alloc (.cells #[.pointer none] 60) = w2 := ⟨_, rfl⟩
  have hb2 : Below w1.heap.size w1 w2 := by rw [← hw2]; exact (Below.refl _ _).alloc (Nat.le_refl _) _
  have hx2 : Box w2 w1.heap.size 60 (.pointer none) := by rw [← hw2]; exact Box.new _ _ _
  have hz2 : w2.heap.size = w1.heap.size + 1 := by rw [← hw2]; simp
  have H2 := Lib.hid (And.intro (hb.trans (hb2.mono hb.size)) hx2)
  have HW2 := Lib.hid hw2
  have HZ := Lib.hid (And.intro hz2 hb.size)
  clear hb hb2 hx2 hw2 hz2
  go_wp2_with fail
  rw [HW2.out]
  refine (HTR.out w2).mono ?_
  rintro e w3 ⟨rfl, hw3⟩
  obtain ⟨hT3, hz3, hb3⟩ := trace_box way left p cap s key w2 w3 hw3 ((HR.out.below H2.out.1).wide H2.out.1.size)
  have hx3 := H2.out.2.below hb3 (by have := HZ.out.1; omega)
  have HI3 := Lib.hid (HIT.out _ _ _ _ w3 hT3)
  have H3 := Lib.hid (And.intro (H2.out.1.trans (hb3.mono H2.out.1.size)) (And.intro hx3 hT3))
  have HZ3 := Lib.hid hz3
  clear hw3 hx3 hT3 HTR HW2 hb3 hz3
  go_wp2_with fail
  refine (wpIn_wide (n := 0)).1 ?_
  refine rf_law (gf := 58) (lb := #[.pointer (some ⟨w2.heap.size, 0, none⟩), .pointer (some ⟨w2.heap.size + 1, 0, none⟩), .pointer (some ⟨w2.heap.size + 2, 0, none⟩), .pointer (some ⟨w2.heap.size + 3, 0, none⟩)]) rfl (enters_of Try.func58 (by kernel_rfl) rfl)
    HI3.out (by intro x hx; cases hx) ?hFP
    (fun k T V => Keep (fun b => False) w3 T V) (fun _ _ _ _ => False) ?hJ ?hJx ?h0 ?hround ?hdone ?hstop
  case hFP => exact H3.out.2.2.lt
  case hJ =>
    rintro k T V V' h1 hf
    exact h1.go hf
  case hJx =>
    intro cc' k T V V' h hf
    exact h
  case h0 => exact Keep.start _ _
  case hround =>
    rintro l' k hk
    exact absurd hk (Nat.not_lt_zero _)
  case hdone =>
    rintro D T V hs hTD hTW hkW hD hK
    have HFO := Lib.hid (found_none none V (none_nil V))
    have hcb := (hs.box H3.out.2.1 (fun h => h)).cell
    have hbel : Below w.heap.size w V := H3.out.1.trans (hs.frn.below H3.out.1.size (by rintro b h; exact h.elim))
    have HV := Lib.hid (And.intro hbel (And.intro hK (show w.heap.size ≤ D from Nat.le_trans H3.out.1.size hD)))
    clear hs hTD hTW hkW hD hK hbel HIT HI3
    gi_wp2
    go_wp2_with fail
    refine HFO.out.mono ?_
    rintro e w' ⟨rfl, rfl⟩
    go_wp2_with fail
    refine leave1 rfl HV.out.2.1 (results_tmp2 (fn := Try.f13) rfl _ _ _) ⟨rfl, below_putObj HV.out.1 HV.out.2.2 _⟩
  case hstop =>
    intro D c' k T V _ _ h
    exact h.elim
theorem look_any (way : Int) (left : BitVec 64) (p : Option Addr) (cap : Nat) (s : List (BitVec 64)) (key : BitVec 64) (w : World) (hrd : RdL w.heap.size w p cap vw s) (hl : s.length ≤ 1000000) :
    Calls Try.prog 13 #[.int .i64 way, vw left, .slice p s.length cap, vw key] w fun e w' => e = .returned (.tuple #[vw (lookV way left s key).1, .bool (lookV way left s key).2]) ∧ Below w.heap.size w w' := by
  unfold lookV
  by_cases h : FineR way left s
  · rw [if_pos h]
    exact look_some way left p cap s key w hrd hl h
  · rw [if_neg h]
    exact look_none way left p cap s key w hrd hl h
end Go.Proofs.Ytenmogokbelahaa
