/- The law's act: a call by the memory and by the document. -/
import Derived.Test.YtaflbfmlajbjcaaPmemZ
namespace Go.Proofs.Ytaflbfmlajbjcaa
open Go Go.RowKit

structure ActA where
  what : Int
  at_ : Int
  value : BitVec 64
/-- What a call makes of the lines. -/
def inR (a : Int) (n : Nat) : Prop := 0 ≤ a ∧ a < (n : Int)
instance (a : Int) (n : Nat) : Decidable (inR a n) := inferInstanceAs (Decidable (_ ∧ _))
def stepM (m : Mem) (x : ActA) : Mem :=
  if x.what = 0 then (if inR x.at_ (8 * m.length) then m.store x.at_.toNat x.value else m)
  else if x.what = 1 then (if inR x.at_ m.length then m.flush x.at_.toNat else m)
  else if x.what = 2 then m.fence
  else if x.what = 3 then (if inR x.at_ m.length then m.evict x.at_.toNat else m)
  else m
theorem stepM_len (m : Mem) (x : ActA) : (stepM m x).length = m.length := by
  unfold stepM
  split
  · split
    · exact store_len _ _ _
    · rfl
  · split
    · split
      · exact flush_len _ _
      · rfl
    · split
      · exact fence_len _
      · split
        · split
          · exact evict_len _ _
          · rfl
        · rfl
set_option maxHeartbeats 400000 in
theorem num7_any (k : Int) (w : World) : Calls Try.prog 15 #[.int .i64 k] w fun e w' => e = .returned (.int .i64 k) ∧ w' = w := by
  go_enter Try.func15, Try.ntmps15
  go_wp2
  go_ret
  exact ⟨rfl, rfl⟩
/-- A memory, and the document's beside it. -/
structure Two (W : World) (O : Nat) (p : Option Addr) (c : Nat) (m : Mem) (N : Nat → Prop) : Prop where
  mat : MAt W O m N
  bnd : ∀ x, N x → x < W.heap.size
  ref : RdS W.heap.size W p c 25 lc m
  dis : ∀ b, inP p c b → ¬ N b
  le : m.length ≤ 1000
  pos : 0 < m.length
theorem Two.frn {W W' : World} {O : Nat} {p : Option Addr} {c : Nat} {m m' : Mem} {N : Nat → Prop} (h : Two W O p c m N) (hm : MAt W' O m' N) (hf : Frn N W W') (hl : m'.length = m.length) {p' : Option Addr} {c' : Nat} (hr : RdS W'.heap.size W' p' c' 25 lc m') (hd : ∀ b, inP p' c' b → ¬ N b) : Two W' O p' c' m' N :=
  ⟨hm, fun x hx => Nat.lt_of_lt_of_le (h.bnd x hx) hf.size, hr, hd, by rw [hl]; exact h.le, by rw [hl]; exact h.pos⟩
theorem Two.below {W W' : World} {O : Nat} {p : Option Addr} {c : Nat} {m : Mem} {N : Nat → Prop} (h : Two W O p c m N) (hb : Below W.heap.size W W') : Two W' O p c m N :=
  ⟨h.mat.below hb, fun x hx => Nat.lt_of_lt_of_le (h.bnd x hx) hb.size, (h.ref.keep (fun b hi => hb.block b (h.ref.inlt hi))).wideP hb.size, h.dis, h.le, h.pos⟩
def actV (x : ActA) : Value := .agg #[.int .i64 x.what, .int .i64 x.at_, vw x.value]
/-- What an act leaves. -/
def ActPost (W : World) (O : Nat) (m' : Mem) (N : Nat → Prop) (e : Ending) (w' : World) : Prop :=
  ∃ p' c', e = .returned (.tuple #[.slice p' m'.length c', .bool true]) ∧ Two w' O p' c' m' N ∧ Frn N W w'
theorem act_box (W : World) (x : ActA) : ∃ WA, W.alloc (.cells #[.int .i64 x.what, .int .i64 x.at_, vw x.value] 38) = WA ∧ Below W.heap.size W WA ∧ WA.heap.size = W.heap.size + 1 ∧
    WA.heap[W.heap.size]? = some (.cells #[.int .i64 x.what, .int .i64 x.at_, vw x.value] 38 (0, 0)) :=
  ⟨_, rfl, (Below.refl _ _).alloc (Nat.le_refl _) _, by simp, World.alloc_heap_new _ _⟩
theorem act_cells {W : World} {B : Nat} {x y z : Value} {t : TypeId} (h : W.heap[B]? = some (.cells #[x, y, z] t (0, 0))) : W.cell? ⟨B, 0, none⟩ = some x ∧ W.cell? ⟨B, 1, none⟩ = some y ∧ W.cell? ⟨B, 2, none⟩ = some z := by
  refine ⟨?_, ?_, ?_⟩ <;> simp [World.cell?, h]
theorem notN {W : World} {O : Nat} {p : Option Addr} {c : Nat} {m : Mem} {N : Nat → Prop} (h : Two W O p c m N) {b : Nat} (hb : W.heap.size ≤ b) : ¬ N b := fun hx => by have := h.bnd b hx; omega
theorem refKeep {W W' : World} {O : Nat} {p : Option Addr} {c : Nat} {m : Mem} {N : Nat → Prop} (h : Two W O p c m N) (hf : Frn N W W') : RdS W'.heap.size W' p c 25 lc m :=
  (h.ref.keep (fun b hi => hf.block b (h.ref.inlt hi) (h.dis b hi))).wideP hf.size
set_option maxRecDepth 100000 in
set_option maxHeartbeats 4000000 in
theorem act0_in {O : Nat} {p : Option Addr} {c : Nat} {m : Mem} {N : Nat → Prop} (W : World) (h : Two W O p c m N) (i : Nat) (v : BitVec 64) (hi : i < 8 * m.length) :
    Calls Try.prog 16 #[.pointer (some ⟨O, 0, none⟩), .slice p m.length c, .agg #[.int .i64 (0), .int .i64 (i : Int), vw v]] W fun e w' => ActPost W O (m.store i v) N e w' := by
  obtain ⟨WA, hWA, hbA, hzA, hcA⟩ := act_box W ⟨0, (i : Int), v⟩
  have hA := h.below hbA
  obtain ⟨k0, k1, k2⟩ := act_cells hcA
  have HA := Lib.hid (And.intro hA (And.intro hbA (And.intro hcA hzA)))
  have HI := Lib.hid (store_any i v WA hA.mat hi)
  have hmlen := h.le
  have HH := Lib.hid (there7_any p m.length c (i : Int) WA (by omega))
  rw [decide_eq_true (show 0 ≤ (i : Int) ∧ (i : Int) < (((8 * m.length : Nat) : Int) : Int) by omega)] at HH
  clear hA hbA hcA hzA
  go_enter Try.func16, Try.ntmps16
  go_wp2_with fail
  refine HH.out.mono ?_
  rintro e w' ⟨rfl, rfl⟩
  go_wp2_with fail
  refine HI.out.mono ?_
  rintro e w1 ⟨rfl, hm1, hf1⟩
  have hk : w1.heap[W.heap.size]? = _ := (hf1.block W.heap.size (by rw [HA.out.2.2.2]; exact Nat.lt_succ_self _) (notN h (Nat.le_refl _))).trans HA.out.2.2.1
  obtain ⟨k0, k1, k2⟩ := act_cells hk
  have HR := Lib.hid (store7_any p c m i v w1 (refKeep HA.out.1 hf1) hi (by omega))
  have H1 := Lib.hid (And.intro hm1 hf1)
  clear hm1 hf1 hk
  go_wp2_with fail
  refine HR.out.mono ?_
  rintro e w2 ⟨p', c', rfl, ho, hp, hb⟩
  have H2 := Lib.hid (And.intro ho (And.intro hp hb))
  clear ho hp hb
  go_wp2_with fail
  refine (num7_any _ _).mono ?_
  rintro e w3 ⟨rfl, rfl⟩
  go_wp2_with fail
  go_ret2
  have hfr : Frn N WA w3 := H1.out.2.trans (Frn.of_below H2.out.2.2)
  refine ⟨p', c', by rw [store_len]; rfl, (h.below HA.out.2.1).frn (H1.out.1.below H2.out.2.2) hfr (store_len ..) (OwnG.rds lc_len H2.out.1) (fun b hb hN => ?_), (Frn.of_below HA.out.2.1).trans hfr⟩
  have := H2.out.2.1 b hb
  have := h.bnd b hN
  have := H1.out.2.size
  have := HA.out.2.1.size
  omega
set_option maxRecDepth 100000 in
set_option maxHeartbeats 4000000 in
theorem act1_in {O : Nat} {p : Option Addr} {c : Nat} {m : Mem} {N : Nat → Prop} (W : World) (h : Two W O p c m N) (i : Nat) (v : BitVec 64) (hi : i < m.length) :
    Calls Try.prog 16 #[.pointer (some ⟨O, 0, none⟩), .slice p m.length c, .agg #[.int .i64 (1), .int .i64 (i : Int), vw v]] W fun e w' => ActPost W O (m.flush i) N e w' := by
  obtain ⟨WA, hWA, hbA, hzA, hcA⟩ := act_box W ⟨1, (i : Int), v⟩
  have hA := h.below hbA
  obtain ⟨k0, k1, k2⟩ := act_cells hcA
  have HA := Lib.hid (And.intro hA (And.intro hbA (And.intro hcA hzA)))
  have HI := Lib.hid (flush_any i WA hA.mat hA.bnd hi)
  have hmlen := h.le
  have HH := Lib.hid (hasLine7_any p m.length c (i : Int) WA)
  rw [decide_eq_true (show 0 ≤ (i : Int) ∧ (i : Int) < ((m.length : Int) : Int) by omega)] at HH
  clear hA hbA hcA hzA
  go_enter Try.func16, Try.ntmps16
  go_wp2_with fail
  refine HH.out.mono ?_
  rintro e w' ⟨rfl, rfl⟩
  go_wp2_with fail
  refine HI.out.mono ?_
  rintro e w1 ⟨rfl, hm1, hf1⟩
  have hk : w1.heap[W.heap.size]? = _ := (hf1.block W.heap.size (by rw [HA.out.2.2.2]; exact Nat.lt_succ_self _) (notN h (Nat.le_refl _))).trans HA.out.2.2.1
  obtain ⟨k0, k1, k2⟩ := act_cells hk
  have HR := Lib.hid (flush7_any p c m i w1 (refKeep HA.out.1 hf1) hi (by omega))
  have H1 := Lib.hid (And.intro hm1 hf1)
  clear hm1 hf1 hk
  go_wp2_with fail
  refine HR.out.mono ?_
  rintro e w2 ⟨p', c', rfl, ho, hp, hb⟩
  have H2 := Lib.hid (And.intro ho (And.intro hp hb))
  clear ho hp hb
  go_wp2_with fail
  refine (num7_any _ _).mono ?_
  rintro e w3 ⟨rfl, rfl⟩
  go_wp2_with fail
  go_ret2
  have hfr : Frn N WA w3 := H1.out.2.trans (Frn.of_below H2.out.2.2)
  refine ⟨p', c', by rw [flush_len]; rfl, (h.below HA.out.2.1).frn (H1.out.1.below H2.out.2.2) hfr (flush_len ..) (OwnG.rds lc_len H2.out.1) (fun b hb hN => ?_), (Frn.of_below HA.out.2.1).trans hfr⟩
  have := H2.out.2.1 b hb
  have := h.bnd b hN
  have := H1.out.2.size
  have := HA.out.2.1.size
  omega
set_option maxRecDepth 100000 in
set_option maxHeartbeats 4000000 in
theorem act3_in {O : Nat} {p : Option Addr} {c : Nat} {m : Mem} {N : Nat → Prop} (W : World) (h : Two W O p c m N) (i : Nat) (v : BitVec 64) (hi : i < m.length) :
    Calls Try.prog 16 #[.pointer (some ⟨O, 0, none⟩), .slice p m.length c, .agg #[.int .i64 (3), .int .i64 (i : Int), vw v]] W fun e w' => ActPost W O (m.evict i) N e w' := by
  obtain ⟨WA, hWA, hbA, hzA, hcA⟩ := act_box W ⟨3, (i : Int), v⟩
  have hA := h.below hbA
  obtain ⟨k0, k1, k2⟩ := act_cells hcA
  have HA := Lib.hid (And.intro hA (And.intro hbA (And.intro hcA hzA)))
  have HI := Lib.hid (evict_any i WA hA.mat hA.bnd hi)
  have hmlen := h.le
  have HH := Lib.hid (hasLine7_any p m.length c (i : Int) WA)
  rw [decide_eq_true (show 0 ≤ (i : Int) ∧ (i : Int) < ((m.length : Int) : Int) by omega)] at HH
  clear hA hbA hcA hzA
  go_enter Try.func16, Try.ntmps16
  go_wp2_with fail
  refine HH.out.mono ?_
  rintro e w' ⟨rfl, rfl⟩
  go_wp2_with fail
  refine HI.out.mono ?_
  rintro e w1 ⟨rfl, hm1, hf1⟩
  have hk : w1.heap[W.heap.size]? = _ := (hf1.block W.heap.size (by rw [HA.out.2.2.2]; exact Nat.lt_succ_self _) (notN h (Nat.le_refl _))).trans HA.out.2.2.1
  obtain ⟨k0, k1, k2⟩ := act_cells hk
  have HR := Lib.hid (evict7_any p c m i w1 (refKeep HA.out.1 hf1) hi (by omega))
  have H1 := Lib.hid (And.intro hm1 hf1)
  clear hm1 hf1 hk
  go_wp2_with fail
  refine HR.out.mono ?_
  rintro e w2 ⟨p', c', rfl, ho, hp, hb⟩
  have H2 := Lib.hid (And.intro ho (And.intro hp hb))
  clear ho hp hb
  go_wp2_with fail
  refine (num7_any _ _).mono ?_
  rintro e w3 ⟨rfl, rfl⟩
  go_wp2_with fail
  go_ret2
  have hfr : Frn N WA w3 := H1.out.2.trans (Frn.of_below H2.out.2.2)
  refine ⟨p', c', by rw [evict_len]; rfl, (h.below HA.out.2.1).frn (H1.out.1.below H2.out.2.2) hfr (evict_len ..) (OwnG.rds lc_len H2.out.1) (fun b hb hN => ?_), (Frn.of_below HA.out.2.1).trans hfr⟩
  have := H2.out.2.1 b hb
  have := h.bnd b hN
  have := H1.out.2.size
  have := HA.out.2.1.size
  omega
set_option maxRecDepth 100000 in
set_option maxHeartbeats 4000000 in
theorem act0_out {O : Nat} {p : Option Addr} {c : Nat} {m : Mem} {N : Nat → Prop} (W : World) (h : Two W O p c m N) (a : Int) (v : BitVec 64) (hi : ¬ (0 ≤ a ∧ a < ((8 * m.length : Nat) : Int))) :
    Calls Try.prog 16 #[.pointer (some ⟨O, 0, none⟩), .slice p m.length c, .agg #[.int .i64 (0), .int .i64 a, vw v]] W fun e w' => ActPost W O m N e w' := by
  obtain ⟨WA, hWA, hbA, hzA, hcA⟩ := act_box W ⟨0, a, v⟩
  have hA := h.below hbA
  obtain ⟨k0, k1, k2⟩ := act_cells hcA
  have HA := Lib.hid (And.intro hA (And.intro hbA (And.intro hcA hzA)))
  have hmlen := h.le
  have HI := Lib.hid (store_bad a v WA hA.mat hi)
  have HH := Lib.hid (there7_any p m.length c a WA (by omega))
  rw [decide_eq_false hi] at HH
  clear hA hbA hcA hzA
  go_enter Try.func16, Try.ntmps16
  go_wp2_with fail
  refine HH.out.mono ?_
  rintro e w' ⟨rfl, rfl⟩
  go_wp2_with fail
  refine HI.out.mono ?_
  rintro e w1 ⟨rfl, rfl⟩
  have hb1 : Below WA.heap.size WA WA := Below.refl _ _
  have H1 := Lib.hid hb1
  clear hb1
  go_wp2_with fail
  refine (num7_any _ _).mono ?_
  rintro e w3 ⟨rfl, rfl⟩
  go_wp2_with fail
  go_ret2
  exact ⟨p, c, rfl, HA.out.1.below H1.out, (Frn.of_below HA.out.2.1).trans (Frn.of_below H1.out)⟩
set_option maxRecDepth 100000 in
set_option maxHeartbeats 4000000 in
theorem act1_out {O : Nat} {p : Option Addr} {c : Nat} {m : Mem} {N : Nat → Prop} (W : World) (h : Two W O p c m N) (a : Int) (v : BitVec 64) (hi : ¬ (0 ≤ a ∧ a < (m.length : Int))) :
    Calls Try.prog 16 #[.pointer (some ⟨O, 0, none⟩), .slice p m.length c, .agg #[.int .i64 (1), .int .i64 a, vw v]] W fun e w' => ActPost W O m N e w' := by
  obtain ⟨WA, hWA, hbA, hzA, hcA⟩ := act_box W ⟨1, a, v⟩
  have hA := h.below hbA
  obtain ⟨k0, k1, k2⟩ := act_cells hcA
  have HA := Lib.hid (And.intro hA (And.intro hbA (And.intro hcA hzA)))
  have hmlen := h.le
  have HI := Lib.hid (flush_bad a WA hA.mat hA.bnd hi)
  have HH := Lib.hid (hasLine7_any p m.length c a WA)
  rw [decide_eq_false hi] at HH
  clear hA hbA hcA hzA
  go_enter Try.func16, Try.ntmps16
  go_wp2_with fail
  refine HH.out.mono ?_
  rintro e w' ⟨rfl, rfl⟩
  go_wp2_with fail
  refine HI.out.mono ?_
  rintro e w1 ⟨rfl, hb1⟩
  have hk : w1.heap[W.heap.size]? = _ := (hb1.block W.heap.size (by rw [HA.out.2.2.2]; exact Nat.lt_succ_self _)).trans HA.out.2.2.1
  obtain ⟨k0, k1, k2⟩ := act_cells hk
  clear hk
  have H1 := Lib.hid hb1
  clear hb1
  go_wp2_with fail
  refine (num7_any _ _).mono ?_
  rintro e w3 ⟨rfl, rfl⟩
  go_wp2_with fail
  go_ret2
  exact ⟨p, c, rfl, HA.out.1.below H1.out, (Frn.of_below HA.out.2.1).trans (Frn.of_below H1.out)⟩
set_option maxRecDepth 100000 in
set_option maxHeartbeats 4000000 in
theorem act3_out {O : Nat} {p : Option Addr} {c : Nat} {m : Mem} {N : Nat → Prop} (W : World) (h : Two W O p c m N) (a : Int) (v : BitVec 64) (hi : ¬ (0 ≤ a ∧ a < (m.length : Int))) :
    Calls Try.prog 16 #[.pointer (some ⟨O, 0, none⟩), .slice p m.length c, .agg #[.int .i64 (3), .int .i64 a, vw v]] W fun e w' => ActPost W O m N e w' := by
  obtain ⟨WA, hWA, hbA, hzA, hcA⟩ := act_box W ⟨3, a, v⟩
  have hA := h.below hbA
  obtain ⟨k0, k1, k2⟩ := act_cells hcA
  have HA := Lib.hid (And.intro hA (And.intro hbA (And.intro hcA hzA)))
  have hmlen := h.le
  have HI := Lib.hid (evict_bad a WA hA.mat hA.bnd hi)
  have HH := Lib.hid (hasLine7_any p m.length c a WA)
  rw [decide_eq_false hi] at HH
  clear hA hbA hcA hzA
  go_enter Try.func16, Try.ntmps16
  go_wp2_with fail
  refine HH.out.mono ?_
  rintro e w' ⟨rfl, rfl⟩
  go_wp2_with fail
  refine HI.out.mono ?_
  rintro e w1 ⟨rfl, hb1⟩
  have hk : w1.heap[W.heap.size]? = _ := (hb1.block W.heap.size (by rw [HA.out.2.2.2]; exact Nat.lt_succ_self _)).trans HA.out.2.2.1
  obtain ⟨k0, k1, k2⟩ := act_cells hk
  clear hk
  have H1 := Lib.hid hb1
  clear hb1
  go_wp2_with fail
  refine (num7_any _ _).mono ?_
  rintro e w3 ⟨rfl, rfl⟩
  go_wp2_with fail
  go_ret2
  exact ⟨p, c, rfl, HA.out.1.below H1.out, (Frn.of_below HA.out.2.1).trans (Frn.of_below H1.out)⟩
set_option maxRecDepth 100000 in
set_option maxHeartbeats 4000000 in
theorem act2_any {O : Nat} {p : Option Addr} {c : Nat} {m : Mem} {N : Nat → Prop} (W : World) (h : Two W O p c m N) (a : Int) (v : BitVec 64) :
    Calls Try.prog 16 #[.pointer (some ⟨O, 0, none⟩), .slice p m.length c, .agg #[.int .i64 (2), .int .i64 a, vw v]] W fun e w' => ActPost W O m.fence N e w' := by
  obtain ⟨WA, hWA, hbA, hzA, hcA⟩ := act_box W ⟨2, a, v⟩
  have hA := h.below hbA
  obtain ⟨k0, k1, k2⟩ := act_cells hcA
  have HA := Lib.hid (And.intro hA (And.intro hbA (And.intro hcA hzA)))
  have hmlen := h.le
  have HR := Lib.hid (fence7_any p c m WA hA.ref h.pos (by omega))
  clear hA hbA hcA hzA
  go_enter Try.func16, Try.ntmps16
  go_wp2_with fail
  refine HR.out.mono ?_
  rintro e w1 ⟨p', c', rfl, ho, hp, hb⟩
  have HF := Lib.hid (fence_any w1 (HA.out.1.mat.below hb) (fun x hx => Nat.lt_of_lt_of_le (HA.out.1.bnd x hx) hb.size))
  have H1 := Lib.hid (And.intro ho (And.intro hp hb))
  clear ho hp hb
  go_wp2_with fail
  refine HF.out.mono ?_
  rintro e w2 ⟨rfl, hm2, hf2⟩
  have H2 := Lib.hid (And.intro hm2 hf2)
  clear hm2 hf2
  go_wp2_with fail
  refine (num7_any _ _).mono ?_
  rintro e w3 ⟨rfl, rfl⟩
  go_wp2_with fail
  go_ret2
  have hdis : ∀ b, inP p' c' b → ¬ N b := fun b hb hN => by have := H1.out.2.1 b hb; have := h.bnd b hN; have := HA.out.2.1.size; omega
  have hfr : Frn N WA w3 := (Frn.of_below H1.out.2.2).trans H2.out.2
  refine ⟨p', c', by rw [fence_len]; rfl, (h.below HA.out.2.1).frn H2.out.1 hfr (fence_len _) ((OwnG.rds lc_len (OwnG.keep H1.out.1 (fun b hb => H2.out.2.block b (OwnG.lt H1.out.1 hb) (hdis b hb))))) hdis, (Frn.of_below HA.out.2.1).trans hfr⟩
set_option maxRecDepth 100000 in
set_option maxHeartbeats 4000000 in
theorem act4_out {O : Nat} {p : Option Addr} {c : Nat} {m : Mem} {N : Nat → Prop} (W : World) (h : Two W O p c m N) (a : Int) (v : BitVec 64) (hi : ¬ (0 ≤ a ∧ a < ((8 * m.length : Nat) : Int))) :
    Calls Try.prog 16 #[.pointer (some ⟨O, 0, none⟩), .slice p m.length c, .agg #[.int .i64 (4), .int .i64 a, vw v]] W fun e w' => ActPost W O m N e w' := by
  obtain ⟨WA, hWA, hbA, hzA, hcA⟩ := act_box W ⟨4, a, v⟩
  have hA := h.below hbA
  obtain ⟨k0, k1, k2⟩ := act_cells hcA
  have HA := Lib.hid (And.intro hA (And.intro hbA (And.intro hcA hzA)))
  have hmlen := h.le
  have HI := Lib.hid (load_bad a WA hA.mat hi)
  have HH := Lib.hid (there7_any p m.length c a WA (by omega))
  rw [decide_eq_false hi] at HH
  clear hA hbA hcA hzA
  go_enter Try.func16, Try.ntmps16
  go_wp2_with fail
  refine HH.out.mono ?_
  rintro e w' ⟨rfl, rfl⟩
  go_wp2_with fail
  refine HI.out.mono ?_
  rintro e w1 ⟨rfl, rfl⟩
  go_wp2_with fail
  refine (num7_any _ _).mono ?_
  rintro e w3 ⟨rfl, rfl⟩
  go_wp2_with fail
  go_ret2
  exact ⟨p, c, rfl, HA.out.1, Frn.of_below HA.out.2.1⟩
set_option maxRecDepth 100000 in
set_option maxHeartbeats 4000000 in
theorem act4_in {O : Nat} {p : Option Addr} {c : Nat} {m : Mem} {N : Nat → Prop} (W : World) (h : Two W O p c m N) (i : Nat) (v : BitVec 64) (hi : i < 8 * m.length) :
    Calls Try.prog 16 #[.pointer (some ⟨O, 0, none⟩), .slice p m.length c, .agg #[.int .i64 (4), .int .i64 (i : Int), vw v]] W fun e w' => ActPost W O m N e w' := by
  obtain ⟨WA, hWA, hbA, hzA, hcA⟩ := act_box W ⟨4, (i : Int), v⟩
  have hA := h.below hbA
  obtain ⟨k0, k1, k2⟩ := act_cells hcA
  have HA := Lib.hid (And.intro hA (And.intro hbA (And.intro hcA hzA)))
  have hmlen := h.le
  have HI := Lib.hid (load_any i WA hA.mat hi)
  have HH := Lib.hid (there7_any p m.length c (i : Int) WA (by omega))
  rw [decide_eq_true (show 0 ≤ (i : Int) ∧ (i : Int) < (((8 * m.length : Nat) : Int) : Int) by omega)] at HH
  have hI8 : i / 8 < m.length := by omega
  obtain ⟨g, o, rfl⟩ := own_ptr h.ref h.pos
  obtain ⟨hr, hg⟩ := rds_ln hA.ref (i / 8) hI8
  obtain ⟨x, hx⟩ : ∃ x, m[i / 8] = x := ⟨_, rfl⟩
  rw [hx] at hr
  obtain ⟨J, hJ⟩ : ∃ J, i % 8 = J := ⟨_, rfl⟩
  obtain ⟨I, hII⟩ : ∃ I, i / 8 = I := ⟨_, rfl⟩
  have hJ8 : J < 8 := by omega
  obtain ⟨u, hu⟩ : ∃ u, (m[i / 8]'hI8).now[i % 8]'(by omega) = u := ⟨_, rfl⟩
  rw [hu] at HI
  simp only [hx, hJ] at hu
  rw [hII] at hr
  have n0 : WA.cell? ⟨g, o + I * 25 + J, none⟩ = some (vw u) := (range_ln.1 hr).1 J (vw u) (by simp [ec, hJ8, hu])
  have hq1 : (i : Int).tdiv 8 = (I : Int) := by rw [Int.tdiv_eq_ediv_of_nonneg (by omega)]; omega
  have hq3 : (i : Int) / 8 = (I : Int) := by omega
  have hr1 : (i : Int).tmod 8 = (J : Int) := by rw [Int.tmod_eq_emod_of_nonneg (by omega)]; omega
  have hr2 : (i : Int) % 8 = (J : Int) := by omega
  have hw1 : IntKind.i64.wrap (I : Int) = (I : Int) := by rw [IntKind.wrap_i64]; omega
  have hw2 : IntKind.i64.wrap (J : Int) = (J : Int) := by rw [IntKind.wrap_i64]; omega
  have hIn : (I : Int) < (m.length : Int) := by omega
  have hJn : (J : Int) < 8 := by omega
  obtain ⟨V, hV⟩ : ∃ V : Int, (u.toNat : Int) = V := ⟨_, rfl⟩
  have n1 : WA.cell? ⟨g, o + I * 25 + J, none⟩ = some (.int .u64 V) := by rw [n0, ← hV]
  have hvu : vw u = .int .u64 V := by rw [← hV]
  rw [hvu] at HI
  obtain ⟨V2, hV2⟩ : ∃ V2 : Int, V = V2 := ⟨_, rfl⟩
  have hee : (V == V2) = true := by rw [hV2]; exact beq_self_eq_true _
  rw [hV2] at n1
  clear hA hbA hcA hzA hr hg hx hJ hII hu hV hvu hJ8 hV2 n0
  go_enter Try.func16, Try.ntmps16
  go_wp2_with fail
  refine HH.out.mono ?_
  rintro e w' ⟨rfl, rfl⟩
  go_wp2_with fail
  refine HI.out.mono ?_
  rintro e w1 ⟨rfl, rfl⟩
  go_wp2_with fail
  go_quiet (first | (go_at_call 15; refine Calls.quiet_of_same (num7_any _ _)))
  go_wp2_with fail
  go_ret2
  exact ⟨_, c, rfl, HA.out.1.below (below_drewN (Below.refl _ _) _), (Frn.of_below HA.out.2.1).drewN _⟩
set_option maxRecDepth 100000 in
set_option maxHeartbeats 4000000 in
theorem act_other {O : Nat} {p : Option Addr} {c : Nat} {m : Mem} {N : Nat → Prop} (W : World) (h : Two W O p c m N) (k a : Int) (v : BitVec 64) (h0 : k ≠ 0) (h1 : k ≠ 1) (h2 : k ≠ 2) (h3 : k ≠ 3) (h4 : k ≠ 4) :
    Calls Try.prog 16 #[.pointer (some ⟨O, 0, none⟩), .slice p m.length c, .agg #[.int .i64 (k), .int .i64 a, vw v]] W fun e w' => ActPost W O m N e w' := by
  obtain ⟨WA, hWA, hbA, hzA, hcA⟩ := act_box W ⟨k, a, v⟩
  have hA := h.below hbA
  obtain ⟨k0, k1, k2⟩ := act_cells hcA
  have HA := Lib.hid (And.intro hA (And.intro hbA (And.intro hcA hzA)))
  have e0 : (k == 0) = false := beq_eq_false_iff_ne.2 h0
  have e1 : (k == 1) = false := beq_eq_false_iff_ne.2 h1
  have e2 : (k == 2) = false := beq_eq_false_iff_ne.2 h2
  have e3 : (k == 3) = false := beq_eq_false_iff_ne.2 h3
  have e4 : (k == 4) = false := beq_eq_false_iff_ne.2 h4
  clear hA hbA hcA hzA h0 h1 h2 h3 h4
  go_enter Try.func16, Try.ntmps16
  go_wp2_with fail
  go_ret2
  exact ⟨p, c, rfl, HA.out.1, Frn.of_below HA.out.2.1⟩
/-- What a call tells, and how the memory stands behind it. -/
theorem act7_any {O : Nat} {p : Option Addr} {c : Nat} {m : Mem} {N : Nat → Prop} (x : ActA) (W : World) (h : Two W O p c m N) :
    Calls Try.prog 16 #[.pointer (some ⟨O, 0, none⟩), .slice p m.length c, actV x] W fun e w' => ActPost W O (stepM m x) N e w' := by
  obtain ⟨k, a, v⟩ := x
  unfold actV stepM
  simp only
  by_cases h0 : k = 0
  · subst h0
    rw [if_pos rfl]
    by_cases hi : inR a (8 * m.length)
    · rw [if_pos hi]
      obtain ⟨i, rfl⟩ : ∃ i : Nat, a = i := ⟨a.toNat, by unfold inR at hi; omega⟩
      exact act0_in W h i v (by unfold inR at hi; omega)
    · rw [if_neg hi]
      exact act0_out W h a v hi
  · rw [if_neg h0]
    by_cases h1 : k = 1
    · subst h1
      rw [if_pos rfl]
      by_cases hi : inR a m.length
      · rw [if_pos hi]
        obtain ⟨i, rfl⟩ : ∃ i : Nat, a = i := ⟨a.toNat, by unfold inR at hi; omega⟩
        exact act1_in W h i v (by unfold inR at hi; omega)
      · rw [if_neg hi]
        exact act1_out W h a v hi
    · rw [if_neg h1]
      by_cases h2 : k = 2
      · subst h2
        rw [if_pos rfl]
        exact act2_any W h a v
      · rw [if_neg h2]
        by_cases h3 : k = 3
        · subst h3
          rw [if_pos rfl]
          by_cases hi : inR a m.length
          · rw [if_pos hi]
            obtain ⟨i, rfl⟩ : ∃ i : Nat, a = i := ⟨a.toNat, by unfold inR at hi; omega⟩
            exact act3_in W h i v (by unfold inR at hi; omega)
          · rw [if_neg hi]
            exact act3_out W h a v hi
        · rw [if_neg h3]
          by_cases h4 : k = 4
          · subst h4
            by_cases hi : inR a (8 * m.length)
            · obtain ⟨i, rfl⟩ : ∃ i : Nat, a = i := ⟨a.toNat, by unfold inR at hi; omega⟩
              exact act4_in W h i v (by unfold inR at hi; omega)
            · exact act4_out W h a v hi
          · exact act_other W h k a v h0 h1 h2 h3 h4
end Go.Proofs.Ytaflbfmlajbjcaa
