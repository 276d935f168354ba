/- What the law of looks knows between its loops. -/
import Derived.Test.YtenmogokbelahaaScanO
namespace Go.Proofs.Ytenmogokbelahaa
open Go Go.RowKit

/-- The reference's New, of any way. -/
def newC (way slots : Int) (key : BitVec 64) : Array Value := #[.int .i64 way, .int .i64 slots, .int .i64 (if way = 2 then slots - 1 else 0), .int .i64 0, vw key, .int .u64 0, .int .u64 0, .bool false, .bool false, .int .i64 0]
set_option maxRecDepth 100000 in
set_option maxHeartbeats 4000000 in
theorem refNew_raw (way slots : Int) (key : BitVec 64) (w : World) (h1 : 0 ≤ slots) (h2 : slots ≤ 1000000) :
    Calls Try.prog 17 #[.int .i64 way, .int .i64 slots, vw key] w fun e w' => e = .returned (.agg (newC way slots key)) ∧ Below w.heap.size w w' := by
  have hwr : IntKind.i64.wrap (slots - 1) = slots - 1 := by rw [IntKind.wrap_i64]; omega
  have hend : ∀ (cs : Array Value) (v : Value) (tmps : Array Value) (o : Obj) (hp : tmps.getD 6 undef = .pointer (some ⟨w.heap.size, 0, none⟩)) (hl : (loadVar 29 ⟨w.heap.size, 0, none⟩).run Try.prog ((w.alloc (.cells cs 29)).alloc o) = .ok v ((w.alloc (.cells cs 29)).alloc o)),
      bodyPost Try.prog Try.f17 (fun e w' => e = .returned v ∧ Below w.heap.size w w') .ret { tmps := tmps, defers := [] } ((w.alloc (.cells cs 29)).alloc o) := fun cs v tmps o hp hl =>
    bodyPost_ret (results_cell1 rfl _ _ hp hl) rfl ⟨rfl, ((Below.refl _ _).alloc (Nat.le_refl _) _).alloc (by simp) _⟩
  have hld : ∀ (c0 c1 c2 c3 c4 c5 c6 c7 c8 c9 : Value) (o : Obj), (loadVar 29 ⟨w.heap.size, 0, none⟩).run Try.prog ((w.alloc (.cells #[c0, c1, c2, c3, c4, c5, c6, c7, c8, c9] 29)).alloc o) = .ok (.agg #[c0, c1, c2, c3, c4, c5, c6, c7, c8, c9]) ((w.alloc (.cells #[c0, c1, c2, c3, c4, c5, c6, c7, c8, c9] 29)).alloc o) := by
    intro c0 c1 c2 c3 c4 c5 c6 c7 c8 c9 o
    have hh : ((w.alloc (.cells #[c0, c1, c2, c3, c4, c5, c6, c7, c8, c9] 29)).alloc o).heap[w.heap.size]? = some (.cells #[c0, c1, c2, c3, c4, c5, c6, c7, c8, c9] 29 (0, 0)) := (Below.heap_alloc _ _ _ (by simp)).trans (World.alloc_heap_new _ _)
    obtain ⟨d0, d1, d2, d3, d4, d5, d6, d7, d8, d9, -⟩ := cells10 hh
    simp [go_sem, d0, d1, d2, d3, d4, d5, d6, d7, d8, d9]
  have HE := Lib.hid (And.intro hend hld)
  clear hend hld
  by_cases hw : way = 2
  · have e : newC way slots key = #[.int .i64 2, .int .i64 slots, .int .i64 (slots - 1), .int .i64 0, vw key, .int .u64 0, .int .u64 0, .bool false, .bool false, .int .i64 0] := by unfold newC; rw [if_pos hw, hw]
    rw [e]
    subst hw
    obtain ⟨vr, hvr⟩ : ∃ vr, Value.agg #[.int .i64 2, .int .i64 slots, .int .i64 (slots - 1), .int .i64 0, vw key, .int .u64 0, .int .u64 0, .bool false, .bool false, .int .i64 0] = vr := ⟨_, rfl⟩
    rw [hvr]
    have HV := Lib.hid hvr
    clear hvr e
    go_enter Try.func17, Try.ntmps17
    go_wp2_with fail
    rw [← HV.out]
    exact HE.out.1 _ _ _ _ rfl (HE.out.2 _ _ _ _ _ _ _ _ _ _ _)
  · have e : newC way slots key = #[.int .i64 way, .int .i64 slots, .int .i64 0, .int .i64 0, vw key, .int .u64 0, .int .u64 0, .bool false, .bool false, .int .i64 0] := by unfold newC; rw [if_neg hw]
    rw [e]
    have hw' : (way == 2) = false := beq_eq_false_iff_ne.2 hw
    obtain ⟨vr, hvr⟩ : ∃ vr, Value.agg #[.int .i64 way, .int .i64 slots, .int .i64 0, .int .i64 0, vw key, .int .u64 0, .int .u64 0, .bool false, .bool false, .int .i64 0] = vr := ⟨_, rfl⟩
    rw [hvr]
    have HV := Lib.hid hvr
    clear hvr e
    go_enter Try.func17, Try.ntmps17
    go_wp2_with fail
    rw [← HV.out]
    exact HE.out.1 _ _ _ _ rfl (HE.out.2 _ _ _ _ _ _ _ _ _ _ _)
theorem newC_eq {way : Int} {left : BitVec 64} {s : List (BitVec 64)} (hf : FineR way left s) (key : BitVec 64) : newC way ((s.length : Int) / 2) key = rdC (ofR way s key) := by
  obtain ⟨h1, -, -, h4, -⟩ := hf
  unfold newC rdC ofR newR
  rcases h1 with rfl | rfl
  · have e : (s.length : Int) / 2 = ((s.length / 2 : Nat) : Int) := by omega
    rw [e]
    rfl
  · have e : (s.length : Int) / 2 = ((s.length / 2 : Nat) : Int) := by omega
    rw [e]
    rfl
/-- The reference's reader behind k rounds, as cells. -/
def rdK (way : Int) (left : BitVec 64) (s : List (BitVec 64)) (key : BitVec 64) (k : Nat) : Array Value := if FineR way left s then rdC (stA left s (ofR way s key) k) else newC way ((s.length : Int) / 2) key
theorem rdK_zero (way : Int) (left : BitVec 64) (s : List (BitVec 64)) (key : BitVec 64) : rdK way left s key 0 = newC way ((s.length : Int) / 2) key := by
  unfold rdK
  by_cases h : FineR way left s
  · rw [if_pos h, newC_eq h]; rfl
  · rw [if_neg h]
/-- What the reference's Look tells. -/
def lookR (way : Int) (left : BitVec 64) (s : List (BitVec 64)) (key : BitVec 64) : Rd := if FineR way left s then endA left s (ofR way s key) else rd0
theorem lookR_found (way : Int) (left : BitVec 64) (s : List (BitVec 64)) (key : BitVec 64) : (lookR way left s key).found = lookV way left s key := by
  unfold lookR lookV
  by_cases h : FineR way left s
  · rw [if_pos h, if_pos h]
  · rw [if_neg h, if_neg h]; rfl
theorem lookR_loads (way : Int) (left : BitVec 64) (s : List (BitVec 64)) (key : BitVec 64) : (lookR way left s key).loads = (trI way left s key).length := by
  unfold lookR trI
  by_cases h : FineR way left s
  · rw [if_pos h, if_pos h, itemsA_len]
  · rw [if_neg h, if_neg h]; rfl
theorem refLook_any (way : Int) (left : BitVec 64) (p : Option Addr) (cap : Nat) (s : List (BitVec 64)) (key : BitVec 64) (w : World) (hrd : RdL w.heap.size w p cap vw s) (hl : s.length ≤ 1000000) :
    Calls Try.prog 14 #[.int .i64 way, vw left, .slice p s.length cap, vw key] w fun e w' => e = .returned (.tuple #[rdV (lookR way left s key), .bool (decide (FineR way left s))]) ∧ Below w.heap.size w w' := by
  unfold lookR
  by_cases h : FineR way left s
  · rw [if_pos h, decide_eq_true h]
    exact refLook_some way left p cap s key w hrd h
  · rw [if_neg h, decide_eq_false h]
    exact refLook_none way left p cap s key w hl h
theorem box4 (w : World) (t1 t2 t3 t4 : TypeId) (x1 x2 x3 x4 : Value) : ∃ wa, (((w.alloc (.cells #[x1] t1)).alloc (.cells #[x2] t2)).alloc (.cells #[x3] t3)).alloc (.cells #[x4] t4) = wa ∧
    Box wa w.heap.size t1 x1 ∧ Box wa (w.heap.size + 1) t2 x2 ∧ Box wa (w.heap.size + 2) t3 x3 ∧ Box wa (w.heap.size + 3) t4 x4 ∧ Below w.heap.size w wa ∧ wa.heap.size = w.heap.size + 4 := by
  refine ⟨_, rfl, (((Box.new _ _ _).alloc _).alloc _).alloc _, ?_, ?_, ?_, (((Below.refl _ _).alloc (Nat.le_refl _) _ |>.alloc (by simp) _).alloc (by simp only [World.size_alloc]; omega) _).alloc (by simp only [World.size_alloc]; omega) _, by simp⟩
  · have := Box.new (w.alloc (.cells #[x1] t1)) t2 x2
    rw [World.size_alloc] at this
    exact (this.alloc _).alloc _
  · have := Box.new ((w.alloc (.cells #[x1] t1)).alloc (.cells #[x2] t2)) t3 x3
    rw [World.size_alloc, World.size_alloc] at this
    exact this.alloc _
  · have := Box.new (((w.alloc (.cells #[x1] t1)).alloc (.cells #[x2] t2)).alloc (.cells #[x3] t3)) t4 x4
    rwa [World.size_alloc, World.size_alloc, World.size_alloc] at this
/-- How many rounds there are where one leaves behind so many. -/
def LeaveAtS (many : Int) (len m : Nat) : Prop := (many ≤ 1 ∧ m ≤ 1 ∧ m ≤ len ∧ (m = 1 ∨ m = len)) ∨ (1 < many ∧ (m : Int) ≤ many ∧ m ≤ len ∧ ((m : Int) = many ∨ m = len))
structure PS (w : World) (way : Int) (left : BitVec 64) (p : Option Addr) (cap : Nat) (s : List (BitVec 64)) (key : BitVec 64) (many : Int) (re : Rd) (fb : Bool) (Wt b1 bt : Nat) (turn : Nat) (W : World) : Prop where
  at_ : At w.heap.size w W
  lw : w.heap.size + 3 < Wt
  l1 : Wt + 1 < b1
  lt : b1 + 3 < bt
  bl : Box W w.heap.size 23 (vw left)
  bs : Box W (w.heap.size + 1) 24 (.slice p s.length cap)
  bm : Box W (w.heap.size + 2) 3 (.int .i64 many)
  br : Box W (w.heap.size + 3) 4 (.bool false)
  bw : W.heap[Wt]? = some (.cells (rdC re) 29 (0, 0))
  bf : Box W (Wt + 1) 4 (.bool fb)
  tr : TrBox W b1 (b1 + 1) (b1 + 2) (b1 + 3) way left p cap s key
  tn : Box W bt 3 (vi turn)
  rd : ∀ b, inP p cap b → b < w.heap.size
theorem PS.fp {w : World} {way : Int} {left : BitVec 64} {p : Option Addr} {cap : Nat} {s : List (BitVec 64)} {key : BitVec 64} {many : Int} {re : Rd} {fb : Bool} {Wt b1 bt turn : Nat} {W : World} (h : PS w way left p cap s key many re fb Wt b1 bt turn W) (b : Nat) (hb : TrFP b1 (b1 + 1) (b1 + 2) (b1 + 3) p cap b) : b < bt := by
  have h1 := h.lw
  have h2 := h.l1
  have h3 := h.lt
  rcases hb with rfl | rfl | rfl | rfl | hb
  · omega
  · omega
  · omega
  · omega
  · have := h.rd b hb; omega
/-- Another block that turns. -/
theorem PS.kept {w : World} {way : Int} {left : BitVec 64} {p : Option Addr} {cap : Nat} {s : List (BitVec 64)} {key : BitVec 64} {many : Int} {re : Rd} {fb : Bool} {Wt b1 bt turn : Nat} {W W' : World} {X T : Nat → Prop} (h : PS w way left p cap s key many re fb Wt b1 bt turn W) (hk : Keep X W T W')
    (hX : ∀ b, X b → bt < b) : PS w way left p cap s key many re fb Wt b1 bt turn W' := by
  have h1 := h.lw
  have h2 := h.l1
  have h3 := h.lt
  have nx : ∀ b, b ≤ bt → ¬ X b := fun b hb hx => by have := hX b hx; omega
  have hbl := h.tn.lt
  have hkps : Kps (TrFP b1 (b1 + 1) (b1 + 2) (b1 + 3) p cap) W W' := ⟨hk.frn.os, hk.frn.tape, hk.frn.output, hk.frn.size, fun b hb hl => hk.frn.block b hl (nx _ (Nat.le_of_lt (h.fp b hb)))⟩
  exact ⟨hk.at h.at_ (fun b hb => by have := hX b hb; omega), h1, h2, h3, hk.box h.bl (nx _ (by omega)), hk.box h.bs (nx _ (by omega)), hk.box h.bm (nx _ (by omega)), hk.box h.br (nx _ (by omega)),
    (hk.frn.block Wt (by omega) (nx _ (by omega))).trans h.bw, hk.box h.bf (nx _ (by omega)), h.tr.keep hkps, hk.box h.tn (nx _ (by omega)), h.rd⟩
theorem PS.below {w : World} {way : Int} {left : BitVec 64} {p : Option Addr} {cap : Nat} {s : List (BitVec 64)} {key : BitVec 64} {many : Int} {re : Rd} {fb : Bool} {Wt b1 bt turn : Nat} {W W' : World} (h : PS w way left p cap s key many re fb Wt b1 bt turn W) (hb : Below W.heap.size W W') : PS w way left p cap s key many re fb Wt b1 bt turn W' :=
  h.kept (X := fun _ => False) (T := fun _ => False) ((Keep.start _ _).below hb) (fun _ h => h.elim)
/-- Another variable of turns. -/
theorem PS.next {w : World} {way : Int} {left : BitVec 64} {p : Option Addr} {cap : Nat} {s : List (BitVec 64)} {key : BitVec 64} {many : Int} {re : Rd} {fb : Bool} {Wt b1 bt turn : Nat} {W : World} (h : PS w way left p cap s key many re fb Wt b1 bt turn W) (t : Nat) :
    PS w way left p cap s key many re fb Wt b1 W.heap.size t (W.alloc (.cells #[.int .i64 (t : Int)] 3)) := by
  have h2 := h.below ((Below.refl _ _).alloc (Nat.le_refl _) (Obj.cells #[Value.int IntKind.i64 t] 3))
  have hl := h.tn.lt
  exact ⟨h2.at_, h2.lw, h2.l1, by have := h2.lt; omega, h2.bl, h2.bs, h2.bm, h2.br, h2.bw, h2.bf, h2.tr, Box.new _ _ _, h2.rd⟩
end Go.Proofs.Ytenmogokbelahaa
