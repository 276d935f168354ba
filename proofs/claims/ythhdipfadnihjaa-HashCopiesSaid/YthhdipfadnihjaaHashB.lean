/- The walks of a hash state: New, none, takes; the chunks of bytes. -/
import Derived.Test.YthhdipfadnihjaaHashA
import Derived.Test.YthhdipfadnihjaaSlB
import Derived.Test.YthhdipfadnihjaaWordsB
import Derived.Test.YthhdipfadnihjaaKeep
namespace Go.Proofs.Ythhdipfadnihjaa
open Go Go.RowKit

def takeV (vs : List (BitVec 64)) (m : BitVec 64) : List (BitVec 64) :=
  (roundsL 2 (vs.set 3 (xorw (hget vs 3) m))).set 0 (xorw (hget (roundsL 2 (vs.set 3 (xorw (hget vs 3) m))) 0) m)
theorem takeV_len (vs : List (BitVec 64)) (m : BitVec 64) : (takeV vs m).length = vs.length := by simp [takeV, roundsL_len]

set_option maxRecDepth 100000 in
set_option maxHeartbeats 1000000 in
theorem takes_any (B : Nat) (t : TypeId) (vs : List (BitVec 64)) (rest : List Value) (m : BitVec 64) (w : World) (hd : Hd w B t vs rest) (hl : vs.length = 4) :
    Calls Try.prog 74 #[.pointer (some ⟨B, 0, none⟩), vw m] w fun e w' =>
      e = .returned (.tuple #[]) ∧ Hd w' B t (takeV vs m) rest ∧ Frn (fun b => b = B) w w' := by
  have c3 := hd.cell 3 (by omega)
  have f3 := hd.free 3
  have e1 := bits_xor_w (hget vs 3) m
  have HD := Lib.hid hd
  have HL := Lib.hid hl
  clear hd hl
  go_enter Try.func74, Try.ntmps74
  go_wp2_with fail
  go_still_tail 8, (by kernel_rfl)
  go_wp2_with fail
  obtain ⟨w1, hw1⟩ : ∃ w', (w.setCell ⟨B, 3, none⟩ (vw (xorw (hget vs 3) m))).drew = w' := ⟨_, rfl⟩
  have h1 : Hd w1 B t (vs.set 3 (xorw (hget vs 3) m)) rest := by rw [← hw1]; exact HD.out.set 3 (by have := HL.out; omega) _
  have g1 : Frn (fun b => b = B) w w1 := by rw [← hw1]; exact (Frn.setCell (Frn.refl (fun b => b = B) w) ⟨B, 3, none⟩ (.inl rfl) _).drew
  rw [hw1]
  have hr := rounds_any B 2 t _ rest w1 h1 (by simp [HL.out]) (by omega)
  have HR := Lib.hid hr
  have HG := Lib.hid g1
  clear hw1 h1 g1 hr c3 f3 e1
  refine HR.out.mono ?_
  rintro e w2 ⟨rfl, hd2, hf2⟩
  have hlen : (roundsL 2 (vs.set 3 (xorw (hget vs 3) m))).length = 4 := by simp [roundsL_len, HL.out]
  have c0 := hd2.cell 0 (by omega)
  have f0 := hd2.free 0
  have e2 := bits_xor_w (hget (roundsL 2 (vs.set 3 (xorw (hget vs 3) m))) 0) m
  have HD2 := Lib.hid hd2
  have HF2 := Lib.hid hf2
  have HLN := Lib.hid hlen
  clear hd2 hf2 HR hlen
  go_wp2_with fail
  go_still_tail 8, (by kernel_rfl)
  go_wp2_with fail
  go_end0
  exact ⟨rfl, HD2.out.set 0 (by rw [HLN.out]; decide) _, (HG.out.trans HF2.out).trans ((Frn.setCell (Frn.refl (fun b => b = B) w2) ⟨B, 0, none⟩ (.inl rfl) _).drew)⟩

/-- A state lies in block B: its words, what is left, how many came. -/
structure HSt (W : World) (B : Nat) (vs : List (BitVec 64)) (left : List (BitVec 8)) (many : Nat) (p : Option Addr) (cap : Nat) : Prop where
  hd : Hd W B 128 vs [.slice p left.length cap, .int .i64 many, .bool true]
  len : vs.length = 4
  rd : RdL W.heap.size W p cap vb left
  ne : ∀ b, inP p cap b → b ≠ B
theorem HSt.c4 {W : World} {B : Nat} {vs : List (BitVec 64)} {left : List (BitVec 8)} {many : Nat} {p : Option Addr} {cap : Nat} (h : HSt W B vs left many p cap) : W.cell? ⟨B, 4, none⟩ = some (.slice p left.length cap) := by
  have := h.hd.rest 0; rw [h.len] at this; exact this
theorem HSt.c5 {W : World} {B : Nat} {vs : List (BitVec 64)} {left : List (BitVec 8)} {many : Nat} {p : Option Addr} {cap : Nat} (h : HSt W B vs left many p cap) : W.cell? ⟨B, 5, none⟩ = some (.int .i64 many) := by
  have := h.hd.rest 1; rw [h.len] at this; exact this
theorem HSt.c6 {W : World} {B : Nat} {vs : List (BitVec 64)} {left : List (BitVec 8)} {many : Nat} {p : Option Addr} {cap : Nat} (h : HSt W B vs left many p cap) : W.cell? ⟨B, 6, none⟩ = some (.bool true) := by
  have := h.hd.rest 2; rw [h.len] at this; exact this
theorem HSt.keep {W W' : World} {B : Nat} {vs : List (BitVec 64)} {left : List (BitVec 8)} {many : Nat} {p : Option Addr} {cap : Nat} {X : Nat → Prop} (h : HSt W B vs left many p cap) (hf : Frn X W W') (hB : ¬ X B) (hp : ∀ b, inP p cap b → ¬ X b) : HSt W' B vs left many p cap :=
  ⟨h.hd.kept (hf.block B h.hd.lt hB), h.len, (h.rd.keep (fun a ha h0 => hf.block _ (h.rd.lt ha h0) (hp _ ⟨a, ha, rfl, h0⟩))).wide hf.size, h.ne⟩
theorem HSt.below {W W' : World} {B : Nat} {vs : List (BitVec 64)} {left : List (BitVec 8)} {many : Nat} {p : Option Addr} {cap : Nat} (h : HSt W B vs left many p cap) (hb : Below W.heap.size W W') : HSt W' B vs left many p cap :=
  h.keep (Frn.of_below (T := fun _ => False) hb) (fun h => h) (fun _ _ h => h)

set_option maxHeartbeats 400000 in
theorem none_made (B : Nat) (w : World) (h : w.cell? ⟨B, 6, none⟩ = some (.bool true)) :
    Calls Try.prog 71 #[.pointer (some ⟨B, 0, none⟩)] w fun e w' => e = .returned (.bool false) ∧ w = w' := by
  go_enter Try.func71, Try.ntmps71
  go_wp2
  go_ret
  exact ⟨rfl, rfl⟩
set_option maxHeartbeats 400000 in
theorem none_nil (w : World) :
    Calls Try.prog 71 #[.pointer none] w fun e w' => e = .returned (.bool true) ∧ w = w' := by
  go_enter Try.func71, Try.ntmps71
  go_wp2
  go_ret
  exact ⟨rfl, rfl⟩

def sip0 : BitVec 64 := 8317987319222330741#64
def sip1 : BitVec 64 := 7237128888997146477#64
def sip2 : BitVec 64 := 7816392313619706465#64
def sip3 : BitVec 64 := 8387220255154660723#64
def initV (a b : BitVec 64) : List (BitVec 64) := [xorw a sip0, xorw b sip1, xorw a sip2, xorw b sip3]
theorem new_state (a b : BitVec 64) (w : World) : HSt ((w.alloc (.cells #[vw a, vw b] 69)).alloc (.cells #[vw (xorw a sip0), vw (xorw b sip1), vw (xorw a sip2), vw (xorw b sip3), .slice none 0 0, .int .i64 0, .bool true] 128)) (w.heap.size + 1) (initV a b) [] 0 none 0 := by
  refine ⟨?_, rfl, RdL.nil _ _ _, fun b h => ?_⟩
  · have := World.alloc_heap_new (w.alloc (.cells #[vw a, vw b] 69)) (.cells #[vw (xorw a sip0), vw (xorw b sip1), vw (xorw a sip2), vw (xorw b sip3), .slice none 0 0, .int .i64 0, .bool true] 128)
    rw [World.size_alloc] at this
    exact this
  · obtain ⟨a, ha, _⟩ := h; cases ha

set_option maxHeartbeats 400000 in
theorem new_any (a b : BitVec 64) (w : World) :
    Calls Try.prog 33 #[.agg #[vw a, vw b]] w fun e w' => e = .returned (.pointer (some ⟨w.heap.size + 1, 0, none⟩)) ∧
      HSt w' (w.heap.size + 1) (initV a b) [] 0 none 0 ∧ Below w.heap.size w w' ∧ w'.heap.size = w.heap.size + 2 := by
  have e1 : bits BinOp.xor IntKind.u64 (a.toNat : Int) 8317987319222330741 = ((xorw a sip0).toNat : Int) := bits_xor_w _ sip0
  have e2 : bits BinOp.xor IntKind.u64 (b.toNat : Int) 7237128888997146477 = ((xorw b sip1).toNat : Int) := bits_xor_w _ sip1
  have e3 : bits BinOp.xor IntKind.u64 (a.toNat : Int) 7816392313619706465 = ((xorw a sip2).toNat : Int) := bits_xor_w _ sip2
  have e4 : bits BinOp.xor IntKind.u64 (b.toNat : Int) 8387220255154660723 = ((xorw b sip3).toNat : Int) := bits_xor_w _ sip3
  go_enter Try.func33, Try.ntmps33
  go_wp2
  go_ret
  exact ⟨rfl, new_state a b w, ((Below.refl _ _).alloc (Nat.le_refl _) _).alloc (by simp) _, by simp⟩

end Go.Proofs.Ythhdipfadnihjaa
