/- Helpers of the laws of chapter 07. -/
import Derived.Test.YtaflbfmlajbjcaaPmeC
namespace Go.Proofs.Ytaflbfmlajbjcaa
open Go Go.RowKit

/-- A call, in its cells. -/
def ac (x : ActA) : List Value := [.int .i64 x.what, .int .i64 x.at_, vw x.value]
theorem ac_len (x : ActA) : (ac x).length = 3 := rfl
theorem RdS.mapE {α β : Type} {B : Nat} {w : World} {p : Option Addr} {cap c : Nat} {enc : α → List Value} {enc' : β → List Value} {ys : List α} (h : RdS B w p cap c enc ys) (f : α → β) (he : ∀ y, enc y = enc' (f y)) : RdS B w p cap c enc' (ys.map f) := by
  obtain ⟨h1, h2, h3⟩ := h
  refine ⟨by simpa using h1, h2, h3.imp id ?_⟩
  rintro ⟨b, off, hp, hb, hc⟩
  refine ⟨b, off, hp, hb, fun i hi j v hv => ?_⟩
  have hi2 : i < ys.length := by simpa using hi
  refine hc i hi2 j v ?_
  rw [he]
  simpa using hv
theorem act_at {B : Nat} {w : World} {p : Option Addr} {cap : Nat} {sc : List ActA} (h : RdS B w p cap 3 ac sc) (k : Nat) (hk : k < sc.length) : ∃ g o, p = some ⟨g, o, none⟩ ∧ g < B ∧
    w.cell? ⟨g, o + k * 3, none⟩ = some (.int .i64 sc[k].what) ∧ w.cell? ⟨g, o + k * 3 + 1, none⟩ = some (.int .i64 sc[k].at_) ∧ w.cell? ⟨g, o + k * 3 + 2, none⟩ = some (vw sc[k].value) := by
  obtain ⟨h1, h2, h3⟩ := h
  rcases h3 with h3 | ⟨g, o, hp, hb, hc⟩
  · omega
  · refine ⟨g, o, hp, hb, ?_, ?_, ?_⟩
    · exact hc k hk 0 _ rfl
    · rw [Nat.add_assoc]; exact hc k hk 1 _ rfl
    · rw [Nat.add_assoc]; exact hc k hk 2 _ rfl
/-- The words of a memory of a law. -/
structure Start (n : Nat) : Prop where
  lo : 8 ≤ n
  hi : n ≤ 64
  mod : n % 8 = 0
theorem right7_yes (n : Nat) (w : World) (h : 8 ≤ n ∧ n ≤ 131072 ∧ n % 8 = 0) : Calls Try.prog 11 #[.int .i64 n] w fun e w' => e = .returned (.bool true) ∧ w = w' := by
  have := right7_any (n : Int) w
  rwa [decide_eq_true (by omega)] at this
theorem right7_no (n : Nat) (w : World) (h : ¬ (8 ≤ n ∧ n ≤ 131072 ∧ n % 8 = 0)) : Calls Try.prog 11 #[.int .i64 n] w fun e w' => e = .returned (.bool false) ∧ w = w' := by
  have := right7_any (n : Int) w
  rwa [decide_eq_false (by omega)] at this
/-- A memory and the document's, newly made. -/
theorem two_start {w w1 w2 : World} {O : Nat} {N : Nat → Prop} {vs : List V8} {p : Option Addr} {c : Nat} (h0 : 0 < vs.length) (hl : vs.length ≤ 1000) (hm : MAt w1 O (Mem.of vs) N) (hN : ∀ x, N x → w.heap.size ≤ x ∧ x < w1.heap.size)
    (ho : OwnR w2 p c (Mem.of vs)) (hp : ∀ b, inP p c b → w1.heap.size ≤ b) (hb : Below w1.heap.size w1 w2) : Two w2 O p c (Mem.of vs) N :=
  ⟨hm.below hb, fun x hx => Nat.lt_of_lt_of_le (hN x hx).2 hb.size, OwnG.rds lc_len ho, fun b hb2 hx => by have := hp b hb2; have := (hN b hx).2; omega, by rw [of_len]; exact hl, by rw [of_len]; exact h0⟩
/-- Another copy takes a memory's place. -/
theorem Two.copied {w w' : World} {O O' : Nat} {p : Option Addr} {c : Nat} {m : Mem} {N : Nat → Prop} (h : Two w O p c m N) (hm : MAt w' O' m (fun x => w.heap.size ≤ x ∧ x < w'.heap.size)) (hb : Below w.heap.size w w') : Two w' O' p c m (fun x => w.heap.size ≤ x ∧ x < w'.heap.size) :=
  ⟨hm, fun x hx => hx.2, (h.ref.keep (fun b hi => hb.block b (h.ref.inlt hi))).wideP hb.size, fun b hi hx => by have := h.ref.inlt hi; omega, h.le, h.pos⟩
end Go.Proofs.Ytaflbfmlajbjcaa
