/- Plain helpers of the law HashStreams. -/
import Derived.Test.YtandljkppgneoaaLawHashCuts
import Derived.Test.YtandljkppgneoaaOpenP
namespace Go.Proofs.Ytandljkppgneoaa
open Go Go.RowKit

/-- What holds while the pieces come: a state S with its bytes, an elder copy O of none, all the bytes. -/
structure Stm (w W : World) (a b : BitVec 64) (S O : Nat) (us vs : List (BitVec 8)) (v : Value) : Prop where
  at' : At w.heap.size w W
  kb : Kb w.heap.size a b W
  st : ∃ p c, HAt W S a b us p c ∧ ∀ k, inP p c k → w.heap.size < k ∧ k ≠ O ∧ v.ownBlock ≠ some k
  old : ∃ p c, HAt W O a b [] p c ∧ ∀ k, inP p c k → w.heap.size < k ∧ k ≠ S ∧ v.ownBlock ≠ some k
  own : W.ownsRow (w.heap.size + 1) 5 1 v vs.length (vs.map vb)
  vS : v.ownBlock ≠ some S
  vO : v.ownBlock ≠ some O
  lS : w.heap.size < S
  lO : w.heap.size < O
  ne : S ≠ O
theorem Stm.below {w W W' : World} {a b : BitVec 64} {S O : Nat} {us vs : List (BitVec 8)} {v : Value} (h : Stm w W a b S O us vs v) (hb : Below W.heap.size W W') : Stm w W' a b S O us vs v := by
  obtain ⟨p, c, h1, h2⟩ := h.st
  obtain ⟨q, d, h3, h4⟩ := h.old
  exact ⟨h.at'.below hb, h.kb.below hb, ⟨p, c, h1.below hb, h2⟩, ⟨q, d, h3.below hb, h4⟩, own_below h.own hb, h.vS, h.vO, h.lS, h.lO, h.ne⟩
theorem HAt.inlt {W : World} {B : Nat} {a b : BitVec 64} {bs : List (BitVec 8)} {p : Option Addr} {cap : Nat} (h : HAt W B a b bs p cap) {k : Nat} (hk : inP p cap k) : k < W.heap.size := (HSt.rd h).inlt hk
theorem own_frn {w w' : World} {X : Nat → Prop} {base : Nat} {e : TypeId} {size : Nat} {v : Value} {n : Nat} {xs : List Value} (h : w.ownsRow base e size v n xs) (hf : Frn X w w') (hx : ∀ k, v.ownBlock = some k → ¬ X k) : w'.ownsRow base e size v n xs := by
  refine ⟨h.1, h.2.imp id ?_⟩
  rintro ⟨g, cap, cur, hv, hg, hh, r⟩
  exact ⟨g, cap, cur, hv, hg, (hf.block g (Array.getElem?_eq_some_iff.1 hh).1 (hx g (by rw [hv]; rfl))).trans hh, r⟩
theorem Stm.wrote {w W W' : World} {a b : BitVec 64} {S O : Nat} {us us' vs : List (BitVec 8)} {v : Value} (h : Stm w W a b S O us vs v) (hf : Frn (fun k => k = S) W W')
    (h2 : ∃ p c, HAt W' S a b us' p c ∧ ∀ k, inP p c k → W.heap.size ≤ k) : Stm w W' a b S O us' vs v := by
  obtain ⟨p, c, h1, h2⟩ := h2
  obtain ⟨q, d, h3, h4⟩ := h.old
  have hn := h.at'.2
  refine ⟨h.at'.frn hf (by rintro k rfl; exact Nat.le_of_lt h.lS), h.kb.frn hf (by have := h.lS; omega), ⟨p, c, h1, fun k hk => ?_⟩, ⟨q, d, h3.keep hf (fun e => h.ne e.symm) (fun k hk e => (h4 k hk).2.1 e), h4⟩, own_frn h.own hf (fun k hk e => h.vS (by rw [hk, e])), h.vS, h.vO, h.lS, h.lO, h.ne⟩
  have hk1 := h2 k hk
  have hO := h3.lt
  have hk0 := h.kb.lt
  refine ⟨by omega, by omega, fun e => ?_⟩
  have := (h.own.lt k e).2
  omega
theorem Stm.grew {w W W' : World} {a b : BitVec 64} {S O : Nat} {us vs vs' : List (BitVec 8)} {v v' : Value} (h : Stm w W a b S O us vs v) (hg : W.grownBy W' v.ownBlock) (hb : Blk W v v')
    (ho : W'.ownsRow (w.heap.size + 1) 5 1 v' vs'.length (vs'.map vb)) : Stm w W' a b S O us vs' v' := by
  obtain ⟨p, c, h1, h2⟩ := h.st
  obtain ⟨q, d, h3, h4⟩ := h.old
  have hf : Frn (fun k => v.ownBlock = some k) W W' := Frn.of_grownBy hg (fun r hr => hr)
  have hlt : ∀ k, v.ownBlock = some k → w.heap.size < k := fun k hk => (h.own.lt k hk).1
  have hsep : ∀ k, k < W.heap.size → v.ownBlock ≠ some k → v'.ownBlock ≠ some k := by
    intro k hk hv e
    rcases hb with hb | ⟨g, hb, hgs⟩
    · exact hv (by rw [← hb]; exact e)
    · rw [hb] at e; cases e; omega
  refine ⟨h.at'.frn hf (fun k hk => Nat.le_of_lt (hlt k hk)), h.kb.frn hf (fun e => by have := hlt _ e; omega), ⟨p, c, h1.keep hf h.vS (fun k hk e => (h2 k hk).2.2 e), fun k hk => ⟨(h2 k hk).1, (h2 k hk).2.1, hsep k (h1.inlt hk) (h2 k hk).2.2⟩⟩,
    ⟨q, d, h3.keep hf h.vO (fun k hk e => (h4 k hk).2.2 e), fun k hk => ⟨(h4 k hk).1, (h4 k hk).2.1, hsep k (h3.inlt hk) (h4 k hk).2.2⟩⟩, ho, hsep S h1.lt h.vS, hsep O h3.lt h.vO, h.lS, h.lO, h.ne⟩

def sumM (zs : List Piece) : Nat := (zs.map fun z => min z.2.2.length 3000).sum
def cat (zs : List Piece) : List (BitVec 8) := (zs.map fun z => z.2.2).flatten
theorem sumM_le (zs : List Piece) : sumM zs ≤ 3000 * zs.length := by
  unfold sumM
  induction zs with
  | nil => simp
  | cons z zs ih => simp only [List.map_cons, List.sum_cons, List.length_cons]; omega
theorem sumM_snoc (zs : List Piece) (j : Nat) (h : j < zs.length) : sumM (zs.take (j + 1)) = sumM (zs.take j) + min (zs[j]).2.2.length 3000 := by
  rw [List.take_succ_eq_append_getElem h]
  unfold sumM
  rw [List.map_append, List.sum_append]
  rfl
theorem cat_snoc (zs : List Piece) (j : Nat) (h : j < zs.length) : cat (zs.take (j + 1)) = cat (zs.take j) ++ (zs[j]).2.2 := by
  rw [List.take_succ_eq_append_getElem h]
  unfold cat
  rw [List.map_append, List.flatten_append]
  congr 1
  simp
theorem cat_len (zs : List Piece) (h : sumM zs ≤ 2000) : (cat zs).length ≤ 2000 ∧ ∀ z ∈ zs, z.2.2.length ≤ 2000 := by
  have key : (cat zs).length ≤ sumM zs ∧ ∀ z ∈ zs, z.2.2.length ≤ 2000 := by
    induction zs with
    | nil => simp [cat]
    | cons z zs ih =>
      simp only [sumM, List.map_cons, List.sum_cons] at h
      obtain ⟨i1, i2⟩ := ih (by unfold sumM; omega)
      have hz : z.2.2.length ≤ 2000 := by omega
      constructor
      · simp only [cat, List.map_cons, List.flatten_cons, List.length_append, sumM, List.sum_cons] at i1 ⊢
        omega
      · intro y hy
        rcases List.mem_cons.1 hy with rfl | hy
        · exact hz
        · exact i2 y hy
  exact ⟨Nat.le_trans key.1 h, key.2⟩
theorem cat_take_len (zs : List Piece) (j : Nat) (h : sumM zs ≤ 2000) : (cat (zs.take j)).length ≤ 2000 := by
  have := (cat_len zs h).1
  have e : cat zs = cat (zs.take j) ++ cat (zs.drop j) := by
    unfold cat
    rw [← List.flatten_append, ← List.map_append, List.take_append_drop]
  rw [e, List.length_append] at this
  omega
end Go.Proofs.Ytandljkppgneoaa
