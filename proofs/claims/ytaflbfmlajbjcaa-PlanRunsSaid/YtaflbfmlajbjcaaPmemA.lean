/- The walks of the memory: none, in, Len, word, Load, Store. -/
import Derived.Test.YtaflbfmlajbjcaaRows
import Derived.Test.YtaflbfmlajbjcaaPmemLaw
namespace Go.Proofs.Ytaflbfmlajbjcaa
open Go Go.RowKit

theorem elem_line : ElemIs Try.prog 61 96 (lineV zero8) 8 64 := ⟨by kernel_rfl, by kernel_rfl, rfl, by decide⟩
abbrev OwnL (W : World) (p : Option Addr) (c : Nat) (l : List V8) : Prop := OwnG 96 8 ec W p c l
/-- A memory at O, whose blocks are in N. -/
structure MRaw (W : World) (O : Nat) (p1 : Option Addr) (c1 : Nat) (p2 : Option Addr) (c2 b n : Nat) (m : Mem) (N : Nat → Prop) : Prop where
  len : m.length = n
  pos : 0 < n
  le : n ≤ 20000
  obj : W.heap[O]? = some (.cells #[.slice p1 n c1, .slice p2 n c2, .map (some b)] 64 (0, 0))
  ls : OwnL W p1 c1 m.nows
  ll : OwnL W p2 c2 m.lst
  q : QAt W b m.qf
  nO : N O
  nb : N b
  n1 : ∀ x, inP p1 c1 x → N x ∧ x ≠ O ∧ x ≠ b ∧ ¬ inP p2 c2 x
  n2 : ∀ x, inP p2 c2 x → N x ∧ x ≠ O ∧ x ≠ b
  nOb : O ≠ b
def MAt (W : World) (O : Nat) (m : Mem) (N : Nat → Prop) : Prop := ∃ p1 c1 p2 c2 b n, MRaw W O p1 c1 p2 c2 b n m N
section
variable {W : World} {O : Nat} {p1 p2 : Option Addr} {c1 c2 b n : Nat} {m : Mem} {N : Nat → Prop}
theorem MRaw.lt (h : MRaw W O p1 c1 p2 c2 b n m N) : O < W.heap.size := (Array.getElem?_eq_some_iff.1 h.obj).1
theorem MRaw.cells (h : MRaw W O p1 c1 p2 c2 b n m N) : W.cell? ⟨O, 0, none⟩ = some (.slice p1 n c1) ∧ W.cell? ⟨O, 1, none⟩ = some (.slice p2 n c2) ∧ W.cell? ⟨O, 2, none⟩ = some (.map (some b)) := by
  refine ⟨?_, ?_, ?_⟩ <;> simp [World.cell?, h.obj]
theorem MRaw.keep {W' : World} (h : MRaw W O p1 c1 p2 c2 b n m N) (e : ∀ x, N x → x < W.heap.size → W'.heap[x]? = W.heap[x]?) : MRaw W' O p1 c1 p2 c2 b n m N :=
  ⟨h.len, h.pos, h.le, (e O h.nO h.lt).trans h.obj, h.ls.keep (fun x hx => e x (h.n1 x hx).1 (h.ls.lt hx)), h.ll.keep (fun x hx => e x (h.n2 x hx).1 (h.ll.lt hx)), h.q.keep (e b h.nb h.q.lt), h.nO, h.nb, h.n1, h.n2, h.nOb⟩
theorem MRaw.mono {N' : Nat → Prop} (h : MRaw W O p1 c1 p2 c2 b n m N) (e : ∀ x, N x → x < W.heap.size → N' x) : MRaw W O p1 c1 p2 c2 b n m N' :=
  ⟨h.len, h.pos, h.le, h.obj, h.ls, h.ll, h.q, e O h.nO h.lt, e b h.nb h.q.lt, fun x hx => ⟨e x (h.n1 x hx).1 (h.ls.lt hx), (h.n1 x hx).2⟩, fun x hx => ⟨e x (h.n2 x hx).1 (h.ll.lt hx), (h.n2 x hx).2⟩, h.nOb⟩
theorem MAt.keep {W' : World} (h : MAt W O m N) (e : ∀ x, N x → x < W.heap.size → W'.heap[x]? = W.heap[x]?) : MAt W' O m N := by
  obtain ⟨p1, c1, p2, c2, b, n, h⟩ := h
  exact ⟨p1, c1, p2, c2, b, n, h.keep e⟩
theorem MAt.below {W' : World} (h : MAt W O m N) (hb : Below W.heap.size W W') : MAt W' O m N := h.keep (fun x _ hl => hb.block x hl)
theorem MAt.mono {N' : Nat → Prop} (h : MAt W O m N) (e : ∀ x, N x → x < W.heap.size → N' x) : MAt W O m N' := by
  obtain ⟨p1, c1, p2, c2, b, n, h⟩ := h
  exact ⟨p1, c1, p2, c2, b, n, h.mono e⟩
theorem MAt.lt (h : MAt W O m N) : O < W.heap.size := by
  obtain ⟨p1, c1, p2, c2, b, n, h⟩ := h
  exact h.lt
/-- A word's cell. -/
theorem MRaw.word (h : MRaw W O p1 c1 p2 c2 b n m N) (i : Nat) (hi : i < n) (j : Nat) (hj : j < 8) : ∃ g o, p1 = some ⟨g, o, none⟩ ∧ g < W.heap.size ∧ N g ∧ g ≠ O ∧ W.cell? ⟨g, o + (i * 8 + j), none⟩ = some (vw ((m[i]'(by rw [h.len]; exact hi)).now[j])) ∧ W.frozen? ⟨g, o + (i * 8 + j), none⟩ = false := by
  obtain ⟨h1, h2, h3⟩ := h.ls.rds ec_len
  have hcap : 0 < c1 := by rw [nows_len, h.len] at h1; omega
  rcases h3 with h3 | ⟨g, o, rfl, hb, hc⟩
  · omega
  · have hn := h.n1 g ⟨_, rfl, rfl, hcap⟩
    refine ⟨g, o, rfl, hb, hn.1, hn.2.1, ?_, OwnO.free h.ls hcap _⟩
    refine hc i (by rw [nows_len, h.len]; exact hi) j _ ?_
    simp [ec, nows_get, hj]
end
set_option maxRecDepth 100000 in
set_option maxHeartbeats 2000000 in
theorem noneM_any {O n c : Nat} {p : Option Addr} (W : World) (h : W.cell? ⟨O, 0, none⟩ = some (.slice p n c)) (hn : 0 < n) :
    Calls Try.prog 53 #[.pointer (some ⟨O, 0, none⟩)] W fun e w' => e = .returned (.bool false) ∧ W = w' := by
  have h0 : ((n : Int) == 0) = false := beq_eq_false_iff_ne.2 (by omega)
  clear hn
  go_enter Try.func53, Try.ntmps53
  go_wp2_with fail
  go_ret
  exact ⟨rfl, rfl⟩
set_option maxRecDepth 100000 in
set_option maxHeartbeats 2000000 in
theorem inM_any (a n : Int) (W : World) : Calls Try.prog 81 #[.int .i64 a, .int .i64 n] W fun e w' => e = .returned (.bool (decide (0 ≤ a ∧ a < n))) ∧ W = w' := by
  by_cases h0 : 0 ≤ a
  · by_cases h1 : a < n
    · have e : decide (0 ≤ a ∧ a < n) = true := decide_eq_true ⟨h0, h1⟩
      rw [e]
      clear e
      go_enter Try.func81, Try.ntmps81
      go_wp2_with fail
      go_ret
      exact ⟨rfl, rfl⟩
    · have e : decide (0 ≤ a ∧ a < n) = false := decide_eq_false (fun h => h1 h.2)
      have h2 : decide (a < n) = false := decide_eq_false h1
      rw [e]
      clear e
      go_enter Try.func81, Try.ntmps81
      go_wp2_with fail
      go_ret
      exact ⟨rfl, rfl⟩
  · have e : decide (0 ≤ a ∧ a < n) = false := decide_eq_false (fun h => h0 h.1)
    have h2 : decide (0 ≤ a) = false := decide_eq_false h0
    rw [e]
    clear e
    go_enter Try.func81, Try.ntmps81
    go_wp2_with fail
    go_ret
    exact ⟨rfl, rfl⟩
set_option maxRecDepth 100000 in
set_option maxHeartbeats 2000000 in
theorem lenM_any {O n c : Nat} {p : Option Addr} (W : World) (h : W.cell? ⟨O, 0, none⟩ = some (.slice p n c)) (hn : 0 < n) (hl : n ≤ 20000) :
    Calls Try.prog 32 #[.pointer (some ⟨O, 0, none⟩)] W fun e w' => e = .returned (.int .i64 ((8 * n : Nat) : Int)) ∧ W = w' := by
  have HN := Lib.hid (noneM_any W h hn)
  obtain ⟨A, hA⟩ : ∃ A, 8 * n = A := ⟨_, rfl⟩
  have hw : IntKind.i64.wrap ((n : Int) * 8) = (A : Int) := by rw [IntKind.wrap_i64]; omega
  rw [hA]
  clear hA hn
  go_enter Try.func32, Try.ntmps32
  go_wp2_with fail
  refine HN.out.mono ?_
  rintro e w' ⟨rfl, rfl⟩
  go_wp2_with fail
  go_ret
  exact ⟨rfl, rfl⟩
/-- The error of a number among so many. -/
def noOf (a : Int) (n : Nat) : Int := if 0 ≤ a ∧ a < n then 0 else 4
set_option maxRecDepth 100000 in
set_option maxHeartbeats 2000000 in
theorem wordM_any {O n c : Nat} {p : Option Addr} (a : Int) (W : World) (h : W.cell? ⟨O, 0, none⟩ = some (.slice p n c)) (hn : 0 < n) (hl : n ≤ 20000) :
    Calls Try.prog 56 #[.pointer (some ⟨O, 0, none⟩), .int .i64 a] W fun e w' => e = .returned (.int .i64 (noOf a (8 * n))) ∧ W = w' := by
  have HN := Lib.hid (noneM_any W h hn)
  have HL := Lib.hid (lenM_any W h hn hl)
  have HI := Lib.hid (inM_any a ((8 * n : Nat) : Int) W)
  obtain ⟨r, hr⟩ : ∃ r, decide (0 ≤ a ∧ a < ((8 * n : Nat) : Int)) = r := ⟨_, rfl⟩
  have hno : noOf a (8 * n) = if r = true then 0 else 4 := by
    rw [← hr]
    unfold noOf
    by_cases hh : 0 ≤ a ∧ a < ((8 * n : Nat) : Int)
    · rw [if_pos hh, if_pos (decide_eq_true hh)]
    · rw [if_neg hh, if_neg (by rw [decide_eq_false hh]; exact Bool.false_ne_true)]
  rw [hr] at HI
  rw [hno]
  obtain ⟨A, hA⟩ : ∃ A, ((8 * n : Nat) : Int) = A := ⟨_, rfl⟩
  rw [hA] at HL HI
  clear hA hn hr hno h
  cases r with
  | true =>
    go_enter Try.func56, Try.ntmps56
    go_wp2_with fail
    refine HN.out.mono ?_
    rintro e w' ⟨rfl, rfl⟩
    go_wp2_with fail
    refine HL.out.mono ?_
    rintro e w' ⟨rfl, rfl⟩
    go_wp2_with fail
    refine HI.out.mono ?_
    rintro e w' ⟨rfl, rfl⟩
    go_wp2_with fail
    go_ret
    exact ⟨rfl, rfl⟩
  | false =>
    go_enter Try.func56, Try.ntmps56
    go_wp2_with fail
    refine HN.out.mono ?_
    rintro e w' ⟨rfl, rfl⟩
    go_wp2_with fail
    refine HL.out.mono ?_
    rintro e w' ⟨rfl, rfl⟩
    go_wp2_with fail
    refine HI.out.mono ?_
    rintro e w' ⟨rfl, rfl⟩
    go_wp2_with fail
    go_ret
    exact ⟨rfl, rfl⟩
theorem quo8 (i : Nat) (h : i ≤ 1000000) : IntKind.i64.wrap ((i : Int).tdiv 8) = ((i / 8 : Nat) : Int) ∧ IntKind.i64.wrap ((i : Int) / 8) = ((i / 8 : Nat) : Int) ∧ IntKind.i64.wrap ((i : Int).tmod 8) = ((i % 8 : Nat) : Int) ∧ IntKind.i64.wrap ((i : Int) % 8) = ((i % 8 : Nat) : Int) := by
  rw [Int.tdiv_eq_ediv_of_nonneg (by omega), Int.tmod_eq_emod_of_nonneg (by omega), IntKind.wrap_i64, IntKind.wrap_i64]
  omega
set_option maxRecDepth 100000 in
set_option maxHeartbeats 4000000 in
theorem load_any {O : Nat} {m : Mem} {N : Nat → Prop} (i : Nat) (W : World) (h : MAt W O m N) (hi : i < 8 * m.length) :
    Calls Try.prog 30 #[.pointer (some ⟨O, 0, none⟩), .int .i64 i] W fun e w' => e = .returned (.tuple #[vw ((m[i / 8]'(by omega)).now[i % 8]'(by omega)), .int .i64 0]) ∧ W = w' := by
  obtain ⟨p1, c1, p2, c2, b, n, hr⟩ := h
  have hln := hr.len
  have hle := hr.le
  have HW := Lib.hid (wordM_any (i : Int) W hr.cells.1 hr.pos hr.le)
  have e0 : noOf (i : Int) (8 * n) = 0 := if_pos (by omega)
  rw [e0] at HW
  obtain ⟨g, o, rfl, hg, -, -, hc, -⟩ := hr.word (i / 8) (by omega) (i % 8) (by omega)
  obtain ⟨v, hv⟩ : ∃ v, (m[i / 8]'(by omega)).now[i % 8]'(by omega) = v := ⟨_, rfl⟩
  rw [hv] at hc ⊢
  obtain ⟨q1, q2, q3, q4⟩ := quo8 i (by omega)
  obtain ⟨I, hI⟩ : ∃ I, i / 8 = I := ⟨_, rfl⟩
  rw [hI] at q1 q2 hc
  have hIn : (I : Int) < (n : Int) := by omega
  have c0 := hr.cells.1
  rw [← Nat.add_assoc] at hc
  clear hI hv hr hln hle hi q3 q4
  go_enter Try.func30, Try.ntmps30
  go_wp2_with fail
  refine HW.out.mono ?_
  rintro e w' ⟨rfl, rfl⟩
  go_wp2_with fail
  go_ret2
  exact ⟨rfl, rfl⟩
set_option maxRecDepth 100000 in
set_option maxHeartbeats 4000000 in
theorem load_bad {O : Nat} {m : Mem} {N : Nat → Prop} (a : Int) (W : World) (h : MAt W O m N) (hi : ¬ (0 ≤ a ∧ a < ((8 * m.length : Nat) : Int))) :
    Calls Try.prog 30 #[.pointer (some ⟨O, 0, none⟩), .int .i64 a] W fun e w' => e = .returned (.tuple #[.int .u64 0, .int .i64 4]) ∧ W = w' := by
  obtain ⟨p1, c1, p2, c2, b, n, hr⟩ := h
  have HW := Lib.hid (wordM_any a W hr.cells.1 hr.pos hr.le)
  have e0 : noOf a (8 * n) = 4 := if_neg (by rw [hr.len] at hi; exact hi)
  rw [e0] at HW
  clear hr hi e0
  go_enter Try.func30, Try.ntmps30
  go_wp2_with fail
  refine HW.out.mono ?_
  rintro e w' ⟨rfl, rfl⟩
  go_wp2_with fail
  go_ret2
  exact ⟨rfl, rfl⟩
theorem MRaw.stored {W : World} {O : Nat} {g o c1 : Nat} {p2 : Option Addr} {c2 b n : Nat} {m : Mem} {N : Nat → Prop} (h : MRaw W O (some ⟨g, o, none⟩) c1 p2 c2 b n m N) (i : Nat) (hi : i < 8 * n) (v : BitVec 64) :
    MRaw (W.setCell ⟨g, o + (i / 8 * 8 + i % 8), none⟩ (vw v)) O (some ⟨g, o, none⟩) c1 p2 c2 b n (m.store i v) N ∧ Frn N W (W.setCell ⟨g, o + (i / 8 * 8 + i % 8), none⟩ (vw v)) := by
  have hcap : 0 < c1 := by
    have h1 := (h.ls.rds ec_len).1
    have := h.pos
    rw [nows_len, h.len] at h1; omega
  have hn := h.n1 g ⟨_, rfl, rfl, hcap⟩
  have hf : Frn (fun x => x = g) W (W.setCell ⟨g, o + (i / 8 * 8 + i % 8), none⟩ (vw v)) := Frn.setCell (T := fun x => x = g) (Frn.refl _ W) ⟨g, o + (i / 8 * 8 + i % 8), none⟩ (.inl rfl) (vw v)
  have hil : i / 8 < m.length := by rw [h.len]; omega
  have hset : (m.store i v).nows.flatMap ec = (m.nows.flatMap ec).set (i / 8 * 8 + i % 8) (vw v) := by
    rw [store_nows m i v hil]
    refine flat_set ec_len (by decide) _ _ (by rw [nows_len]; exact hil) _ (i % 8) (by omega) _ ?_
    rw [nows_get]
    simp [ec, List.map_set]
  refine ⟨⟨by rw [store_len]; exact h.len, h.pos, h.le, (hf.block O h.lt (Ne.symm hn.2.1)).trans h.obj, ?_, ?_, ?_, h.nO, h.nb, h.n1, h.n2, h.nOb⟩, ⟨hf.os, hf.tape, hf.output, hf.size, fun x hx hnx => hf.block x hx (fun e => hnx (by rw [e]; exact hn.1))⟩⟩
  · unfold OwnL OwnG
    rw [hset, nows_len, store_len, ← nows_len m]
    exact OwnO.set h.ls _ _
  · rw [store_lst]
    exact h.ll.keep (fun x hx => hf.block x (h.ll.lt hx) (fun e => hn.2.2.2 (by rw [← e]; exact hx)))
  · rw [store_qf]
    exact h.q.keep (hf.block b h.q.lt (Ne.symm hn.2.2.1))
set_option maxRecDepth 100000 in
set_option maxHeartbeats 4000000 in
theorem store_any {O : Nat} {m : Mem} {N : Nat → Prop} (i : Nat) (v : BitVec 64) (W : World) (h : MAt W O m N) (hi : i < 8 * m.length) :
    Calls Try.prog 20 #[.pointer (some ⟨O, 0, none⟩), .int .i64 i, vw v] W fun e w' => e = .returned (.int .i64 0) ∧ MAt w' O (m.store i v) N ∧ Frn N W w' := by
  obtain ⟨p1, c1, p2, c2, b, n, hr⟩ := h
  have hln := hr.len
  have hle := hr.le
  have HW := Lib.hid (wordM_any (i : Int) W hr.cells.1 hr.pos hr.le)
  have e0 : noOf (i : Int) (8 * n) = 0 := if_pos (by omega)
  rw [e0] at HW
  obtain ⟨g, o, rfl, hg, -, -, hc, hfz⟩ := hr.word (i / 8) (by omega) (i % 8) (by omega)
  have HST := Lib.hid (hr.stored i (by omega) v)
  rw [← Nat.add_assoc] at hc hfz HST
  obtain ⟨q1, q2, q3, q4⟩ := quo8 i (by omega)
  obtain ⟨u, hu⟩ : ∃ v, (m[i / 8]'(by omega)).now[i % 8]'(by omega) = v := ⟨_, rfl⟩
  rw [hu] at hc
  have c0 := hr.cells.1
  have hIn : ((i / 8 : Nat) : Int) < (n : Int) := by omega
  clear hu hr hln hle hi q3 q4 e0
  obtain ⟨I, hI⟩ : ∃ I, i / 8 = I := ⟨_, rfl⟩
  rw [hI] at q1 q2 hc hfz HST hIn
  clear hI
  go_enter Try.func20, Try.ntmps20
  go_wp2_with fail
  refine HW.out.mono ?_
  rintro e w' ⟨rfl, rfl⟩
  go_wp2_with fail
  go_ret
  exact ⟨rfl, ⟨_, _, _, _, _, _, HST.out.1⟩, HST.out.2⟩
set_option maxRecDepth 100000 in
set_option maxHeartbeats 4000000 in
theorem store_bad {O : Nat} {m : Mem} {N : Nat → Prop} (a : Int) (v : BitVec 64) (W : World) (h : MAt W O m N) (hi : ¬ (0 ≤ a ∧ a < ((8 * m.length : Nat) : Int))) :
    Calls Try.prog 20 #[.pointer (some ⟨O, 0, none⟩), .int .i64 a, vw v] W fun e w' => e = .returned (.int .i64 4) ∧ W = w' := by
  obtain ⟨p1, c1, p2, c2, b, n, hr⟩ := h
  have HW := Lib.hid (wordM_any a W hr.cells.1 hr.pos hr.le)
  have e0 : noOf a (8 * n) = 4 := if_neg (by rw [hr.len] at hi; exact hi)
  rw [e0] at HW
  clear hr hi e0
  go_enter Try.func20, Try.ntmps20
  go_wp2_with fail
  refine HW.out.mono ?_
  rintro e w' ⟨rfl, rfl⟩
  go_wp2_with fail
  go_ret
  exact ⟨rfl, rfl⟩
end Go.Proofs.Ytaflbfmlajbjcaa
