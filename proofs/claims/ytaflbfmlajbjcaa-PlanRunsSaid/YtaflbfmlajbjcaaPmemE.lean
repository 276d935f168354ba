/- The walks of the memory: words, Image, Lasting. -/
import Derived.Test.YtaflbfmlajbjcaaPmemD
namespace Go.Proofs.Ytaflbfmlajbjcaa
open Go Go.RowKit

theorem rdl_own {α : Type} {w : World} {base g cap : Nat} {e : TypeId} {enc : α → Value} {ys : List α} (h : w.ownsRow base e 1 (.slice (some ⟨g, 0, none⟩) ys.length cap) ys.length (ys.map enc)) (hc : ys.length ≤ cap) (hm : cap ≤ 9223372036854775807) (hg : g < w.heap.size) : RdL w.heap.size w (some ⟨g, 0, none⟩) cap enc ys :=
  ⟨hc, hm, .inr ⟨g, 0, rfl, hg, fun i hi => by rw [Nat.zero_add]; exact own_at h i hi⟩⟩
theorem own_lt {w : World} {base g n cap : Nat} {e : TypeId} {size : Nat} {xs : List Value} (h : w.ownsRow base e size (.slice (some ⟨g, 0, none⟩) n cap) n xs) : g < w.heap.size := by
  rcases h.2 with ⟨hv, _⟩ | ⟨g', c, cur, hv, _, hg, _⟩
  · cases hv
  · cases hv
    exact (Array.getElem?_eq_some_iff.1 hg).1
theorem elem_m64 : ElemIs Try.prog 22 36 (.int .u64 0) 1 8 := ⟨by kernel_rfl, by kernel_rfl, rfl, by decide⟩
theorem line_cellsAt {w : World} {g o : Nat} {v : V8} (h : w.rangeAt g o (ec v)) : w.cell? ⟨g, o, none⟩ = some (vw v[0]) ∧ w.cell? ⟨g, o + 1, none⟩ = some (vw v[1]) ∧ w.cell? ⟨g, o + 2, none⟩ = some (vw v[2]) ∧ w.cell? ⟨g, o + 3, none⟩ = some (vw v[3]) ∧
    w.cell? ⟨g, o + 4, none⟩ = some (vw v[4]) ∧ w.cell? ⟨g, o + 5, none⟩ = some (vw v[5]) ∧ w.cell? ⟨g, o + 6, none⟩ = some (vw v[6]) ∧ w.cell? ⟨g, o + 7, none⟩ = some (vw v[7]) := by
  have hh : ∀ j (hj : j < 8), w.cell? ⟨g, o + j, none⟩ = some (vw v[j]) := fun j hj => h j (vw v[j]) (by simp [ec, hj])
  exact ⟨hh 0 (by decide), hh 1 (by decide), hh 2 (by decide), hh 3 (by decide), hh 4 (by decide), hh 5 (by decide), hh 6 (by decide), hh 7 (by decide)⟩
def flatW (l : List V8) : List (BitVec 64) := l.flatMap (·.toList)
theorem flatW_len (l : List V8) : (flatW l).length = 8 * l.length := by
  unfold flatW
  induction l with
  | nil => rfl
  | cons a l ih => rw [List.flatMap_cons, List.length_append, ih, List.length_cons, Vector.length_toList]; omega
theorem flatW_take (l : List V8) (i : Nat) (h : i < l.length) : flatW (l.take (i + 1)) = flatW (l.take i) ++ l[i].toList := by
  unfold flatW
  rw [List.take_add_one, List.flatMap_append, List.getElem?_eq_getElem h]
  simp
theorem vec_lit (v : V8) : v.toList = [v[0], v[1], v[2], v[3], v[4], v[5], v[6], v[7]] := by
  obtain ⟨a, ha⟩ := v
  obtain ⟨l⟩ := a
  match l, ha with
  | [x0, x1, x2, x3, x4, x5, x6, x7], _ => rfl
theorem rds_line {B : Nat} {w : World} {p : Option Addr} {cap : Nat} {l : List V8} (h : RdS B w p cap 8 ec l) (i : Nat) (hi : i < l.length) : ∃ g o, p = some ⟨g, o, none⟩ ∧ g < B ∧ w.rangeAt g (o + i * 8) (ec l[i]) := by
  obtain ⟨h1, h2, h3⟩ := h
  rcases h3 with rfl | ⟨g, o, hp, hb, hc⟩
  · omega
  · exact ⟨g, o, hp, hb, fun j v hv => by rw [Nat.add_assoc]; exact hc i hi j v hv⟩
def lit8 (v : V8) : List (BitVec 64) := [v[0], v[1], v[2], v[3], v[4], v[5], v[6], v[7]]
theorem rdl_lit8 {w : World} {X : Nat} (v : V8) (t : TypeId) (h : w.heap[X]? = some (.cells #[vw v[0], vw v[1], vw v[2], vw v[3], vw v[4], vw v[5], vw v[6], vw v[7]] t (0, 0))) : RdL w.heap.size w (some ⟨X, 0, none⟩) 8 vw (lit8 v) := by
  refine ⟨Nat.le_refl _, by decide, .inr ⟨X, 0, rfl, (Array.getElem?_eq_some_iff.1 h).1, fun i hi => ?_⟩⟩
  have hi' : i < 8 := hi
  have : i = 0 ∨ i = 1 ∨ i = 2 ∨ i = 3 ∨ i = 4 ∨ i = 5 ∨ i = 6 ∨ i = 7 := by omega
  rcases this with rfl | rfl | rfl | rfl | rfl | rfl | rfl | rfl <;> simp [World.cell?, h, lit8]
set_option maxRecDepth 100000 in
set_option maxHeartbeats 8000000 in
theorem words_any (p : Option Addr) (cap : Nat) (l : List V8) (w : World) (hrd : RdS w.heap.size w p cap 8 ec l) (hl : l.length ≤ 20000) :
    Calls Try.prog 68 #[.slice p l.length cap] w fun e w' => ∃ q d, e = .returned (.slice q (8 * l.length) d) ∧ RdL w'.heap.size w' q d vw (flatW l) ∧ Below w.heap.size w w' := by
  have HR := Lib.hid hrd
  clear hrd
  go_enter Try.func68, Try.ntmps68
  go_wp2_with fail
  go_loopw [2, 7] (fun x2 i wr => ∃ k : Nat, k ≤ l.length ∧ i = .int .i64 k ∧ wr.ownsRow w.heap.size 36 1 x2 (flatW (l.take k)).length ((flatW (l.take k)).map vw) ∧ At w.heap.size w wr) (fun _ i _ => l.length - (intOf i).toNat)
  case atStart => exact ⟨0, Nat.zero_le _, rfl, World.ownsRow_nil _ _ _ _, At.start _⟩
  case round =>
    obtain ⟨k, hk, rfl, hown, hat⟩ := hrel
    have HO := Lib.hid hown
    have HB := Lib.hid hat
    clear hown hat
    by_cases hlt : k < l.length
    · have hlt' : (k : Int) < (l.length : Int) := by omega
      have hwk : IntKind.i64.wrap ((k : Int) + 1) = (k : Int) + 1 := by rw [IntKind.wrap_i64]; omega
      obtain ⟨g, o, hp, hg, hrg⟩ := rds_line HR.out k hlt
      have hsucc := flatW_take l k hlt
      obtain ⟨v, hv⟩ : ∃ v, l[k] = v := ⟨_, rfl⟩
      rw [hv] at hrg hsucc
      rw [show v.toList = lit8 v from vec_lit v] at hsucc
      have hrw : wr.rangeAt g (o + k * 8) (ec v) := fun j u hu => (HB.out.1.cell (p := ⟨g, o + k * 8 + j, none⟩) hg).trans (hrg j u hu)
      obtain ⟨k0, k1, k2, k3, k4, k5, k6, k7⟩ := line_cellsAt hrw
      obtain ⟨WA, hWA⟩ : ∃ WA, wr.alloc (.cells #[vw v[0], vw v[1], vw v[2], vw v[3], vw v[4], vw v[5], vw v[6], vw v[7]] 96) = WA := ⟨_, rfl⟩
      have hbA : Below wr.heap.size wr WA := by rw [← hWA]; exact (Below.refl _ _).alloc (Nat.le_refl _) _
      have hxA : WA.heap[wr.heap.size]? = some (.cells #[vw v[0], vw v[1], vw v[2], vw v[3], vw v[4], vw v[5], vw v[6], vw v[7]] 96 (0, 0)) := by rw [← hWA]; exact World.alloc_heap_new _ _
      have HA := Lib.hid (And.intro hWA (And.intro hbA (rdl_lit8 v _ hxA)))
      have HOA := Lib.hid (own_below HO.out hbA)
      have HSU := Lib.hid hsucc
      have HFL := Lib.hid (show (flatW (l.take k)).length ≤ 160000 by rw [flatW_len, List.length_take]; omega)
      subst hp
      clear hv hrg hrw hWA hbA hxA hsucc hg
      go_wp2_with (at_builtin
                   rw [HA.out.1]
                   refine wpList_appendR rfl (.tmp 11) (.tmp 12) _ rfl elem_m64 vw w.heap.size (flatW (l.take k)) (lit8 v) _ rfl (some ⟨wr.heap.size, 0, none⟩) 8 WA.heap.size rfl HOA.out HA.out.2.2 (fun _ => rfl) ?_ (by decide) ?_ ?_
                   · have := HFL.out; show _ + 8 < _; omega
                   · exact Nat.le_trans HB.out.2 HA.out.2.1.size
                   intro v' w' hown hgr _
                   have HAT := Lib.hid ((HB.out.below HA.out.2.1).grown hgr (by intro b hb; rcases HO.out.2 with ⟨e, -⟩ | ⟨g', c', cur', e, hb', -⟩ <;> rw [e] at hb <;> cases hb; exact hb'))
                   have HON := Lib.hid hown
                   clear hown hgr)
      go_roundw
      case rel => exact ⟨k + 1, hlt, by go_num, by rw [HSU.out]; exact HON.out, HAT.out⟩
      case measure => simp [intOf]; omega
    · obtain rfl : k = l.length := by omega
      have hnl : ¬ (l.length : Int) < (l.length : Int) := by omega
      have ho := HO.out
      rw [List.take_length] at ho
      have HO3 := Lib.hid ho
      clear ho
      go_wp2_with fail
      go_ret
      have ho := HO3.out
      by_cases h0 : l.length = 0
      · have hn : l = [] := List.eq_nil_of_length_eq_zero h0
        subst hn
        rcases ho.2 with ⟨hv, -⟩ | ⟨g, c, cur, hv, -, hg, hc, hcm, -⟩
        · subst hv
          exact ⟨none, 0, rfl, ⟨Nat.le_refl _, Nat.zero_le _, .inl rfl⟩, HB.out.1⟩
        · subst hv
          exact ⟨_, _, rfl, ⟨Nat.zero_le _, hcm, .inr ⟨g, 0, rfl, (Array.getElem?_eq_some_iff.1 hg).1, fun i hi => by cases hi⟩⟩, HB.out.1⟩
      · obtain ⟨g, c, hv, -, hc, hcm⟩ := own_pos ho (by rw [flatW_len]; omega)
        subst hv
        have hlt := own_lt ho
        have hr := rdl_own ho hc hcm hlt
        rw [flatW_len]
        exact ⟨_, _, rfl, hr, HB.out.1⟩
set_option maxRecDepth 100000 in
set_option maxHeartbeats 4000000 in
theorem image_any {O : Nat} {m : Mem} {N : Nat → Prop} (W : World) (h : MAt W O m N) :
    Calls Try.prog 33 #[.pointer (some ⟨O, 0, none⟩)] W fun e w' => ∃ q d, e = .returned (.slice q (8 * m.length) d) ∧ RdL w'.heap.size w' q d vw (flatW m.nows) ∧ Below W.heap.size W w' := by
  obtain ⟨p1, c1, p2, c2, b, n, hr⟩ := h
  have hle := hr.le
  have hlen := hr.len
  have HNN := Lib.hid (noneM_any W hr.cells.1 hr.pos)
  have c0 := hr.cells.1
  have hw := words_any p1 c1 m.nows W (hr.ls.rds ec_len) (by rw [nows_len]; omega)
  rw [nows_len, hlen] at hw
  rw [hlen]
  have HWW := Lib.hid hw
  clear hw hr hle hlen
  go_enter Try.func33, Try.ntmps33
  go_wp2_with fail
  refine HNN.out.mono ?_
  rintro e w' ⟨rfl, rfl⟩
  go_wp2_with fail
  refine HWW.out.mono ?_
  rintro e w2 ⟨q, d, rfl, hrd, hb⟩
  have H2 := Lib.hid (And.intro hrd hb)
  clear hrd hb
  go_wp2_with fail
  go_ret
  exact ⟨q, d, rfl, H2.out⟩
set_option maxRecDepth 100000 in
set_option maxHeartbeats 4000000 in
theorem lasting_any {O : Nat} {m : Mem} {N : Nat → Prop} (W : World) (h : MAt W O m N) :
    Calls Try.prog 34 #[.pointer (some ⟨O, 0, none⟩)] W fun e w' => ∃ q d, e = .returned (.slice q (8 * m.length) d) ∧ RdL w'.heap.size w' q d vw (flatW m.lst) ∧ Below W.heap.size W w' := by
  obtain ⟨p1, c1, p2, c2, b, n, hr⟩ := h
  have hle := hr.le
  have hlen := hr.len
  have HNN := Lib.hid (noneM_any W hr.cells.1 hr.pos)
  have c0 := hr.cells.2.1
  have hw := words_any p2 c2 m.lst W (hr.ll.rds ec_len) (by rw [lst_len]; omega)
  rw [lst_len, hlen] at hw
  rw [hlen]
  have HWW := Lib.hid hw
  clear hw hr hle hlen
  go_enter Try.func34, Try.ntmps34
  go_wp2_with fail
  refine HNN.out.mono ?_
  rintro e w' ⟨rfl, rfl⟩
  go_wp2_with fail
  refine HWW.out.mono ?_
  rintro e w2 ⟨q, d, rfl, hrd, hb⟩
  have H2 := Lib.hid (And.intro hrd hb)
  clear hrd hb
  go_wp2_with fail
  go_ret
  exact ⟨q, d, rfl, H2.out⟩
end Go.Proofs.Ytaflbfmlajbjcaa
