/- What stands in a line, as a string: the law's content. -/
import Derived.Test.YtaflbfmlajbjcaaPmeD
import Derived.Test.YtaflbfmlajbjcaaRefBytes
import Derived.Test.YtaflbfmlajbjcaaStr
namespace Go.Proofs.Ytaflbfmlajbjcaa
open Go Go.RowKit

def strL (v : V8) : ByteArray := strB (bytesL v.toList)
theorem flatW_drop (l : List V8) (k : Nat) (h : k < l.length) : (flatW l).drop (8 * k) = l[k].toList ++ flatW (l.drop (k + 1)) := by
  have h1 : flatW l = flatW (l.take k) ++ flatW (l.drop k) := by
    unfold flatW
    rw [← List.flatMap_append, List.take_append_drop]
  have h2 : 8 * k = (flatW (l.take k)).length := by rw [flatW_len, List.length_take, Nat.min_eq_left (by omega)]
  have h3 : l.drop k = l[k] :: l.drop (k + 1) := List.drop_eq_getElem_cons h
  rw [h1, h2, List.drop_left]
  show (l.drop k).flatMap _ = _
  rw [h3, List.flatMap_cons]
  rfl
set_option maxRecDepth 100000 in
set_option maxHeartbeats 4000000 in
theorem content_any {O : Nat} {m : Mem} {N : Nat → Prop} (k : Nat) (W : World) (h : MAt W O m N) (hk : k < m.length) :
    Calls Try.prog 19 #[.pointer (some ⟨O, 0, none⟩), .int .i64 k] W fun e w' => e = .returned (.string (strL m[k].now)) ∧ Below W.heap.size W w' := by
  have hle : m.length ≤ 20000 := by
    obtain ⟨p1, c1, p2, c2, b, n, hr⟩ := h
    have := hr.le
    have := hr.len
    omega
  have HIM := image_any W h
  obtain ⟨n, hn⟩ : ∃ n, 8 * m.length = n := ⟨_, rfl⟩
  obtain ⟨A, hA⟩ : ∃ A, 8 * k = A := ⟨_, rfl⟩
  rw [hn] at HIM
  have hw1 : IntKind.i64.wrap (8 * (k : Int)) = (A : Int) := by rw [IntKind.wrap_i64]; omega
  have hw2 : IntKind.i64.wrap ((A : Int) + 8) = ((A + 8 : Nat) : Int) := by rw [IntKind.wrap_i64]; omega
  have hlt : ¬ (n : Int) < ((A + 8 : Nat) : Int) := by omega
  have hdr : (flatW m.nows).drop A = m[k].now.toList ++ flatW (m.nows.drop (k + 1)) := by rw [← hA, flatW_drop _ k (by rw [nows_len]; exact hk), nows_get]
  have hfl : (flatW m.nows).length = n := by rw [flatW_len, nows_len, hn]
  obtain ⟨v, hv⟩ : ∃ v, m[k].now = v := ⟨_, rfl⟩
  rw [hv] at hdr ⊢
  have hAn : A + 8 ≤ n := by omega
  have hA8 : (A + 8 : Nat) - A = 8 := by omega
  have HX := Lib.hid (And.intro HIM (And.intro hdr (And.intro hfl (show n ≤ 160000 by omega))))
  clear HIM hdr hfl hn hA hv h hk hle
  go_enter Try.func19, Try.ntmps19
  go_wp2_with fail
  refine HX.out.1.mono ?_
  rintro e w1 ⟨q, d, rfl, hr, hb⟩
  obtain ⟨g, o, rfl, hg, -⟩ := hr.at A (by rw [HX.out.2.2.1]; omega)
  have hnd : n ≤ d := by have := hr.1; rw [HX.out.2.2.1] at this; exact this
  have hrt := hr.tail A (by rw [HX.out.2.2.1]; omega)
  rw [HX.out.2.1] at hrt
  have hrf := hrt.front (cap' := d - A) (by rw [Vector.length_toList]; omega) (Nat.le_refl _)
  have hby := refBytes_any (some ⟨g, o + A, none⟩) (d - A) v.toList w1 hrf (by rw [Vector.length_toList]; decide)
  rw [Vector.length_toList] at hby
  have HBY := Lib.hid hby
  have HB := Lib.hid hb
  have hdA : ¬ d - A = 0 := by omega
  have hdl : d ≤ 9223372036854775807 := by have := hr.2.1; unfold maxLen at this; exact this
  clear hby hrf hrt hr hg hb
  go_wp2_with fail
  refine HBY.out.mono ?_
  rintro e w2 ⟨v2, rfl, hown, hb2⟩
  obtain ⟨p2, c2, rfl, hr2, -⟩ := rdl_of_owns hown
  have hv1 := run_str hr2 45 5 9 Try.underlying45 Try.underlying5 Try.underlying9
  have HB2 := Lib.hid (HB.out.trans (hb2.mono HB.out.size))
  clear hown hb2 hr2 HBY HB
  go_wp2_with fail
  go_ret
  exact ⟨rfl, HB2.out⟩
end Go.Proofs.Ytaflbfmlajbjcaa
