/- The walk of the law HashSums. -/
import Derived.Test.YtandljkppgneoaaHashK
import Derived.Test.YtandljkppgneoaaStr
import Derived.Deep.DeepMust
namespace Go.Proofs.Ytandljkppgneoaa
open Go Go.RowKit

set_option maxRecDepth 100000 in
set_option maxHeartbeats 2000000 in
theorem lawHashSums_big (a b : BitVec 64) (p : Option Addr) (cap : Nat) (bs : List (BitVec 8)) (w : World) (hb : 2000 < bs.length) :
    Calls Try.prog 6 #[.agg #[vw a, vw b], .slice p bs.length cap] w fun e w' => e = .returned (.bool true) ∧ Below w.heap.size w w' := by
  have HA := Lib.hid ((At.start w).alloc (.cells #[vw a, vw b] 52))
  go_enter Try.func6, Try.ntmps6
  go_wp2_with fail
  refine (works2_any _).mono ?_
  rintro e w1 ⟨rfl, b1⟩
  have HA1 := Lib.hid (HA.out.below b1)
  clear b1
  go_wp2_with fail
  go_ret
  exact ⟨rfl, HA1.out.1⟩
set_option maxRecDepth 100000 in
set_option maxHeartbeats 4000000 in
theorem lawHashSums_in (a b : BitVec 64) (p : Option Addr) (cap : Nat) (bs : List (BitVec 8)) (w : World) (hrd : RdL w.heap.size w p cap vb bs) (hb : ¬ 2000 < bs.length) :
    Calls Try.prog 6 #[.agg #[vw a, vw b], .slice p bs.length cap] w fun e w' => e = .returned (.bool true) ∧ Below w.heap.size w w' := by
  have hA0 : At w.heap.size w (w.alloc (.cells #[vw a, vw b] 52)) := (At.start w).alloc _
  have hk : Kb w.heap.size a b (w.alloc (.cells #[vw a, vw b] 52)) := kb_new w a b
  have hA := hA0.alloc (.cells #[] 5)
  have ho0 : ((w.alloc (.cells #[vw a, vw b] 52)).alloc (.cells #[] 5)).ownsRow (w.heap.size + 1) 5 1 (.slice (some ⟨w.heap.size + 1, 0, none⟩) 0 0) 0 [] := by
    have := own_empty (w.alloc (.cells #[vw a, vw b] 52)) (w.heap.size + 1) 5 1 (by simp)
    rwa [World.size_alloc] at this
  have HO0 := Lib.hid ho0
  clear ho0
  have HA := Lib.hid hA
  have HR := Lib.hid hrd
  have HS := Lib.hid (hA.rdl hrd)
  have HK := Lib.hid hk
  have HZ := Lib.hid (hk.lt)
  clear hA hrd hk hA0
  have hcap := HR.out.1
  have hz := Lib.hid (show (w.alloc (.cells #[vw a, vw b] 52)).heap.size = w.heap.size + 1 by simp)
  go_enter Try.func6, Try.ntmps6
  go_wp2_with (first
    | (at_builtin; refine wpList_append0 rfl (.tmp 11) (.tmp 12) _ rfl elem_u8 vb (w.heap.size + 1) bs _ rfl _ _ _ rfl HO0.out HS.out (fun _ => rfl) ?_ ?_ ?_ ?_
       · omega
       · omega
       · simp [hz.out]
       intro v w1 hown hg _
       have HA1 := Lib.hid (HA.out.grown hg (by intro b hb; cases hb; exact Nat.le_succ _))
       have HK1 := Lib.hid ((HK.out.below ((Below.refl _ _).alloc (Nat.le_refl _) (.cells #[] 5))).kept (hg.block w.heap.size (by simp; have := hz.out; omega) (fun h => by have h2 : w.heap.size = w.heap.size + 1 := Option.some.inj h; omega)) hg.size)
       have HO1 := Lib.hid hown
       clear hg hown)
    | (at_builtin
       refine wpList_append1 rfl (.tmp 13) (.tmp 14) _ rfl elem_u8 vb (w.heap.size + 1) bs 77#8 _ rfl _ _ rfl (HO1.out.alloc _) 5 (Box.new w1 5 (vb 77#8)) rfl ?_ ?_ ?_ ?_
       · omega
       · omega
       · have := HK1.out.lt; simp; omega
       intro v2 w2 hown hg _ _
       have HA2 := Lib.hid ((HA1.out.alloc _).grown hg (fun b hb => by have := (HO1.out.lt b hb).1; omega))
       obtain ⟨p2, c2, rfl, hr2, _⟩ := rdl_of_owns hown
       have HR2 := Lib.hid hr2
       have hc2 : bs.length + 1 ≤ c2 := by simpa using hr2.1
       have hm2 : c2 ≤ 9223372036854775807 := hr2.2.1
       have HK2 := Lib.hid ((HK1.out.below ((Below.refl _ _).alloc (Nat.le_refl _) (.cells #[vb 77#8] 5))).kept (hg.block w.heap.size (by simp; have := HK1.out.lt; omega) (fun h => by have := (HO1.out.lt _ h.symm).1; omega)) hg.size)
       have k0 := HK2.out.c0
       have k1 := HK2.out.c1
       clear hg hown hr2))
  have HM := Lib.hid (HR2.out.front (cap' := c2) (by omega) (Nat.le_refl _))
  refine (hashSum_any a b p2 c2 bs _ HM.out (by omega)).mono ?_
  rintro e w3 ⟨rfl, hb3⟩
  have HA3 := Lib.hid (HA2.out.below hb3)
  have HM3 := Lib.hid (HM.out.on hb3)
  have HR3 := Lib.hid (HR2.out.on hb3)
  have hk3 := HK2.out.below hb3
  have k03 := hk3.c0
  have k13 := hk3.c1
  clear hb3 HM HR2 hk3
  go_wp2_with fail
  refine (refSum_any a b p cap bs _ (HA3.out.rdl HR.out) (by omega)).mono ?_
  rintro e w4 ⟨rfl, hb4⟩
  have HA4 := Lib.hid (HA3.out.below hb4)
  have HM4 := Lib.hid (HM3.out.on hb4)
  have HR4 := Lib.hid (HR3.out.on hb4)
  clear hb4 HM3 HR3
  have hv1 := run_str HM4.out 53 5 9 Try.underlying53 Try.underlying5 Try.underlying9
  have hv2 := run_str (HA4.out.rdl HR.out) 53 5 9 Try.underlying53 Try.underlying5 Try.underlying9
  obtain ⟨g, off, rfl, hgb, hcx⟩ := HR4.out.at bs.length (by simp)
  have hcx' : w4.cell? ⟨g, off + bs.length, none⟩ = some (vb 77#8) := by simpa using hcx
  have h77 : vb 77#8 = .int .u8 77 := rfl
  rw [h77] at hcx'
  clear hcx
  have hi1 : (0 : Int) ≤ (bs.length : Int) := by omega
  have hi2 : (bs.length : Int) < (bs.length : Int) + 1 := by omega
  go_wp2_with fail
  refine (works2_any _).mono ?_
  rintro e w9 ⟨rfl, hb9⟩
  have HA9 := Lib.hid (HA4.out.below hb9)
  go_wp2_with fail
  go_ret
  exact ⟨rfl, HA9.out.1⟩
theorem lawHashSums (a b : BitVec 64) (p : Option Addr) (cap : Nat) (bs : List (BitVec 8)) (w : World) (hrd : RdL w.heap.size w p cap vb bs) :
    Calls Try.prog 6 #[.agg #[vw a, vw b], .slice p bs.length cap] w fun e w' => e = .returned (.bool true) ∧ Below w.heap.size w w' := by
  by_cases hb : 2000 < bs.length
  · exact lawHashSums_big a b p cap bs w hb
  · exact lawHashSums_in a b p cap bs w hrd hb
end Go.Proofs.Ytandljkppgneoaa
