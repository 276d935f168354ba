/- The walk of the law HashCopies. -/
import Derived.Test.YthhdipfadnihjaaHashK
import Derived.Test.YthhdipfadnihjaaAppW
import Derived.Deep.RegionHeld3
namespace Go.Proofs.Ythhdipfadnihjaa
open Go Go.RowKit

theorem At.frn {n : Nat} {w a b : World} {X : Nat → Prop} (h : At n w a) (hf : Frn X a b) (hx : ∀ k, X k → n ≤ k) : At n w b := ⟨h.1.trans (hf.below h.2 hx), Nat.le_trans h.2 hf.size⟩
/-- What holds while a law on hashes runs: the arguments, the key's block, a state. -/
structure Sit (w W : World) (a b : BitVec 64) (T : Nat) (vs : List (BitVec 8)) (p : Option Addr) (c : Nat) : Prop where
  at' : At w.heap.size w W
  kb : Kb w.heap.size a b W
  ht : HAt W T a b vs p c
theorem Sit.below {w W W' : World} {a b : BitVec 64} {T : Nat} {vs : List (BitVec 8)} {p : Option Addr} {c : Nat} (h : Sit w W a b T vs p c) (hb : Below W.heap.size W W') : Sit w W' a b T vs p c :=
  ⟨h.at'.below hb, h.kb.below hb, h.ht.below hb⟩

set_option maxRecDepth 100000 in
set_option maxHeartbeats 2000000 in
theorem lawHashCopies_big (a b : BitVec 64) (p : Option Addr) (cap : Nat) (xs : List (BitVec 8)) (q : Option Addr) (capq : Nat) (ys : List (BitVec 8)) (w : World) (hb : 500 < xs.length ∨ 500 < ys.length) :
    Calls Try.prog 7 #[.agg #[vw a, vw b], .slice p xs.length cap, .slice q ys.length capq] w fun e w' => e = .returned (.bool true) ∧ Below w.heap.size w w' := by
  have HA := Lib.hid ((At.start w).alloc (.cells #[vw a, vw b] 69))
  by_cases hx : 500 < xs.length
  · clear hb
    go_enter Try.func7, Try.ntmps7
    go_wp2_with fail
    refine (works2_any _).mono ?_
    rintro e w1 ⟨rfl, b1⟩
    have HA1 := Lib.hid (HA.out.below b1)
    clear b1
    go_wp2_with fail
    go_ret
    exact ⟨rfl, HA1.out.1⟩
  · have hy : 500 < ys.length := by omega
    clear hb
    go_enter Try.func7, Try.ntmps7
    go_wp2_with fail
    refine (works2_any _).mono ?_
    rintro e w1 ⟨rfl, b1⟩
    have HA1 := Lib.hid (HA.out.below b1)
    clear b1
    go_wp2_with fail
    go_ret
    exact ⟨rfl, HA1.out.1⟩
set_option maxRecDepth 100000 in
set_option maxHeartbeats 4000000 in
theorem lawHashCopies_in (a b : BitVec 64) (p : Option Addr) (cap : Nat) (xs : List (BitVec 8)) (q : Option Addr) (capq : Nat) (ys : List (BitVec 8)) (w : World)
    (hrx : RdL w.heap.size w p cap vb xs) (hry : RdL w.heap.size w q capq vb ys) (hx : ¬ 500 < xs.length) (hy : ¬ 500 < ys.length) :
    Calls Try.prog 7 #[.agg #[vw a, vw b], .slice p xs.length cap, .slice q ys.length capq] w fun e w' => e = .returned (.bool true) ∧ Below w.heap.size w w' := by
  obtain ⟨wa, hwa⟩ : ∃ wa, w.alloc (.cells #[vw a, vw b] 69) = wa := ⟨_, rfl⟩
  have hA0 : At w.heap.size w wa := by rw [← hwa]; exact (At.start w).alloc _
  have hk0 : Kb w.heap.size a b wa := by rw [← hwa]; exact kb_new w a b
  have hz0 : wa.heap.size = w.heap.size + 1 := by rw [← hwa]; simp
  have HX := Lib.hid hrx
  have HY := Lib.hid hry
  have k0 := hk0.c0
  have k1 := hk0.c1
  have HA0 := Lib.hid hA0
  have HK0 := Lib.hid hk0
  have HZ0 := Lib.hid hz0
  have HWA := Lib.hid hwa
  have hcx := hrx.1
  have hcy := hry.1
  clear hrx hry hwa hA0 hk0 hz0
  go_enter Try.func7, Try.ntmps7
  go_wp2_with fail
  rw [HWA.out]
  refine (hnew_any a b wa).mono ?_
  rintro e w1 ⟨rfl, h1, b1, z1⟩
  obtain ⟨S, hS⟩ : ∃ S, wa.heap.size + 1 = S := ⟨_, rfl⟩
  rw [hS] at h1 ⊢
  have HS := Lib.hid (show w.heap.size < S by have := HZ0.out; omega)
  have H1 := Lib.hid h1
  have HA1 := Lib.hid (HA0.out.below b1)
  have HK1 := Lib.hid (HK0.out.below b1)
  clear b1 h1 hS z1 k0 k1
  go_wp2_with fail
  refine (hwrite_any S a b [] none 0 p cap xs w1 H1.out (HA1.out.rdl HX.out) (fun b hb => by have := HX.out.inlt hb; have := HS.out; omega) (by omega) (by simp)).mono ?_
  rintro e w2 ⟨rfl, ⟨p2, c2, h2, i2⟩, f2⟩
  rw [List.nil_append] at h2
  have H2 := Lib.hid h2
  have HA2 := Lib.hid (HA1.out.frn f2 (by rintro k rfl; exact Nat.le_of_lt HS.out))
  have HK2 := Lib.hid (HK1.out.frn f2 (by have := HS.out; omega))
  clear h2 f2 i2
  go_wp2_with fail
  refine (hcopy_any S a b xs p2 c2 w2 H2.out).mono ?_
  rintro e w3 ⟨rfl, ⟨p3, c3, h3, i3⟩, b3⟩
  obtain ⟨T, hT⟩ : ∃ T, w2.heap.size = T := ⟨_, rfl⟩
  have hST : S < T := by rw [← hT]; exact H2.out.lt
  have h2' := H2.out.below b3
  have hA3 := HA2.out.below b3
  have hK3 := HK2.out.below b3
  rw [hT] at h3 i3 ⊢
  have HST := Lib.hid hST
  have H3 := Lib.hid h3
  have H2' := Lib.hid h2'
  have HA3 := Lib.hid hA3
  have HK3 := Lib.hid hK3
  have I3 := Lib.hid i3
  clear h3 h2' hA3 hK3 i3 hT hST b3
  go_wp2_with fail
  refine (hwrite_any S a b xs p2 c2 q capq ys w3 H2'.out (HA3.out.rdl HY.out) (fun b hb => by have := HY.out.inlt hb; have := HS.out; omega) (by omega) (by omega)).mono ?_
  rintro e w4 ⟨rfl, ⟨p4, c4, h4, i4⟩, f4⟩
  have H4 := Lib.hid h4
  have HA4 := Lib.hid (HA3.out.frn f4 (by rintro k rfl; exact Nat.le_of_lt HS.out))
  have HK4 := Lib.hid (HK3.out.frn f4 (by have := HS.out; omega))
  have HT4 := Lib.hid (H3.out.keep f4 (by have := HST.out; omega) (by intro b hb h; have := I3.out b hb; have := HST.out; omega))
  have I4 := Lib.hid (show ∀ b, inP p4 c4 b → T < b from fun b hb => Nat.lt_of_lt_of_le H3.out.lt (i4 b hb))
  clear h4 f4 i4
  go_wp2_with fail
  refine (hwrite_any T a b xs p3 c3 q capq ys w4 HT4.out (HA4.out.rdl HY.out) (fun b hb => by have := HY.out.inlt hb; have := HS.out; have := HST.out; omega) (by omega) (by omega)).mono ?_
  rintro e w5 ⟨rfl, ⟨p5, c5, h5, i5⟩, f5⟩
  have H5 := Lib.hid h5
  have HA5 := Lib.hid (HA4.out.frn f5 (by rintro k rfl; have := HS.out; have := HST.out; omega))
  have HK5 := Lib.hid (HK4.out.frn f5 (by have := HS.out; have := HST.out; omega))
  have HS5 := Lib.hid (H4.out.keep f5 (by have := HST.out; omega) (by intro b hb h; have := I4.out b hb; omega))
  clear h5 f5 i5
  go_wp2_with fail
  refine (hwrite_any T a b (xs ++ ys) p5 c5 p cap xs w5 H5.out (HA5.out.rdl HX.out) (fun b hb => by have := HX.out.inlt hb; have := HS.out; have := HST.out; omega) (by omega) (by simp; omega)).mono ?_
  rintro e w6 ⟨rfl, ⟨p6, c6, h6, i6⟩, f6⟩
  have hA6 := HA5.out.frn f6 (by rintro k rfl; have := HS.out; have := HST.out; omega)
  have hK6 := HK5.out.frn f6 (by have := HS.out; have := HST.out; omega)
  have hS6 := HS5.out.keep f6 (by have := HST.out; omega) (by intro b hb h; have := I4.out b hb; omega)
  have hbd : Below w6.heap.size w6 w6.drew := (Below.refl _ _).drew
  have HS6 := Lib.hid (hS6.below hbd)
  have S6 := Lib.hid (Sit.below ⟨hA6, hK6, h6⟩ hbd)
  have k0 := S6.out.kb.c0
  have k1 := S6.out.kb.c1
  clear h6 f6 i6 hA6 hK6 hS6 hbd
  go_wp2_with fail
  have A0 := Lib.hid (At.start w6.drew)
  refine wp_region_noPanic ?_
  refine wp_region_held_drew (S := (fun w' => w'.cell? ⟨w.heap.size, 0, none⟩ = some (vw a) ∧ w'.cell? ⟨w.heap.size, 1, none⟩ = some (vw b))) (by kernel_rfl) ?_ (fun hHeld => ?_)
  · exact ⟨k0, k1⟩
  refine' wpAnyH_take (i := 0) (v := _) rfl (by kernel_rfl) (by kernel_rfl) (by kernel_rfl) (fun _ _ _ h => h) (Or.inl ⟨by rfl, ?hy⟩) (by assumption) _
  case hy => (intro w0 hSw; (try dsimp only at hSw); simp only [List.getElem_toArray, List.getElem_cons_zero, List.getElem_cons_succ]; go_simp; first | done | with_reducible rfl)
  try simp only [Act.put, List.getElem_toArray, List.getElem_cons_zero, List.getElem_cons_succ, List.setIfInBounds_toArray, List.set_cons_zero, List.set_cons_succ]
  refine' wpAnyH_take (i := 2) (v := _) rfl (by kernel_rfl) (by kernel_rfl) (by kernel_rfl) (fun _ _ _ h => h) (Or.inl ⟨by rfl, ?hy⟩) (by assumption) _
  case hy => (intro w0 hSw; (try dsimp only at hSw); simp only [List.getElem_toArray, List.getElem_cons_zero, List.getElem_cons_succ]; go_simp; first | done | with_reducible rfl)
  try simp only [Act.put, List.getElem_toArray, List.getElem_cons_zero, List.getElem_cons_succ, List.setIfInBounds_toArray, List.set_cons_zero, List.set_cons_succ]
  refine' wpAnyH_take (i := 4) (v := _) rfl (by kernel_rfl) (by kernel_rfl) (by kernel_rfl) (fun _ _ _ h => h) (Or.inl ⟨by rfl, ?hy⟩) (by assumption) _
  case hy => (intro w0 hSw; (try dsimp only at hSw); simp only [List.getElem_toArray, List.getElem_cons_zero, List.getElem_cons_succ]; go_simp; first | done | with_reducible rfl)
  try simp only [Act.put, List.getElem_toArray, List.getElem_cons_zero, List.getElem_cons_succ, List.setIfInBounds_toArray, List.set_cons_zero, List.set_cons_succ]
  refine' wpAnyH_take (i := 6) (v := _) rfl (by kernel_rfl) (by kernel_rfl) (by kernel_rfl) (fun _ _ _ h => h) (Or.inl ⟨by rfl, ?hy⟩) (by assumption) _
  case hy => (intro w0 hSw; (try dsimp only at hSw); simp only [List.getElem_toArray, List.getElem_cons_zero, List.getElem_cons_succ]; go_simp; first | done | with_reducible rfl)
  try simp only [Act.put, List.getElem_toArray, List.getElem_cons_zero, List.getElem_cons_succ, List.setIfInBounds_toArray, List.set_cons_zero, List.set_cons_succ]
  refine wpAnyH_ready (rs := [1, 3]) (by kernel_rfl) (by simp) ?_
  refine AllReadyH.cons rfl (fun K hK => ?_) (AllReadyH.cons rfl (fun K hK => ?_) AllReadyH.nil)
  · skip
    go_simp
    refine (hsumAt_any S a b (xs ++ ys) p4 c4 w6.drew (HS6.out.below A0.out.1) (by simp; omega)).mono ?_
    rintro e v1 ⟨rfl, bd1⟩
    have A1 := Lib.hid (A0.out.below bd1)
    clear bd1
    go_wp2_with fail
    refine hK.out _ _ ?_ (fun hHeld => ?_)
    · exact ⟨(S6.out.below A1.out.1).kb.c0, (S6.out.below A1.out.1).kb.c1⟩
    clear hK K
    try simp only [Act.put, List.getElem_toArray, List.getElem_cons_zero, List.getElem_cons_succ, List.setIfInBounds_toArray, List.set_cons_zero, List.set_cons_succ]
    refine wpAnyH_ready (rs := [3]) (by kernel_rfl) (by simp) ?_
    refine AllReadyH.cons rfl (fun K hK => ?_) AllReadyH.nil
    go_simp
    have A2 := Lib.hid (A1.out.alloc (.cells #[] 5))
    have O2 := Lib.hid (own_empty v1 w6.drew.heap.size 5 1 A1.out.2)
    refine hK.out _ _ ?_ (fun hHeld => ?_)
    · exact ⟨(S6.out.below A2.out.1).kb.c0, (S6.out.below A2.out.1).kb.c1⟩
    clear hK K
    try simp only [Act.put, List.getElem_toArray, List.getElem_cons_zero, List.getElem_cons_succ, List.setIfInBounds_toArray, List.set_cons_zero, List.set_cons_succ]
    refine wpAnyH_ready (rs := [5]) (by kernel_rfl) (by simp) ?_
    refine AllReadyH.cons rfl (fun K hK => ?_) AllReadyH.nil
    refine stepW_append0 (by rfl) (.tmp 37) (.tmp 38) _ rfl elem_u8 vb w6.drew.heap.size xs _ rfl _ _ _ rfl O2.out ((S6.out.below A2.out.1).at'.rdl HX.out) (fun _ => rfl) ?_ ?_ ?_ ?_
    · omega
    · omega
    · exact A2.out.2
    intro u3 v3 hown hg _
    have A3 := Lib.hid (A2.out.grown hg (fun b hb => (O2.out.lt b hb).1))
    have O3 := Lib.hid hown
    clear hown hg
    refine hK.out _ _ ?_ (fun hHeld => ?_)
    · exact ⟨(S6.out.below A3.out.1).kb.c0, (S6.out.below A3.out.1).kb.c1⟩
    clear hK K
    try simp only [Act.put, List.getElem_toArray, List.getElem_cons_zero, List.getElem_cons_succ, List.setIfInBounds_toArray, List.set_cons_zero, List.set_cons_succ]
    refine wpAnyH_ready (rs := [7]) (by kernel_rfl) (by simp) ?_
    refine AllReadyH.cons rfl (fun K hK => ?_) AllReadyH.nil
    refine stepW_appendR (by rfl) (.tmp 39) (.tmp 40) _ rfl elem_u8 vb w6.drew.heap.size xs ys _ rfl _ _ _ rfl O3.out ((S6.out.below A3.out.1).at'.rdl HY.out) (fun _ => rfl) ?_ ?_ ?_ ?_
    · omega
    · omega
    · exact A3.out.2
    intro u4 v4 hown hg _
    have A4 := Lib.hid (A3.out.grown hg (fun b hb => (O3.out.lt b hb).1))
    have O4 := Lib.hid hown
    clear hown hg
    refine hK.out _ _ ?_ (fun hHeld => ?_)
    · exact ⟨(S6.out.below A4.out.1).kb.c0, (S6.out.below A4.out.1).kb.c1⟩
    clear hK K
    try simp only [Act.put, List.getElem_toArray, List.getElem_cons_zero, List.getElem_cons_succ, List.setIfInBounds_toArray, List.set_cons_zero, List.set_cons_succ]
    refine wpAnyH_ready (rs := [8]) (by kernel_rfl) (by simp) ?_
    refine AllReadyH.cons rfl (fun K hK => ?_) AllReadyH.nil
    obtain ⟨pp5, cc5, hv5, hr5, _⟩ := rdl_of_owns O4.out
    have hs5 := hashSum_any a b pp5 cc5 (xs ++ ys) v4 hr5 (by simp; omega)
    rw [List.length_append] at hs5
    try rw [List.length_append] at hv5
    subst hv5
    go_simp
    refine hs5.mono ?_
    clear hs5 hr5
    rintro e v5 ⟨rfl, bd5⟩
    have A5 := Lib.hid (A4.out.below bd5)
    clear bd5
    go_wp2_with fail
    refine hK.out _ _ ?_ (fun hHeld => ?_)
    · exact ⟨(S6.out.below A5.out.1).kb.c0, (S6.out.below A5.out.1).kb.c1⟩
    clear hK K
    try simp only [Act.put, List.getElem_toArray, List.getElem_cons_zero, List.getElem_cons_succ, List.setIfInBounds_toArray, List.set_cons_zero, List.set_cons_succ]
    refine' wpAnyH_take (i := 9) (v := _) rfl (by kernel_rfl) (by kernel_rfl) (by kernel_rfl) (fun _ _ _ h => h) (Or.inl ⟨by rfl, ?hy⟩) (by assumption) _
    case hy => (intro w0 hSw; (try dsimp only at hSw); simp only [List.getElem_toArray, List.getElem_cons_zero, List.getElem_cons_succ]; go_simp; first | done | with_reducible rfl)
    try simp only [Act.put, List.getElem_toArray, List.getElem_cons_zero, List.getElem_cons_succ, List.setIfInBounds_toArray, List.set_cons_zero, List.set_cons_succ]
    refine' wpAnyH_take (i := 10) (v := _) rfl (by kernel_rfl) (by kernel_rfl) (by kernel_rfl) (fun _ _ _ h => h) (Or.inl ⟨by rfl, ?hy⟩) (by assumption) _
    case hy => (intro w0 hSw; (try dsimp only at hSw); simp only [List.getElem_toArray, List.getElem_cons_zero, List.getElem_cons_succ]; go_simp; first | done | with_reducible rfl)
    try simp only [Act.put, List.getElem_toArray, List.getElem_cons_zero, List.getElem_cons_succ, List.setIfInBounds_toArray, List.set_cons_zero, List.set_cons_succ]
    refine' wpAnyH_take (i := 11) (v := _) rfl (by kernel_rfl) (by kernel_rfl) (by kernel_rfl) (fun _ _ _ h => h) (Or.inl ⟨by rfl, ?hy⟩) (by assumption) _
    case hy => (intro w0 hSw; (try dsimp only at hSw); simp only [List.getElem_toArray, List.getElem_cons_zero, List.getElem_cons_succ]; go_simp; first | done | with_reducible rfl)
    try simp only [Act.put, List.getElem_toArray, List.getElem_cons_zero, List.getElem_cons_succ, List.setIfInBounds_toArray, List.set_cons_zero, List.set_cons_succ]
    refine' wpAnyH_take (i := 13) (v := _) rfl (by kernel_rfl) (by kernel_rfl) (by kernel_rfl) (fun _ _ _ h => h) (Or.inl ⟨by rfl, ?hy⟩) (by assumption) _
    case hy => (intro w0 hSw; (try dsimp only at hSw); simp only [List.getElem_toArray, List.getElem_cons_zero, List.getElem_cons_succ]; go_simp; first | done | with_reducible rfl)
    try simp only [Act.put, List.getElem_toArray, List.getElem_cons_zero, List.getElem_cons_succ, List.setIfInBounds_toArray, List.set_cons_zero, List.set_cons_succ]
    refine' wpAnyH_take (i := 15) (v := _) rfl (by kernel_rfl) (by kernel_rfl) (by kernel_rfl) (fun _ _ _ h => h) (Or.inl ⟨by rfl, ?hy⟩) (by assumption) _
    case hy => (intro w0 hSw; (try dsimp only at hSw); simp only [List.getElem_toArray, List.getElem_cons_zero, List.getElem_cons_succ]; go_simp; first | done | with_reducible rfl)
    try simp only [Act.put, List.getElem_toArray, List.getElem_cons_zero, List.getElem_cons_succ, List.setIfInBounds_toArray, List.set_cons_zero, List.set_cons_succ]
    refine' wpAnyH_take (i := 17) (v := _) rfl (by kernel_rfl) (by kernel_rfl) (by kernel_rfl) (fun _ _ _ h => h) (Or.inl ⟨by rfl, ?hy⟩) (by assumption) _
    case hy => (intro w0 hSw; (try dsimp only at hSw); simp only [List.getElem_toArray, List.getElem_cons_zero, List.getElem_cons_succ]; go_simp; first | done | with_reducible rfl)
    try simp only [Act.put, List.getElem_toArray, List.getElem_cons_zero, List.getElem_cons_succ, List.setIfInBounds_toArray, List.set_cons_zero, List.set_cons_succ]
    refine' wpAnyH_take (i := 19) (v := _) rfl (by kernel_rfl) (by kernel_rfl) (by kernel_rfl) (fun _ _ _ h => h) (Or.inl ⟨by rfl, ?hy⟩) (by assumption) _
    case hy => (intro w0 hSw; (try dsimp only at hSw); simp only [List.getElem_toArray, List.getElem_cons_zero, List.getElem_cons_succ]; go_simp; first | done | with_reducible rfl)
    try simp only [Act.put, List.getElem_toArray, List.getElem_cons_zero, List.getElem_cons_succ, List.setIfInBounds_toArray, List.set_cons_zero, List.set_cons_succ]
    refine wpAnyH_ready (rs := [12, 14]) (by kernel_rfl) (by simp) ?_
    refine AllReadyH.cons rfl (fun K hK => ?_) (AllReadyH.cons rfl (fun K hK => ?_) AllReadyH.nil)
    · skip
      go_simp
      refine (hsumAt_any T a b (xs ++ ys ++ xs) p6 c6 v5 (S6.out.below A5.out.1).ht (by simp; omega)).mono ?_
      rintro e v6 ⟨rfl, bd6⟩
      have A6 := Lib.hid (A5.out.below bd6)
      clear bd6
      go_wp2_with fail
      refine hK.out _ _ ?_ (fun hHeld => ?_)
      · exact ⟨(S6.out.below A6.out.1).kb.c0, (S6.out.below A6.out.1).kb.c1⟩
      clear hK K
      try simp only [Act.put, List.getElem_toArray, List.getElem_cons_zero, List.getElem_cons_succ, List.setIfInBounds_toArray, List.set_cons_zero, List.set_cons_succ]
      refine wpAnyH_ready (rs := [14]) (by kernel_rfl) (by simp) ?_
      refine AllReadyH.cons rfl (fun K hK => ?_) AllReadyH.nil
      go_simp
      have A7 := Lib.hid (A6.out.alloc (.cells #[] 5))
      have O7 := Lib.hid (own_empty v6 w6.drew.heap.size 5 1 A6.out.2)
      refine hK.out _ _ ?_ (fun hHeld => ?_)
      · exact ⟨(S6.out.below A7.out.1).kb.c0, (S6.out.below A7.out.1).kb.c1⟩
      clear hK K
      try simp only [Act.put, List.getElem_toArray, List.getElem_cons_zero, List.getElem_cons_succ, List.setIfInBounds_toArray, List.set_cons_zero, List.set_cons_succ]
      refine wpAnyH_ready (rs := [16]) (by kernel_rfl) (by simp) ?_
      refine AllReadyH.cons rfl (fun K hK => ?_) AllReadyH.nil
      refine stepW_append0 (by rfl) (.tmp 48) (.tmp 49) _ rfl elem_u8 vb w6.drew.heap.size xs _ rfl _ _ _ rfl O7.out ((S6.out.below A7.out.1).at'.rdl HX.out) (fun _ => rfl) ?_ ?_ ?_ ?_
      · omega
      · omega
      · exact A7.out.2
      intro u8 v8 hown hg _
      have A8 := Lib.hid (A7.out.grown hg (fun b hb => (O7.out.lt b hb).1))
      have O8 := Lib.hid hown
      clear hown hg
      refine hK.out _ _ ?_ (fun hHeld => ?_)
      · exact ⟨(S6.out.below A8.out.1).kb.c0, (S6.out.below A8.out.1).kb.c1⟩
      clear hK K
      try simp only [Act.put, List.getElem_toArray, List.getElem_cons_zero, List.getElem_cons_succ, List.setIfInBounds_toArray, List.set_cons_zero, List.set_cons_succ]
      refine wpAnyH_ready (rs := [18]) (by kernel_rfl) (by simp) ?_
      refine AllReadyH.cons rfl (fun K hK => ?_) AllReadyH.nil
      refine stepW_appendR (by rfl) (.tmp 50) (.tmp 51) _ rfl elem_u8 vb w6.drew.heap.size xs ys _ rfl _ _ _ rfl O8.out ((S6.out.below A8.out.1).at'.rdl HY.out) (fun _ => rfl) ?_ ?_ ?_ ?_
      · omega
      · omega
      · exact A8.out.2
      intro u9 v9 hown hg _
      have A9 := Lib.hid (A8.out.grown hg (fun b hb => (O8.out.lt b hb).1))
      have O9 := Lib.hid hown
      clear hown hg
      refine hK.out _ _ ?_ (fun hHeld => ?_)
      · exact ⟨(S6.out.below A9.out.1).kb.c0, (S6.out.below A9.out.1).kb.c1⟩
      clear hK K
      try simp only [Act.put, List.getElem_toArray, List.getElem_cons_zero, List.getElem_cons_succ, List.setIfInBounds_toArray, List.set_cons_zero, List.set_cons_succ]
      refine wpAnyH_ready (rs := [20]) (by kernel_rfl) (by simp) ?_
      refine AllReadyH.cons rfl (fun K hK => ?_) AllReadyH.nil
      refine stepW_appendR (by rfl) (.tmp 52) (.tmp 53) _ rfl elem_u8 vb w6.drew.heap.size (xs ++ ys) xs _ rfl _ _ _ rfl O9.out ((S6.out.below A9.out.1).at'.rdl HX.out) (fun _ => rfl) ?_ ?_ ?_ ?_
      · simp; omega
      · omega
      · exact A9.out.2
      intro u10 v10 hown hg _
      have A10 := Lib.hid (A9.out.grown hg (fun b hb => (O9.out.lt b hb).1))
      have O10 := Lib.hid hown
      clear hown hg
      refine hK.out _ _ ?_ (fun hHeld => ?_)
      · exact ⟨(S6.out.below A10.out.1).kb.c0, (S6.out.below A10.out.1).kb.c1⟩
      clear hK K
      try simp only [Act.put, List.getElem_toArray, List.getElem_cons_zero, List.getElem_cons_succ, List.setIfInBounds_toArray, List.set_cons_zero, List.set_cons_succ]
      refine wpAnyH_ready (rs := [21]) (by kernel_rfl) (by simp) ?_
      refine AllReadyH.cons rfl (fun K hK => ?_) AllReadyH.nil
      obtain ⟨pp11, cc11, hv11, hr11, _⟩ := rdl_of_owns O10.out
      have hs11 := hashSum_any a b pp11 cc11 (xs ++ ys ++ xs) v10 hr11 (by simp; omega)
      rw [List.length_append, List.length_append] at hs11
      try rw [List.length_append, List.length_append] at hv11
      subst hv11
      go_simp
      refine hs11.mono ?_
      clear hs11 hr11
      rintro e v11 ⟨rfl, bd11⟩
      have A11 := Lib.hid (A10.out.below bd11)
      clear bd11
      go_wp2_with fail
      refine hK.out _ _ ?_ (fun hHeld => ?_)
      · exact ⟨(S6.out.below A11.out.1).kb.c0, (S6.out.below A11.out.1).kb.c1⟩
      clear hK K
      try simp only [Act.put, List.getElem_toArray, List.getElem_cons_zero, List.getElem_cons_succ, List.setIfInBounds_toArray, List.set_cons_zero, List.set_cons_succ]
      refine' wpAnyH_take (i := 22) (v := _) rfl (by kernel_rfl) (by kernel_rfl) (by kernel_rfl) (fun _ _ _ h => h) (Or.inl ⟨by rfl, ?hy⟩) (by assumption) _
      case hy => (intro w0 hSw; (try dsimp only at hSw); simp only [List.getElem_toArray, List.getElem_cons_zero, List.getElem_cons_succ]; go_simp; first | done | with_reducible rfl)
      try simp only [Act.put, List.getElem_toArray, List.getElem_cons_zero, List.getElem_cons_succ, List.setIfInBounds_toArray, List.set_cons_zero, List.set_cons_succ]
      refine' wpAnyH_take (i := 23) (v := _) rfl (by kernel_rfl) (by kernel_rfl) (by kernel_rfl) (fun _ _ _ h => h) (Or.inl ⟨by rfl, ?hy⟩) (by assumption) _
      case hy => (intro w0 hSw; (try dsimp only at hSw); simp only [List.getElem_toArray, List.getElem_cons_zero, List.getElem_cons_succ]; go_simp; first | done | with_reducible rfl)
      try simp only [Act.put, List.getElem_toArray, List.getElem_cons_zero, List.getElem_cons_succ, List.setIfInBounds_toArray, List.set_cons_zero, List.set_cons_succ]
      refine' wpAnyH_take (i := 24) (v := _) rfl (by kernel_rfl) (by kernel_rfl) (by kernel_rfl) (fun _ _ _ h => h) (Or.inl ⟨by rfl, ?hy⟩) (by assumption) _
      case hy => (intro w0 hSw; (try dsimp only at hSw); simp only [List.getElem_toArray, List.getElem_cons_zero, List.getElem_cons_succ]; go_simp; first | done | with_reducible rfl)
      try simp only [Act.put, List.getElem_toArray, List.getElem_cons_zero, List.getElem_cons_succ, List.setIfInBounds_toArray, List.set_cons_zero, List.set_cons_succ]
      refine wpAnyH_ready (rs := [25]) (by kernel_rfl) (by simp) ?_
      refine AllReadyH.cons rfl (fun K hK => ?_) AllReadyH.nil
      go_simp
      refine (works2_any v11).mono ?_
      rintro e v12 ⟨rfl, bd12⟩
      have A12 := Lib.hid (A11.out.below bd12)
      clear bd12
      go_wp2_with fail
      refine hK.out _ _ ?_ (fun hHeld => ?_)
      · exact ⟨(S6.out.below A12.out.1).kb.c0, (S6.out.below A12.out.1).kb.c1⟩
      clear hK K
      try simp only [Act.put, List.getElem_toArray, List.getElem_cons_zero, List.getElem_cons_succ, List.setIfInBounds_toArray, List.set_cons_zero, List.set_cons_succ]
      refine' wpAnyH_take (i := 26) (v := _) rfl (by kernel_rfl) (by kernel_rfl) (by kernel_rfl) (fun _ _ _ h => h) (Or.inl ⟨by rfl, ?hy⟩) (by assumption) _
      case hy => (intro w0 hSw; (try dsimp only at hSw); simp only [List.getElem_toArray, List.getElem_cons_zero, List.getElem_cons_succ]; go_simp; first | done | with_reducible rfl)
      try simp only [Act.put, List.getElem_toArray, List.getElem_cons_zero, List.getElem_cons_succ, List.setIfInBounds_toArray, List.set_cons_zero, List.set_cons_succ]
      refine' wpAnyH_take (i := 27) (v := _) rfl (by kernel_rfl) (by kernel_rfl) (by kernel_rfl) (fun _ _ _ h => h) (Or.inl ⟨by rfl, ?hy⟩) (by assumption) _
      case hy => (intro w0 hSw; (try dsimp only at hSw); simp only [List.getElem_toArray, List.getElem_cons_zero, List.getElem_cons_succ]; go_simp; first | done | with_reducible rfl)
      try simp only [Act.put, List.getElem_toArray, List.getElem_cons_zero, List.getElem_cons_succ, List.setIfInBounds_toArray, List.set_cons_zero, List.set_cons_succ]
      refine wpAnyH_done (by kernel_rfl) ?_ _
      refine NoPanic.normal ?_
      go_wp2_with fail
      go_ret
      exact ⟨rfl, (S6.out.below A12.out.1).at'.1⟩
    · skip
      go_simp
      have A13 := Lib.hid (A5.out.alloc (.cells #[] 5))
      have O13 := Lib.hid (own_empty v5 w6.drew.heap.size 5 1 A5.out.2)
      refine hK.out _ _ ?_ (fun hHeld => ?_)
      · exact ⟨(S6.out.below A13.out.1).kb.c0, (S6.out.below A13.out.1).kb.c1⟩
      clear hK K
      try simp only [Act.put, List.getElem_toArray, List.getElem_cons_zero, List.getElem_cons_succ, List.setIfInBounds_toArray, List.set_cons_zero, List.set_cons_succ]
      refine wpAnyH_ready (rs := [12]) (by kernel_rfl) (by simp) ?_
      refine AllReadyH.cons rfl (fun K hK => ?_) AllReadyH.nil
      go_simp
      refine (hsumAt_any T a b (xs ++ ys ++ xs) p6 c6 (v5.alloc (.cells #[] 5)) (S6.out.below A13.out.1).ht (by simp; omega)).mono ?_
      rintro e v14 ⟨rfl, bd14⟩
      have A14 := Lib.hid (A13.out.below bd14)
      have O14 := Lib.hid (own_below O13.out bd14)
      clear bd14
      go_wp2_with fail
      refine hK.out _ _ ?_ (fun hHeld => ?_)
      · exact ⟨(S6.out.below A14.out.1).kb.c0, (S6.out.below A14.out.1).kb.c1⟩
      clear hK K
      try simp only [Act.put, List.getElem_toArray, List.getElem_cons_zero, List.getElem_cons_succ, List.setIfInBounds_toArray, List.set_cons_zero, List.set_cons_succ]
      refine wpAnyH_ready (rs := [16]) (by kernel_rfl) (by simp) ?_
      refine AllReadyH.cons rfl (fun K hK => ?_) AllReadyH.nil
      refine stepW_append0 (by rfl) (.tmp 48) (.tmp 49) _ rfl elem_u8 vb w6.drew.heap.size xs _ rfl _ _ _ rfl O14.out ((S6.out.below A14.out.1).at'.rdl HX.out) (fun _ => rfl) ?_ ?_ ?_ ?_
      · omega
      · omega
      · exact A14.out.2
      intro u15 v15 hown hg _
      have A15 := Lib.hid (A14.out.grown hg (fun b hb => (O14.out.lt b hb).1))
      have O15 := Lib.hid hown
      clear hown hg
      refine hK.out _ _ ?_ (fun hHeld => ?_)
      · exact ⟨(S6.out.below A15.out.1).kb.c0, (S6.out.below A15.out.1).kb.c1⟩
      clear hK K
      try simp only [Act.put, List.getElem_toArray, List.getElem_cons_zero, List.getElem_cons_succ, List.setIfInBounds_toArray, List.set_cons_zero, List.set_cons_succ]
      refine wpAnyH_ready (rs := [18]) (by kernel_rfl) (by simp) ?_
      refine AllReadyH.cons rfl (fun K hK => ?_) AllReadyH.nil
      refine stepW_appendR (by rfl) (.tmp 50) (.tmp 51) _ rfl elem_u8 vb w6.drew.heap.size xs ys _ rfl _ _ _ rfl O15.out ((S6.out.below A15.out.1).at'.rdl HY.out) (fun _ => rfl) ?_ ?_ ?_ ?_
      · omega
      · omega
      · exact A15.out.2
      intro u16 v16 hown hg _
      have A16 := Lib.hid (A15.out.grown hg (fun b hb => (O15.out.lt b hb).1))
      have O16 := Lib.hid hown
      clear hown hg
      refine hK.out _ _ ?_ (fun hHeld => ?_)
      · exact ⟨(S6.out.below A16.out.1).kb.c0, (S6.out.below A16.out.1).kb.c1⟩
      clear hK K
      try simp only [Act.put, List.getElem_toArray, List.getElem_cons_zero, List.getElem_cons_succ, List.setIfInBounds_toArray, List.set_cons_zero, List.set_cons_succ]
      refine wpAnyH_ready (rs := [20]) (by kernel_rfl) (by simp) ?_
      refine AllReadyH.cons rfl (fun K hK => ?_) AllReadyH.nil
      refine stepW_appendR (by rfl) (.tmp 52) (.tmp 53) _ rfl elem_u8 vb w6.drew.heap.size (xs ++ ys) xs _ rfl _ _ _ rfl O16.out ((S6.out.below A16.out.1).at'.rdl HX.out) (fun _ => rfl) ?_ ?_ ?_ ?_
      · simp; omega
      · omega
      · exact A16.out.2
      intro u17 v17 hown hg _
      have A17 := Lib.hid (A16.out.grown hg (fun b hb => (O16.out.lt b hb).1))
      have O17 := Lib.hid hown
      clear hown hg
      refine hK.out _ _ ?_ (fun hHeld => ?_)
      · exact ⟨(S6.out.below A17.out.1).kb.c0, (S6.out.below A17.out.1).kb.c1⟩
      clear hK K
      try simp only [Act.put, List.getElem_toArray, List.getElem_cons_zero, List.getElem_cons_succ, List.setIfInBounds_toArray, List.set_cons_zero, List.set_cons_succ]
      refine wpAnyH_ready (rs := [21]) (by kernel_rfl) (by simp) ?_
      refine AllReadyH.cons rfl (fun K hK => ?_) AllReadyH.nil
      obtain ⟨pp18, cc18, hv18, hr18, _⟩ := rdl_of_owns O17.out
      have hs18 := hashSum_any a b pp18 cc18 (xs ++ ys ++ xs) v17 hr18 (by simp; omega)
      rw [List.length_append, List.length_append] at hs18
      try rw [List.length_append, List.length_append] at hv18
      subst hv18
      go_simp
      refine hs18.mono ?_
      clear hs18 hr18
      rintro e v18 ⟨rfl, bd18⟩
      have A18 := Lib.hid (A17.out.below bd18)
      clear bd18
      go_wp2_with fail
      refine hK.out _ _ ?_ (fun hHeld => ?_)
      · exact ⟨(S6.out.below A18.out.1).kb.c0, (S6.out.below A18.out.1).kb.c1⟩
      clear hK K
      try simp only [Act.put, List.getElem_toArray, List.getElem_cons_zero, List.getElem_cons_succ, List.setIfInBounds_toArray, List.set_cons_zero, List.set_cons_succ]
      refine' wpAnyH_take (i := 22) (v := _) rfl (by kernel_rfl) (by kernel_rfl) (by kernel_rfl) (fun _ _ _ h => h) (Or.inl ⟨by rfl, ?hy⟩) (by assumption) _
      case hy => (intro w0 hSw; (try dsimp only at hSw); simp only [List.getElem_toArray, List.getElem_cons_zero, List.getElem_cons_succ]; go_simp; first | done | with_reducible rfl)
      try simp only [Act.put, List.getElem_toArray, List.getElem_cons_zero, List.getElem_cons_succ, List.setIfInBounds_toArray, List.set_cons_zero, List.set_cons_succ]
      refine' wpAnyH_take (i := 23) (v := _) rfl (by kernel_rfl) (by kernel_rfl) (by kernel_rfl) (fun _ _ _ h => h) (Or.inl ⟨by rfl, ?hy⟩) (by assumption) _
      case hy => (intro w0 hSw; (try dsimp only at hSw); simp only [List.getElem_toArray, List.getElem_cons_zero, List.getElem_cons_succ]; go_simp; first | done | with_reducible rfl)
      try simp only [Act.put, List.getElem_toArray, List.getElem_cons_zero, List.getElem_cons_succ, List.setIfInBounds_toArray, List.set_cons_zero, List.set_cons_succ]
      refine' wpAnyH_take (i := 24) (v := _) rfl (by kernel_rfl) (by kernel_rfl) (by kernel_rfl) (fun _ _ _ h => h) (Or.inl ⟨by rfl, ?hy⟩) (by assumption) _
      case hy => (intro w0 hSw; (try dsimp only at hSw); simp only [List.getElem_toArray, List.getElem_cons_zero, List.getElem_cons_succ]; go_simp; first | done | with_reducible rfl)
      try simp only [Act.put, List.getElem_toArray, List.getElem_cons_zero, List.getElem_cons_succ, List.setIfInBounds_toArray, List.set_cons_zero, List.set_cons_succ]
      refine wpAnyH_ready (rs := [25]) (by kernel_rfl) (by simp) ?_
      refine AllReadyH.cons rfl (fun K hK => ?_) AllReadyH.nil
      go_simp
      refine (works2_any v18).mono ?_
      rintro e v19 ⟨rfl, bd19⟩
      have A19 := Lib.hid (A18.out.below bd19)
      clear bd19
      go_wp2_with fail
      refine hK.out _ _ ?_ (fun hHeld => ?_)
      · exact ⟨(S6.out.below A19.out.1).kb.c0, (S6.out.below A19.out.1).kb.c1⟩
      clear hK K
      try simp only [Act.put, List.getElem_toArray, List.getElem_cons_zero, List.getElem_cons_succ, List.setIfInBounds_toArray, List.set_cons_zero, List.set_cons_succ]
      refine' wpAnyH_take (i := 26) (v := _) rfl (by kernel_rfl) (by kernel_rfl) (by kernel_rfl) (fun _ _ _ h => h) (Or.inl ⟨by rfl, ?hy⟩) (by assumption) _
      case hy => (intro w0 hSw; (try dsimp only at hSw); simp only [List.getElem_toArray, List.getElem_cons_zero, List.getElem_cons_succ]; go_simp; first | done | with_reducible rfl)
      try simp only [Act.put, List.getElem_toArray, List.getElem_cons_zero, List.getElem_cons_succ, List.setIfInBounds_toArray, List.set_cons_zero, List.set_cons_succ]
      refine' wpAnyH_take (i := 27) (v := _) rfl (by kernel_rfl) (by kernel_rfl) (by kernel_rfl) (fun _ _ _ h => h) (Or.inl ⟨by rfl, ?hy⟩) (by assumption) _
      case hy => (intro w0 hSw; (try dsimp only at hSw); simp only [List.getElem_toArray, List.getElem_cons_zero, List.getElem_cons_succ]; go_simp; first | done | with_reducible rfl)
      try simp only [Act.put, List.getElem_toArray, List.getElem_cons_zero, List.getElem_cons_succ, List.setIfInBounds_toArray, List.set_cons_zero, List.set_cons_succ]
      refine wpAnyH_done (by kernel_rfl) ?_ _
      refine NoPanic.normal ?_
      go_wp2_with fail
      go_ret
      exact ⟨rfl, (S6.out.below A19.out.1).at'.1⟩
  · skip
    go_simp
    have A20 := Lib.hid (A0.out.alloc (.cells #[] 5))
    have O20 := Lib.hid (own_empty w6.drew w6.drew.heap.size 5 1 A0.out.2)
    refine hK.out _ _ ?_ (fun hHeld => ?_)
    · exact ⟨(S6.out.below A20.out.1).kb.c0, (S6.out.below A20.out.1).kb.c1⟩
    clear hK K
    try simp only [Act.put, List.getElem_toArray, List.getElem_cons_zero, List.getElem_cons_succ, List.setIfInBounds_toArray, List.set_cons_zero, List.set_cons_succ]
    refine wpAnyH_ready (rs := [1]) (by kernel_rfl) (by simp) ?_
    refine AllReadyH.cons rfl (fun K hK => ?_) AllReadyH.nil
    go_simp
    refine (hsumAt_any S a b (xs ++ ys) p4 c4 (w6.drew.alloc (.cells #[] 5)) (HS6.out.below A20.out.1) (by simp; omega)).mono ?_
    rintro e v21 ⟨rfl, bd21⟩
    have A21 := Lib.hid (A20.out.below bd21)
    have O21 := Lib.hid (own_below O20.out bd21)
    clear bd21
    go_wp2_with fail
    refine hK.out _ _ ?_ (fun hHeld => ?_)
    · exact ⟨(S6.out.below A21.out.1).kb.c0, (S6.out.below A21.out.1).kb.c1⟩
    clear hK K
    try simp only [Act.put, List.getElem_toArray, List.getElem_cons_zero, List.getElem_cons_succ, List.setIfInBounds_toArray, List.set_cons_zero, List.set_cons_succ]
    refine wpAnyH_ready (rs := [5]) (by kernel_rfl) (by simp) ?_
    refine AllReadyH.cons rfl (fun K hK => ?_) AllReadyH.nil
    refine stepW_append0 (by rfl) (.tmp 37) (.tmp 38) _ rfl elem_u8 vb w6.drew.heap.size xs _ rfl _ _ _ rfl O21.out ((S6.out.below A21.out.1).at'.rdl HX.out) (fun _ => rfl) ?_ ?_ ?_ ?_
    · omega
    · omega
    · exact A21.out.2
    intro u22 v22 hown hg _
    have A22 := Lib.hid (A21.out.grown hg (fun b hb => (O21.out.lt b hb).1))
    have O22 := Lib.hid hown
    clear hown hg
    refine hK.out _ _ ?_ (fun hHeld => ?_)
    · exact ⟨(S6.out.below A22.out.1).kb.c0, (S6.out.below A22.out.1).kb.c1⟩
    clear hK K
    try simp only [Act.put, List.getElem_toArray, List.getElem_cons_zero, List.getElem_cons_succ, List.setIfInBounds_toArray, List.set_cons_zero, List.set_cons_succ]
    refine wpAnyH_ready (rs := [7]) (by kernel_rfl) (by simp) ?_
    refine AllReadyH.cons rfl (fun K hK => ?_) AllReadyH.nil
    refine stepW_appendR (by rfl) (.tmp 39) (.tmp 40) _ rfl elem_u8 vb w6.drew.heap.size xs ys _ rfl _ _ _ rfl O22.out ((S6.out.below A22.out.1).at'.rdl HY.out) (fun _ => rfl) ?_ ?_ ?_ ?_
    · omega
    · omega
    · exact A22.out.2
    intro u23 v23 hown hg _
    have A23 := Lib.hid (A22.out.grown hg (fun b hb => (O22.out.lt b hb).1))
    have O23 := Lib.hid hown
    clear hown hg
    refine hK.out _ _ ?_ (fun hHeld => ?_)
    · exact ⟨(S6.out.below A23.out.1).kb.c0, (S6.out.below A23.out.1).kb.c1⟩
    clear hK K
    try simp only [Act.put, List.getElem_toArray, List.getElem_cons_zero, List.getElem_cons_succ, List.setIfInBounds_toArray, List.set_cons_zero, List.set_cons_succ]
    refine wpAnyH_ready (rs := [8]) (by kernel_rfl) (by simp) ?_
    refine AllReadyH.cons rfl (fun K hK => ?_) AllReadyH.nil
    obtain ⟨pp24, cc24, hv24, hr24, _⟩ := rdl_of_owns O23.out
    have hs24 := hashSum_any a b pp24 cc24 (xs ++ ys) v23 hr24 (by simp; omega)
    rw [List.length_append] at hs24
    try rw [List.length_append] at hv24
    subst hv24
    go_simp
    refine hs24.mono ?_
    clear hs24 hr24
    rintro e v24 ⟨rfl, bd24⟩
    have A24 := Lib.hid (A23.out.below bd24)
    clear bd24
    go_wp2_with fail
    refine hK.out _ _ ?_ (fun hHeld => ?_)
    · exact ⟨(S6.out.below A24.out.1).kb.c0, (S6.out.below A24.out.1).kb.c1⟩
    clear hK K
    try simp only [Act.put, List.getElem_toArray, List.getElem_cons_zero, List.getElem_cons_succ, List.setIfInBounds_toArray, List.set_cons_zero, List.set_cons_succ]
    refine' wpAnyH_take (i := 9) (v := _) rfl (by kernel_rfl) (by kernel_rfl) (by kernel_rfl) (fun _ _ _ h => h) (Or.inl ⟨by rfl, ?hy⟩) (by assumption) _
    case hy => (intro w0 hSw; (try dsimp only at hSw); simp only [List.getElem_toArray, List.getElem_cons_zero, List.getElem_cons_succ]; go_simp; first | done | with_reducible rfl)
    try simp only [Act.put, List.getElem_toArray, List.getElem_cons_zero, List.getElem_cons_succ, List.setIfInBounds_toArray, List.set_cons_zero, List.set_cons_succ]
    refine' wpAnyH_take (i := 10) (v := _) rfl (by kernel_rfl) (by kernel_rfl) (by kernel_rfl) (fun _ _ _ h => h) (Or.inl ⟨by rfl, ?hy⟩) (by assumption) _
    case hy => (intro w0 hSw; (try dsimp only at hSw); simp only [List.getElem_toArray, List.getElem_cons_zero, List.getElem_cons_succ]; go_simp; first | done | with_reducible rfl)
    try simp only [Act.put, List.getElem_toArray, List.getElem_cons_zero, List.getElem_cons_succ, List.setIfInBounds_toArray, List.set_cons_zero, List.set_cons_succ]
    refine' wpAnyH_take (i := 11) (v := _) rfl (by kernel_rfl) (by kernel_rfl) (by kernel_rfl) (fun _ _ _ h => h) (Or.inl ⟨by rfl, ?hy⟩) (by assumption) _
    case hy => (intro w0 hSw; (try dsimp only at hSw); simp only [List.getElem_toArray, List.getElem_cons_zero, List.getElem_cons_succ]; go_simp; first | done | with_reducible rfl)
    try simp only [Act.put, List.getElem_toArray, List.getElem_cons_zero, List.getElem_cons_succ, List.setIfInBounds_toArray, List.set_cons_zero, List.set_cons_succ]
    refine' wpAnyH_take (i := 13) (v := _) rfl (by kernel_rfl) (by kernel_rfl) (by kernel_rfl) (fun _ _ _ h => h) (Or.inl ⟨by rfl, ?hy⟩) (by assumption) _
    case hy => (intro w0 hSw; (try dsimp only at hSw); simp only [List.getElem_toArray, List.getElem_cons_zero, List.getElem_cons_succ]; go_simp; first | done | with_reducible rfl)
    try simp only [Act.put, List.getElem_toArray, List.getElem_cons_zero, List.getElem_cons_succ, List.setIfInBounds_toArray, List.set_cons_zero, List.set_cons_succ]
    refine' wpAnyH_take (i := 15) (v := _) rfl (by kernel_rfl) (by kernel_rfl) (by kernel_rfl) (fun _ _ _ h => h) (Or.inl ⟨by rfl, ?hy⟩) (by assumption) _
    case hy => (intro w0 hSw; (try dsimp only at hSw); simp only [List.getElem_toArray, List.getElem_cons_zero, List.getElem_cons_succ]; go_simp; first | done | with_reducible rfl)
    try simp only [Act.put, List.getElem_toArray, List.getElem_cons_zero, List.getElem_cons_succ, List.setIfInBounds_toArray, List.set_cons_zero, List.set_cons_succ]
    refine' wpAnyH_take (i := 17) (v := _) rfl (by kernel_rfl) (by kernel_rfl) (by kernel_rfl) (fun _ _ _ h => h) (Or.inl ⟨by rfl, ?hy⟩) (by assumption) _
    case hy => (intro w0 hSw; (try dsimp only at hSw); simp only [List.getElem_toArray, List.getElem_cons_zero, List.getElem_cons_succ]; go_simp; first | done | with_reducible rfl)
    try simp only [Act.put, List.getElem_toArray, List.getElem_cons_zero, List.getElem_cons_succ, List.setIfInBounds_toArray, List.set_cons_zero, List.set_cons_succ]
    refine' wpAnyH_take (i := 19) (v := _) rfl (by kernel_rfl) (by kernel_rfl) (by kernel_rfl) (fun _ _ _ h => h) (Or.inl ⟨by rfl, ?hy⟩) (by assumption) _
    case hy => (intro w0 hSw; (try dsimp only at hSw); simp only [List.getElem_toArray, List.getElem_cons_zero, List.getElem_cons_succ]; go_simp; first | done | with_reducible rfl)
    try simp only [Act.put, List.getElem_toArray, List.getElem_cons_zero, List.getElem_cons_succ, List.setIfInBounds_toArray, List.set_cons_zero, List.set_cons_succ]
    refine wpAnyH_ready (rs := [12, 14]) (by kernel_rfl) (by simp) ?_
    refine AllReadyH.cons rfl (fun K hK => ?_) (AllReadyH.cons rfl (fun K hK => ?_) AllReadyH.nil)
    · skip
      go_simp
      refine (hsumAt_any T a b (xs ++ ys ++ xs) p6 c6 v24 (S6.out.below A24.out.1).ht (by simp; omega)).mono ?_
      rintro e v25 ⟨rfl, bd25⟩
      have A25 := Lib.hid (A24.out.below bd25)
      clear bd25
      go_wp2_with fail
      refine hK.out _ _ ?_ (fun hHeld => ?_)
      · exact ⟨(S6.out.below A25.out.1).kb.c0, (S6.out.below A25.out.1).kb.c1⟩
      clear hK K
      try simp only [Act.put, List.getElem_toArray, List.getElem_cons_zero, List.getElem_cons_succ, List.setIfInBounds_toArray, List.set_cons_zero, List.set_cons_succ]
      refine wpAnyH_ready (rs := [14]) (by kernel_rfl) (by simp) ?_
      refine AllReadyH.cons rfl (fun K hK => ?_) AllReadyH.nil
      go_simp
      have A26 := Lib.hid (A25.out.alloc (.cells #[] 5))
      have O26 := Lib.hid (own_empty v25 w6.drew.heap.size 5 1 A25.out.2)
      refine hK.out _ _ ?_ (fun hHeld => ?_)
      · exact ⟨(S6.out.below A26.out.1).kb.c0, (S6.out.below A26.out.1).kb.c1⟩
      clear hK K
      try simp only [Act.put, List.getElem_toArray, List.getElem_cons_zero, List.getElem_cons_succ, List.setIfInBounds_toArray, List.set_cons_zero, List.set_cons_succ]
      refine wpAnyH_ready (rs := [16]) (by kernel_rfl) (by simp) ?_
      refine AllReadyH.cons rfl (fun K hK => ?_) AllReadyH.nil
      refine stepW_append0 (by rfl) (.tmp 48) (.tmp 49) _ rfl elem_u8 vb w6.drew.heap.size xs _ rfl _ _ _ rfl O26.out ((S6.out.below A26.out.1).at'.rdl HX.out) (fun _ => rfl) ?_ ?_ ?_ ?_
      · omega
      · omega
      · exact A26.out.2
      intro u27 v27 hown hg _
      have A27 := Lib.hid (A26.out.grown hg (fun b hb => (O26.out.lt b hb).1))
      have O27 := Lib.hid hown
      clear hown hg
      refine hK.out _ _ ?_ (fun hHeld => ?_)
      · exact ⟨(S6.out.below A27.out.1).kb.c0, (S6.out.below A27.out.1).kb.c1⟩
      clear hK K
      try simp only [Act.put, List.getElem_toArray, List.getElem_cons_zero, List.getElem_cons_succ, List.setIfInBounds_toArray, List.set_cons_zero, List.set_cons_succ]
      refine wpAnyH_ready (rs := [18]) (by kernel_rfl) (by simp) ?_
      refine AllReadyH.cons rfl (fun K hK => ?_) AllReadyH.nil
      refine stepW_appendR (by rfl) (.tmp 50) (.tmp 51) _ rfl elem_u8 vb w6.drew.heap.size xs ys _ rfl _ _ _ rfl O27.out ((S6.out.below A27.out.1).at'.rdl HY.out) (fun _ => rfl) ?_ ?_ ?_ ?_
      · omega
      · omega
      · exact A27.out.2
      intro u28 v28 hown hg _
      have A28 := Lib.hid (A27.out.grown hg (fun b hb => (O27.out.lt b hb).1))
      have O28 := Lib.hid hown
      clear hown hg
      refine hK.out _ _ ?_ (fun hHeld => ?_)
      · exact ⟨(S6.out.below A28.out.1).kb.c0, (S6.out.below A28.out.1).kb.c1⟩
      clear hK K
      try simp only [Act.put, List.getElem_toArray, List.getElem_cons_zero, List.getElem_cons_succ, List.setIfInBounds_toArray, List.set_cons_zero, List.set_cons_succ]
      refine wpAnyH_ready (rs := [20]) (by kernel_rfl) (by simp) ?_
      refine AllReadyH.cons rfl (fun K hK => ?_) AllReadyH.nil
      refine stepW_appendR (by rfl) (.tmp 52) (.tmp 53) _ rfl elem_u8 vb w6.drew.heap.size (xs ++ ys) xs _ rfl _ _ _ rfl O28.out ((S6.out.below A28.out.1).at'.rdl HX.out) (fun _ => rfl) ?_ ?_ ?_ ?_
      · simp; omega
      · omega
      · exact A28.out.2
      intro u29 v29 hown hg _
      have A29 := Lib.hid (A28.out.grown hg (fun b hb => (O28.out.lt b hb).1))
      have O29 := Lib.hid hown
      clear hown hg
      refine hK.out _ _ ?_ (fun hHeld => ?_)
      · exact ⟨(S6.out.below A29.out.1).kb.c0, (S6.out.below A29.out.1).kb.c1⟩
      clear hK K
      try simp only [Act.put, List.getElem_toArray, List.getElem_cons_zero, List.getElem_cons_succ, List.setIfInBounds_toArray, List.set_cons_zero, List.set_cons_succ]
      refine wpAnyH_ready (rs := [21]) (by kernel_rfl) (by simp) ?_
      refine AllReadyH.cons rfl (fun K hK => ?_) AllReadyH.nil
      obtain ⟨pp30, cc30, hv30, hr30, _⟩ := rdl_of_owns O29.out
      have hs30 := hashSum_any a b pp30 cc30 (xs ++ ys ++ xs) v29 hr30 (by simp; omega)
      rw [List.length_append, List.length_append] at hs30
      try rw [List.length_append, List.length_append] at hv30
      subst hv30
      go_simp
      refine hs30.mono ?_
      clear hs30 hr30
      rintro e v30 ⟨rfl, bd30⟩
      have A30 := Lib.hid (A29.out.below bd30)
      clear bd30
      go_wp2_with fail
      refine hK.out _ _ ?_ (fun hHeld => ?_)
      · exact ⟨(S6.out.below A30.out.1).kb.c0, (S6.out.below A30.out.1).kb.c1⟩
      clear hK K
      try simp only [Act.put, List.getElem_toArray, List.getElem_cons_zero, List.getElem_cons_succ, List.setIfInBounds_toArray, List.set_cons_zero, List.set_cons_succ]
      refine' wpAnyH_take (i := 22) (v := _) rfl (by kernel_rfl) (by kernel_rfl) (by kernel_rfl) (fun _ _ _ h => h) (Or.inl ⟨by rfl, ?hy⟩) (by assumption) _
      case hy => (intro w0 hSw; (try dsimp only at hSw); simp only [List.getElem_toArray, List.getElem_cons_zero, List.getElem_cons_succ]; go_simp; first | done | with_reducible rfl)
      try simp only [Act.put, List.getElem_toArray, List.getElem_cons_zero, List.getElem_cons_succ, List.setIfInBounds_toArray, List.set_cons_zero, List.set_cons_succ]
      refine' wpAnyH_take (i := 23) (v := _) rfl (by kernel_rfl) (by kernel_rfl) (by kernel_rfl) (fun _ _ _ h => h) (Or.inl ⟨by rfl, ?hy⟩) (by assumption) _
      case hy => (intro w0 hSw; (try dsimp only at hSw); simp only [List.getElem_toArray, List.getElem_cons_zero, List.getElem_cons_succ]; go_simp; first | done | with_reducible rfl)
      try simp only [Act.put, List.getElem_toArray, List.getElem_cons_zero, List.getElem_cons_succ, List.setIfInBounds_toArray, List.set_cons_zero, List.set_cons_succ]
      refine' wpAnyH_take (i := 24) (v := _) rfl (by kernel_rfl) (by kernel_rfl) (by kernel_rfl) (fun _ _ _ h => h) (Or.inl ⟨by rfl, ?hy⟩) (by assumption) _
      case hy => (intro w0 hSw; (try dsimp only at hSw); simp only [List.getElem_toArray, List.getElem_cons_zero, List.getElem_cons_succ]; go_simp; first | done | with_reducible rfl)
      try simp only [Act.put, List.getElem_toArray, List.getElem_cons_zero, List.getElem_cons_succ, List.setIfInBounds_toArray, List.set_cons_zero, List.set_cons_succ]
      refine wpAnyH_ready (rs := [25]) (by kernel_rfl) (by simp) ?_
      refine AllReadyH.cons rfl (fun K hK => ?_) AllReadyH.nil
      go_simp
      refine (works2_any v30).mono ?_
      rintro e v31 ⟨rfl, bd31⟩
      have A31 := Lib.hid (A30.out.below bd31)
      clear bd31
      go_wp2_with fail
      refine hK.out _ _ ?_ (fun hHeld => ?_)
      · exact ⟨(S6.out.below A31.out.1).kb.c0, (S6.out.below A31.out.1).kb.c1⟩
      clear hK K
      try simp only [Act.put, List.getElem_toArray, List.getElem_cons_zero, List.getElem_cons_succ, List.setIfInBounds_toArray, List.set_cons_zero, List.set_cons_succ]
      refine' wpAnyH_take (i := 26) (v := _) rfl (by kernel_rfl) (by kernel_rfl) (by kernel_rfl) (fun _ _ _ h => h) (Or.inl ⟨by rfl, ?hy⟩) (by assumption) _
      case hy => (intro w0 hSw; (try dsimp only at hSw); simp only [List.getElem_toArray, List.getElem_cons_zero, List.getElem_cons_succ]; go_simp; first | done | with_reducible rfl)
      try simp only [Act.put, List.getElem_toArray, List.getElem_cons_zero, List.getElem_cons_succ, List.setIfInBounds_toArray, List.set_cons_zero, List.set_cons_succ]
      refine' wpAnyH_take (i := 27) (v := _) rfl (by kernel_rfl) (by kernel_rfl) (by kernel_rfl) (fun _ _ _ h => h) (Or.inl ⟨by rfl, ?hy⟩) (by assumption) _
      case hy => (intro w0 hSw; (try dsimp only at hSw); simp only [List.getElem_toArray, List.getElem_cons_zero, List.getElem_cons_succ]; go_simp; first | done | with_reducible rfl)
      try simp only [Act.put, List.getElem_toArray, List.getElem_cons_zero, List.getElem_cons_succ, List.setIfInBounds_toArray, List.set_cons_zero, List.set_cons_succ]
      refine wpAnyH_done (by kernel_rfl) ?_ _
      refine NoPanic.normal ?_
      go_wp2_with fail
      go_ret
      exact ⟨rfl, (S6.out.below A31.out.1).at'.1⟩
    · skip
      go_simp
      have A32 := Lib.hid (A24.out.alloc (.cells #[] 5))
      have O32 := Lib.hid (own_empty v24 w6.drew.heap.size 5 1 A24.out.2)
      refine hK.out _ _ ?_ (fun hHeld => ?_)
      · exact ⟨(S6.out.below A32.out.1).kb.c0, (S6.out.below A32.out.1).kb.c1⟩
      clear hK K
      try simp only [Act.put, List.getElem_toArray, List.getElem_cons_zero, List.getElem_cons_succ, List.setIfInBounds_toArray, List.set_cons_zero, List.set_cons_succ]
      refine wpAnyH_ready (rs := [12]) (by kernel_rfl) (by simp) ?_
      refine AllReadyH.cons rfl (fun K hK => ?_) AllReadyH.nil
      go_simp
      refine (hsumAt_any T a b (xs ++ ys ++ xs) p6 c6 (v24.alloc (.cells #[] 5)) (S6.out.below A32.out.1).ht (by simp; omega)).mono ?_
      rintro e v33 ⟨rfl, bd33⟩
      have A33 := Lib.hid (A32.out.below bd33)
      have O33 := Lib.hid (own_below O32.out bd33)
      clear bd33
      go_wp2_with fail
      refine hK.out _ _ ?_ (fun hHeld => ?_)
      · exact ⟨(S6.out.below A33.out.1).kb.c0, (S6.out.below A33.out.1).kb.c1⟩
      clear hK K
      try simp only [Act.put, List.getElem_toArray, List.getElem_cons_zero, List.getElem_cons_succ, List.setIfInBounds_toArray, List.set_cons_zero, List.set_cons_succ]
      refine wpAnyH_ready (rs := [16]) (by kernel_rfl) (by simp) ?_
      refine AllReadyH.cons rfl (fun K hK => ?_) AllReadyH.nil
      refine stepW_append0 (by rfl) (.tmp 48) (.tmp 49) _ rfl elem_u8 vb w6.drew.heap.size xs _ rfl _ _ _ rfl O33.out ((S6.out.below A33.out.1).at'.rdl HX.out) (fun _ => rfl) ?_ ?_ ?_ ?_
      · omega
      · omega
      · exact A33.out.2
      intro u34 v34 hown hg _
      have A34 := Lib.hid (A33.out.grown hg (fun b hb => (O33.out.lt b hb).1))
      have O34 := Lib.hid hown
      clear hown hg
      refine hK.out _ _ ?_ (fun hHeld => ?_)
      · exact ⟨(S6.out.below A34.out.1).kb.c0, (S6.out.below A34.out.1).kb.c1⟩
      clear hK K
      try simp only [Act.put, List.getElem_toArray, List.getElem_cons_zero, List.getElem_cons_succ, List.setIfInBounds_toArray, List.set_cons_zero, List.set_cons_succ]
      refine wpAnyH_ready (rs := [18]) (by kernel_rfl) (by simp) ?_
      refine AllReadyH.cons rfl (fun K hK => ?_) AllReadyH.nil
      refine stepW_appendR (by rfl) (.tmp 50) (.tmp 51) _ rfl elem_u8 vb w6.drew.heap.size xs ys _ rfl _ _ _ rfl O34.out ((S6.out.below A34.out.1).at'.rdl HY.out) (fun _ => rfl) ?_ ?_ ?_ ?_
      · omega
      · omega
      · exact A34.out.2
      intro u35 v35 hown hg _
      have A35 := Lib.hid (A34.out.grown hg (fun b hb => (O34.out.lt b hb).1))
      have O35 := Lib.hid hown
      clear hown hg
      refine hK.out _ _ ?_ (fun hHeld => ?_)
      · exact ⟨(S6.out.below A35.out.1).kb.c0, (S6.out.below A35.out.1).kb.c1⟩
      clear hK K
      try simp only [Act.put, List.getElem_toArray, List.getElem_cons_zero, List.getElem_cons_succ, List.setIfInBounds_toArray, List.set_cons_zero, List.set_cons_succ]
      refine wpAnyH_ready (rs := [20]) (by kernel_rfl) (by simp) ?_
      refine AllReadyH.cons rfl (fun K hK => ?_) AllReadyH.nil
      refine stepW_appendR (by rfl) (.tmp 52) (.tmp 53) _ rfl elem_u8 vb w6.drew.heap.size (xs ++ ys) xs _ rfl _ _ _ rfl O35.out ((S6.out.below A35.out.1).at'.rdl HX.out) (fun _ => rfl) ?_ ?_ ?_ ?_
      · simp; omega
      · omega
      · exact A35.out.2
      intro u36 v36 hown hg _
      have A36 := Lib.hid (A35.out.grown hg (fun b hb => (O35.out.lt b hb).1))
      have O36 := Lib.hid hown
      clear hown hg
      refine hK.out _ _ ?_ (fun hHeld => ?_)
      · exact ⟨(S6.out.below A36.out.1).kb.c0, (S6.out.below A36.out.1).kb.c1⟩
      clear hK K
      try simp only [Act.put, List.getElem_toArray, List.getElem_cons_zero, List.getElem_cons_succ, List.setIfInBounds_toArray, List.set_cons_zero, List.set_cons_succ]
      refine wpAnyH_ready (rs := [21]) (by kernel_rfl) (by simp) ?_
      refine AllReadyH.cons rfl (fun K hK => ?_) AllReadyH.nil
      obtain ⟨pp37, cc37, hv37, hr37, _⟩ := rdl_of_owns O36.out
      have hs37 := hashSum_any a b pp37 cc37 (xs ++ ys ++ xs) v36 hr37 (by simp; omega)
      rw [List.length_append, List.length_append] at hs37
      try rw [List.length_append, List.length_append] at hv37
      subst hv37
      go_simp
      refine hs37.mono ?_
      clear hs37 hr37
      rintro e v37 ⟨rfl, bd37⟩
      have A37 := Lib.hid (A36.out.below bd37)
      clear bd37
      go_wp2_with fail
      refine hK.out _ _ ?_ (fun hHeld => ?_)
      · exact ⟨(S6.out.below A37.out.1).kb.c0, (S6.out.below A37.out.1).kb.c1⟩
      clear hK K
      try simp only [Act.put, List.getElem_toArray, List.getElem_cons_zero, List.getElem_cons_succ, List.setIfInBounds_toArray, List.set_cons_zero, List.set_cons_succ]
      refine' wpAnyH_take (i := 22) (v := _) rfl (by kernel_rfl) (by kernel_rfl) (by kernel_rfl) (fun _ _ _ h => h) (Or.inl ⟨by rfl, ?hy⟩) (by assumption) _
      case hy => (intro w0 hSw; (try dsimp only at hSw); simp only [List.getElem_toArray, List.getElem_cons_zero, List.getElem_cons_succ]; go_simp; first | done | with_reducible rfl)
      try simp only [Act.put, List.getElem_toArray, List.getElem_cons_zero, List.getElem_cons_succ, List.setIfInBounds_toArray, List.set_cons_zero, List.set_cons_succ]
      refine' wpAnyH_take (i := 23) (v := _) rfl (by kernel_rfl) (by kernel_rfl) (by kernel_rfl) (fun _ _ _ h => h) (Or.inl ⟨by rfl, ?hy⟩) (by assumption) _
      case hy => (intro w0 hSw; (try dsimp only at hSw); simp only [List.getElem_toArray, List.getElem_cons_zero, List.getElem_cons_succ]; go_simp; first | done | with_reducible rfl)
      try simp only [Act.put, List.getElem_toArray, List.getElem_cons_zero, List.getElem_cons_succ, List.setIfInBounds_toArray, List.set_cons_zero, List.set_cons_succ]
      refine' wpAnyH_take (i := 24) (v := _) rfl (by kernel_rfl) (by kernel_rfl) (by kernel_rfl) (fun _ _ _ h => h) (Or.inl ⟨by rfl, ?hy⟩) (by assumption) _
      case hy => (intro w0 hSw; (try dsimp only at hSw); simp only [List.getElem_toArray, List.getElem_cons_zero, List.getElem_cons_succ]; go_simp; first | done | with_reducible rfl)
      try simp only [Act.put, List.getElem_toArray, List.getElem_cons_zero, List.getElem_cons_succ, List.setIfInBounds_toArray, List.set_cons_zero, List.set_cons_succ]
      refine wpAnyH_ready (rs := [25]) (by kernel_rfl) (by simp) ?_
      refine AllReadyH.cons rfl (fun K hK => ?_) AllReadyH.nil
      go_simp
      refine (works2_any v37).mono ?_
      rintro e v38 ⟨rfl, bd38⟩
      have A38 := Lib.hid (A37.out.below bd38)
      clear bd38
      go_wp2_with fail
      refine hK.out _ _ ?_ (fun hHeld => ?_)
      · exact ⟨(S6.out.below A38.out.1).kb.c0, (S6.out.below A38.out.1).kb.c1⟩
      clear hK K
      try simp only [Act.put, List.getElem_toArray, List.getElem_cons_zero, List.getElem_cons_succ, List.setIfInBounds_toArray, List.set_cons_zero, List.set_cons_succ]
      refine' wpAnyH_take (i := 26) (v := _) rfl (by kernel_rfl) (by kernel_rfl) (by kernel_rfl) (fun _ _ _ h => h) (Or.inl ⟨by rfl, ?hy⟩) (by assumption) _
      case hy => (intro w0 hSw; (try dsimp only at hSw); simp only [List.getElem_toArray, List.getElem_cons_zero, List.getElem_cons_succ]; go_simp; first | done | with_reducible rfl)
      try simp only [Act.put, List.getElem_toArray, List.getElem_cons_zero, List.getElem_cons_succ, List.setIfInBounds_toArray, List.set_cons_zero, List.set_cons_succ]
      refine' wpAnyH_take (i := 27) (v := _) rfl (by kernel_rfl) (by kernel_rfl) (by kernel_rfl) (fun _ _ _ h => h) (Or.inl ⟨by rfl, ?hy⟩) (by assumption) _
      case hy => (intro w0 hSw; (try dsimp only at hSw); simp only [List.getElem_toArray, List.getElem_cons_zero, List.getElem_cons_succ]; go_simp; first | done | with_reducible rfl)
      try simp only [Act.put, List.getElem_toArray, List.getElem_cons_zero, List.getElem_cons_succ, List.setIfInBounds_toArray, List.set_cons_zero, List.set_cons_succ]
      refine wpAnyH_done (by kernel_rfl) ?_ _
      refine NoPanic.normal ?_
      go_wp2_with fail
      go_ret
      exact ⟨rfl, (S6.out.below A38.out.1).at'.1⟩
theorem lawHashCopies (a b : BitVec 64) (p : Option Addr) (cap : Nat) (xs : List (BitVec 8)) (q : Option Addr) (capq : Nat) (ys : List (BitVec 8)) (w : World)
    (hrx : RdL w.heap.size w p cap vb xs) (hry : RdL w.heap.size w q capq vb ys) :
    Calls Try.prog 7 #[.agg #[vw a, vw b], .slice p xs.length cap, .slice q ys.length capq] w fun e w' => e = .returned (.bool true) ∧ Below w.heap.size w w' := by
  by_cases hx : 500 < xs.length
  · exact lawHashCopies_big a b p cap xs q capq ys w (.inl hx)
  · by_cases hy : 500 < ys.length
    · exact lawHashCopies_big a b p cap xs q capq ys w (.inr hy)
    · exact lawHashCopies_in a b p cap xs q capq ys w hrx hry hx hy
end Go.Proofs.Ythhdipfadnihjaa
