/- The walk of the law BitmapNone. -/
import Derived.Test.YtljegehfdmgcbaaDoorBmJ
namespace Go.Proofs.YtljegehfdmgcbaaDoor
open Go Go.RowKit
attribute [local go_sem] Oper.semAt_some

set_option maxRecDepth 100000 in
set_option maxHeartbeats 4000000 in
/-- Over no map there is nothing to go over. -/
theorem runs1_none (Bm : Nat) (w : World) (hm : Box w Bm 24 (.pointer none)) : Iter Tryd.prog 30 #[.pointer (some ⟨Bm, 0, none⟩)] [] (fun b => b = Bm) w := by
  intro L J Jx W T hW hT hJ hJx hY h0
  have hmW : Box W Bm 24 (.pointer none) := hm.kept (hW.block _ rfl hm.lt)
  have HJ := Lib.hid hJ
  obtain ⟨W1, hW1⟩ : ∃ W1, W.alloc (.cells #[.int .i64 0, .int .i64 0] 39) = W1 := ⟨_, rfl⟩
  have hb1 : Below W.heap.size W W1 := by rw [← hW1]; exact (Below.refl _ _).alloc (Nat.le_refl _) _
  have hR1 : RAt W1 W.heap.size none := by rw [← hW1]; exact World.alloc_heap_new _ _
  have q0 := (hmW.below hb1 hmW.lt).cell
  have HLEN := Lib.hid (len_no (.pointer none) W1 (.inl rfl))
  have HS : Hid (J 0 (grow T W W1) W1 ∧ (∀ b, grow T W W1 b → b < W1.heap.size)) := Lib.hid ⟨hJ 0 T W W1 h0 (Frn.of_below hb1), by
      rintro b (hb | hb)
      · exact Nat.lt_of_lt_of_le (hT b hb) hb1.size
      · exact hb.2⟩
  obtain ⟨r0, r1, rf⟩ := hR1.cells
  simp only [cur0, cur1] at r0 r1
  have hne := run_ne0 0 0
  clear hY hJ hJx hW hT hm hmW hb1 h0 hR1
  refine callsIn_of_wp Tryd.func30 rfl trivial ?_ rfl
  simp only [Tryd.ntmps30, List.size_toArray, List.length_cons, List.length_nil, Nat.reduceAdd, Nat.reduceSub, Array.replicate_succ, Array.replicate_zero, List.push_toArray, List.append_toArray, List.nil_append, List.cons_append]
  gi_wp2
  apply wpIn_scope_wide
  gi_wp2
  apply wpIn_label
  gi_wp2
  refine wcall HLEN.out ?_
  rintro e w' ⟨rfl, rfl⟩
  gi_wp2
  refine wpIn_loop_rounds 1 ?_
  rw [roundsIn_succ]
  gi_wp2
  rw [Exit.noGoto_normal]
  gi_wp2
  go_end0
  exact ⟨⟨_, rfl⟩, .inl ⟨_, HS.out.1, HS.out.2⟩⟩

set_option maxRecDepth 100000 in
set_option maxHeartbeats 8000000 in
theorem bnone_bad (bits : Int) (w : World) (hT : TabAt w) (hbad : ¬ (1 ≤ bits ∧ bits ≤ 65536)) : Calls Tryd.prog 5 #[.int .i64 bits] w fun e w' => e = .returned (.bool true) ∧ Below w.heap.size w w' := by
  have h0 := hT.lt
  have HT := Lib.hid hT
  obtain ⟨wa, hwa⟩ : ∃ wa, w.alloc (.cells #[.bool false] 4) = wa := ⟨_, rfl⟩
  have hba : Below w.heap.size w wa := by rw [← hwa]; exact (Below.refl _ _).alloc (Nat.le_refl _) _
  have hra : Box wa w.heap.size 4 (.bool false) := by rw [← hwa]; exact Box.new _ _ _
  have HA := Lib.hid (And.intro hba hra)
  have hza : wa.heap.size = w.heap.size + 1 := by rw [← hwa]; simp
  clear hT hba hra
  have HN := Lib.hid (new_bad bits wa hbad)
  have HRT := Lib.hid (refRight05 bits wa)
  rw [decide_eq_false hbad] at HRT
  clear hbad
  refine (callsIn_wide (n := 0)).1 ?_
  refine callsIn_of_wp_marks Tryd.func5 rfl trivial ?_ rfl
  simp only [Tryd.ntmps5, List.size_toArray, List.length_cons, List.length_nil, Nat.reduceAdd, Nat.reduceSub, Array.replicate_succ, Array.replicate_zero, List.push_toArray, List.append_toArray, List.nil_append, List.cons_append]
  refine wpIn_wide.2 ?_
  go_wp2_with fail
  refine HN.out.mono ?_
  rintro e w1 ⟨rfl, rfl⟩
  go_wp2_with (go_at_call 11; refine (num_any05 _ _).mono ?_; rintro e w' ⟨rfl, rfl⟩)
  refine HRT.out.mono ?_
  rintro e w' ⟨rfl, rfl⟩
  have H1 : Hid (Below w.heap.size w wa ∧ Box wa w.heap.size 4 (.bool false) ∧ w.heap.size < wa.heap.size) := Lib.hid ⟨HA.out.1, HA.out.2, by omega⟩
  clear hza hwa
  go_wp2_with (go_at_call 11; refine (num_any05 _ _).mono ?_; rintro e w' ⟨rfl, rfl⟩)
  obtain ⟨w3, hw3⟩ : ∃ w3, wa.alloc (.cells #[.slice none 0 0, .int .i64 0] 51) = w3 := ⟨_, rfl⟩
  have hb3 : Below wa.heap.size wa w3 := by rw [← hw3]; exact (Below.refl _ _).alloc (Nat.le_refl _) _
  have hz3 : w3.heap[wa.heap.size]? = some (.cells #[.slice none 0 0, .int .i64 0] 51 (0, 0)) := by rw [← hw3]; exact World.alloc_heap_new _ _
  obtain ⟨Z, hZ⟩ : ∃ Z, wa.heap.size = Z := ⟨_, rfl⟩
  rw [hZ] at hz3
  have H3 : Hid (NoBm w3 (.pointer (some ⟨Z, 0, none⟩)) ∧ Below w.heap.size w w3 ∧ Box w3 w.heap.size 4 (.bool false) ∧ w.heap.size < Z ∧ Z < w3.heap.size) := Lib.hid ⟨.inr ⟨Z, rfl, hz3⟩, (H1.out.1).trans (hb3.mono (H1.out.1).size), (H1.out.2.1).below hb3 (H1.out.2.1).lt, by have := H1.out.2.2; omega, (Array.getElem?_eq_some_iff.1 hz3).1⟩
  have HW3 := Lib.hid (And.intro hw3 hZ)
  have HNIL : Hid (∀ W : World, NoBm W (.pointer none)) := Lib.hid (fun W => .inl rfl)
  clear hb3 hz3 hw3 hZ
  go_wp2_with fail
  rw [HW3.out.1, HW3.out.2]
  refine (get_no (.pointer none) 0 w3 (HNIL.out w3)).mono ?_
  rintro e w' ⟨rfl, rfl⟩
  go_wp2_with fail
  refine (find_no (.pointer (some ⟨Z, 0, none⟩)) 1 0 w3 (H3.out.1)).mono ?_
  rintro e w4 ⟨rfl, hb4⟩
  have H4 : Hid (NoBm w4 (.pointer (some ⟨Z, 0, none⟩)) ∧ Below w.heap.size w w4 ∧ Box w4 w.heap.size 4 (.bool false) ∧ w.heap.size < Z ∧ Z < w4.heap.size) := Lib.hid ⟨(H3.out.1).below hb4, (H3.out.2.1).trans (hb4.mono (H3.out.2.1).size), (H3.out.2.2.1).below hb4 (H3.out.2.2.1).lt, H3.out.2.2.2.1, Nat.lt_of_lt_of_le (H3.out.2.2.2.2) hb4.size⟩
  clear hb4
  go_wp2_with fail
  refine (runs05_any none w4).mono ?_
  rintro e w' ⟨rfl, hw5⟩
  obtain ⟨w5, hw5'⟩ : ∃ w5, w4.alloc (.cells #[.pointer none] 24) = w5 := ⟨_, rfl⟩
  rw [hw5'] at hw5
  subst hw5
  have hb5 : Below w4.heap.size w4 w5 := by rw [← hw5']; exact (Below.refl _ _).alloc (Nat.le_refl _) _
  have hx5 : Box w5 w4.heap.size 24 (.pointer none) := by rw [← hw5']; exact Box.new _ _ _
  have H5 : Hid (NoBm w5 (.pointer (some ⟨Z, 0, none⟩)) ∧ Below w.heap.size w w5 ∧ Box w5 w.heap.size 4 (.bool false) ∧ w.heap.size < Z ∧ Z < w5.heap.size) := Lib.hid ⟨(H4.out.1).below hb5, (H4.out.2.1).trans (hb5.mono (H4.out.2.1).size), (H4.out.2.2.1).below hb5 (H4.out.2.2.1).lt, H4.out.2.2.2.1, Nat.lt_of_lt_of_le (H4.out.2.2.2.2) hb5.size⟩
  have HIT := Lib.hid (runs1_none w4.heap.size w5 hx5)
  have hlx := hx5.lt
  have hnil := func05_nil
  clear hb5 hx5 hw5'
  go_wp2_with fail
  clear hnil
  refine (wpIn_wide (n := 0)).1 ?_
  refine rf_law (gf := 30) (lb := #[.pointer (some ⟨w4.heap.size, 0, none⟩)]) rfl (enters_of Tryd.func30 (by kernel_rfl) rfl)
    HIT.out (by intro x hx; cases hx) (by rintro b rfl; exact hlx) (fun _ T V => Keep (fun _ => False) w5 T V) (fun _ _ _ _ => False) (fun k T V V' h hf => h.go hf) (fun _ _ _ _ _ h _ => h) (Keep.start _ _) (fun l k hk => absurd hk (Nat.not_lt_zero _)) ?hdone (fun D c k T V _ _ h => h.elim)
  case hdone =>
    rintro D T V hs hTD hTW hkW hD hK
    have hbV : Below w5.heap.size w5 V := hs.frn.below (Nat.le_refl _) (fun _ h => h.elim)
    have H6 : Hid (NoBm V (.pointer (some ⟨Z, 0, none⟩)) ∧ Below w.heap.size w V ∧ Box V w.heap.size 4 (.bool false) ∧ w.heap.size < Z ∧ Z < V.heap.size) := Lib.hid ⟨(H5.out.1).below hbV, (H5.out.2.1).trans (hbV.mono (H5.out.2.1).size), (H5.out.2.2.1).below hbV (H5.out.2.2.1).lt, H5.out.2.2.2.1, Nat.lt_of_lt_of_le (H5.out.2.2.2.2) hbV.size⟩
    have HD := Lib.hid (And.intro hK hD)
    have hDV := (Array.getElem?_eq_some_iff.1 hK).1
    clear hs hTD hTW hkW hD hK hbV HIT
    go_wp2_with (go_at_call 11; refine (num_any05 _ _).mono ?_; rintro e w' ⟨rfl, rfl⟩)
    refine (set_no (.pointer none) 0 1 V (HNIL.out V)).mono ?_
    rintro e w7 ⟨rfl, hb7⟩
    have H7 : Hid (NoBm w7 (.pointer (some ⟨Z, 0, none⟩)) ∧ Below w.heap.size w w7 ∧ Box w7 w.heap.size 4 (.bool false) ∧ w.heap.size < Z ∧ Z < w7.heap.size) := Lib.hid ⟨(H6.out.1).below hb7, (H6.out.2.1).trans (hb7.mono (H6.out.2.1).size), (H6.out.2.2.1).below hb7 (H6.out.2.2.1).lt, H6.out.2.2.2.1, Nat.lt_of_lt_of_le (H6.out.2.2.2.2) hb7.size⟩
    have hD7 := (hb7.block D hDV).trans HD.out.1
    have HD7 := Lib.hid hD7
    have hDl7 := (Array.getElem?_eq_some_iff.1 hD7).1
    clear hb7 hD7
    go_wp2_with (go_at_call 11; refine (num_any05 _ _).mono ?_; rintro e w' ⟨rfl, rfl⟩)
    refine (free_no (.pointer (some ⟨Z, 0, none⟩)) 0 0 w7 (H7.out.1)).mono ?_
    rintro e w8 ⟨rfl, hb8⟩
    have H8 : Hid (NoBm w8 (.pointer (some ⟨Z, 0, none⟩)) ∧ Below w.heap.size w w8 ∧ Box w8 w.heap.size 4 (.bool false) ∧ w.heap.size < Z ∧ Z < w8.heap.size) := Lib.hid ⟨(H7.out.1).below hb8, (H7.out.2.1).trans (hb8.mono (H7.out.2.1).size), (H7.out.2.2.1).below hb8 (H7.out.2.2.1).lt, H7.out.2.2.2.1, Nat.lt_of_lt_of_le (H7.out.2.2.2.2) hb8.size⟩
    have hD8 := (hb8.block D hDl7).trans HD7.out
    have HD8 := Lib.hid hD8
    have hDl8 := (Array.getElem?_eq_some_iff.1 hD8).1
    clear hb8 hD8
    go_wp2_with (go_at_call 11; refine (num_any05 _ _).mono ?_; rintro e w' ⟨rfl, rfl⟩)
    refine (left_no (.pointer none) w8 (HNIL.out w8)).mono ?_
    rintro e w' ⟨rfl, rfl⟩
    go_wp2_with fail
    refine (len_no (.pointer none) w8 (HNIL.out w8)).mono ?_
    rintro e w' ⟨rfl, rfl⟩
    go_wp2_with fail
    refine (words_no (.pointer none) w8 (HNIL.out w8)).mono ?_
    rintro e w' ⟨rfl, rfl⟩
    go_wp2_with fail
    refine (left_no (.pointer (some ⟨Z, 0, none⟩)) w8 (H8.out.1)).mono ?_
    rintro e w' ⟨rfl, rfl⟩
    go_wp2_with fail
    refine (len_no (.pointer (some ⟨Z, 0, none⟩)) w8 (H8.out.1)).mono ?_
    rintro e w' ⟨rfl, rfl⟩
    go_wp2_with fail
    refine (words_no (.pointer (some ⟨Z, 0, none⟩)) w8 (H8.out.1)).mono ?_
    rintro e w' ⟨rfl, rfl⟩
    go_wp2_with fail
    refine (copy_no (.pointer none) w8 (HNIL.out w8)).mono ?_
    rintro e w' ⟨rfl, rfl⟩
    go_wp2_with fail
    refine (same_nn (.pointer none) (.pointer (some ⟨Z, 0, none⟩)) w8 (HNIL.out w8) (H8.out.1)).mono ?_
    rintro e w' ⟨rfl, rfl⟩
    have hun : ∀ b, (undef = Value.bool b) = False := fun b => eq_false (fun h => by cases h)
    go_wp2_with fail
    refine (works05_any w8 (HT.out.below h0 (H8.out.2.1))).mono ?_
    rintro e w9 ⟨rfl, hb9⟩
    have H9 : Hid (NoBm w9 (.pointer (some ⟨Z, 0, none⟩)) ∧ Below w.heap.size w w9 ∧ Box w9 w.heap.size 4 (.bool false) ∧ w.heap.size < Z ∧ Z < w9.heap.size) := Lib.hid ⟨(H8.out.1).below hb9, (H8.out.2.1).trans (hb9.mono (H8.out.2.1).size), (H8.out.2.2.1).below hb9 (H8.out.2.2.1).lt, H8.out.2.2.2.1, Nat.lt_of_lt_of_le (H8.out.2.2.2.2) hb9.size⟩
    have hD9 := (hb9.block D hDl8).trans HD8.out
    have HD9 := Lib.hid hD9
    have c9 := (H9.out.2.2.1).cell
    have f9 := (H9.out.2.2.1).free
    clear hb9 hD9
    go_wp2_with fail
    have hb := (H9.out.2.2.1).set (.bool true)
    have hne : D ≠ w.heap.size := by have := HD.out.2; have := (H5.out.2.1).size; have := H5.out.2.2.2.2; have := H5.out.2.2.2.1; omega
    have hc9 := (hb.kept (World.putObj_heap_other (o := .deferred none) (Ne.symm hne))).cell
    refine leave1 rfl ((Below.heap_setCell w9 ⟨w.heap.size, 0, none⟩ _ D hne).trans HD9.out) (results_cell1 rfl _ _ rfl (v := .bool true) (by simp [go_sem, hc9])) ⟨rfl, ?_⟩
    exact below_putObj ((H9.out.2.1).setCell (p := ⟨w.heap.size, 0, none⟩) (Nat.le_refl _) _) (by have := HD.out.2; have := (H5.out.2.1).size; omega) _

set_option maxRecDepth 100000 in
set_option maxHeartbeats 8000000 in
theorem bnone_good (n : Nat) (w : World) (hT : TabAt w) (hn1 : 1 ≤ n) (hn2 : n ≤ 65536) : Calls Tryd.prog 5 #[.int .i64 n] w fun e w' => e = .returned (.bool true) ∧ Below w.heap.size w w' := by
  have h0 := hT.lt
  have HT := Lib.hid hT
  obtain ⟨wa, hwa⟩ : ∃ wa, w.alloc (.cells #[.bool false] 4) = wa := ⟨_, rfl⟩
  have hba : Below w.heap.size w wa := by rw [← hwa]; exact (Below.refl _ _).alloc (Nat.le_refl _) _
  have hra : Box wa w.heap.size 4 (.bool false) := by rw [← hwa]; exact Box.new _ _ _
  have HA := Lib.hid (And.intro hba hra)
  have hza : wa.heap.size = w.heap.size + 1 := by rw [← hwa]; simp
  clear hT hba hra
  have HN := Lib.hid (new_bm n wa hn1 hn2)
  obtain ⟨ws, hws⟩ : ∃ ws, List.replicate ((n + 63) / 64) 0#64 = ws := ⟨_, rfl⟩
  rw [hws] at HN
  clear hws
  refine (callsIn_wide (n := 0)).1 ?_
  refine callsIn_of_wp_marks Tryd.func5 rfl trivial ?_ rfl
  simp only [Tryd.ntmps5, List.size_toArray, List.length_cons, List.length_nil, Nat.reduceAdd, Nat.reduceSub, Array.replicate_succ, Array.replicate_zero, List.push_toArray, List.append_toArray, List.nil_append, List.cons_append]
  refine wpIn_wide.2 ?_
  go_wp2_with fail
  refine HN.out.mono ?_
  rintro e w1 ⟨v, rfl, O, g, c, rfl, hbm, hO, hg, hb1⟩
  have H1 : Hid (BmAt w1 O g c ws n ∧ Below w.heap.size w w1 ∧ Box w1 w.heap.size 4 (.bool false) ∧ w.heap.size < w1.heap.size) := Lib.hid ⟨hbm, HA.out.1.trans (hb1.mono HA.out.1.size), HA.out.2.below hb1 HA.out.2.lt, by have := hb1.size; omega⟩
  have HRT := Lib.hid (refRight05 (n : Int) w1)
  rw [decide_eq_true (show 1 ≤ (n : Int) ∧ (n : Int) ≤ 65536 from ⟨by omega, by omega⟩)] at HRT
  clear hza hwa hbm hO hg hb1
  go_wp2_with (go_at_call 11; refine (num_any05 _ _).mono ?_; rintro e w' ⟨rfl, rfl⟩)
  refine HRT.out.mono ?_
  rintro e w' ⟨rfl, rfl⟩
  go_wp2_with (go_at_call 11; refine (num_any05 _ _).mono ?_; rintro e w' ⟨rfl, rfl⟩)
  obtain ⟨w3, hw3⟩ : ∃ w3, w1.alloc (.cells #[.slice none 0 0, .int .i64 0] 51) = w3 := ⟨_, rfl⟩
  have hb3 : Below w1.heap.size w1 w3 := by rw [← hw3]; exact (Below.refl _ _).alloc (Nat.le_refl _) _
  have hz3 : w3.heap[w1.heap.size]? = some (.cells #[.slice none 0 0, .int .i64 0] 51 (0, 0)) := by rw [← hw3]; exact World.alloc_heap_new _ _
  obtain ⟨Z, hZ⟩ : ∃ Z, w1.heap.size = Z := ⟨_, rfl⟩
  rw [hZ] at hz3
  have H3 : Hid (BmAt w3 O g c ws n ∧ NoBm w3 (.pointer (some ⟨Z, 0, none⟩)) ∧ Below w.heap.size w w3 ∧ Box w3 w.heap.size 4 (.bool false) ∧ w.heap.size < Z ∧ Z < w3.heap.size) := Lib.hid ⟨H1.out.1.below hb3, .inr ⟨Z, rfl, hz3⟩, (H1.out.2.1).trans (hb3.mono (H1.out.2.1).size), (H1.out.2.2.1).below hb3 (H1.out.2.2.1).lt, by have := H1.out.2.2.2; omega, (Array.getElem?_eq_some_iff.1 hz3).1⟩
  have HW3 := Lib.hid (And.intro hw3 hZ)
  have HNIL : Hid (∀ W : World, NoBm W (.pointer none)) := Lib.hid (fun W => .inl rfl)
  clear hb3 hz3 hw3 hZ
  go_wp2_with fail
  rw [HW3.out.1, HW3.out.2]
  refine (get_no (.pointer none) 0 w3 (HNIL.out w3)).mono ?_
  rintro e w' ⟨rfl, rfl⟩
  go_wp2_with fail
  refine (find_no (.pointer (some ⟨Z, 0, none⟩)) 1 0 w3 (H3.out.2.1)).mono ?_
  rintro e w4 ⟨rfl, hb4⟩
  have H4 : Hid (BmAt w4 O g c ws n ∧ NoBm w4 (.pointer (some ⟨Z, 0, none⟩)) ∧ Below w.heap.size w w4 ∧ Box w4 w.heap.size 4 (.bool false) ∧ w.heap.size < Z ∧ Z < w4.heap.size) := Lib.hid ⟨H3.out.1.below hb4, (H3.out.2.1).below hb4, (H3.out.2.2.1).trans (hb4.mono (H3.out.2.2.1).size), (H3.out.2.2.2.1).below hb4 (H3.out.2.2.2.1).lt, H3.out.2.2.2.2.1, Nat.lt_of_lt_of_le (H3.out.2.2.2.2.2) hb4.size⟩
  clear hb4
  go_wp2_with fail
  refine (runs05_any none w4).mono ?_
  rintro e w' ⟨rfl, hw5⟩
  obtain ⟨w5, hw5'⟩ : ∃ w5, w4.alloc (.cells #[.pointer none] 24) = w5 := ⟨_, rfl⟩
  rw [hw5'] at hw5
  subst hw5
  have hb5 : Below w4.heap.size w4 w5 := by rw [← hw5']; exact (Below.refl _ _).alloc (Nat.le_refl _) _
  have hx5 : Box w5 w4.heap.size 24 (.pointer none) := by rw [← hw5']; exact Box.new _ _ _
  have H5 : Hid (BmAt w5 O g c ws n ∧ NoBm w5 (.pointer (some ⟨Z, 0, none⟩)) ∧ Below w.heap.size w w5 ∧ Box w5 w.heap.size 4 (.bool false) ∧ w.heap.size < Z ∧ Z < w5.heap.size) := Lib.hid ⟨H4.out.1.below hb5, (H4.out.2.1).below hb5, (H4.out.2.2.1).trans (hb5.mono (H4.out.2.2.1).size), (H4.out.2.2.2.1).below hb5 (H4.out.2.2.2.1).lt, H4.out.2.2.2.2.1, Nat.lt_of_lt_of_le (H4.out.2.2.2.2.2) hb5.size⟩
  have HIT := Lib.hid (runs1_none w4.heap.size w5 hx5)
  have hlx := hx5.lt
  have hnil := func05_nil
  clear hb5 hx5 hw5'
  go_wp2_with fail
  clear hnil
  refine (wpIn_wide (n := 0)).1 ?_
  refine rf_law (gf := 30) (lb := #[.pointer (some ⟨w4.heap.size, 0, none⟩)]) rfl (enters_of Tryd.func30 (by kernel_rfl) rfl)
    HIT.out (by intro x hx; cases hx) (by rintro b rfl; exact hlx) (fun _ T V => Keep (fun _ => False) w5 T V) (fun _ _ _ _ => False) (fun k T V V' h hf => h.go hf) (fun _ _ _ _ _ h _ => h) (Keep.start _ _) (fun l k hk => absurd hk (Nat.not_lt_zero _)) ?hdone (fun D c k T V _ _ h => h.elim)
  case hdone =>
    rintro D T V hs hTD hTW hkW hD hK
    have hbV : Below w5.heap.size w5 V := hs.frn.below (Nat.le_refl _) (fun _ h => h.elim)
    have H6 : Hid (BmAt V O g c ws n ∧ NoBm V (.pointer (some ⟨Z, 0, none⟩)) ∧ Below w.heap.size w V ∧ Box V w.heap.size 4 (.bool false) ∧ w.heap.size < Z ∧ Z < V.heap.size) := Lib.hid ⟨H5.out.1.below hbV, (H5.out.2.1).below hbV, (H5.out.2.2.1).trans (hbV.mono (H5.out.2.2.1).size), (H5.out.2.2.2.1).below hbV (H5.out.2.2.2.1).lt, H5.out.2.2.2.2.1, Nat.lt_of_lt_of_le (H5.out.2.2.2.2.2) hbV.size⟩
    have HD := Lib.hid (And.intro hK hD)
    have hDV := (Array.getElem?_eq_some_iff.1 hK).1
    clear hs hTD hTW hkW hD hK hbV HIT
    go_wp2_with (go_at_call 11; refine (num_any05 _ _).mono ?_; rintro e w' ⟨rfl, rfl⟩)
    refine (set_no (.pointer none) 0 1 V (HNIL.out V)).mono ?_
    rintro e w7 ⟨rfl, hb7⟩
    have H7 : Hid (BmAt w7 O g c ws n ∧ NoBm w7 (.pointer (some ⟨Z, 0, none⟩)) ∧ Below w.heap.size w w7 ∧ Box w7 w.heap.size 4 (.bool false) ∧ w.heap.size < Z ∧ Z < w7.heap.size) := Lib.hid ⟨H6.out.1.below hb7, (H6.out.2.1).below hb7, (H6.out.2.2.1).trans (hb7.mono (H6.out.2.2.1).size), (H6.out.2.2.2.1).below hb7 (H6.out.2.2.2.1).lt, H6.out.2.2.2.2.1, Nat.lt_of_lt_of_le (H6.out.2.2.2.2.2) hb7.size⟩
    have hD7 := (hb7.block D hDV).trans HD.out.1
    have HD7 := Lib.hid hD7
    have hDl7 := (Array.getElem?_eq_some_iff.1 hD7).1
    clear hb7 hD7
    go_wp2_with (go_at_call 11; refine (num_any05 _ _).mono ?_; rintro e w' ⟨rfl, rfl⟩)
    refine (free_no (.pointer (some ⟨Z, 0, none⟩)) 0 0 w7 (H7.out.2.1)).mono ?_
    rintro e w8 ⟨rfl, hb8⟩
    have H8 : Hid (BmAt w8 O g c ws n ∧ NoBm w8 (.pointer (some ⟨Z, 0, none⟩)) ∧ Below w.heap.size w w8 ∧ Box w8 w.heap.size 4 (.bool false) ∧ w.heap.size < Z ∧ Z < w8.heap.size) := Lib.hid ⟨H7.out.1.below hb8, (H7.out.2.1).below hb8, (H7.out.2.2.1).trans (hb8.mono (H7.out.2.2.1).size), (H7.out.2.2.2.1).below hb8 (H7.out.2.2.2.1).lt, H7.out.2.2.2.2.1, Nat.lt_of_lt_of_le (H7.out.2.2.2.2.2) hb8.size⟩
    have hD8 := (hb8.block D hDl7).trans HD7.out
    have HD8 := Lib.hid hD8
    have hDl8 := (Array.getElem?_eq_some_iff.1 hD8).1
    clear hb8 hD8
    go_wp2_with (go_at_call 11; refine (num_any05 _ _).mono ?_; rintro e w' ⟨rfl, rfl⟩)
    refine (left_no (.pointer none) w8 (HNIL.out w8)).mono ?_
    rintro e w' ⟨rfl, rfl⟩
    go_wp2_with fail
    refine (len_no (.pointer none) w8 (HNIL.out w8)).mono ?_
    rintro e w' ⟨rfl, rfl⟩
    go_wp2_with fail
    refine (words_no (.pointer none) w8 (HNIL.out w8)).mono ?_
    rintro e w' ⟨rfl, rfl⟩
    go_wp2_with fail
    refine (left_no (.pointer (some ⟨Z, 0, none⟩)) w8 (H8.out.2.1)).mono ?_
    rintro e w' ⟨rfl, rfl⟩
    go_wp2_with fail
    refine (len_no (.pointer (some ⟨Z, 0, none⟩)) w8 (H8.out.2.1)).mono ?_
    rintro e w' ⟨rfl, rfl⟩
    go_wp2_with fail
    refine (words_no (.pointer (some ⟨Z, 0, none⟩)) w8 (H8.out.2.1)).mono ?_
    rintro e w' ⟨rfl, rfl⟩
    go_wp2_with fail
    refine (copy_no (.pointer none) w8 (HNIL.out w8)).mono ?_
    rintro e w' ⟨rfl, rfl⟩
    go_wp2_with fail
    refine (same_nn (.pointer none) (.pointer (some ⟨Z, 0, none⟩)) w8 (HNIL.out w8) (H8.out.2.1)).mono ?_
    rintro e w' ⟨rfl, rfl⟩
    go_wp2_with fail
    refine (same_bn (.pointer none) w8 H8.out.1 (HNIL.out w8)).mono ?_
    rintro e w' ⟨rfl, rfl⟩
    go_wp2_with fail
    refine (same_nb (.pointer none) w8 (HNIL.out w8) H8.out.1).mono ?_
    rintro e w' ⟨rfl, rfl⟩
    go_wp2_with fail
    refine (works05_any w8 (HT.out.below h0 (H8.out.2.2.1))).mono ?_
    rintro e w9 ⟨rfl, hb9⟩
    have H9 : Hid (BmAt w9 O g c ws n ∧ NoBm w9 (.pointer (some ⟨Z, 0, none⟩)) ∧ Below w.heap.size w w9 ∧ Box w9 w.heap.size 4 (.bool false) ∧ w.heap.size < Z ∧ Z < w9.heap.size) := Lib.hid ⟨H8.out.1.below hb9, (H8.out.2.1).below hb9, (H8.out.2.2.1).trans (hb9.mono (H8.out.2.2.1).size), (H8.out.2.2.2.1).below hb9 (H8.out.2.2.2.1).lt, H8.out.2.2.2.2.1, Nat.lt_of_lt_of_le (H8.out.2.2.2.2.2) hb9.size⟩
    have hD9 := (hb9.block D hDl8).trans HD8.out
    have HD9 := Lib.hid hD9
    have c9 := (H9.out.2.2.2.1).cell
    have f9 := (H9.out.2.2.2.1).free
    clear hb9 hD9
    go_wp2_with fail
    have hb := (H9.out.2.2.2.1).set (.bool true)
    have hne : D ≠ w.heap.size := by have := HD.out.2; have := (H5.out.2.2.1).size; have := H5.out.2.2.2.2.2; have := H5.out.2.2.2.2.1; omega
    have hc9 := (hb.kept (World.putObj_heap_other (o := .deferred none) (Ne.symm hne))).cell
    refine leave1 rfl ((Below.heap_setCell w9 ⟨w.heap.size, 0, none⟩ _ D hne).trans HD9.out) (results_cell1 rfl _ _ rfl (v := .bool true) (by simp [go_sem, hc9])) ⟨rfl, ?_⟩
    exact below_putObj ((H9.out.2.2.1).setCell (p := ⟨w.heap.size, 0, none⟩) (Nat.le_refl _) _) (by have := HD.out.2; have := (H5.out.2.2.1).size; omega) _

theorem lawBitmapNone (bits : Int) (w : World) (hT : TabAt w) : Calls Tryd.prog 5 #[.int .i64 bits] w fun e w' => e = .returned (.bool true) ∧ Below w.heap.size w w' := by
  by_cases h : 1 ≤ bits ∧ bits ≤ 65536
  · obtain ⟨n, rfl⟩ : ∃ n : Nat, bits = n := ⟨bits.toNat, by omega⟩
    exact bnone_good n w hT (by omega) (by omega)
  · exact bnone_bad bits w hT h
end Go.Proofs.YtljegehfdmgcbaaDoor
