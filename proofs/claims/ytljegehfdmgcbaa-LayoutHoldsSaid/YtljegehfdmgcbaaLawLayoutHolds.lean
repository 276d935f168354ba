/- The walk of the law LayoutHolds. -/
import Derived.Test.YtljegehfdmgcbaaLayoutQ
import Derived.Test.YtljegehfdmgcbaaRegF
namespace Go.Proofs.Ytljegehfdmgcbaa
open Go Go.RowKit
attribute [local go_sem] Oper.semAt_some

theorem step_append_zeros {P : Program} {K : Act → World → Prop} {E : Prop} {w : World} {ops : Array Oper} {o : Oper} {a : Act} {Q : Exit → Act → World → Prop} (hgd : o.guard = none) (s x : Operand) (t tn : TypeId)
    (ho : o.op = .call { callee := .builtin .append, args := #[s, x], argTypes := #[t, tn] }) {e : TypeId} {z : Value} {bytes : Nat} (kq kn : IntKind) (he : ElemIs P t e z 1 bytes) (htn : P.underlying tn = some (.int kn)) (hzc : z.cells = #[z]) (hz1 : z.oneCell' = true)
    (base g cap n : Nat) (xs : List Value) (hs : a.eval s = .slice (some ⟨g, 0, none⟩) n cap) (hown : w.ownsRow base e 1 (.slice (some ⟨g, 0, none⟩) n cap) n xs) (k : Nat) (hx : a.eval x = .int kq k) (h0 : 0 < k) (h63 : n + k ≤ 1000000000) (hby : bytes ≤ 1000) (hbase : base ≤ w.heap.size)
    (h : ∀ v' w', w'.ownsRow base e 1 v' (n + k) (xs ++ List.replicate k z) → w.grownBy w' (some g) → K (a.put o.dst v') w') : if Region.wanted o (yielded ops a.tmps) = true then Oper.wp P o a w K Q else E := by
  have hw : Region.wanted o (yielded ops a.tmps) = true := by simp [Region.wanted, hgd]
  rw [if_pos hw]
  obtain ⟨v', w', hr, h2, h3⟩ := run_append_zeros_own (P := P) w base t tn o.type e z bytes kq kn he htn hzc hz1 g cap n xs hown k h0 h63 hby hbase
  exact Lib.wp_append_run w s x t tn ho _ _ hs hx v' w' hr (h v' w' h2 h3)

/-- What lies: the form's box, the word's, the layout's. -/
def HBx (w : World) (B I R T word : Int) (bl : Nat) (l : Lay) (W : World) : Prop :=
  FAt W w.heap.size B I R T ∧ W.cell? ⟨w.heap.size + 2, 0, none⟩ = some (.int .i64 word) ∧ LayAt W bl l ∧ Below w.heap.size w W ∧ w.heap.size + 3 ≤ bl
theorem HBx.on {w W W' : World} {B I R T word : Int} {bl n : Nat} {l : Lay} (h : HBx w B I R T word bl l W) (hn : bl < n) (hb : Below n W W') : HBx w B I R T word bl l W' := by
  have hle := h.2.2.2.2
  exact ⟨h.1.below (by omega) hb, (hb.cell (p := ⟨w.heap.size + 2, 0, none⟩) (by show w.heap.size + 2 < n; omega)).trans h.2.1, h.2.2.1.below hn hb, h.2.2.2.1.trans (hb.mono (by omega)), hle⟩
theorem HBx.go {w W W' : World} {B I R T word : Int} {bl : Nat} {l : Lay} (h : HBx w B I R T word bl l W) (hb : Below W.heap.size W W') : HBx w B I R T word bl l W' := h.on h.2.2.1.lt hb

theorem holds_start (w : World) (B I R T word : Int) (k0 k1 : BitVec 64) : ∃ wa, ((w.alloc (.cells #[.int .i64 B, .int .i64 I, .int .i64 R, .int .i64 T] 23)).alloc (.cells #[vw k0, vw k1] 25)).alloc (.cells #[.int .i64 word] 3) = wa ∧
    FAt wa w.heap.size B I R T ∧ KAt wa (w.heap.size + 1) k0 k1 ∧ wa.cell? ⟨w.heap.size + 2, 0, none⟩ = some (.int .i64 word) ∧ Below w.heap.size w wa ∧ wa.heap.size = w.heap.size + 3 := by
  obtain ⟨wk, hwk, hF, hK, hb, hz⟩ := form_key w B I R T k0 k1
  refine ⟨_, rfl, ?_⟩
  rw [hwk]
  refine ⟨(Below.heap_alloc _ _ _ hF.lt).trans hF, (Below.heap_alloc _ _ _ hK.lt).trans hK, ?_, hb.alloc hb.size _, by simp [hz]⟩
  have := World.alloc_heap_new wk (.cells #[.int .i64 word] 3)
  rw [hz] at this
  simp [World.cell?, this]

set_option maxRecDepth 100000 in
set_option maxHeartbeats 8000000 in
theorem holds_bad (B I R T : Int) (k0 k1 : BitVec 64) (n : Int) (y : BitVec 64) (word : Int) (w : World) (hbad : ¬ (OfOk B I R T ∧ B ≤ 64 ∧ 0 ≤ n ∧ n ≤ 63 ∧ 0 ≤ word ∧ word < 64 * B)) :
    Calls Try.prog 8 #[.agg #[.int .i64 B, .int .i64 I, .int .i64 R, .int .i64 T], .agg #[vw k0, vw k1], .int .i64 n, vw y, .int .i64 word] w fun e w' => e = .returned (.bool true) ∧ Below w.heap.size w w' := by
  obtain ⟨wa, hwa, hF, hK, hW, hbA, hzA⟩ := holds_start w B I R T word k0 k1
  obtain ⟨l, hl⟩ : ∃ l, ofL B I R T k0 k1 = l := ⟨_, rfl⟩
  obtain ⟨no, hno⟩ : ∃ no, ofNo B I R T = no := ⟨_, rfl⟩
  obtain ⟨f0, f1, f2, f3⟩ := hF.cells
  obtain ⟨g0, g1⟩ := hK.cells
  have HA := Lib.hid (And.intro hF (And.intro hW (And.intro hbA hzA)))
  have HL := Lib.hid hl
  have HNO := Lib.hid hno
  have HBAD := Lib.hid hbad
  clear hF hK hbA hzA hl hno hbad hW
  go_enter Try.func8, Try.ntmps8
  go_wp2_with fail
  refine (of_any B I R T k0 k1 _).mono ?_
  rintro e w1 ⟨rfl, hb1⟩
  rw [HL.out, HNO.out]
  clear hwa f0 f1 f2 f3 g0 g1
  obtain ⟨hF, hW, hbA, hzA⟩ := HA.out
  obtain ⟨w2, hw2, hl2, hb2⟩ := lay_made w1 l
  have hs1 := hb1.size
  have hb12 : Below wa.heap.size wa w2 := hb1.trans (hb2.mono hb1.size)
  have H2 : Hid (HBx w B I R T word w1.heap.size l w2) := Lib.hid ⟨hF.below hF.lt hb12, (hb12.cell (p := ⟨w.heap.size + 2, 0, none⟩) (by show w.heap.size + 2 < _; omega)).trans hW, hl2, hbA.trans (hb12.mono (by omega)), by omega⟩
  have f0 := H2.out.1.cells.1
  have f9 := H2.out.2.1
  clear hF hW hbA hzA hb1 hb2 hs1 hb12 hl2
  unfold lv
  by_cases hok : OfOk B I R T
  case neg =>
    have hno : no = 2 := by rw [← HNO.out]; unfold ofNo; rw [if_neg hok]
    subst hno
    clear hok
    go_wp2_with (go_at_call 11; refine (num_any13 _ _).mono ?_; rintro e w' ⟨rfl, rfl⟩)
    refine (works13_any _).mono ?_
    rintro e w3 ⟨rfl, hb3⟩
    have H3 := Lib.hid (H2.out.2.2.2.1.trans (hb3.mono H2.out.2.2.2.1.size))
    clear hb3
    go_wp2_with fail
    go_ret
    exact ⟨rfl, H3.out⟩
  have hno : no = 0 := by rw [← HNO.out]; unfold ofNo; rw [if_pos hok]
  subst hno
  have hB1 : 32 ≤ B := hok.1.1
  have hB2 : B ≤ 2048 := hok.1.2
  have HOK := Lib.hid hok
  clear hok
  by_cases h1 : 64 < B
  case pos =>
    go_wp2_with (go_at_call 11; refine (num_any13 _ _).mono ?_; rintro e w' ⟨rfl, rfl⟩)
    refine (works13_any _).mono ?_
    rintro e w3 ⟨rfl, hb3⟩
    have H3 := Lib.hid (H2.out.2.2.2.1.trans (hb3.mono H2.out.2.2.2.1.size))
    clear hb3
    go_wp2_with fail
    go_ret
    exact ⟨rfl, H3.out⟩
  by_cases h2 : n < 0
  case pos =>
    go_wp2_with (go_at_call 11; refine (num_any13 _ _).mono ?_; rintro e w' ⟨rfl, rfl⟩)
    refine (works13_any _).mono ?_
    rintro e w3 ⟨rfl, hb3⟩
    have H3 := Lib.hid (H2.out.2.2.2.1.trans (hb3.mono H2.out.2.2.2.1.size))
    clear hb3
    go_wp2_with fail
    go_ret
    exact ⟨rfl, H3.out⟩
  by_cases h3 : 63 < n
  case pos =>
    go_wp2_with (go_at_call 11; refine (num_any13 _ _).mono ?_; rintro e w' ⟨rfl, rfl⟩)
    refine (works13_any _).mono ?_
    rintro e w3 ⟨rfl, hb3⟩
    have H3 := Lib.hid (H2.out.2.2.2.1.trans (hb3.mono H2.out.2.2.2.1.size))
    clear hb3
    go_wp2_with fail
    go_ret
    exact ⟨rfl, H3.out⟩
  by_cases h4 : word < 0
  case pos =>
    go_wp2_with (go_at_call 11; refine (num_any13 _ _).mono ?_; rintro e w' ⟨rfl, rfl⟩)
    refine (works13_any _).mono ?_
    rintro e w3 ⟨rfl, hb3⟩
    have H3 := Lib.hid (H2.out.2.2.2.1.trans (hb3.mono H2.out.2.2.2.1.size))
    clear hb3
    go_wp2_with fail
    go_ret
    exact ⟨rfl, H3.out⟩
  by_cases h5 : 64 * B ≤ word
  case pos =>
    go_wp2_with (go_at_call 11; refine (num_any13 _ _).mono ?_; rintro e w' ⟨rfl, rfl⟩)
    refine (works13_any _).mono ?_
    rintro e w3 ⟨rfl, hb3⟩
    have H3 := Lib.hid (H2.out.2.2.2.1.trans (hb3.mono H2.out.2.2.2.1.size))
    clear hb3
    go_wp2_with fail
    go_ret
    exact ⟨rfl, H3.out⟩
  exact absurd ⟨HOK.out, by omega, by omega, by omega, by omega, by omega⟩ HBAD.out

set_option maxRecDepth 100000 in
set_option maxHeartbeats 8000000 in
theorem holds_good (B I R T : Int) (k0 k1 : BitVec 64) (k : Nat) (y : BitVec 64) (word : Int) (w : World) (hok : OfOk B I R T) (hB : B ≤ 64) (hk : k ≤ 63) (hw0 : 0 ≤ word) (hwB : word < 64 * B) :
    Calls Try.prog 8 #[.agg #[.int .i64 B, .int .i64 I, .int .i64 R, .int .i64 T], .agg #[vw k0, vw k1], .int .i64 k, vw y, .int .i64 word] w fun e w' => e = .returned (.bool true) ∧ Below w.heap.size w w' := by
  obtain ⟨wa, hwa, hF, hK, hW, hbA, hzA⟩ := holds_start w B I R T word k0 k1
  obtain ⟨l, hl⟩ : ∃ l, ofL B I R T k0 k1 = l := ⟨_, rfl⟩
  have hno : ofNo B I R T = 0 := by unfold ofNo; rw [if_pos hok]
  have hr : RightL l := by rw [← hl]; exact right_of hok
  have hlB : l.B = B := by rw [← hl]; unfold ofL; rw [if_pos hok]
  have hB1 : 32 ≤ B := hok.1.1
  obtain ⟨m, hm⟩ : ∃ m : Nat, 64 * B - 64 = m := ⟨(64 * B - 64).toNat, by omega⟩
  have hpart : partL l word = (lastI word (itemsL l) (0, 0), 0) := by
    unfold partL
    rw [if_neg (fun h => h hr), if_neg (fun h => h ⟨hw0, by rw [hlB]; omega⟩)]
  obtain ⟨f0, f1, f2, f3⟩ := hF.cells
  obtain ⟨g0, g1⟩ := hK.cells
  have HA := Lib.hid (And.intro hF (And.intro hW (And.intro hbA hzA)))
  have HL := Lib.hid hl
  have HNO := Lib.hid hno
  have HR := Lib.hid hr
  have HLB := Lib.hid hlB
  have HM : Hid (64 * B - 64 = (m : Int) ∧ 0 < m ∧ m ≤ 4032) := Lib.hid ⟨hm, by omega, by omega⟩
  have HPART := Lib.hid hpart
  clear hF hK hbA hzA hl hno hok hW hr hlB hpart
  refine (callsIn_wide (n := 0)).1 ?_
  refine callsIn_of_wp_marks Try.func8 rfl trivial ?_ rfl
  simp only [Try.ntmps8, List.size_toArray, List.length_cons, List.length_nil, Nat.reduceAdd, Nat.reduceSub, Array.replicate_succ, Array.replicate_zero, List.push_toArray, List.append_toArray, List.nil_append, List.cons_append]
  refine wpIn_wide.2 ?_
  go_wp2_with fail
  refine (of_any B I R T k0 k1 _).mono ?_
  rintro e w1 ⟨rfl, hb1⟩
  rw [HL.out, HNO.out]
  clear hwa f0 f1 f2 f3 g0 g1
  obtain ⟨hF, hW, hbA, hzA⟩ := HA.out
  obtain ⟨w2, hw2, hl2, hb2⟩ := lay_made w1 l
  have hs1 := hb1.size
  have hb12 : Below wa.heap.size wa w2 := hb1.trans (hb2.mono hb1.size)
  have H2 : Hid (HBx w B I R T word w1.heap.size l w2) := Lib.hid ⟨hF.below hF.lt hb12, (hb12.cell (p := ⟨w.heap.size + 2, 0, none⟩) (by show w.heap.size + 2 < _; omega)).trans hW, hl2, hbA.trans (hb12.mono (by omega)), by omega⟩
  have f0 := H2.out.1.cells.1
  have f9 := H2.out.2.1
  clear hF hW hbA hzA hb1 hb2 hs1 hb12 hl2
  obtain ⟨q0, q1, q2, q3, q4, q5, q6, q7, q8, q9, qf⟩ := lay_cells H2.out.2.2.1
  have hsr := super_right l w2 HR.out
  unfold lv at hsr ⊢
  have HSR := Lib.hid hsr
  clear hsr
  go_wp2_with (go_at_call 11; refine (num_any13 _ _).mono ?_; rintro e w' ⟨rfl, rfl⟩)
  refine HSR.out.mono ?_
  rintro e w3 ⟨v, rfl, hown, hb3⟩
  have hown' := hown
  obtain ⟨p, cap0, rfl, hrd⟩ := super_rd hown
  obtain ⟨g0, o0, rfl, _⟩ : ∃ g0 o0, p = some ⟨g0, o0, none⟩ ∧ True := by
    obtain ⟨b, o, hp, _⟩ := hrd.at 0 (by rw [superL_len]; omega)
    exact ⟨b, o, hp, trivial⟩
  have H3 := Lib.hid (H2.out.go hb3)
  have HRS : Hid (RdL w3.heap.size (w3.drew.alloc (.cells #[] 24)) (some ⟨g0, o0, none⟩) cap0 vw (superL l)) := Lib.hid (hrd.below (((Below.refl w3.heap.size w3).drew).alloc (Nat.le_refl _) _))
  have d0 : w3.drew.cell? ⟨w.heap.size, 0, none⟩ = some (.int .i64 B) := H3.out.1.cells.1
  have x0 : (w3.drew.alloc (.cells #[] 24)).cell? ⟨w.heap.size, 0, none⟩ = some (.int .i64 B) := ((H3.out.go (((Below.refl w3.heap.size w3).drew).alloc (Nat.le_refl _) (.cells #[] 24))).1.cells).1
  clear hb3 hown hown' hrd hw2 f0 f9 q0 q1 q2 q3 q4 q5 q6 q7 q8 q9 qf
  go_wp2_with (go_at_call 11; refine (num_any13 _ _).mono ?_; rintro e w' ⟨rfl, rfl⟩)
  have hv1 : IntKind.i64.wrap (64 * B) = 64 * B := by rw [IntKind.wrap_i64]; omega
  have hv3 : IntKind.i64.wrap (m : Int) = m := by rw [IntKind.wrap_i64]; omega
  refine wp_region_noPanic ?_
  refine wp_region_F 8 (fun w' => w'.cell? ⟨w.heap.size, 0, none⟩ = some (.int .i64 B)) (by kernel_rfl) ?_ (fun hHeld => ?_)
  · exact d0
  refine' wpAnyF_takeT (i := 1) (v := _) rfl (by kernel_rfl) (by kernel_rfl) (by kernel_rfl) (by rfl) (fun _ _ _ h => h) (Or.inl ⟨by rfl, ?hy⟩) (fun _ => hHeld) _
  case hy => (intro w0 hSw; (try dsimp only at hSw); simp only [List.getElem_toArray, List.getElem_cons_zero, List.getElem_cons_succ]; go_simp; first | done | with_reducible rfl)
  simp only [Act.put, List.getElem_toArray, List.getElem_cons_zero, List.getElem_cons_succ, List.setIfInBounds_toArray, List.set_cons_zero, List.set_cons_succ]
  refine' wpAnyF_takeT (i := 3) (v := _) rfl (by kernel_rfl) (by kernel_rfl) (by kernel_rfl) (by rfl) (fun _ _ _ h => h) (Or.inl ⟨by rfl, ?hy⟩) (fun _ => hHeld) _
  case hy => (intro w0 hSw; (try dsimp only at hSw); simp only [List.getElem_toArray, List.getElem_cons_zero, List.getElem_cons_succ]; go_simp; first | done | with_reducible rfl)
  simp only [Act.put, List.getElem_toArray, List.getElem_cons_zero, List.getElem_cons_succ, List.setIfInBounds_toArray, List.set_cons_zero, List.set_cons_succ]
  refine' wpAnyF_take (i := 4) (v := _) rfl (by kernel_rfl) (by kernel_rfl) (by kernel_rfl) (by kernel_rfl) (by rfl) (by kernel_rfl) (fun _ _ _ h => h) (Or.inl ⟨by rfl, ?hy⟩) hHeld _
  case hy => (intro w0 hSw; (try dsimp only at hSw); simp only [List.getElem_toArray, List.getElem_cons_zero, List.getElem_cons_succ]; go_simp; first | done | with_reducible rfl)
  simp only [Act.put, List.getElem_toArray, List.getElem_cons_zero, List.getElem_cons_succ, List.setIfInBounds_toArray, List.set_cons_zero, List.set_cons_succ]
  refine' wpAnyF_takeT (i := 5) (v := _) rfl (by kernel_rfl) (by kernel_rfl) (by kernel_rfl) (by rfl) (fun _ _ _ h => h) (Or.inl ⟨by rfl, ?hy⟩) (fun _ => hHeld) _
  case hy => (intro w0 hSw; (try dsimp only at hSw); simp only [List.getElem_toArray, List.getElem_cons_zero, List.getElem_cons_succ]; go_simp; first | done | with_reducible rfl)
  simp only [Act.put, List.getElem_toArray, List.getElem_cons_zero, List.getElem_cons_succ, List.setIfInBounds_toArray, List.set_cons_zero, List.set_cons_succ]
  refine' wpAnyF_takeT (i := 6) (v := _) rfl (by kernel_rfl) (by kernel_rfl) (by kernel_rfl) (by rfl) (fun _ _ _ h => h) (Or.inl ⟨by rfl, ?hy⟩) (fun _ => hHeld) _
  case hy => (intro w0 hSw; (try dsimp only at hSw); simp only [List.getElem_toArray, List.getElem_cons_zero, List.getElem_cons_succ]; go_simp; first | done | with_reducible rfl)
  simp only [Act.put, List.getElem_toArray, List.getElem_cons_zero, List.getElem_cons_succ, List.setIfInBounds_toArray, List.set_cons_zero, List.set_cons_succ]
  refine wpAnyF_one (i := 0) (by kernel_rfl) rfl (fun K hK => ?_)
  go_simp
  refine hK.out _ _ (fun _ => ?_) ?_
  · exact x0
  clear hK K
  try simp only [Act.put, List.getElem_toArray, List.getElem_cons_zero, List.getElem_cons_succ, List.setIfInBounds_toArray, List.set_cons_zero, List.set_cons_succ]
  refine wpAnyF_one (i := 2) (by kernel_rfl) rfl (fun K hK => ?_)
  refine step_append0 (by rfl) (.tmp 73) (.tmp 74) _ rfl elem_u64 vw w3.heap.size (superL l) _ rfl (some ⟨g0, o0, none⟩) cap0 w3.heap.size (by rw [superL_len]; rfl) (own_empty w3.drew _ _ _ (Nat.le_refl _)) HRS.out (fun _ => rfl) (by rw [superL_len]; omega) (by omega) (by show _ ≤ (w3.drew.alloc _).heap.size; simp) ?_
  intro v5 w5 hown5 hgr5 _
  have hb5 : Below w3.heap.size w3 w5 := (((Below.refl w3.heap.size w3).drew).alloc (Nat.le_refl _) _).grown hgr5 (by show _ ≤ (w3.drew.alloc _).heap.size; simp) (by intro b hb; cases hb; exact Nat.le_refl _)
  rw [superL_len] at hown5
  obtain ⟨g5, c5, rfl, hg5, hc5, hc5'⟩ := own_pos hown5 (by omega)
  have HO5 := Lib.hid hown5
  have HB5 := Lib.hid hb5
  have HG5 := Lib.hid hg5
  have x5 := (H3.out.go hb5).1.cells.1
  clear hown5 hb5 hgr5 hg5
  refine hK.out _ _ (fun _ => ?_) ?_
  · exact x5
  clear hK K
  try simp only [Act.put, List.getElem_toArray, List.getElem_cons_zero, List.getElem_cons_succ, List.setIfInBounds_toArray, List.set_cons_zero, List.set_cons_succ]
  refine wpAnyF_one (i := 7) (by kernel_rfl) rfl (fun K hK => ?_)
  refine step_append_zeros (by rfl) (.tmp 75) (.tmp 79) _ _ rfl .i64 .i64 elem_u64 Try.underlying3 rfl rfl w3.heap.size g5 c5 64 _ rfl HO5.out m rfl (by have := HM.out; omega) (by have := HM.out; omega) (by omega) (by have := HB5.out.size; omega) ?_
  intro v6 w6 hown6 hgr6
  have hb6 : Below w3.heap.size w3 w6 := HB5.out.grown hgr6 HB5.out.size (by intro b hb; cases hb; exact HG5.out)
  obtain ⟨g, c, rfl, hg, hc, hc'⟩ := own_pos hown6 (by omega)
  have HO6 := Lib.hid hown6
  have HB6 := Lib.hid hb6
  have HG := Lib.hid hg
  have x6 := (H3.out.go hb6).1.cells.1
  clear hown6 hb6 hgr6 hg
  refine hK.out _ _ (fun _ => ?_) ?_
  · exact x6
  clear hK K
  try simp only [Act.put, List.getElem_toArray, List.getElem_cons_zero, List.getElem_cons_succ, List.setIfInBounds_toArray, List.set_cons_zero, List.set_cons_succ]
  refine wpAnyF_one (i := 8) (by kernel_rfl) rfl (fun K hK => ?_)
  go_simp
  refine hK.out _ _ (fun h => Bool.noConfusion (h.symm.trans (by kernel_rfl : _ = true))) ?_
  clear hK K
  try simp only [Act.put, List.getElem_toArray, List.getElem_cons_zero, List.getElem_cons_succ, List.setIfInBounds_toArray, List.set_cons_zero, List.set_cons_succ]
  refine wpAnyF_done (by kernel_rfl) ?_ _
  refine NoPanic.normal ?_
  have hdm : (devL l m).map vw = (superL l).map vw ++ List.replicate m (.int .u64 0) := by
    unfold devL
    rw [List.map_append, List.map_replicate]
    rfl
  have hod := HO6.out
  rw [← hdm] at hod
  obtain ⟨p6, c6, hp6, hr6, _⟩ := rdl_of_owns (ys := devL l m) (by rw [devL_len]; exact hod)
  simp only [Value.slice.injEq] at hp6
  obtain ⟨rfl, hxx, rfl⟩ := hp6
  clear hxx
  have hrd1 := read_any (some ⟨g, 0, none⟩) c (devL l m) w6 hr6
  rw [devL_len, read_dev HR.out (by rw [HLB.out]; exact HM.out.1)] at hrd1
  have HRD1 := Lib.hid hrd1
  have HOD := Lib.hid hod
  have H6 := Lib.hid (H3.out.go HB6.out)
  clear hdm hod hr6 hrd1 hHeld d0 x0 x5 x6 hv1 hv3
  go_wp2_with fail
  refine HRD1.out.mono ?_
  rintro e w7 ⟨rfl, hb7⟩
  obtain ⟨w8, hw8, hl8, hb8⟩ := lay_made w7 l
  have hb78 : Below w6.heap.size w6 w8 := hb7.trans (hb8.mono hb7.size)
  have hown8 := own_below (own_below HOD.out hb7) hb8
  have H8 := Lib.hid (H6.out.go hb78)
  have hkl : k < (devL l m).length := by rw [devL_len]; omega
  obtain ⟨z, hz⟩ : ∃ z, (devL l m)[k]'hkl = z := ⟨_, rfl⟩
  have hcell := own_at hown8 k hkl
  rw [hz] at hcell
  have HZ : Hid ((devL l m)[k]? = some z) := Lib.hid (by rw [List.getElem?_eq_getElem hkl, hz])
  have hfree := hown8.frozenAt k
  have hxor := bits_xor_w z y
  have hk1 : (k : Int) < 64 + (m : Int) := by omega
  have hk2 : (k : Int) < ((64 + m : Nat) : Int) := by omega
  have hgl : g < w6.heap.size := (hown8.lt g rfl).2 |> fun _ => (HOD.out.lt g rfl).2
  have H8L : Hid (LayAt w8 w7.heap.size l ∧ Below w6.heap.size w6 w8 ∧ w6.heap.size ≤ w7.heap.size ∧ g < w6.heap.size ∧ w3.heap.size ≤ g ∧ w3.heap.size ≤ w6.heap.size) := Lib.hid ⟨hl8, hb78, hb7.size, hgl, HG.out, HB6.out.size⟩
  have HO8 := Lib.hid hown8
  clear hb7 hb8 hb78 hown8 hz hl8 hgl
  unfold lv
  go_wp2_with fail
  have ho9 := own_set HO8.out k (xorw z y)
  have hb9 : Below w3.heap.size w8 (w8.setCell ⟨g, k, none⟩ (vw (xorw z y))) := (Below.refl _ _).setCell (p := ⟨g, k, none⟩) H8L.out.2.2.2.2.1 _
  have hl9 : LayAt (w8.setCell ⟨g, k, none⟩ (vw (xorw z y))) w7.heap.size l := (heap_setCell_other _ ⟨g, k, none⟩ w7.heap.size _ (by have := H8L.out; show w7.heap.size ≠ g; omega)).trans H8L.out.1
  rw [show Value.int IntKind.u64 ((xorw z y).toNat : Int) = vw (xorw z y) from rfl]
  generalize w8.setCell ⟨g, k, none⟩ (vw (xorw z y)) = w9 at *
  have hb1lt : w1.heap.size < w3.heap.size := H3.out.2.2.1.lt
  have H9 := Lib.hid (H8.out.on hb1lt hb9)
  obtain ⟨p9, c9, hp9, hr9, _⟩ := rdl_of_owns (ys := (devL l m).set k (xorw z y)) (by rw [List.length_set, devL_len]; exact ho9)
  simp only [Value.slice.injEq] at hp9
  obtain ⟨rfl, hxx, rfl⟩ := hp9
  clear hxx
  have hrd2 := read_any (some ⟨g, 0, none⟩) c ((devL l m).set k (xorw z y)) w9 hr9
  rw [List.length_set, devL_len, read_bent HR.out (by rw [HLB.out]; exact HM.out.1) k (by omega) y z HZ.out] at hrd2
  obtain ⟨x, hx⟩ : ∃ x, (if y = 0#64 then (l, (0 : Int)) else (lay0, 230)) = x := ⟨_, rfl⟩
  rw [hx] at hrd2
  have hc3 : (x.2 == 230) = !(decide (y = 0#64)) := by
    rw [← hx]
    by_cases hy : y = 0#64
    · rw [if_pos hy]; simp [hy]
    · rw [if_neg hy]; simp [hy]
  have hc4 : decide (x.2 = 230) = !(decide (y = 0#64)) := by rw [← hc3]; rfl
  have hc1 : ((y.toNat : Int) != 0) = !(decide (y = 0#64)) := by
    by_cases hy : y = 0#64
    · rw [hy]; rfl
    · have : y.toNat ≠ 0 := fun h => hy (BitVec.eq_of_toNat_eq (by simpa using h))
      simp [hy]
      omega
  obtain ⟨x1, x2⟩ := x
  simp only at hc3 hc4 hrd2
  have HRD2 := Lib.hid hrd2
  have HL9 := Lib.hid hl9
  clear hrd2 hr9 ho9 hb9 hl9 hcell hfree hxor hk1 hk2 hw8 hx
  refine HRD2.out.mono ?_
  rintro e w10 ⟨rfl, hb10⟩
  obtain ⟨w11, hw11, hl11, hb11⟩ := lay_made w10 x1
  have hb911 : Below w9.heap.size w9 w11 := hb10.trans (hb11.mono hb10.size)
  have H11 := Lib.hid (H9.out.go hb911)
  have hL11 : LayAt w11 w7.heap.size l := HL9.out.below HL9.out.lt hb911
  obtain ⟨q0, q1, q2, q3, q4, q5, q6, q7, q8, q9, qf⟩ := lay_cells H11.out.2.2.1
  obtain ⟨n0, n1, n2, n3, n4, n5, n6, n7, n8, n9, nf⟩ := lay_cells hL11
  have heq : ∀ W, (binOp .neq 27 (.agg #[.int .i64 l.B, .int .i64 l.I, .int .i64 l.R, .int .i64 l.T, vw l.k0, vw l.k1, .int .i64 l.i, .int .i64 l.r, .int .i64 l.m, .int .i64 l.d]) (.agg #[.int .i64 l.B, .int .i64 l.I, .int .i64 l.R, .int .i64 l.T, vw l.k0, vw l.k1, .int .i64 l.i, .int .i64 l.r, .int .i64 l.m, .int .i64 l.d])).run Try.prog W = .ok (.bool false) W := fun W => by
    have := lv_neq l l W
    simpa [lv] using this
  clear hb10 hb11 hb911 hl11 hL11
  unfold lv
  go_wp2_with (go_at_call 11; refine (num_any13 _ _).mono ?_; rintro e w' ⟨rfl, rfl⟩)
  refine (each13_any l w11).mono ?_
  rintro e w12 ⟨rfl, hL12, hb12⟩
  clear hw11 heq hc1 hc3 hc4 q0 q1 q2 q3 q4 q5 q6 q7 q8 q9 qf n0 n1 n2 n3 n4 n5 n6 n7 n8 n9 nf
  obtain ⟨W0, hW0⟩ : ∃ W0, w12.alloc (.cells #[.int .i64 0, .int .i64 0] 46) = W0 := ⟨_, rfl⟩
  have hx0 : W0.heap[w12.heap.size]? = some (.cells #[.int .i64 (lastI word ((itemsL l).take 0) (0, 0)).1, .int .i64 (lastI word ((itemsL l).take 0) (0, 0)).2] 46 (0, 0)) := by rw [← hW0]; exact World.alloc_heap_new _ _
  have hL0 : LayAt W0 w11.heap.size l := by rw [← hW0]; exact (Below.heap_alloc _ _ _ hL12.lt).trans hL12
  have hbx : w11.heap.size < w12.heap.size := hL12.lt
  have hz0 : W0.heap.size = w12.heap.size + 1 := by rw [← hW0]; simp
  have H0 := Lib.hid (H11.out.go (W' := W0) (by rw [← hW0]; exact hb12.alloc hb12.size _))
  have hnil := func13_nil
  clear hb12 hL12
  go_wp2_with fail
  clear hnil hW0
  refine (wpIn_wide (n := 0)).1 ?_
  refine rf_law (gf := 33) (lb := #[.pointer (some ⟨w11.heap.size, 0, none⟩)]) rfl (enters_of Try.func33 (by kernel_rfl) rfl)
    (each13_iter w11.heap.size l W0 hL0) (by intro x hx; obtain ⟨y, _, rfl⟩ := List.mem_map.1 hx; rfl) ?hFP
    (fun k T W => Keep (fun b => b = w12.heap.size) W0 T W ∧ W.heap[w12.heap.size]? = some (.cells #[.int .i64 (lastI word ((itemsL l).take k) (0, 0)).1, .int .i64 (lastI word ((itemsL l).take k) (0, 0)).2] 46 (0, 0)))
    (fun _ _ _ _ => False) ?hJ (fun _ _ _ _ _ h _ => h) ?h0 ?hround ?hdone ?hstop
  case hFP =>
    rintro b rfl
    omega
  case hJ =>
    rintro k T W W' ⟨h1, h2⟩ hf
    exact ⟨h1.go hf, (h1.own hf (by omega)).trans h2⟩
  case h0 => exact ⟨Keep.start _ _, hx0⟩
  case hround =>
    rintro L k hk T W ⟨hs, hbox⟩ hTl hTW hkW
    have hk' : k < (itemsL l).length := by simpa [encI] using hk
    have hts : (itemsL l).take (k + 1) = (itemsL l).take k ++ [(itemsL l)[k]] := List.take_succ_eq_append_getElem hk'
    rw [encI_get]
    obtain ⟨y, hy⟩ : ∃ y, (itemsL l)[k] = y := ⟨_, rfl⟩
    rw [hy] at hts ⊢
    obtain ⟨y1, y2, y3⟩ := y
    unfold itA
    simp only
    have HTS := Lib.hid (hts ▸ lastI_snoc word ((itemsL l).take k) (y1, y2, y3) (0, 0))
    obtain ⟨x, hx⟩ : ∃ x, lastI word ((itemsL l).take k) (0, 0) = x := ⟨_, rfl⟩
    rw [hx] at hbox HTS
    clear hts hy hx hx0
    gi_wp2
    have hWa : Kps (fun b => (b = w11.heap.size) ∨ T b) W (W.alloc (.cells #[.int .i64 y2, .int .i64 y3] 46)) := (Kps.refl _ _).alloc _
    refine ⟨hWa, fun W2 hf hsz hk2 _ _ => ?_⟩
    have hs2 := (hs.alloc (.cells #[.int .i64 y2, .int .i64 y3] 46)).goSame hf (by rw [hsz]; simp)
    have hW2 : ∀ b, b ≤ W.heap.size → ¬ T b → W2.heap[b]? = (W.alloc (.cells #[.int .i64 y2, .int .i64 y3] 46)).heap[b]? := fun b hb hn => hf.block b (by simp; omega) hn
    have hszW : W0.heap.size ≤ W.heap.size := hkW.size
    have hsz3 := H0.out.2.2.2.2
    have hsz4 := H0.out.2.2.1.lt
    have hlt12 : w1.heap.size < w12.heap.size := by
      have := H11.out.2.2.1.lt
      omega
    have hnT : ¬ T w12.heap.size := hs.notT (by omega)
    have hbox2 : W2.heap[w12.heap.size]? = some (.cells #[.int .i64 x.1, .int .i64 x.2] 46 (0, 0)) := (hW2 _ (by omega) hnT).trans ((Below.heap_alloc _ _ _ (by omega)).trans hbox)
    have hx2 : W2.heap[W.heap.size]? = some (.cells #[.int .i64 y2, .int .i64 y3] 46 (0, 0)) := (hW2 _ (Nat.le_refl _) (fun ht => Nat.lt_irrefl _ (hTW _ ht))).trans (World.alloc_heap_new W _)
    have hwd : W2.cell? ⟨w.heap.size + 2, 0, none⟩ = some (.int .i64 word) := (World.cell?_of_block (w := W0) (a := ⟨w.heap.size + 2, 0, none⟩) (hs2.frn.block (w.heap.size + 2) (by omega) (by omega))).trans H0.out.2.1
    have c0 : W2.cell? ⟨W.heap.size, 0, none⟩ = some (.int .i64 y2) := by simp [World.cell?, hx2]
    have c1 : W2.cell? ⟨W.heap.size, 1, none⟩ = some (.int .i64 y3) := by simp [World.cell?, hx2]
    have e0 : W2.cell? ⟨w12.heap.size, 0, none⟩ = some (.int .i64 x.1) := by simp [World.cell?, hbox2]
    have e1 : W2.cell? ⟨w12.heap.size, 1, none⟩ = some (.int .i64 x.2) := by simp [World.cell?, hbox2]
    have ef : ∀ k, W2.frozen? ⟨w12.heap.size, k, none⟩ = false := fun k => by simp [World.frozen?, hbox2]
    have HS2 := Lib.hid hs2
    have HB2 := Lib.hid hbox2
    have HNT := Lib.hid hnT
    clear hf hkW hk2 hs hbox hs2 hbox2 hW2 hx2 hWa hnT hL0
    by_cases hle : y1 ≤ word
    · gi_wp2
      have hl := HTS.out
      rw [if_pos hle] at hl
      refine ⟨⟨(HS2.out.set ⟨w12.heap.size, 0, none⟩ (.inl rfl) _).set ⟨w12.heap.size, 1, none⟩ (.inl rfl) _, ?_⟩, ?_⟩
      · rw [hl]
        have h1 := heap_setCell_same W2 w12.heap.size 0 _ _ (.int .i64 y2) HB2.out
        have h2 := heap_setCell_same _ w12.heap.size 1 _ _ (.int .i64 y3) h1
        exact h2
      · exact (kps_set ⟨w12.heap.size, 0, none⟩ (by simp only []; omega) HNT.out _).trans (kps_set ⟨w12.heap.size, 1, none⟩ (by simp only []; omega) HNT.out _)
    · gi_wp2
      have hl := HTS.out
      rw [if_neg (by omega)] at hl
      refine ⟨⟨HS2.out, ?_⟩, Kps.refl _ _⟩
      rw [hl]
      exact HB2.out
  case hdone =>
    rintro D T W ⟨hs, hbox⟩ hTD hTW hkW hD hK
    rw [encI_len, List.take_length] at hbox
    obtain ⟨x, hx⟩ : ∃ x, lastI word (itemsL l) (0, 0) = x := ⟨_, rfl⟩
    rw [hx] at hbox
    have hszW : W0.heap.size ≤ W.heap.size := hkW.size
    have hsz3 := H0.out.2.2.2.2
    have hlt12 : w1.heap.size < w12.heap.size := by
      have := H11.out.2.2.1.lt
      omega
    have hkb : ∀ b, b < w12.heap.size → W.heap[b]? = W0.heap[b]? := fun b hb => hs.frn.block b (by omega) (by omega)
    have hpl := part_any l word W
    rw [HPART.out, hx] at hpl
    have HPL := Lib.hid hpl
    have hWL : LayAt W w1.heap.size l := (hkb _ hlt12).trans H0.out.2.2.1
    have hwd : W.cell? ⟨w.heap.size + 2, 0, none⟩ = some (.int .i64 word) := (World.cell?_of_block (w := W0) (a := ⟨w.heap.size + 2, 0, none⟩) (hkb (w.heap.size + 2) (by omega))).trans H0.out.2.1
    have hbW : Below w.heap.size w W := (hs.at ⟨H0.out.2.2.2.1, H0.out.2.2.2.1.size⟩ (by rintro b rfl; omega)).1
    obtain ⟨q0, q1, q2, q3, q4, q5, q6, q7, q8, q9, qf⟩ := lay_cells hWL
    have HBX := Lib.hid hbox
    have HBW := Lib.hid hbW
    have HKD := Lib.hid hK
    clear hs hbox hx hkW hx0 hL0 hkb hpl hWL hbW hK hTD hTW
    go_wp2_with fail
    refine HPL.out.mono ?_
    rintro e V1 ⟨rfl, hv1⟩
    obtain ⟨V2, hV2⟩ : ∃ V2, V1.alloc (.cells #[.int .i64 x.1, .int .i64 x.2] 46) = V2 := ⟨_, rfl⟩
    have hbV : Below W.heap.size W V2 := by rw [← hV2]; exact hv1.alloc hv1.size _
    have hbox2 : V2.heap[w12.heap.size]? = some (.cells #[.int .i64 x.1, .int .i64 x.2] 46 (0, 0)) := (hbV.block _ (by omega)).trans HBX.out
    have hbox3 : V2.heap[V1.heap.size]? = some (.cells #[.int .i64 x.1, .int .i64 x.2] 46 (0, 0)) := by rw [← hV2]; exact World.alloc_heap_new _ _
    have e0 : V2.cell? ⟨w12.heap.size, 0, none⟩ = some (.int .i64 x.1) := by simp [World.cell?, hbox2]
    have e1 : V2.cell? ⟨w12.heap.size, 1, none⟩ = some (.int .i64 x.2) := by simp [World.cell?, hbox2]
    have c0 : V2.cell? ⟨V1.heap.size, 0, none⟩ = some (.int .i64 x.1) := by simp [World.cell?, hbox3]
    have c1 : V2.cell? ⟨V1.heap.size, 1, none⟩ = some (.int .i64 x.2) := by simp [World.cell?, hbox3]
    have HV2 := Lib.hid hbV
    clear hv1 hbV hbox2 hbox3 q0 q1 q2 q3 q4 q5 q6 q7 q8 q9 qf hwd
    unfold pv
    go_wp2_with (go_at_call 11; refine (num_any13 _ _).mono ?_; rintro e w' ⟨rfl, rfl⟩)
    refine (works13_any _).mono ?_
    rintro e V3 ⟨rfl, hv3⟩
    have HV3 := Lib.hid (HV2.out.trans (hv3.mono HV2.out.size))
    clear hv3 hV2 e0 e1 c0 c1
    go_wp2_with fail
    have hDl : D < W.heap.size := (Array.getElem?_eq_some_iff.1 HKD.out).1
    refine ⟨by simp, .inl ⟨_, _, rfl, run_takeDeferred ((HV3.out.block D hDl).trans HKD.out), ?_⟩⟩
    refine ⟨.bool true, by simp [results, Try.results8, go_sem], rfl, ?_⟩
    exact below_putObj (HBW.out.trans (HV3.out.mono HBW.out.size)) (by omega) _
  case hstop =>
    intro D c k T W _ _ h
    exact h.elim

theorem lawLayoutHolds (B I R T : Int) (k0 k1 : BitVec 64) (n : Int) (y : BitVec 64) (word : Int) (w : World) :
    Calls Try.prog 8 #[.agg #[.int .i64 B, .int .i64 I, .int .i64 R, .int .i64 T], .agg #[vw k0, vw k1], .int .i64 n, vw y, .int .i64 word] w fun e w' => e = .returned (.bool true) ∧ Below w.heap.size w w' := by
  by_cases h : OfOk B I R T ∧ B ≤ 64 ∧ 0 ≤ n ∧ n ≤ 63 ∧ 0 ≤ word ∧ word < 64 * B
  · obtain ⟨h1, h2, h3, h4, h5, h6⟩ := h
    obtain ⟨k, rfl⟩ : ∃ k : Nat, n = k := ⟨n.toNat, by omega⟩
    exact holds_good B I R T k0 k1 k y word w h1 h2 (by omega) h5 h6
  · exact holds_bad B I R T k0 k1 n y word w h
end Go.Proofs.Ytljegehfdmgcbaa
