/- ScanLooks: what a reader finds in slots that stay. -/
import Derived.Test.YtenmogokbelahaaScanP
import Derived.Test.YtenmogokbelahaaOwnG
import Derived.Sort.CutIn
import Derived.Sort.QuietIn
namespace Go.Proofs.Ytenmogokbelahaa
open Go Go.RowKit
attribute [local go_sem] Oper.semAt_some

theorem hrounds (way : Int) (left : BitVec 64) (s : List (BitVec 64)) (key : BitVec 64) : ∀ k (h : k < (trI way left s key).length), FineR way left s ∧ ∃ q : Rd, q.done = false ∧ OkR q ∧ (trI way left s key)[k] = (q.wants, atW left s q.wants) ∧ q.wants < s.length ∧ rdK way left s key k = rdC q ∧ rdK way left s key (k + 1) = rdC (q.give (atW left s q.wants)) := by
  intro k h
  by_cases hf : FineR way left s
  · have e : trI way left s key = itemsA left s (ofR way s key) := by unfold trI; rw [if_pos hf]
    have h' : k < (itemsA left s (ofR way s key)).length := by rw [← e]; exact h
    have e2 : (trI way left s key)[k] = (itemsA left s (ofR way s key))[k] := by simp only [e]
    have hok := ofR_ok hf key
    rw [itemsA_len] at h'
    have hd := (stA_lt (left := left) (s := s) hok rfl k).2 h'
    refine ⟨hf, stA left s (ofR way s key) k, hd, (stA_ok left s hok k).1, ?_, ?_, ?_, ?_⟩
    · rw [e2, itemsA_get]
    · have h1 := (wants_in (stA_ok left s hok k).1 hd).2
      rw [(stA_ok left s hok k).2.2.1] at h1
      have h2 : (ofR way s key).slots = s.length / 2 := rfl
      rw [h2] at h1
      obtain ⟨-, -, h3, -, -⟩ := hf
      omega
    · unfold rdK; rw [if_pos hf]
    · unfold rdK; rw [if_pos hf, stA_succ hd]
  · have e : trI way left s key = [] := by unfold trI; rw [if_neg hf]
    rw [e] at h
    exact absurd h (Nat.not_lt_zero _)
theorem Frn.monoX {T T' : Nat → Prop} {A B : World} (h : Frn T A B) (ht : ∀ b, T b → T' b) : Frn T' A B := ⟨h.os, h.tape, h.output, h.size, fun b hb hn => h.block b hb (fun h' => hn (ht b h'))⟩
theorem sets10F {V : World} {O : Nat} (x0 x1 x2 x3 x4 x5 x6 x7 x8 x9 : Value) : Frn (fun b => b = O) V ((((((((((V.setCell ⟨O, 0, none⟩ x0).setCell ⟨O, 1, none⟩ x1).setCell ⟨O, 2, none⟩ x2).setCell ⟨O, 3, none⟩ x3).setCell ⟨O, 4, none⟩ x4).setCell ⟨O, 5, none⟩ x5).setCell ⟨O, 6, none⟩ x6).setCell ⟨O, 7, none⟩ x7).setCell ⟨O, 8, none⟩ x8).setCell ⟨O, 9, none⟩ x9) :=
  ((((((((((Frn.refl (fun b => b = O) V).setCell ⟨O, 0, none⟩ (.inl rfl) x0).setCell ⟨O, 1, none⟩ (.inl rfl) x1).setCell ⟨O, 2, none⟩ (.inl rfl) x2).setCell ⟨O, 3, none⟩ (.inl rfl) x3).setCell ⟨O, 4, none⟩ (.inl rfl) x4).setCell ⟨O, 5, none⟩ (.inl rfl) x5).setCell ⟨O, 6, none⟩ (.inl rfl) x6).setCell ⟨O, 7, none⟩ (.inl rfl) x7).setCell ⟨O, 8, none⟩ (.inl rfl) x8).setCell ⟨O, 9, none⟩ (.inl rfl) x9
theorem PS.frnX {w : World} {way : Int} {left : BitVec 64} {p : Option Addr} {cap : Nat} {s : List (BitVec 64)} {key : BitVec 64} {many : Int} {re : Rd} {fb : Bool} {Wt b1 bt turn : Nat} {W W' : World} {X : Nat → Prop} (h : PS w way left p cap s key many re fb Wt b1 bt turn W) (hf : Frn X W W') (hX : ∀ b, X b → bt < b) : PS w way left p cap s key many re fb Wt b1 bt turn W' :=
  h.kept (X := X) (T := fun _ => False) ⟨hf, fun _ h => h.elim⟩ hX
theorem elem_w64 : ElemIs Try.prog 24 23 (.int .u64 0) 1 8 := ⟨by kernel_rfl, by kernel_rfl, rfl, by decide⟩
set_option maxRecDepth 100000 in
set_option maxHeartbeats 8000000 in
theorem slooks_out (way : Int) (left : BitVec 64) (p : Option Addr) (cap : Nat) (s : List (BitVec 64)) (key : BitVec 64) (many : Int) (w : World) (hl : 80 < s.length) :
    Calls Try.prog 3 #[.int .i64 way, vw left, .slice p s.length cap, vw key, .int .i64 many] w fun e w' => e = .returned (.bool true) ∧ Below w.heap.size w w' := by
  obtain ⟨wa, hwa, hL, hS, hM, hR, hba, hza⟩ := box4 w 23 24 3 4 (vw left) (.slice p s.length cap) (.int .i64 many) (.bool false)
  have HW := Lib.hid (works10_any wa)
  have HA := Lib.hid (And.intro hR hba)
  have HWA := Lib.hid hwa
  have hl' : (80 : Int) < (s.length : Int) := by omega
  have x1 := hS.cell
  clear hL hS hM hR hba hza hwa hl
  have fin : ∀ wz, Below wa.heap.size wa wz → Box wz (w.heap.size + 3) 4 (.bool false) ∧ Below w.heap.size w wz := fun wz hb => ⟨HA.out.1.below hb HA.out.1.lt, HA.out.2.trans (hb.mono HA.out.2.size)⟩
  have FIN := Lib.hid fin
  clear fin
  go_enter Try.func3, Try.ntmps3
  go_wp2_with fail
  rw [HWA.out]
  refine HW.out.mono ?_
  rintro e wz ⟨rfl, hbz⟩
  have HZ := Lib.hid (FIN.out wz hbz)
  have c9 := HZ.out.1.cell
  have f9 := HZ.out.1.free
  clear hbz
  go_wp2_with fail
  have hc9 := (HZ.out.1.set (.bool true)).cell
  refine bodyPost_ret (v := .bool true) (results_cell1 rfl _ _ rfl (v := .bool true) (by simp [go_sem, hc9])) rfl ⟨rfl, ?_⟩
  exact HZ.out.2.setCell (p := ⟨w.heap.size + 3, 0, none⟩) (by simp) _

set_option maxRecDepth 100000 in
set_option maxHeartbeats 16000000 in
theorem slooks_in (way : Int) (left : BitVec 64) (p : Option Addr) (cap : Nat) (s : List (BitVec 64)) (key : BitVec 64) (many : Int) (w : World) (hrd : RdL w.heap.size w p cap vw s) (hl : s.length ≤ 80) :
    Calls Try.prog 3 #[.int .i64 way, vw left, .slice p s.length cap, vw key, .int .i64 many] w fun e w' => e = .returned (.bool true) ∧ Below w.heap.size w w' := by
  obtain ⟨wa, hwa, hL, hS, hM, hR, hba, hza⟩ := box4 w 23 24 3 4 (vw left) (.slice p s.length cap) (.int .i64 many) (.bool false)
  have HRD := Lib.hid hrd
  have HA := Lib.hid (And.intro hL (And.intro hS (And.intro hM hR)))
  have HB := Lib.hid (And.intro hba hza)
  have HWA := Lib.hid hwa
  have hl' : (s.length : Int) ≤ 80 := by omega
  have hd : IntKind.i64.wrap ((s.length : Int).tdiv 2) = (s.length : Int) / 2 := by rw [Int.tdiv_eq_ediv_of_nonneg (by omega), IntKind.wrap_i64]; omega
  have hd2 : IntKind.i64.wrap ((s.length : Int) / 2) = (s.length : Int) / 2 := by rw [IntKind.wrap_i64]; omega
  have x0 := hL.cell
  have x1 := hS.cell
  have hcap := hrd.1
  have hcap2 := hrd.2.1
  have y0 : ((wa.drew).alloc (.cells #[] 23)).cell? ⟨w.heap.size, 0, none⟩ = some (vw left) := (hL.below (show Below wa.heap.size wa (wa.drew.alloc _) from ((Below.refl _ _).drew).alloc (Nat.le_refl _) _) hL.lt).cell
  have y1 : ((wa.drew).alloc (.cells #[] 23)).cell? ⟨w.heap.size + 1, 0, none⟩ = some (.slice p s.length cap) := (hS.below (show Below wa.heap.size wa (wa.drew.alloc _) from ((Below.refl _ _).drew).alloc (Nat.le_refl _) _) hS.lt).cell
  have hbe : Below w.heap.size wa ((wa.alloc (.cells #[] 23)).drew) := ((Below.refl _ _).alloc (by omega) _).drew
  have hbe2 : wa.heap.size ≤ ((wa.alloc (.cells #[] 23)).drew).heap.size := by show wa.heap.size ≤ (wa.alloc (.cells #[] 23)).heap.size; rw [World.size_alloc]; omega
  have HBE : Hid (RdL w.heap.size ((wa.alloc (.cells #[] 23)).drew) p cap vw s ∧ wa.heap.size ≤ ((wa.alloc (.cells #[] 23)).drew).heap.size) := Lib.hid ⟨hrd.below (hba.trans hbe), hbe2⟩
  clear hL hS hM hR hba hza hwa hrd hbe hbe2
  refine (callsIn_wide (n := 0)).1 ?_
  refine callsIn_of_wp_marks Try.func3 rfl trivial ?_ rfl
  simp only [Try.ntmps3, List.size_toArray, List.length_cons, List.length_nil, Nat.reduceAdd, Nat.reduceSub, Array.replicate_succ, Array.replicate_zero, List.push_toArray, List.append_toArray, List.nil_append, List.cons_append]
  refine wpIn_wide.2 ?_
  go_wp2_with fail
  rw [HWA.out]
  go_wp2_with fail
  refine wp_region_noPanic ?_
  refine wp_region_F 11 (fun w' => w'.cell? ⟨w.heap.size, 0, none⟩ = some (vw left) ∧ w'.cell? ⟨w.heap.size + 1, 0, none⟩ = some (.slice p s.length cap)) (by kernel_rfl) ?_ (fun hHeld => ?_)
  · exact ⟨x0, x1⟩
  refine' wpAnyF_takeT (i := 0) (v := _) rfl (by kernel_rfl) (by kernel_rfl) (by kernel_rfl) (by rfl) (fun _ _ _ h => h) (Or.inl ⟨by rfl, ?hy⟩) (fun _ => hHeld) _
  case hy => (intro w0 hSw; (try dsimp only at hSw); simp only [List.getElem_toArray, List.getElem_cons_zero]; go_simp; first | done | with_reducible rfl)
  simp only [Act.put, List.getElem_toArray, List.getElem_cons_zero, List.setIfInBounds_toArray, List.set_cons_zero, List.set_cons_succ]
  refine' wpAnyF_take (i := 1) (v := _) rfl (by kernel_rfl) (by kernel_rfl) (by kernel_rfl) (by kernel_rfl) (by rfl) (by kernel_rfl) (fun _ _ _ h => h) (Or.inl ⟨by rfl, ?hy⟩) hHeld _
  case hy => (intro w0 hSw; (try dsimp only at hSw); simp only [List.getElem_toArray, List.getElem_cons_zero, List.getElem_cons_succ]; go_simp; first | done | with_reducible rfl)
  simp only [Act.put, List.getElem_toArray, List.getElem_cons_zero, List.getElem_cons_succ, List.setIfInBounds_toArray, List.set_cons_zero, List.set_cons_succ]
  refine' wpAnyF_take (i := 3) (v := _) rfl (by kernel_rfl) (by kernel_rfl) (by kernel_rfl) (by kernel_rfl) (by rfl) (by kernel_rfl) (fun _ _ _ h => h) (Or.inl ⟨by rfl, ?hy⟩) hHeld _
  case hy => (intro w0 hSw; (try dsimp only at hSw); simp only [List.getElem_toArray, List.getElem_cons_zero, List.getElem_cons_succ]; go_simp; first | done | with_reducible rfl)
  simp only [Act.put, List.getElem_toArray, List.getElem_cons_zero, List.getElem_cons_succ, List.setIfInBounds_toArray, List.set_cons_zero, List.set_cons_succ]
  refine' wpAnyF_takeT (i := 5) (v := _) rfl (by kernel_rfl) (by kernel_rfl) (by kernel_rfl) (by rfl) (fun _ _ _ h => h) (Or.inl ⟨by rfl, ?hy⟩) (fun _ => hHeld) _
  case hy => (intro w0 hSw; (try dsimp only at hSw); simp only [List.getElem_toArray, List.getElem_cons_zero, List.getElem_cons_succ]; go_simp; first | done | with_reducible rfl)
  simp only [Act.put, List.getElem_toArray, List.getElem_cons_zero, List.getElem_cons_succ, List.setIfInBounds_toArray, List.set_cons_zero, List.set_cons_succ]
  refine wpAnyF_one (i := 2) (by kernel_rfl) rfl (fun K hK => ?_)
  go_simp
  refine hK.out _ _ (fun _ => ?_) ?_
  · exact ⟨y0, y1⟩
  clear hK K
  try simp only [Act.put, List.getElem_toArray, List.getElem_cons_zero, List.getElem_cons_succ, List.setIfInBounds_toArray, List.set_cons_zero, List.set_cons_succ]
  refine wpAnyF_one (i := 4) (by kernel_rfl) rfl (fun K hK => ?_)
  refine step_append0 (by rfl) (.tmp 30) (.tmp 31) _ rfl elem_w64 vw wa.heap.size s _ rfl p cap w.heap.size rfl (own_empty wa.drew _ _ _ (Nat.le_refl _)) HBE.out.1 (fun _ => rfl) (by omega) (by omega) HBE.out.2 ?_
  intro v5 w5 hown5 hgr5 _
  have hb5 : Below wa.heap.size wa w5 := (((Below.refl wa.heap.size wa).drew).alloc (Nat.le_refl _) _).grown hgr5 (by show _ ≤ (wa.drew.alloc _).heap.size; simp) (by intro b hb; cases hb; exact Nat.le_refl _)
  obtain ⟨q5, c5, rfl, hr5, -⟩ := rdl_of_owns hown5
  have HR5 := Lib.hid hr5
  have HB5 := Lib.hid hb5
  have z0 := (HA.out.1.below hb5 HA.out.1.lt).cell
  have z1 := (HA.out.2.1.below hb5 HA.out.2.1.lt).cell
  clear hown5 hgr5 hr5 hb5
  refine hK.out _ _ (fun _ => ?_) ?_
  · exact ⟨z0, z1⟩
  clear hK K
  try simp only [Act.put, List.getElem_toArray, List.getElem_cons_zero, List.getElem_cons_succ, List.setIfInBounds_toArray, List.set_cons_zero, List.set_cons_succ]
  refine wpAnyF_one (i := 6) (by kernel_rfl) rfl (fun K hK => ?_)
  go_simp
  refine (look_any way left q5 c5 s key w5 HR5.out (by omega)).mono ?_
  rintro e w6 ⟨rfl, hb6⟩
  have hb6' : Below wa.heap.size wa w6 := HB5.out.trans (hb6.mono HB5.out.size)
  have HB6 := Lib.hid hb6'
  have u0 := (HA.out.1.below hb6' HA.out.1.lt).cell
  have u1 := (HA.out.2.1.below hb6' HA.out.2.1.lt).cell
  clear hb6 hb6' z0 z1
  go_wp2_with fail
  refine hK.out _ _ (fun _ => ?_) ?_
  · exact ⟨u0, u1⟩
  clear hK K
  try simp only [Act.put, List.getElem_toArray, List.getElem_cons_zero, List.getElem_cons_succ, List.setIfInBounds_toArray, List.set_cons_zero, List.set_cons_succ]
  clear hHeld
  have hHeld := And.intro u0 u1
  refine' wpAnyF_takeT (i := 7) (v := _) rfl (by kernel_rfl) (by kernel_rfl) (by kernel_rfl) (by rfl) (fun _ _ _ h => h) (Or.inl ⟨by rfl, ?hy⟩) (fun _ => hHeld) _
  case hy => (intro w0 hSw; (try dsimp only at hSw); simp only [List.getElem_toArray, List.getElem_cons_zero, List.getElem_cons_succ]; go_simp; first | done | with_reducible rfl)
  simp only [Act.put, List.getElem_toArray, List.getElem_cons_zero, List.getElem_cons_succ, List.setIfInBounds_toArray, List.set_cons_zero, List.set_cons_succ]
  refine' wpAnyF_takeT (i := 8) (v := _) rfl (by kernel_rfl) (by kernel_rfl) (by kernel_rfl) (by rfl) (fun _ _ _ h => h) (Or.inl ⟨by rfl, ?hy⟩) (fun _ => hHeld) _
  case hy => (intro w0 hSw; (try dsimp only at hSw); simp only [List.getElem_toArray, List.getElem_cons_zero, List.getElem_cons_succ]; go_simp; first | done | with_reducible rfl)
  simp only [Act.put, List.getElem_toArray, List.getElem_cons_zero, List.getElem_cons_succ, List.setIfInBounds_toArray, List.set_cons_zero, List.set_cons_succ]
  refine' wpAnyF_takeT (i := 9) (v := _) rfl (by kernel_rfl) (by kernel_rfl) (by kernel_rfl) (by rfl) (fun _ _ _ h => h) (Or.inl ⟨by rfl, ?hy⟩) (fun _ => hHeld) _
  case hy => (intro w0 hSw; (try dsimp only at hSw); simp only [List.getElem_toArray, List.getElem_cons_zero, List.getElem_cons_succ]; go_simp; first | done | with_reducible rfl)
  simp only [Act.put, List.getElem_toArray, List.getElem_cons_zero, List.getElem_cons_succ, List.setIfInBounds_toArray, List.set_cons_zero, List.set_cons_succ]
  refine' wpAnyF_takeT (i := 10) (v := _) rfl (by kernel_rfl) (by kernel_rfl) (by kernel_rfl) (by rfl) (fun _ _ _ h => h) (Or.inl ⟨by rfl, ?hy⟩) (fun _ => hHeld) _
  case hy => (intro w0 hSw; (try dsimp only at hSw); simp only [List.getElem_toArray, List.getElem_cons_zero, List.getElem_cons_succ]; go_simp; first | done | with_reducible rfl)
  simp only [Act.put, List.getElem_toArray, List.getElem_cons_zero, List.getElem_cons_succ, List.setIfInBounds_toArray, List.set_cons_zero, List.set_cons_succ]
  refine wpAnyF_one (i := 11) (by kernel_rfl) rfl (fun K hK => ?_)
  go_simp
  refine hK.out _ _ (fun h => Bool.noConfusion (h.symm.trans (by kernel_rfl : _ = true))) ?_
  clear hK K
  try simp only [Act.put, List.getElem_toArray, List.getElem_cons_zero, List.getElem_cons_succ, List.setIfInBounds_toArray, List.set_cons_zero, List.set_cons_succ]
  refine wpAnyF_done (by kernel_rfl) ?_ _
  refine NoPanic.normal ?_
  clear hHeld u0 u1 HBE
  obtain ⟨f1, hf1⟩ : ∃ f1, (lookV way left s key).1 = f1 := ⟨_, rfl⟩
  obtain ⟨f2, hf2⟩ : ∃ f2, (lookV way left s key).2 = f2 := ⟨_, rfl⟩
  obtain ⟨re, hre⟩ : ∃ re, lookR way left s key = re := ⟨_, rfl⟩
  obtain ⟨fb, hfb⟩ : ∃ fb, decide (FineR way left s) = fb := ⟨_, rfl⟩
  have hB6 : Below w.heap.size w w6 := HB.out.1.trans (HB6.out.mono (by have := HB.out.2; omega))
  have hLR := refLook_any way left p cap s key w6 ((HRD.out.below hB6).wide hB6.size) (by omega)
  rw [hre, hfb] at hLR
  have hRF := fun W => refFound_any re W
  rw [← hre, lookR_found, hf1, hf2, hre] at hRF
  have HLR := Lib.hid hLR
  have HRF := Lib.hid hRF
  unfold rdV rdC at HLR HRF
  rw [hf1, hf2]
  have HF := Lib.hid (And.intro hre hfb)
  have H6 : Hid (Box w6 w.heap.size 23 (vw left) ∧ Box w6 (w.heap.size + 1) 24 (.slice p s.length cap) ∧ Box w6 (w.heap.size + 2) 3 (.int .i64 many) ∧ Box w6 (w.heap.size + 3) 4 (.bool false) ∧ Below w.heap.size w w6 ∧ w.heap.size + 4 ≤ w6.heap.size) :=
    Lib.hid ⟨HA.out.1.below HB6.out HA.out.1.lt, HA.out.2.1.below HB6.out HA.out.2.1.lt, HA.out.2.2.1.below HB6.out HA.out.2.2.1.lt, HA.out.2.2.2.below HB6.out HA.out.2.2.2.lt, hB6, by have := HB6.out.size; have := HB.out.2; omega⟩
  have x0 := H6.out.1.cell
  have x1 := H6.out.2.1.cell
  clear hLR hRF hf1 hf2 hre hfb hB6
  go_wp2_with fail
  refine HLR.out.mono ?_
  rintro e w7 ⟨rfl, hb7⟩
  obtain ⟨w8, hw8⟩ : ∃ w8, w7.alloc (.cells (rdC re) 29) = w8 := ⟨_, rfl⟩
  obtain ⟨w9, hw9⟩ : ∃ w9, w8.alloc (.cells #[.bool fb] 4) = w9 := ⟨_, rfl⟩
  have hb8 : Below w7.heap.size w7 w8 := by rw [← hw8]; exact (Below.refl _ _).alloc (Nat.le_refl _) _
  have hb9 : Below w8.heap.size w8 w9 := by rw [← hw9]; exact (Below.refl _ _).alloc (Nat.le_refl _) _
  have hz8 : w8.heap.size = w7.heap.size + 1 := by rw [← hw8]; simp
  have hz9 : w9.heap.size = w7.heap.size + 2 := by rw [← hw9]; simp [hz8]
  have hr8 : w8.heap[w7.heap.size]? = some (.cells (rdC re) 29 (0, 0)) := by rw [← hw8]; exact World.alloc_heap_new _ _
  have hr9 := (hb9.block w7.heap.size (by omega)).trans hr8
  have hx9 : Box w9 (w7.heap.size + 1) 4 (.bool fb) := by rw [← hz8, ← hw9]; exact Box.new _ _ _
  have hb69 : Below w6.heap.size w6 w9 := hb7.trans ((hb8.trans (hb9.mono (by omega))).mono hb7.size)
  have H9 : Hid (Box w9 w.heap.size 23 (vw left) ∧ Box w9 (w.heap.size + 1) 24 (.slice p s.length cap) ∧ Box w9 (w.heap.size + 2) 3 (.int .i64 many) ∧ Box w9 (w.heap.size + 3) 4 (.bool false) ∧ Below w.heap.size w w9 ∧ w.heap.size + 4 ≤ w7.heap.size ∧ w9.heap[w7.heap.size]? = some (.cells (rdC re) 29 (0, 0)) ∧ Box w9 (w7.heap.size + 1) 4 (.bool fb) ∧ w9.heap.size = w7.heap.size + 2) :=
    Lib.hid ⟨H6.out.1.below hb69 H6.out.1.lt, H6.out.2.1.below hb69 H6.out.2.1.lt, H6.out.2.2.1.below hb69 H6.out.2.2.1.lt, H6.out.2.2.2.1.below hb69 H6.out.2.2.2.1.lt, H6.out.2.2.2.2.1.trans (hb69.mono H6.out.2.2.2.2.1.size), by have := hb7.size; have := H6.out.2.2.2.2.2; omega, hr9, hx9, hz9⟩
  have x0 := H9.out.1.cell
  have x1 := H9.out.2.1.cell
  have x2 := H9.out.2.2.2.2.2.2.1
  unfold rdC at x2 hw8
  obtain ⟨c0, c1, c2, c3, c4, c5', c6, c7, c8, c9, -⟩ := cells10 x2
  have HW9 := Lib.hid (And.intro hw8 hw9)
  clear hb7 hb8 hb9 hz8 hz9 hr8 hr9 hx9 hb69 hw8 hw9 H6 HB6 HR5 HB5 x2
  go_wp2_with fail
  rw [HW9.out.1, HW9.out.2]
  go_wp2_with fail
  refine (HRF.out w9).mono ?_
  rintro e w10 ⟨rfl, hb10⟩
  have H10 : Hid (Box w10 w.heap.size 23 (vw left) ∧ Box w10 (w.heap.size + 1) 24 (.slice p s.length cap) ∧ Box w10 (w.heap.size + 2) 3 (.int .i64 many) ∧ Box w10 (w.heap.size + 3) 4 (.bool false) ∧ Below w.heap.size w w10 ∧ w.heap.size + 4 ≤ w7.heap.size ∧ w10.heap[w7.heap.size]? = some (.cells (rdC re) 29 (0, 0)) ∧ Box w10 (w7.heap.size + 1) 4 (.bool fb) ∧ w7.heap.size + 2 ≤ w10.heap.size) := by
    obtain ⟨q1, q2, q3, q4, q5, q6, q7, q8, q9⟩ := H9.out
    exact Lib.hid ⟨q1.below hb10 q1.lt, q2.below hb10 q2.lt, q3.below hb10 q3.lt, q4.below hb10 q4.lt, q5.trans (hb10.mono q5.size), q6, (hb10.block _ (by omega)).trans q7, q8.below hb10 q8.lt, by have := hb10.size; omega⟩
  have x0 := H10.out.1.cell
  have x1 := H10.out.2.1.cell
  have hnil := seq_nil
  have HTR := Lib.hid (trace_any way left (.slice p s.length cap) ⟨_, _, _, rfl⟩ key w10)
  clear hb10 H9 HW9 c0 c1 c2 c3 c4 c5' c6 c7 c8 c9 HRF HLR
  go_wp2_with fail
  refine HTR.out.mono ?_
  rintro e w11 ⟨rfl, hw11⟩
  obtain ⟨hT11, hz11, hb11⟩ := trace_box way left p cap s key w10 w11 hw11 ((HRD.out.below H10.out.2.2.2.2.1).wide H10.out.2.2.2.2.1.size)
  obtain ⟨W0, hW0⟩ : ∃ W0, w11.alloc (.cells #[.int .i64 0] 3) = W0 := ⟨_, rfl⟩
  have hA0 : PS w way left p cap s key many re fb w7.heap.size w10.heap.size w11.heap.size 0 W0 := by
    obtain ⟨q1, q2, q3, q4, q5, q6, q7, q8, q9⟩ := H10.out
    have hb0 : Below w11.heap.size w11 W0 := by rw [← hW0]; exact (Below.refl _ _).alloc (Nat.le_refl _) _
    have hbb : Below w10.heap.size w10 W0 := hb11.trans (hb0.mono (by omega))
    have hx : Box W0 w11.heap.size 3 (vi 0) := by rw [← hW0]; exact Box.new _ _ _
    exact ⟨⟨q5.trans (hbb.mono q5.size), Nat.le_trans q5.size hbb.size⟩, by omega, by omega, by omega, q1.below hbb q1.lt, q2.below hbb q2.lt, q3.below hbb q3.lt, q4.below hbb q4.lt, (hbb.block _ (by omega)).trans q7, q8.below hbb q8.lt, hT11.keep (Kps.of_below hb0 hT11.lt), hx, fun b hb => HRD.out.inlt hb⟩
  have HA0 := Lib.hid hA0
  have HW0 := Lib.hid (And.intro hW0 hz11)
  clear hw11 hT11 hb11 hW0 hA0 hz11 x0 x1 H10 HTR
  go_wp2_with fail
  clear hnil
  rw [HW0.out.1]
  have hb1e : w10.heap.size + 1 + 1 + 1 + 1 = w11.heap.size := by rw [HW0.out.2]
  obtain ⟨Wt, hWt⟩ : ∃ B, w7.heap.size = B := ⟨_, rfl⟩
  rw [hWt] at HA0 ⊢
  obtain ⟨bq, hbq⟩ : ∃ B, w10.heap.size = B := ⟨_, rfl⟩
  rw [hbq] at HA0 ⊢
  obtain ⟨b0, hb0⟩ : ∃ B, w11.heap.size = B := ⟨_, rfl⟩
  rw [hb0] at HA0 ⊢
  clear HW0 hb1e hWt hbq hb0
  have hly : (trI way left s key).length ≤ 320 := by
    rw [← lookR_loads]
    unfold lookR
    by_cases hf : FineR way left s
    · rw [if_pos hf]
      have h1 := (endA_same left s (ofR_ok hf key)).1.rem
      have h2 := (endA_same left s (ofR_ok hf key)).1.hi
      omega
    · rw [if_neg hf]
      exact Nat.zero_le _
  refine (wpIn_wide (n := 0)).1 ?_
  refine wpIn_loop_rounds 3 ?_
  rw [roundsIn_succ]
  have hc0 : W0.cell? ⟨b0, 0, none⟩ = some (.int .i64 0) := HA0.out.tn.cell
  have hcs0 : (W0.alloc (.cells #[.int .i64 0] 3)).cell? ⟨w.heap.size + 1, 0, none⟩ = some (.slice p s.length cap) := (HA0.out.bs.alloc _).cell
  obtain ⟨sl, hsl⟩ : ∃ sl : Int, (if way = 2 then (s.length : Int) / 2 - 1 else 0) = sl := ⟨_, rfl⟩
  have HNW := Lib.hid (fun W => refNew_raw way ((s.length : Int) / 2) key W (by omega) (by omega))
  unfold newC at HNW
  rw [hsl] at HNW
  have hk0 := rdK_zero way left s key
  unfold newC at hk0
  rw [hsl] at hk0
  have HRK := Lib.hid hk0
  clear hk0 hsl
  obtain ⟨zs, hzs⟩ : ∃ zs, trI way left s key = zs := ⟨_, rfl⟩
  have hrd' := hrounds way left s key
  rw [hzs] at hrd' hly
  have HRO := Lib.hid hrd'
  have HZS := Lib.hid hzs
  have HLO := Lib.hid (show re.loads = zs.length by rw [← HF.out.1, lookR_loads, hzs])
  clear hrd' hzs
  gi_wp2
  refine wcall (HNW.out _) ?_
  rintro e wn0 ⟨rfl, hbn0⟩
  obtain ⟨U0, hU0⟩ : ∃ U, wn0.alloc (.cells #[.int .i64 way, .int .i64 ((s.length : Int) / 2), .int .i64 sl, .int .i64 0, vw key, .int .u64 0, .int .u64 0, .bool false, .bool false, .int .i64 0] 29) = U := ⟨_, rfl⟩
  have hbU0 : Below wn0.heap.size wn0 U0 := by rw [← hU0]; exact (Below.refl _ _).alloc (Nat.le_refl _) _
  have hzn0 : W0.heap.size + 1 ≤ wn0.heap.size := by have := hbn0.size; rwa [World.size_alloc] at this
  have hbVU0 : Below W0.heap.size W0 U0 := ((Below.refl _ _).alloc (Nat.le_refl _) _).trans ((hbn0.mono (by simp)).trans (hbU0.mono (by omega)))
  have hV0 : PS w way left p cap s key many re fb Wt bq b0 0 U0 := HA0.out.below hbVU0
  have hbx0 : Box U0 W0.heap.size 3 (vi 0) := ((Box.new W0 3 (vi 0)).below hbn0 (by simp)).below hbU0 (by omega)
  have hAU0 : U0.heap[wn0.heap.size]? = some (.cells (rdK way left s key 0) 29 (0, 0)) := by rw [← hU0, HRK.out]; exact World.alloc_heap_new _ _
  skip
  have hsU0 : U0.heap.size = wn0.heap.size + 1 := by rw [← hU0]; simp
  have hlb0 : b0 < W0.heap.size := HA0.out.tn.lt
  have HUU0 := Lib.hid hU0
  obtain ⟨N0, hN0⟩ : ∃ N, W0.heap.size = N := ⟨_, rfl⟩
  obtain ⟨A0, hA0'⟩ : ∃ A, wn0.heap.size = A := ⟨_, rfl⟩
  rw [hN0] at hzn0 hbx0 hlb0
  rw [hA0'] at hzn0 hAU0 hsU0
  have HV0 := Lib.hid hV0
  have HU0 := Lib.hid (And.intro hbx0 (And.intro hAU0 (And.intro hsU0 (And.intro hzn0 hlb0))))
  have HNA0 := Lib.hid (And.intro hN0 hA0')
  clear hbn0 hU0 hbU0 hbVU0 hV0 hbx0 hAU0 hsU0 hzn0 hlb0 hN0 hA0' hc0 hcs0
  gi_wp2
  rw [HUU0.out, HNA0.out.1, HNA0.out.2]
  gi_wp2
  have hit0 : Iter Try.prog 58 #[.pointer (some ⟨bq, 0, none⟩), .pointer (some ⟨bq + 1, 0, none⟩), .pointer (some ⟨bq + 2, 0, none⟩), .pointer (some ⟨bq + 3, 0, none⟩)] (encT zs) (fun b => TrFP bq (bq + 1) (bq + 2) (bq + 3) p cap b) U0 := by rw [← HZS.out]; exact trace1_iter bq (bq + 1) (bq + 2) (bq + 3) way left p cap s key U0 HV0.out.tr (by omega)
  refine rf_brk (id := 2) (gf := 58) (lb := #[.pointer (some ⟨bq, 0, none⟩), .pointer (some ⟨bq + 1, 0, none⟩), .pointer (some ⟨bq + 2, 0, none⟩), .pointer (some ⟨bq + 3, 0, none⟩)]) rfl (enters_of Try.func58 (by kernel_rfl) rfl)
    hit0 (by intro x hx; obtain ⟨y, _, rfl⟩ := List.mem_map.1 hx; rfl) ?hFP0
    (fun k T W => Keep (fun b => b = N0 ∨ b = A0) U0 T W ∧ Box W N0 3 (vi k) ∧ W.heap[A0]? = some (.cells (rdK way left s key k) 29 (0, 0)) ∧ (k = 0 ∨ (k : Int) < many))
    (fun k T W => Keep (fun b => b = N0 ∨ b = A0) U0 T W ∧ Box W N0 3 (vi k) ∧ W.heap[A0]? = some (.cells (rdK way left s key k) 29 (0, 0)) ∧ many ≤ k ∧ (k = 1 ∨ (k : Int) ≤ many)) ?hJ0 ?hJb0
    (fun D W => PS w way left p cap s key many re fb Wt bq b0 0 W ∧ (∃ m : Nat, Box W N0 3 (vi m) ∧ LeaveAtS many zs.length m) ∧ A0 < D ∧ W.heap[D]? = some (.deferred (some [])) ∧ Frn (fun b => b = N0 ∨ b = A0) U0 W)
    ?h00 ?hround0 ?hdone0 ?hstop0 ?hrest0
  case hFP0 => exact HV0.out.tr.lt
  case hJ0 =>
    rintro k T W W' ⟨h1, h2, h3, h4⟩ hf
    exact ⟨h1.go hf, h2.kept (h1.own hf HU0.out.1.lt), (h1.own hf (by have := HU0.out.2.2.1; omega)).trans h3, h4⟩
  case hJb0 =>
    rintro k T W W' ⟨h1, h2, h3, h4⟩ hf
    exact ⟨h1.go hf, h2.kept (h1.own hf HU0.out.1.lt), (h1.own hf (by have := HU0.out.2.2.1; omega)).trans h3, h4⟩
  case h00 => exact ⟨Keep.start _ _, HU0.out.1, HU0.out.2.1, .inl rfl⟩
  case hround0 =>
    clear hit0
    rintro l' k hk T W ⟨hs, hbox, hAk, hmk⟩ hTl hTW hkW
    have hk' : k < zs.length := by rw [encT_len] at hk; exact hk
    obtain ⟨hfine, q, hd, hok, hit, hxl, hq0, hq1⟩ := HRO.out k hk'
    rw [encT_get, hit]
    rw [hq0] at hAk
    obtain ⟨x, hx⟩ : ∃ x, q.wants = x := ⟨_, rfl⟩
    rw [hx] at hq1 hxl ⊢
    obtain ⟨v, hv⟩ : ∃ v, atW left s x = v := ⟨_, rfl⟩
    rw [hv] at hq1 ⊢
    have HWQ := Lib.hid (fun W => refWants_any q W hok hd)
    rw [hx] at HWQ
    have HGQ := Lib.hid (fun W => refGive_any q v W hok hd)
    obtain ⟨qq, hqq⟩ : ∃ qq, q.give v = qq := ⟨_, rfl⟩
    rw [hqq] at HGQ hq1
    have HAT := Lib.hid (fun W h => refAt_any left p cap s x W h hxl)
    rw [hv] at HAT
    have hfb : fb = true := by rw [← HF.out.2]; exact decide_eq_true hfine
    unfold rdV rdC at HWQ HGQ
    rw [hd] at HWQ HGQ
    have HQ := Lib.hid (And.intro hq1 hd)
    clear hfine hit hxl hq0 hq1 hx hv hqq hok
    simp only
    gi_wp2
    refine ⟨Kps.refl _ _, fun W2 hf hsz hk2 _ => ?_⟩
    have hs2 := hs.goSame hf hsz
    have hbox2 : Box W2 N0 3 (vi k) := hbox.kept (hs.own hf HU0.out.1.lt)
    have hA2 : W2.heap[A0]? = some (.cells (rdC q) 29 (0, 0)) := (hs.own hf (by have := HU0.out.2.2.1; omega)).trans hAk
    have hP2 := HV0.out.kept hs2 (by have := HU0.out.2.2.2; rintro b (rfl | rfl) <;> omega)
    have hkps : ∀ W9, Frn (fun b => b = N0 ∨ b = A0) W2 W9 → Kps (fun b => TrFP bq (bq + 1) (bq + 2) (bq + 3) p cap b ∨ T b) W2 W9 := fun W9 hf9 => ⟨hf9.os, hf9.tape, hf9.output, hf9.size, fun b hb hl => hf9.block b hl (by
      have hu := HU0.out.2.2
      rintro (rfl | rfl)
      · rcases hb with hb | hb
        · have := HV0.out.fp _ hb; omega
        · exact hs2.notT (by omega) hb
      · rcases hb with hb | hb
        · have := HV0.out.fp _ hb; omega
        · exact hs2.notT (by omega) hb)⟩
    have H2 := Lib.hid (And.intro hs2 (And.intro hbox2 (And.intro hA2 (And.intro hP2 hkps))))
    have hcl := hP2.bl.cell
    have hcsx := hP2.bs.cell
    have hcf := hP2.bf.cell
    rw [hfb] at hcf
    have hA2' := hA2
    unfold rdC at hA2'
    obtain ⟨d0, d1, d2, d3, d4, d5, d6, d7, d8, d9, -⟩ := cells10 hA2'
    rw [HQ.out.2] at d7
    clear hs hbox hAk hTl hTW hkW hf hsz hk2 hs2 hbox2 hA2 hA2' hP2 hkps hfb hd
    gi_wp2
    refine rcall (HWQ.out W2) ?_
    rintro e w3 ⟨rfl, hb3⟩
    have hP3 := H2.out.2.2.2.1.below hb3
    have hcl := hP3.bl.cell
    have hcsx := hP3.bs.cell
    have hA3 := (hb3.block A0 (Array.getElem?_eq_some_iff.1 H2.out.2.2.1).1).trans H2.out.2.2.1
    have hbox3 := H2.out.2.1.below hb3 H2.out.2.1.lt
    have H3 := Lib.hid (And.intro hb3 (And.intro hP3 (And.intro hA3 hbox3)))
    have hA3' := hA3
    unfold rdC at hA3'
    clear d0 d1 d2 d3 d4 d5 d6 d7 d8 d9 hcf
    obtain ⟨d0, d1, d2, d3, d4, d5, d6, d7, d8, d9, -⟩ := cells10 hA3'
    rw [HQ.out.2] at d7
    clear hb3 hP3 hA3 hbox3 hA3'
    gi_wp2
    refine rcall (HAT.out w3 H3.out.2.1.tr.rd) ?_
    rintro e w' ⟨rfl, rfl⟩
    gi_wp2
    refine rcall (HGQ.out w3) ?_
    rintro e w4 ⟨rfl, hb4⟩
    have hP4 := H3.out.2.1.below hb4
    have hA4 := (hb4.block A0 (Array.getElem?_eq_some_iff.1 H3.out.2.2.1).1).trans H3.out.2.2.1
    have hbox4 := H3.out.2.2.2.below hb4 H3.out.2.2.2.lt
    unfold rdC at hA4
    clear d0 d1 d2 d3 d4 d5 d6 d7 d8 d9 hcl hcsx
    obtain ⟨d0, d1, d2, d3, d4, d5, d6, d7, d8, d9, df⟩ := cells10 hA4
    have df0 := df 0
    have df1 := df 1
    have df2 := df 2
    have df3 := df 3
    have df4 := df 4
    have df5 := df 5
    have df6 := df 6
    have df7 := df 7
    have df8 := df 8
    have df9 := df 9
    obtain ⟨W5, hW5, hA5, ho5, -⟩ := sets10 hA4 (.int .i64 qq.way) (.int .i64 qq.slots) (.int .i64 qq.slot) (.int .i64 qq.step) (vw qq.key) (vw qq.ptr) (vw qq.ahead) (.bool qq.done) (.bool qq.is) (.int .i64 qq.loads)
    have hf5 : Frn (fun b => b = A0) w4 W5 := by rw [← hW5]; exact sets10F _ _ _ _ _ _ _ _ _ _
    unfold vw at hW5
    have hu := HU0.out.2.2
    have hbox5 : Box W5 N0 3 (vi k) := hbox4.kept (ho5 _ (by omega))
    have hf25 : Frn (fun b => b = N0 ∨ b = A0) W2 W5 := ((Frn.of_below H3.out.1).trans ((Frn.of_below (T := (fun b => b = N0 ∨ b = A0)) hb4))).trans (Frn.monoX hf5 (fun b hb => .inr hb))
    have hP5 := H2.out.2.2.2.1.frnX hf25 (by rintro b (rfl | rfl) <;> omega)
    have H5 := Lib.hid (And.intro hW5 (And.intro hA5 (And.intro hbox5 (And.intro hf25 hP5))))
    have hcn : W5.cell? ⟨N0, 0, none⟩ = some (.int .i64 (k : Int)) := hbox5.cell
    have hfz := hbox5.free
    have hbx6 := hbox5.set (vi ((k + 1 : Nat) : Int))
    have hf26 : Frn (fun b => b = N0 ∨ b = A0) W2 (W5.setCell ⟨N0, 0, none⟩ (vi ((k + 1 : Nat) : Int))) := hf25.setCell ⟨N0, 0, none⟩ (.inl (.inl rfl)) _
    have hP6 := H2.out.2.2.2.1.frnX hf26 (by rintro b (rfl | rfl) <;> omega)
    have hA6 : (W5.setCell ⟨N0, 0, none⟩ (vi ((k + 1 : Nat) : Int))).heap[A0]? = some (.cells (rdK way left s key (k + 1)) 29 (0, 0)) := by rw [HQ.out.1]; exact (Below.heap_setCell _ ⟨N0, 0, none⟩ _ A0 (by show A0 ≠ N0; omega)).trans hA5
    have e6 : vi ((k + 1 : Nat) : Int) = .int .i64 ((k : Int) + 1) := rfl
    rw [e6] at hbx6 hf26 hP6 hA6
    obtain ⟨W6, hW6⟩ : ∃ W6, W5.setCell ⟨N0, 0, none⟩ (.int .i64 ((k : Int) + 1)) = W6 := ⟨_, rfl⟩
    rw [hW6] at hbx6 hf26 hP6 hA6
    have hct : W6.cell? ⟨b0, 0, none⟩ = some (.int .i64 0) := hP6.tn.cell
    have hcm := hP6.bm.cell
    have hcn6 : W6.cell? ⟨N0, 0, none⟩ = some (.int .i64 ((k : Int) + 1)) := hbx6.cell
    have HX : Hid (Keep (fun b => b = N0 ∨ b = A0) U0 T W6 ∧ Box W6 N0 3 (vi ((k + 1 : Nat) : Int)) ∧ W6.heap[A0]? = some (.cells (rdK way left s key (k + 1)) 29 (0, 0)) ∧ Kps (fun b => TrFP bq (bq + 1) (bq + 2) (bq + 3) p cap b ∨ T b) W2 W6) := Lib.hid ⟨⟨H2.out.1.frn.trans hf26, H2.out.1.old⟩, hbx6, hA6, H2.out.2.2.2.2 _ hf26⟩
    have HW6 := Lib.hid hW6
    have hk4 : (k : Int) ≤ 320 := by omega
    clear hb4 hP4 hA4 hbox4 hW5 hA5 ho5 hf5 hbox5 hf25 hP5 hbx6 hf26 hP6 hA6 e6 hW6 df
    gi_upto_region 20 with fail
    rw [H5.out.1]
    gi_upto_region 21 with fail
    rw [HW6.out]
    clear hcn hfz d0 d1 d2 d3 d4 d5 d6 d7 d8 d9 df0 df1 df2 df3 df4 df5 df6 df7 df8 df9
    by_cases hm : many ≤ (k : Int) + 1
    · skip
      gi_wp2
      exact ⟨⟨rfl, HX.out.1, HX.out.2.1, HX.out.2.2.1, by omega⟩, HX.out.2.2.2⟩
    · skip
      gi_wp2
      exact ⟨⟨HX.out.1, HX.out.2.1, HX.out.2.2.1, .inr (by omega)⟩, HX.out.2.2.2⟩
  case hdone0 =>
    rintro D T W ⟨hs, hbox, hAk, hmk⟩ hTD hTW hkW hD hK
    rw [encT_len] at hbox hmk
    have hD' : A0 + 1 ≤ D := by have := HU0.out.2.2.1; omega
    refine ⟨HV0.out.kept hs (by have := HU0.out.2.2.2; rintro b (rfl | rfl) <;> omega), ⟨_, hbox, by unfold LeaveAtS; omega⟩, by omega, hK, hs.frn⟩
  case hstop0 =>
    rintro D k T W hk hk1 ⟨hs, hbox, hAk, hmk⟩ hTD hTW hkW hD hK
    rw [encT_len] at hk
    have hD' : A0 + 1 ≤ D := by have := HU0.out.2.2.1; omega
    exact ⟨HV0.out.kept hs (by have := HU0.out.2.2.2; rintro b (rfl | rfl) <;> omega), ⟨_, hbox, by unfold LeaveAtS; omega⟩, by omega, hK, hs.frn⟩
  case hrest0 =>
    rintro D0 V1 ⟨hA1, ⟨m0, hN1', hmm⟩, hD0, hK0, hF0⟩
    clear hit0
    have hc1 : V1.cell? ⟨b0, 0, none⟩ = some (.int .i64 0) := hA1.tn.cell
    have hc2 := hA1.bm.cell
    have hc4 : V1.cell? ⟨N0, 0, none⟩ = some (.int .i64 (m0 : Int)) := hN1'.cell
    have hc5 : V1.cell? ⟨Wt, 9, none⟩ = some (.int .i64 (zs.length : Int)) := by
      have h := hA1.bw
      unfold rdC at h
      rw [(cells10 h).2.2.2.2.2.2.2.2.2.1, HLO.out]
    have HA := Lib.hid hA1
    have HF0 := Lib.hid hF0
    have HM := Lib.hid hmm
    clear hA1 hN1' hF0 hmm
    gi_upto_region 22 with fail
    gi_cut [132] from 112 (fun s132 wx => s132 = .bool false ∧ wx = V1)
    case first =>
      skip
      skip
      gi_wp2
      all_goals first
        | (gi_meet; exact ⟨rfl, rfl⟩)
        | (exfalso; have hmm := HM.out; unfold LeaveAtS at hmm; omega)
    obtain ⟨rfl, rfl⟩ := hcut
    gi_wp2
    clear hc1 hc2 hc4 hc5
    obtain ⟨V1', hW1⟩ : ∃ V', wc.alloc (Obj.cells #[Value.int IntKind.i64 1] 3) = V' := ⟨_, rfl⟩
    have hA1 : PS w way left p cap s key many re fb Wt bq wc.heap.size 1 V1' := by rw [← hW1]; exact HA.out.next 1
    have hle0 : wc.heap.size + 1 = V1'.heap.size := by rw [← hW1, World.size_alloc]
    have hk0 : V1'.heap[D0]? = some (.deferred (some [])) := by rw [← hW1]; exact (Below.heap_alloc wc _ _ (Array.getElem?_eq_some_iff.1 hK0).1).trans hK0
    skip
    rw [hW1]
    obtain ⟨b1, hb1⟩ : ∃ b, wc.heap.size = b := ⟨_, rfl⟩
    rw [hb1] at hA1 hle0 ⊢
    have hD0' : D0 < b1 := by have := (Array.getElem?_eq_some_iff.1 hK0).1; omega
    have hAu0 : U0.heap.size ≤ b1 := by rw [← hb1]; exact HF0.out.size
    have HA1 := Lib.hid hA1
    have HK0 := Lib.hid hk0
    clear hW1 HA hK0 hk0
    clear hb1
    clear HF0 HM
    rw [roundsIn_succ]
    have hc1 : V1'.cell? ⟨b1, 0, none⟩ = some (.int .i64 1) := HA1.out.tn.cell
    have hcs1 : (V1'.alloc (.cells #[.int .i64 0] 3)).cell? ⟨w.heap.size + 1, 0, none⟩ = some (.slice p s.length cap) := (HA1.out.bs.alloc _).cell
    gi_wp2
    refine wcall (HNW.out _) ?_
    rintro e wn1 ⟨rfl, hbn1⟩
    obtain ⟨U1, hU1⟩ : ∃ U, wn1.alloc (.cells #[.int .i64 way, .int .i64 ((s.length : Int) / 2), .int .i64 sl, .int .i64 0, vw key, .int .u64 0, .int .u64 0, .bool false, .bool false, .int .i64 0] 29) = U := ⟨_, rfl⟩
    have hbU1 : Below wn1.heap.size wn1 U1 := by rw [← hU1]; exact (Below.refl _ _).alloc (Nat.le_refl _) _
    have hzn1 : V1'.heap.size + 1 ≤ wn1.heap.size := by have := hbn1.size; rwa [World.size_alloc] at this
    have hbVU1 : Below V1'.heap.size V1' U1 := ((Below.refl _ _).alloc (Nat.le_refl _) _).trans ((hbn1.mono (by simp)).trans (hbU1.mono (by omega)))
    have hV1 : PS w way left p cap s key many re fb Wt bq b1 1 U1 := HA1.out.below hbVU1
    have hbx1 : Box U1 V1'.heap.size 3 (vi 0) := ((Box.new V1' 3 (vi 0)).below hbn1 (by simp)).below hbU1 (by omega)
    have hAU1 : U1.heap[wn1.heap.size]? = some (.cells (rdK way left s key 0) 29 (0, 0)) := by rw [← hU1, HRK.out]; exact World.alloc_heap_new _ _
    have HD01 := Lib.hid ((hbVU1.block D0 (Array.getElem?_eq_some_iff.1 HK0.out).1).trans HK0.out)
    have hsU1 : U1.heap.size = wn1.heap.size + 1 := by rw [← hU1]; simp
    have hlb1 : b1 < V1'.heap.size := HA1.out.tn.lt
    have HUU1 := Lib.hid hU1
    obtain ⟨N1, hN1⟩ : ∃ N, V1'.heap.size = N := ⟨_, rfl⟩
    obtain ⟨A1, hA1'⟩ : ∃ A, wn1.heap.size = A := ⟨_, rfl⟩
    rw [hN1] at hzn1 hbx1 hlb1
    rw [hA1'] at hzn1 hAU1 hsU1
    have HV1 := Lib.hid hV1
    have HU1 := Lib.hid (And.intro hbx1 (And.intro hAU1 (And.intro hsU1 (And.intro hzn1 hlb1))))
    have HNA1 := Lib.hid (And.intro hN1 hA1')
    clear hbn1 hU1 hbU1 hbVU1 hV1 hbx1 hAU1 hsU1 hzn1 hlb1 hN1 hA1' hc1 hcs1
    gi_wp2
    rw [HUU1.out, HNA1.out.1, HNA1.out.2]
    gi_wp2
    have hit1 : Iter Try.prog 58 #[.pointer (some ⟨bq, 0, none⟩), .pointer (some ⟨bq + 1, 0, none⟩), .pointer (some ⟨bq + 2, 0, none⟩), .pointer (some ⟨bq + 3, 0, none⟩)] (encT zs) (fun b => TrFP bq (bq + 1) (bq + 2) (bq + 3) p cap b) U1 := by rw [← HZS.out]; exact trace1_iter bq (bq + 1) (bq + 2) (bq + 3) way left p cap s key U1 HV1.out.tr (by omega)
    refine rf_brk (id := 2) (gf := 58) (lb := #[.pointer (some ⟨bq, 0, none⟩), .pointer (some ⟨bq + 1, 0, none⟩), .pointer (some ⟨bq + 2, 0, none⟩), .pointer (some ⟨bq + 3, 0, none⟩)]) rfl (enters_of Try.func58 (by kernel_rfl) rfl)
      hit1 (by intro x hx; obtain ⟨y, _, rfl⟩ := List.mem_map.1 hx; rfl) ?hFP1
      (fun k T W => Keep (fun b => b = N1 ∨ b = A1) U1 T W ∧ Box W N1 3 (vi k) ∧ W.heap[A1]? = some (.cells (rdK way left s key k) 29 (0, 0)) ∧ True)
      (fun k T W => Keep (fun b => b = N1 ∨ b = A1) U1 T W ∧ Box W N1 3 (vi k) ∧ W.heap[A1]? = some (.cells (rdK way left s key k) 29 (0, 0)) ∧ False) ?hJ1 ?hJb1
      (fun D W => PS w way left p cap s key many re fb Wt bq b1 1 W ∧ (∃ m : Nat, Box W N1 3 (vi m) ∧ m = zs.length) ∧ A1 < D ∧ W.heap[D]? = some (.deferred (some [])) ∧ Frn (fun b => b = N1 ∨ b = A1) U1 W)
      ?h01 ?hround1 ?hdone1 ?hstop1 ?hrest1
    case hFP1 => exact HV1.out.tr.lt
    case hJ1 =>
      rintro k T W W' ⟨h1, h2, h3, h4⟩ hf
      exact ⟨h1.go hf, h2.kept (h1.own hf HU1.out.1.lt), (h1.own hf (by have := HU1.out.2.2.1; omega)).trans h3, h4⟩
    case hJb1 =>
      rintro k T W W' ⟨h1, h2, h3, h4⟩ hf
      exact ⟨h1.go hf, h2.kept (h1.own hf HU1.out.1.lt), (h1.own hf (by have := HU1.out.2.2.1; omega)).trans h3, h4⟩
    case h01 => exact ⟨Keep.start _ _, HU1.out.1, HU1.out.2.1, trivial⟩
    case hround1 =>
      clear hit1
      rintro l' k hk T W ⟨hs, hbox, hAk, hmk⟩ hTl hTW hkW
      have hk' : k < zs.length := by rw [encT_len] at hk; exact hk
      obtain ⟨hfine, q, hd, hok, hit, hxl, hq0, hq1⟩ := HRO.out k hk'
      rw [encT_get, hit]
      rw [hq0] at hAk
      obtain ⟨x, hx⟩ : ∃ x, q.wants = x := ⟨_, rfl⟩
      rw [hx] at hq1 hxl ⊢
      obtain ⟨v, hv⟩ : ∃ v, atW left s x = v := ⟨_, rfl⟩
      rw [hv] at hq1 ⊢
      have HWQ := Lib.hid (fun W => refWants_any q W hok hd)
      rw [hx] at HWQ
      have HGQ := Lib.hid (fun W => refGive_any q v W hok hd)
      obtain ⟨qq, hqq⟩ : ∃ qq, q.give v = qq := ⟨_, rfl⟩
      rw [hqq] at HGQ hq1
      have HAT := Lib.hid (fun W h => refAt_any left p cap s x W h hxl)
      rw [hv] at HAT
      have hfb : fb = true := by rw [← HF.out.2]; exact decide_eq_true hfine
      unfold rdV rdC at HWQ HGQ
      rw [hd] at HWQ HGQ
      have HQ := Lib.hid (And.intro hq1 hd)
      clear hfine hit hxl hq0 hq1 hx hv hqq hok
      simp only
      gi_wp2
      refine ⟨Kps.refl _ _, fun W2 hf hsz hk2 _ => ?_⟩
      have hs2 := hs.goSame hf hsz
      have hbox2 : Box W2 N1 3 (vi k) := hbox.kept (hs.own hf HU1.out.1.lt)
      have hA2 : W2.heap[A1]? = some (.cells (rdC q) 29 (0, 0)) := (hs.own hf (by have := HU1.out.2.2.1; omega)).trans hAk
      have hP2 := HV1.out.kept hs2 (by have := HU1.out.2.2.2; rintro b (rfl | rfl) <;> omega)
      have hkps : ∀ W9, Frn (fun b => b = N1 ∨ b = A1) W2 W9 → Kps (fun b => TrFP bq (bq + 1) (bq + 2) (bq + 3) p cap b ∨ T b) W2 W9 := fun W9 hf9 => ⟨hf9.os, hf9.tape, hf9.output, hf9.size, fun b hb hl => hf9.block b hl (by
        have hu := HU1.out.2.2
        rintro (rfl | rfl)
        · rcases hb with hb | hb
          · have := HV1.out.fp _ hb; omega
          · exact hs2.notT (by omega) hb
        · rcases hb with hb | hb
          · have := HV1.out.fp _ hb; omega
          · exact hs2.notT (by omega) hb)⟩
      have H2 := Lib.hid (And.intro hs2 (And.intro hbox2 (And.intro hA2 (And.intro hP2 hkps))))
      have hcl := hP2.bl.cell
      have hcsx := hP2.bs.cell
      have hcf := hP2.bf.cell
      rw [hfb] at hcf
      have hA2' := hA2
      unfold rdC at hA2'
      obtain ⟨d0, d1, d2, d3, d4, d5, d6, d7, d8, d9, -⟩ := cells10 hA2'
      rw [HQ.out.2] at d7
      clear hs hbox hAk hTl hTW hkW hf hsz hk2 hs2 hbox2 hA2 hA2' hP2 hkps hfb hd
      gi_wp2
      refine rcall (HWQ.out W2) ?_
      rintro e w3 ⟨rfl, hb3⟩
      have hP3 := H2.out.2.2.2.1.below hb3
      have hcl := hP3.bl.cell
      have hcsx := hP3.bs.cell
      have hA3 := (hb3.block A1 (Array.getElem?_eq_some_iff.1 H2.out.2.2.1).1).trans H2.out.2.2.1
      have hbox3 := H2.out.2.1.below hb3 H2.out.2.1.lt
      have H3 := Lib.hid (And.intro hb3 (And.intro hP3 (And.intro hA3 hbox3)))
      have hA3' := hA3
      unfold rdC at hA3'
      clear d0 d1 d2 d3 d4 d5 d6 d7 d8 d9 hcf
      obtain ⟨d0, d1, d2, d3, d4, d5, d6, d7, d8, d9, -⟩ := cells10 hA3'
      rw [HQ.out.2] at d7
      clear hb3 hP3 hA3 hbox3 hA3'
      gi_wp2
      refine rcall (HAT.out w3 H3.out.2.1.tr.rd) ?_
      rintro e w' ⟨rfl, rfl⟩
      gi_wp2
      refine rcall (HGQ.out w3) ?_
      rintro e w4 ⟨rfl, hb4⟩
      have hP4 := H3.out.2.1.below hb4
      have hA4 := (hb4.block A1 (Array.getElem?_eq_some_iff.1 H3.out.2.2.1).1).trans H3.out.2.2.1
      have hbox4 := H3.out.2.2.2.below hb4 H3.out.2.2.2.lt
      unfold rdC at hA4
      clear d0 d1 d2 d3 d4 d5 d6 d7 d8 d9 hcl hcsx
      obtain ⟨d0, d1, d2, d3, d4, d5, d6, d7, d8, d9, df⟩ := cells10 hA4
      have df0 := df 0
      have df1 := df 1
      have df2 := df 2
      have df3 := df 3
      have df4 := df 4
      have df5 := df 5
      have df6 := df 6
      have df7 := df 7
      have df8 := df 8
      have df9 := df 9
      obtain ⟨W5, hW5, hA5, ho5, -⟩ := sets10 hA4 (.int .i64 qq.way) (.int .i64 qq.slots) (.int .i64 qq.slot) (.int .i64 qq.step) (vw qq.key) (vw qq.ptr) (vw qq.ahead) (.bool qq.done) (.bool qq.is) (.int .i64 qq.loads)
      have hf5 : Frn (fun b => b = A1) w4 W5 := by rw [← hW5]; exact sets10F _ _ _ _ _ _ _ _ _ _
      unfold vw at hW5
      have hu := HU1.out.2.2
      have hbox5 : Box W5 N1 3 (vi k) := hbox4.kept (ho5 _ (by omega))
      have hf25 : Frn (fun b => b = N1 ∨ b = A1) W2 W5 := ((Frn.of_below H3.out.1).trans ((Frn.of_below (T := (fun b => b = N1 ∨ b = A1)) hb4))).trans (Frn.monoX hf5 (fun b hb => .inr hb))
      have hP5 := H2.out.2.2.2.1.frnX hf25 (by rintro b (rfl | rfl) <;> omega)
      have H5 := Lib.hid (And.intro hW5 (And.intro hA5 (And.intro hbox5 (And.intro hf25 hP5))))
      have hcn : W5.cell? ⟨N1, 0, none⟩ = some (.int .i64 (k : Int)) := hbox5.cell
      have hfz := hbox5.free
      have hbx6 := hbox5.set (vi ((k + 1 : Nat) : Int))
      have hf26 : Frn (fun b => b = N1 ∨ b = A1) W2 (W5.setCell ⟨N1, 0, none⟩ (vi ((k + 1 : Nat) : Int))) := hf25.setCell ⟨N1, 0, none⟩ (.inl (.inl rfl)) _
      have hP6 := H2.out.2.2.2.1.frnX hf26 (by rintro b (rfl | rfl) <;> omega)
      have hA6 : (W5.setCell ⟨N1, 0, none⟩ (vi ((k + 1 : Nat) : Int))).heap[A1]? = some (.cells (rdK way left s key (k + 1)) 29 (0, 0)) := by rw [HQ.out.1]; exact (Below.heap_setCell _ ⟨N1, 0, none⟩ _ A1 (by show A1 ≠ N1; omega)).trans hA5
      have e6 : vi ((k + 1 : Nat) : Int) = .int .i64 ((k : Int) + 1) := rfl
      rw [e6] at hbx6 hf26 hP6 hA6
      obtain ⟨W6, hW6⟩ : ∃ W6, W5.setCell ⟨N1, 0, none⟩ (.int .i64 ((k : Int) + 1)) = W6 := ⟨_, rfl⟩
      rw [hW6] at hbx6 hf26 hP6 hA6
      have hct : W6.cell? ⟨b1, 0, none⟩ = some (.int .i64 1) := hP6.tn.cell
      have hcm := hP6.bm.cell
      have hcn6 : W6.cell? ⟨N1, 0, none⟩ = some (.int .i64 ((k : Int) + 1)) := hbx6.cell
      have HX : Hid (Keep (fun b => b = N1 ∨ b = A1) U1 T W6 ∧ Box W6 N1 3 (vi ((k + 1 : Nat) : Int)) ∧ W6.heap[A1]? = some (.cells (rdK way left s key (k + 1)) 29 (0, 0)) ∧ Kps (fun b => TrFP bq (bq + 1) (bq + 2) (bq + 3) p cap b ∨ T b) W2 W6) := Lib.hid ⟨⟨H2.out.1.frn.trans hf26, H2.out.1.old⟩, hbx6, hA6, H2.out.2.2.2.2 _ hf26⟩
      have HW6 := Lib.hid hW6
      have hk4 : (k : Int) ≤ 320 := by omega
      clear hb4 hP4 hA4 hbox4 hW5 hA5 ho5 hf5 hbox5 hf25 hP5 hbx6 hf26 hP6 hA6 e6 hW6 df
      gi_upto_region 20 with fail
      rw [H5.out.1]
      gi_upto_region 21 with fail
      rw [HW6.out]
      clear hcn hfz d0 d1 d2 d3 d4 d5 d6 d7 d8 d9 df0 df1 df2 df3 df4 df5 df6 df7 df8 df9
      gi_wp2
      exact ⟨⟨HX.out.1, HX.out.2.1, HX.out.2.2.1, trivial⟩, HX.out.2.2.2⟩
    case hdone1 =>
      rintro D T W ⟨hs, hbox, hAk, hmk⟩ hTD hTW hkW hD hK
      rw [encT_len] at hbox
      have hD' : A1 + 1 ≤ D := by have := HU1.out.2.2.1; omega
      refine ⟨HV1.out.kept hs (by have := HU1.out.2.2.2; rintro b (rfl | rfl) <;> omega), ⟨_, hbox, rfl⟩, by omega, hK, hs.frn⟩
    case hstop1 =>
      rintro D k T W hk hk1 ⟨hs, hbox, hAk, hmk⟩ hTD hTW hkW hD hK
      exact hmk.elim
    case hrest1 =>
      rintro D1 V2 ⟨hA2, ⟨m1, hN2', hmm⟩, hD1, hK1, hF1⟩
      clear hit1
      have hc1 : V2.cell? ⟨b1, 0, none⟩ = some (.int .i64 1) := hA2.tn.cell
      have hc2 := hA2.bm.cell
      have hc4 : V2.cell? ⟨N1, 0, none⟩ = some (.int .i64 (m1 : Int)) := hN2'.cell
      have hc5 : V2.cell? ⟨Wt, 9, none⟩ = some (.int .i64 (zs.length : Int)) := by
        have h := hA2.bw
        unfold rdC at h
        rw [(cells10 h).2.2.2.2.2.2.2.2.2.1, HLO.out]
      have HA := Lib.hid hA2
      have HF1 := Lib.hid hF1
      have HM := Lib.hid hmm
      clear hA2 hN2' hF1 hmm
      gi_upto_region 22 with fail
      gi_cut [132] from 112 (fun s132 wx => s132 = .bool false ∧ wx = V2)
      case first =>
        have hz : m1 = zs.length := HM.out
        subst hz
        gi_wp2
        all_goals first
          | (gi_meet; exact ⟨rfl, rfl⟩)
          | (exfalso; have hmm := HM.out; unfold LeaveAtS at hmm; omega)
      obtain ⟨rfl, rfl⟩ := hcut
      gi_wp2
      clear hc1 hc2 hc4 hc5
      obtain ⟨V2', hW2⟩ : ∃ V', wc.alloc (Obj.cells #[Value.int IntKind.i64 2] 3) = V' := ⟨_, rfl⟩
      have hA2 : PS w way left p cap s key many re fb Wt bq wc.heap.size 2 V2' := by rw [← hW2]; exact HA.out.next 2
      have hle1 : wc.heap.size + 1 = V2'.heap.size := by rw [← hW2, World.size_alloc]
      have hk1 : V2'.heap[D1]? = some (.deferred (some [])) := by rw [← hW2]; exact (Below.heap_alloc wc _ _ (Array.getElem?_eq_some_iff.1 hK1).1).trans hK1
      have hk0' : V2'.heap[D0]? = some (.deferred (some [])) := by rw [← hW2]; exact (Below.heap_alloc wc _ _ (Nat.lt_of_lt_of_le (by have := (Array.getElem?_eq_some_iff.1 HD01.out).1; omega) HF1.out.size)).trans ((HF1.out.block D0 (Array.getElem?_eq_some_iff.1 HD01.out).1 (by have := HU1.out.2.2; have := HNA1.out.1; have := (Array.getElem?_eq_some_iff.1 HK0.out).1; rintro (h | h) <;> omega)).trans HD01.out)
      rw [hW2]
      obtain ⟨b2, hb2⟩ : ∃ b, wc.heap.size = b := ⟨_, rfl⟩
      rw [hb2] at hA2 hle1 ⊢
      have hD1' : D1 < b2 := by have := (Array.getElem?_eq_some_iff.1 hK1).1; omega
      have hAu1 : U1.heap.size ≤ b2 := by rw [← hb2]; exact HF1.out.size
      have HA2 := Lib.hid hA2
      have HK1 := Lib.hid hk1
      clear hW2 HA hK1 hk1
      clear hb2
      clear HF1 HM
      rw [roundsIn_succ]
      have hc2 : V2'.cell? ⟨b2, 0, none⟩ = some (.int .i64 2) := HA2.out.tn.cell
      skip
      skip
      have HK0' := Lib.hid hk0'
      clear hk0'
      have e1 : D1 ≠ w.heap.size + 3 := by have := HA1.out.lw; have := HA1.out.l1; have := HA1.out.lt; have := HU1.out.2.2; omega
      have e0 : D0 ≠ w.heap.size + 3 := by have := HA0.out.lw; have := HA0.out.l1; have := HA0.out.lt; have := HU0.out.2.2; omega
      have hd01 : D0 ≠ D1 := by have := HU1.out.2.2; have := HNA1.out.1; have := (Array.getElem?_eq_some_iff.1 HK0.out).1; omega
      have fin : ∀ w4, Below V2'.heap.size V2' w4 → (w4.cell? ⟨w.heap.size + 3, 0, none⟩ = some (.bool false) ∧ w4.frozen? ⟨w.heap.size + 3, 0, none⟩ = false) ∧
          (w4.setCell ⟨w.heap.size + 3, 0, none⟩ (.bool true)).heap[D1]? = some (.deferred (some [])) ∧ (w4.setCell ⟨w.heap.size + 3, 0, none⟩ (.bool true)).heap[D0]? = some (.deferred (some [])) ∧
          (((w4.setCell ⟨w.heap.size + 3, 0, none⟩ (.bool true)).putObj D1 (.deferred none)).putObj D0 (.deferred none)).cell? ⟨w.heap.size + 3, 0, none⟩ = some (.bool true) ∧
          Below w.heap.size w (((w4.setCell ⟨w.heap.size + 3, 0, none⟩ (.bool true)).putObj D1 (.deferred none)).putObj D0 (.deferred none)) := by
        intro w4 hb4
        have hbr4 := HA2.out.br.below hb4 HA2.out.br.lt
        have hkD : ∀ D, D < V2'.heap.size → D ≠ w.heap.size + 3 → (w4.setCell ⟨w.heap.size + 3, 0, none⟩ (.bool true)).heap[D]? = V2'.heap[D]? := fun D hD hne =>
          (Below.heap_setCell w4 ⟨w.heap.size + 3, 0, none⟩ _ D hne).trans (hb4.block D hD)
        have hw : Below w.heap.size w (w4.setCell ⟨w.heap.size + 3, 0, none⟩ (.bool true)) := (HA2.out.at_.below hb4).1.setCell (p := ⟨w.heap.size + 3, 0, none⟩) (by simp) _
        have hbF := hbr4.set (.bool true)
        refine ⟨⟨hbr4.cell, hbr4.free⟩, (hkD D1 (by omega) e1).trans HK1.out, (hkD D0 (Array.getElem?_eq_some_iff.1 HK0'.out).1 e0).trans HK0'.out, ?_, ?_⟩
        · exact (cell_putObj (D := D0) (B := w.heap.size + 3) (o := .deferred none) e0 0).trans ((cell_putObj (o := .deferred none) e1 0).trans hbF.cell)
        · exact below_putObj (below_putObj hw (by have := HA1.out.lw; have := HA1.out.l1; have := HA1.out.lt; have := HU1.out.2.2; omega) _) (by have := HA0.out.lw; have := HA0.out.l1; have := HA0.out.lt; have := HU0.out.2.2; omega) _
      have FIN := Lib.hid fin
      clear fin
      gi_wp2
      go_wp2_with fail
      refine (works10_any V2').mono ?_
      rintro e w9 ⟨rfl, hb9⟩
      have HB9 := Lib.hid hb9
      obtain ⟨⟨hc9, hf9⟩, _⟩ := FIN.out w9 HB9.out
      clear hb9
      go_wp2_with fail
      obtain ⟨_, hd1, hd0, hc, hw⟩ := FIN.out w9 HB9.out
      exact leave2 rfl hd1 hd0 hd01 (results_cell1 rfl _ _ rfl (v := .bool true) (by simp [go_sem, hc])) ⟨rfl, hw⟩
theorem lawScanLooks (way : Int) (left : BitVec 64) (p : Option Addr) (cap : Nat) (s : List (BitVec 64)) (key : BitVec 64) (many : Int) (w : World) (hrd : RdL w.heap.size w p cap vw s) :
    Calls Try.prog 3 #[.int .i64 way, vw left, .slice p s.length cap, vw key, .int .i64 many] w fun e w' => e = .returned (.bool true) ∧ Below w.heap.size w w' := by
  by_cases hl : s.length ≤ 80
  · exact slooks_in way left p cap s key many w hrd hl
  · exact slooks_out way left p cap s key many w (by omega)
end Go.Proofs.Ytenmogokbelahaa
