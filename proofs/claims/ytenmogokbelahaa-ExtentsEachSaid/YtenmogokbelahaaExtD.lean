/- The walks of extents: list, put. -/
import Derived.Test.YtenmogokbelahaaExtC
namespace Go.Proofs.Ytenmogokbelahaa
open Go Go.RowKit

/-- Two new boxes. -/
theorem boxes2 (w : World) (u v : Value) (ty : TypeId) : ((w.alloc (.cells #[u] ty)).alloc (.cells #[v] ty)).drew.cell? ⟨w.heap.size, 0, none⟩ = some u ∧ ((w.alloc (.cells #[u] ty)).alloc (.cells #[v] ty)).drew.cell? ⟨w.heap.size + 1, 0, none⟩ = some v ∧
    w.heap.size + 1 < ((w.alloc (.cells #[u] ty)).alloc (.cells #[v] ty)).drew.heap.size ∧ Below w.heap.size w ((w.alloc (.cells #[u] ty)).alloc (.cells #[v] ty)).drew := by
  have e0 : ((w.alloc (.cells #[u] ty)).alloc (.cells #[v] ty)).heap[w.heap.size]? = some (.cells #[u] ty (0, 0)) := by
    rw [(below_allocX (w.alloc (.cells #[u] ty)) _).block _ (by simp)]
    exact World.alloc_heap_new _ _
  have e1 : ((w.alloc (.cells #[u] ty)).alloc (.cells #[v] ty)).heap[w.heap.size + 1]? = some (.cells #[v] ty (0, 0)) := by
    have := World.alloc_heap_new (w.alloc (.cells #[u] ty)) (.cells #[v] ty)
    simpa using this
  refine ⟨?_, ?_, ?_, ((Below.refl _ w).alloc (Nat.le_refl _) _).alloc (by simp) _ |>.drew⟩
  · exact (show World.cell? ((w.alloc (.cells #[u] ty)).alloc (.cells #[v] ty)) ⟨w.heap.size, 0, none⟩ = some u by rw [World.cell?, e0]; rfl)
  · exact (show World.cell? ((w.alloc (.cells #[u] ty)).alloc (.cells #[v] ty)) ⟨w.heap.size + 1, 0, none⟩ = some v by rw [World.cell?, e1]; rfl)
  · show _ < ((w.alloc (.cells #[u] ty)).alloc (.cells #[v] ty)).heap.size
    simp
set_option maxRecDepth 100000 in
set_option maxHeartbeats 8000000 in
theorem listT_any {B : Nat} {t : List Int} (w : World) (ht : TabOk t) (htb : TabAt w B 132 t) :
    Calls Try.prog 79 #[.pointer (some ⟨B, 0, none⟩)] w fun e w' => ∃ p' cap', e = .returned (.slice p' (listX t 128).length cap') ∧ OwnX w' p' cap' (listX t 128) ∧ (∀ b, inP p' cap' b → w.heap.size ≤ b) ∧ Below w.heap.size w w' := by
  have HT := Lib.hid ht
  have HTB := Lib.hid htb
  clear ht htb
  go_enter Try.func79, Try.ntmps79
  go_wp2_with fail
  go_loopw [2, 6] (fun x2 i9 wr => ∃ (k : Nat) (p : Option Addr) (cap : Nat), k ≤ 128 ∧ x2 = .slice p (listX t k).length cap ∧ i9 = .int .i64 k ∧ OwnX wr p cap (listX t k) ∧ (∀ b, inP p cap b → w.heap.size ≤ b) ∧ Below w.heap.size w wr) (fun _ i9 _ => 128 - (intOf i9).toNat)
  case atStart => exact ⟨0, none, 0, Nat.zero_le _, rfl, rfl, OwnG.nil _ _ _ _ _, fun b hb => (by obtain ⟨x, hx, -⟩ := hb; cases hx), Below.refl _ _⟩
  case round =>
    obtain ⟨k, p, cap, hk, rfl, rfl, hown, hfr, hb⟩ := hrel
    have hsm := listX_small HT.out k hk
    by_cases hlt : k < 128
    · have hlt' : (k : Int) < 128 := by omega
      obtain ⟨a, ha⟩ : ∃ a, t.getD k 0 = a := ⟨_, rfl⟩
      have htk := HTB.out.below hb
      have hcell := (htk.cell k (by rw [HT.out.len]; exact hlt)).1
      have hak : t[k]'(by rw [HT.out.len]; exact hlt) = a := by rw [← ha, List.getD_eq_getElem?_getD, List.getElem?_eq_getElem (by rw [HT.out.len]; exact hlt)]; rfl
      rw [hak] at hcell
      have hBl := htk.lt
      have hga := getD_ok HT.out k
      rw [ha] at hga
      have HCB : Hid (∀ w', Below wr.heap.size wr w' → w'.cell? ⟨B, k, none⟩ = some (.int .i64 a)) := Lib.hid (fun w' h => (h.cell (p := ⟨B, k, none⟩) hBl).trans hcell)
      obtain ⟨n, hn⟩ : ∃ n, (listX t k).length = n := ⟨_, rfl⟩
      rw [hn]
      have HO := Lib.hid (And.intro hown (And.intro hfr (And.intro hb (And.intro hsm hn))))
      have HA := Lib.hid (And.intro ha hga)
      have hk0 : (0 : Int) ≤ (k : Int) := by omega
      clear hown hfr hb hsm hn ha hga htk hak hBl
      go_upto_region 3 with fail
      refine wp_region_noPanic ?_
      refine wp_region_FP (fun kx w' => kx = 7 → w'.cell? ⟨B, k, none⟩ = some (.int .i64 a)) (by kernel_rfl) (fun kx => fun _ => hcell) ?_
      intro hTill
      clear hTill
      have hall : ∀ kx : Nat, (fun kx w' => kx = 7 → w'.cell? ⟨B, k, none⟩ = some (.int .i64 a)) kx wr.drew := fun kx => fun _ => hcell
      refine' wpAnyFP_take (i := 0) (v := _) 6 rfl (by kernel_rfl) (by kernel_rfl) (by kernel_rfl) (by kernel_rfl) (by rfl) (by rfl) (fun _ _ _ h => h) (fun _ h => absurd h (by decide)) (Or.inl ⟨by rfl, ?hy⟩) (fun kx _ => hall kx) _
      case hy => (intro w0 hC; (try dsimp only at hC); simp only [List.getElem_toArray, List.getElem_cons_zero]; go_simp; first | done | with_reducible rfl)
      try simp only [Act.put, List.getElem_toArray, List.getElem_cons_zero, List.setIfInBounds_toArray, List.set_cons_zero, List.set_cons_succ]
      refine' wpAnyFP_take (i := 1) (v := _) 2 rfl (by kernel_rfl) (by kernel_rfl) (by kernel_rfl) (by kernel_rfl) (by rfl) (by rfl) (fun _ _ _ h => h) (fun _ h => absurd h (by decide)) (Or.inl ⟨by rfl, ?hy⟩) (fun kx _ => hall kx) _
      case hy => (intro w0 hC; (try dsimp only at hC); simp only [List.getElem_toArray, List.getElem_cons_zero, List.getElem_cons_succ]; go_simp; first | done | with_reducible rfl)
      try simp only [Act.put, List.getElem_toArray, List.getElem_cons_zero, List.getElem_cons_succ, List.setIfInBounds_toArray, List.set_cons_zero, List.set_cons_succ]
      refine' wpAnyFP_take (i := 2) (v := _) 3 rfl (by kernel_rfl) (by kernel_rfl) (by kernel_rfl) (by kernel_rfl) (by rfl) (by rfl) (fun _ _ _ h => h) (fun _ h => absurd h (by decide)) (Or.inl ⟨by rfl, ?hy⟩) (fun kx _ => hall kx) _
      case hy => (intro w0 hC; (try dsimp only at hC); simp only [List.getElem_toArray, List.getElem_cons_zero, List.getElem_cons_succ]; go_simp; first | done | with_reducible rfl)
      try simp only [Act.put, List.getElem_toArray, List.getElem_cons_zero, List.getElem_cons_succ, List.setIfInBounds_toArray, List.set_cons_zero, List.set_cons_succ]
      refine' wpAnyFP_take (i := 3) (v := _) 7 rfl (by kernel_rfl) (by kernel_rfl) (by kernel_rfl) (by kernel_rfl) (by rfl) (by rfl) (fun _ _ _ h => h) (fun _ h => absurd h (by decide)) (Or.inl ⟨by rfl, ?hy⟩) (fun kx _ => hall kx) _
      case hy => (intro w0 hC; replace hC := hC rfl; (try dsimp only at hC); simp only [List.getElem_toArray, List.getElem_cons_zero, List.getElem_cons_succ]; go_simp; first | done | with_reducible rfl)
      try simp only [Act.put, List.getElem_toArray, List.getElem_cons_zero, List.getElem_cons_succ, List.setIfInBounds_toArray, List.set_cons_zero, List.set_cons_succ]
      clear hall
      refine wpAnyFP_two (i := 4) (j := 5) (by kernel_rfl) rfl rfl ?_ ?_
      · intro K' hK
        rw [if_pos (by kernel_rfl)]
        go_simp
        refine hK.out _ _ (fun kx hk _ => HCB.out _ (by first | exact (Below.refl _ wr).drew.alloc (Nat.le_refl _) _ | exact ((Below.refl _ wr).drew.alloc (Nat.le_refl _) _).alloc (by simp) _ | exact (((Below.refl _ wr).drew.alloc (Nat.le_refl _) _).alloc (by simp) _).setCell (by simp) _)) ?_
        clear hK K'
        try simp only [Act.put, List.getElem_toArray, List.getElem_cons_zero, List.getElem_cons_succ, List.setIfInBounds_toArray, List.set_cons_zero, List.set_cons_succ]
        refine wpAnyFP_one (i := 5) (by kernel_rfl) rfl ?_
        intro K' hK
        rw [if_pos (by kernel_rfl)]
        go_simp
        refine hK.out _ _ (fun kx hk _ => HCB.out _ (by first | exact (Below.refl _ wr).drew.alloc (Nat.le_refl _) _ | exact ((Below.refl _ wr).drew.alloc (Nat.le_refl _) _).alloc (by simp) _ | exact (((Below.refl _ wr).drew.alloc (Nat.le_refl _) _).alloc (by simp) _).setCell (by simp) _)) ?_
        clear hK K'
        try simp only [Act.put, List.getElem_toArray, List.getElem_cons_zero, List.getElem_cons_succ, List.setIfInBounds_toArray, List.set_cons_zero, List.set_cons_succ]
        refine wpAnyFP_one (i := 6) (by kernel_rfl) rfl ?_
        intro K' hK
        rw [if_pos (by kernel_rfl)]
        go_simp
        refine hK.out _ _ (fun kx hk _ => HCB.out _ (by first | exact (Below.refl _ wr).drew.alloc (Nat.le_refl _) _ | exact ((Below.refl _ wr).drew.alloc (Nat.le_refl _) _).alloc (by simp) _ | exact (((Below.refl _ wr).drew.alloc (Nat.le_refl _) _).alloc (by simp) _).setCell (by simp) _)) ?_
        clear hK K'
        try simp only [Act.put, List.getElem_toArray, List.getElem_cons_zero, List.getElem_cons_succ, List.setIfInBounds_toArray, List.set_cons_zero, List.set_cons_succ]
        refine wpAnyFP_one (i := 7) (by kernel_rfl) rfl ?_
        intro K' hK
        rw [if_pos (by kernel_rfl)]
        go_simp
        refine hK.out _ _ (fun kx hk h => Bool.noConfusion (hk.symm.trans (by subst h; kernel_rfl : _ = true))) ?_
        clear hK K'
        try simp only [Act.put, List.getElem_toArray, List.getElem_cons_zero, List.getElem_cons_succ, List.setIfInBounds_toArray, List.set_cons_zero, List.set_cons_succ]
        refine wpAnyFP_done (by kernel_rfl) ?_ _
        refine NoPanic.normal ?_
        obtain ⟨V, hV⟩ : ∃ V, ((wr.alloc (.cells #[.int .i64 k] 3)).alloc (.cells #[.int .i64 a] 3)).drew = V := ⟨_, rfl⟩
        obtain ⟨c0, c1, hl1, hbV⟩ := boxes2 wr (.int .i64 k) (.int .i64 a) 3
        rw [hV] at c0 c1 hl1 hbV
        rw [hV]
        obtain ⟨Bz, hBz⟩ : ∃ Bz, wr.heap.size = Bz := ⟨_, rfl⟩
        rw [hBz] at c0 c1 hl1
        rw [hBz]
        have HV := Lib.hid (And.intro hbV hBz)
        clear hV hbV hcell HCB
        by_cases ha0 : a = 0
        · have dz : decide (0 < a) = false := decide_eq_false (by omega)
          have HR : Hid (listX t (k + 1) = listX t k) := Lib.hid (by show (if t.getD k 0 = 0 then _ else _) = _; rw [HA.out.1, if_pos ha0])
          have HE : Hid ((listX t (k + 1)).length = n ∧ OwnX V p cap (listX t (k + 1)) ∧ (∀ b, inP p cap b → w.heap.size ≤ b) ∧ Below w.heap.size w V) := Lib.hid ⟨by rw [HR.out]; exact HO.out.2.2.2.2, by rw [HR.out]; exact OwnG.below HO.out.1 HV.out.1, HO.out.2.1, HO.out.2.2.1.trans (HV.out.1.mono HO.out.2.2.1.size)⟩
          clear ha0 c0 hl1
          go_wp2_with fail
          go_roundw
          case rel => exact ⟨k + 1, p, cap, hlt, by rw [HE.out.1], by go_num, HE.out.2⟩
          case measure => simp [intOf]; omega
        · have dz : decide (0 < a) = true := decide_eq_true (by have := HA.out; omega)
          have HR : Hid (listX t (k + 1) = joinX (listX t k) k a) := Lib.hid (by show (if t.getD k 0 = 0 then _ else _) = _; rw [HA.out.1, if_neg ha0])
          have hj := joinedX_any p cap (listX t k) (Bi := Bz) (Ba := Bz + 1) (i := (k : Int)) (a := a) V (OwnG.below HO.out.1 HV.out.1) c0 c1 (by omega) (by omega) (by have := HO.out.2.2.2.1.2; omega) (fun x hx => by have := HO.out.2.2.2.1.1 x hx; omega)
          rw [HO.out.2.2.2.2, ← HR.out] at hj
          have HJ := Lib.hid hj
          clear hj hl1 ha0
          go_wp2_with fail
          refine HJ.out.mono ?_
          rintro e w7 ⟨p7, cap7, rfl, happ⟩
          have HE : Hid (OwnX w7 p7 cap7 (listX t (k + 1)) ∧ (∀ b, inP p7 cap7 b → w.heap.size ≤ b) ∧ Below w.heap.size w w7) := Lib.hid ⟨happ.1, fun b hb => (happ.2.2 b hb).elim (HO.out.2.1 b) (fun h => Nat.le_trans (Nat.le_trans HO.out.2.2.1.size HV.out.1.size) h.1), HO.out.2.2.1.trans ((HV.out.1.mono HO.out.2.2.1.size).trans (happ.2.1.below (Nat.le_trans HO.out.2.2.1.size HV.out.1.size) HO.out.2.1))⟩
          clear happ HJ c0 c1
          go_wp2_with fail
          go_roundw
          case rel => exact ⟨k + 1, p7, cap7, hlt, rfl, by go_num, HE.out⟩
          case measure => simp [intOf]; omega
      · intro K' hK
        rw [if_pos (by kernel_rfl)]
        go_simp
        refine hK.out _ _ (fun kx hk _ => HCB.out _ (by first | exact (Below.refl _ wr).drew.alloc (Nat.le_refl _) _ | exact ((Below.refl _ wr).drew.alloc (Nat.le_refl _) _).alloc (by simp) _ | exact (((Below.refl _ wr).drew.alloc (Nat.le_refl _) _).alloc (by simp) _).setCell (by simp) _)) ?_
        clear hK K'
        try simp only [Act.put, List.getElem_toArray, List.getElem_cons_zero, List.getElem_cons_succ, List.setIfInBounds_toArray, List.set_cons_zero, List.set_cons_succ]
        refine wpAnyFP_one (i := 4) (by kernel_rfl) rfl ?_
        intro K' hK
        rw [if_pos (by kernel_rfl)]
        go_simp
        refine hK.out _ _ (fun kx hk _ => HCB.out _ (by first | exact (Below.refl _ wr).drew.alloc (Nat.le_refl _) _ | exact ((Below.refl _ wr).drew.alloc (Nat.le_refl _) _).alloc (by simp) _ | exact (((Below.refl _ wr).drew.alloc (Nat.le_refl _) _).alloc (by simp) _).setCell (by simp) _)) ?_
        clear hK K'
        try simp only [Act.put, List.getElem_toArray, List.getElem_cons_zero, List.getElem_cons_succ, List.setIfInBounds_toArray, List.set_cons_zero, List.set_cons_succ]
        refine wpAnyFP_one (i := 6) (by kernel_rfl) rfl ?_
        intro K' hK
        rw [if_pos (by kernel_rfl)]
        go_simp
        refine hK.out _ _ (fun kx hk _ => HCB.out _ (by first | exact (Below.refl _ wr).drew.alloc (Nat.le_refl _) _ | exact ((Below.refl _ wr).drew.alloc (Nat.le_refl _) _).alloc (by simp) _ | exact (((Below.refl _ wr).drew.alloc (Nat.le_refl _) _).alloc (by simp) _).setCell (by simp) _)) ?_
        clear hK K'
        try simp only [Act.put, List.getElem_toArray, List.getElem_cons_zero, List.getElem_cons_succ, List.setIfInBounds_toArray, List.set_cons_zero, List.set_cons_succ]
        refine wpAnyFP_one (i := 7) (by kernel_rfl) rfl ?_
        intro K' hK
        rw [if_pos (by kernel_rfl)]
        go_simp
        refine hK.out _ _ (fun kx hk h => Bool.noConfusion (hk.symm.trans (by subst h; kernel_rfl : _ = true))) ?_
        clear hK K'
        try simp only [Act.put, List.getElem_toArray, List.getElem_cons_zero, List.getElem_cons_succ, List.setIfInBounds_toArray, List.set_cons_zero, List.set_cons_succ]
        refine wpAnyFP_done (by kernel_rfl) ?_ _
        refine NoPanic.normal ?_
        obtain ⟨V, hV⟩ : ∃ V, ((wr.alloc (.cells #[.int .i64 a] 3)).alloc (.cells #[.int .i64 k] 3)).drew = V := ⟨_, rfl⟩
        obtain ⟨c0, c1, hl1, hbV⟩ := boxes2 wr (.int .i64 a) (.int .i64 k) 3
        rw [hV] at c0 c1 hl1 hbV
        rw [hV]
        obtain ⟨Bz, hBz⟩ : ∃ Bz, wr.heap.size = Bz := ⟨_, rfl⟩
        rw [hBz] at c0 c1 hl1
        rw [hBz]
        have HV := Lib.hid (And.intro hbV hBz)
        clear hV hbV hcell HCB
        by_cases ha0 : a = 0
        · have dz : decide (0 < a) = false := decide_eq_false (by omega)
          have HR : Hid (listX t (k + 1) = listX t k) := Lib.hid (by show (if t.getD k 0 = 0 then _ else _) = _; rw [HA.out.1, if_pos ha0])
          have HE : Hid ((listX t (k + 1)).length = n ∧ OwnX V p cap (listX t (k + 1)) ∧ (∀ b, inP p cap b → w.heap.size ≤ b) ∧ Below w.heap.size w V) := Lib.hid ⟨by rw [HR.out]; exact HO.out.2.2.2.2, by rw [HR.out]; exact OwnG.below HO.out.1 HV.out.1, HO.out.2.1, HO.out.2.2.1.trans (HV.out.1.mono HO.out.2.2.1.size)⟩
          clear ha0 c1 hl1
          go_wp2_with fail
          go_roundw
          case rel => exact ⟨k + 1, p, cap, hlt, by rw [HE.out.1], by go_num, HE.out.2⟩
          case measure => simp [intOf]; omega
        · have dz : decide (0 < a) = true := decide_eq_true (by have := HA.out; omega)
          have HR : Hid (listX t (k + 1) = joinX (listX t k) k a) := Lib.hid (by show (if t.getD k 0 = 0 then _ else _) = _; rw [HA.out.1, if_neg ha0])
          have hj := joinedX_any p cap (listX t k) (Bi := Bz + 1) (Ba := Bz) (i := (k : Int)) (a := a) V (OwnG.below HO.out.1 HV.out.1) c1 c0 (by omega) (by omega) (by have := HO.out.2.2.2.1.2; omega) (fun x hx => by have := HO.out.2.2.2.1.1 x hx; omega)
          rw [HO.out.2.2.2.2, ← HR.out] at hj
          have HJ := Lib.hid hj
          clear hj hl1 ha0
          go_wp2_with fail
          refine HJ.out.mono ?_
          rintro e w7 ⟨p7, cap7, rfl, happ⟩
          have HE : Hid (OwnX w7 p7 cap7 (listX t (k + 1)) ∧ (∀ b, inP p7 cap7 b → w.heap.size ≤ b) ∧ Below w.heap.size w w7) := Lib.hid ⟨happ.1, fun b hb => (happ.2.2 b hb).elim (HO.out.2.1 b) (fun h => Nat.le_trans (Nat.le_trans HO.out.2.2.1.size HV.out.1.size) h.1), HO.out.2.2.1.trans ((HV.out.1.mono HO.out.2.2.1.size).trans (happ.2.1.below (Nat.le_trans HO.out.2.2.1.size HV.out.1.size) HO.out.2.1))⟩
          clear happ HJ c0 c1
          go_wp2_with fail
          go_roundw
          case rel => exact ⟨k + 1, p7, cap7, hlt, rfl, by go_num, HE.out⟩
          case measure => simp [intOf]; omega
    · obtain rfl : k = 128 := by omega
      have HE := Lib.hid (And.intro hown (And.intro hfr hb))
      clear hown hfr hb hsm hlt
      go_wp2_with fail
      go_ret
      exact ⟨p, cap, rfl, HE.out⟩
/-- What put leaves. -/
def RetPut (B : Nat) (t : List Int) (p : Option Addr) (cap : Nat) (rs : List RunE) (i : Nat) (a : Int) (w : World) (e : Ending) (w' : World) : Prop :=
  ∃ p' cap', e = .returned (.slice p' (putX (t, rs) i a).2.length cap') ∧ TabAt w' B 132 (t.set i a) ∧ OwnRn w' p' cap' (putX (t, rs) i a).2 ∧ Frn (fun b => b = B ∨ inP p cap b) w w' ∧ (∀ b, inP p' cap' b → inP p cap b ∨ w.heap.size ≤ b)
set_option maxRecDepth 100000 in
set_option maxHeartbeats 8000000 in
theorem putT_z {B : Nat} {t : List Int} (p : Option Addr) (cap : Nat) (rs : List RunE) (i : Nat) (a : Int) (w : World) (ht : TabOk t) (htb : TabAt w B 132 t) (hown : OwnRn w p cap rs) (hsep : ¬ inP p cap B) (hi : i < 128) (hln : rs.length < 1000000)
    (hsm : ∀ x ∈ rs, 0 ≤ x.1 ∧ x.1 + x.2 ≤ 10000 ∧ 0 ≤ x.2) (hz : t.getD i 0 = 0) :
    Calls Try.prog 78 #[.pointer (some ⟨B, 0, none⟩), .slice p rs.length cap, .int .i64 i, .int .i64 a] w (RetPut B t p cap rs i a w) := by
  have HZ := Lib.hid hz
  have HSEP := Lib.hid hsep
  have hi9 : (i : Int) < 128 := by omega
  have hi0 : (0 : Int) ≤ (i : Int) := by omega
  have hil : i < t.length := by rw [ht.len]; omega
  obtain ⟨u, hu⟩ : ∃ u, t.getD i 0 = u := ⟨_, rfl⟩
  have hc := htb.cell i hil
  have hiu : t[i]'hil = u := by rw [← hu, List.getD_eq_getElem?_getD, List.getElem?_eq_getElem hil]; rfl
  rw [hiu] at hc
  obtain ⟨hcu, hfu⟩ := hc
  have hgu := getD_ok ht i
  rw [hu] at hgu
  have hBl := htb.lt
  obtain ⟨Y, hY⟩ : ∃ Y, w.heap.size = Y := ⟨_, rfl⟩
  have hb1 := below_allocX w (.cells #[.int .i64 u] 3)
  obtain ⟨w1, hw1⟩ : ∃ w1, w.alloc (.cells #[.int .i64 u] 3) = w1 := ⟨_, rfl⟩
  have hy : w1.cell? ⟨Y, 0, none⟩ = some (.int .i64 u) := by rw [← hw1, ← hY, World.cell?, World.alloc_heap_new]; rfl
  have hyl : Y < w1.heap.size := by rw [← hw1, ← hY]; simp
  rw [hw1] at hb1
  have hBY : B ≠ Y := by omega
  have htb1 := htb.below hb1
  have hset := htb1.set i a
  obtain ⟨c1u, f1u⟩ := htb1.cell i hil
  rw [hiu] at c1u
  have hs2 : Below Y w1 (w1.setCell ⟨B, i, none⟩ (.int .i64 a)) ∨ True := .inr trivial
  have hf2 : Frn (fun b => b = B) w1 (w1.setCell ⟨B, i, none⟩ (.int .i64 a)) := Frn.setCell (T := fun b => b = B) (Frn.refl _ w1) ⟨B, i, none⟩ (.inl rfl) _
  have hy2 : (w1.setCell ⟨B, i, none⟩ (.int .i64 a)).cell? ⟨Y, 0, none⟩ = some (.int .i64 u) := (World.cell?_of_block (w := w1) (a := ⟨Y, 0, none⟩) (hf2.block Y hyl (Ne.symm hBY))).trans hy
  have hyl2 : Y < (w1.setCell ⟨B, i, none⟩ (.int .i64 a)).heap.size := Nat.lt_of_lt_of_le hyl hf2.size
  obtain ⟨w2, hw2⟩ : ∃ w2, w1.setCell ⟨B, i, none⟩ (.int .i64 a) = w2 := ⟨_, rfl⟩
  rw [hw2] at hset hf2 hy2 hyl2
  have hf02 : Frn (fun b => b = B) w w2 := (Frn.of_below hb1).trans hf2
  have hown2 : OwnRn w2 p cap rs := OwnG.keep hown (fun b hb => hf02.block b (OwnG.lt hown hb) (fun e => hsep (e ▸ hb)))
  obtain ⟨n, hn⟩ : ∃ n, rs.length = n := ⟨_, rfl⟩
  have HW := Lib.hid (And.intro hw1 (And.intro hY hw2))
  have H2 : Hid (TabAt w2 B 132 (t.set i a) ∧ Frn (fun b => b = B) w w2 ∧ OwnRn w2 p cap rs ∧ rs.length = n ∧ t.getD i 0 = u ∧ w.heap.size ≤ w2.heap.size ∧ B < w.heap.size) := Lib.hid ⟨hset, hf02, hown2, hn, hu, hf02.size, hBl⟩
  have HSM := Lib.hid hsm
  have HLN := Lib.hid hln
  rw [hn]
  clear hown hown2 hn hset hf02 hf2 hs2 htb1 htb ht
  have du : (u == 0) = true := beq_iff_eq.2 (by rw [← H2.out.2.2.2.2.1]; exact hz)
  clear hu hgu hBl hb1 hw1 hy hyl hBY hw2 hY hz hsm hln hsep hil hiu
  go_enter Try.func78, Try.ntmps78
  go_upto_region 2 with fail
  rw [HW.out.1, HW.out.2.1]
  go_upto_region 3 with fail
  rw [HW.out.2.2]
  go_wp2_with fail
  go_ret
  exact ⟨p, cap, by show _ = Ending.returned (.slice p (if t.getD i 0 = 0 then rs else joinR rs (t.getD i 0)).length cap); rw [if_pos HZ.out, H2.out.2.2.2.1]; rfl, H2.out.1, by show OwnRn w2 p cap (if t.getD i 0 = 0 then rs else joinR rs (t.getD i 0)); rw [if_pos HZ.out]; exact H2.out.2.2.1, ⟨H2.out.2.1.os, H2.out.2.1.tape, H2.out.2.1.output, H2.out.2.1.size, fun b hb hn => H2.out.2.1.block b hb (fun e => hn (.inl e))⟩, fun b hb => .inl hb⟩
set_option maxRecDepth 100000 in
set_option maxHeartbeats 8000000 in
theorem putT_n {B : Nat} {t : List Int} (p : Option Addr) (cap : Nat) (rs : List RunE) (i : Nat) (a : Int) (w : World) (ht : TabOk t) (htb : TabAt w B 132 t) (hown : OwnRn w p cap rs) (hsep : ¬ inP p cap B) (hi : i < 128) (hln : rs.length < 1000000)
    (hsm : ∀ x ∈ rs, 0 ≤ x.1 ∧ x.1 + x.2 ≤ 10000 ∧ 0 ≤ x.2) (hz : ¬ t.getD i 0 = 0) :
    Calls Try.prog 78 #[.pointer (some ⟨B, 0, none⟩), .slice p rs.length cap, .int .i64 i, .int .i64 a] w (RetPut B t p cap rs i a w) := by
  have HZ := Lib.hid hz
  have HSEP := Lib.hid hsep
  have hi9 : (i : Int) < 128 := by omega
  have hi0 : (0 : Int) ≤ (i : Int) := by omega
  have hil : i < t.length := by rw [ht.len]; omega
  obtain ⟨u, hu⟩ : ∃ u, t.getD i 0 = u := ⟨_, rfl⟩
  have hc := htb.cell i hil
  have hiu : t[i]'hil = u := by rw [← hu, List.getD_eq_getElem?_getD, List.getElem?_eq_getElem hil]; rfl
  rw [hiu] at hc
  obtain ⟨hcu, hfu⟩ := hc
  have hgu := getD_ok ht i
  rw [hu] at hgu
  have hBl := htb.lt
  obtain ⟨Y, hY⟩ : ∃ Y, w.heap.size = Y := ⟨_, rfl⟩
  have hb1 := below_allocX w (.cells #[.int .i64 u] 3)
  obtain ⟨w1, hw1⟩ : ∃ w1, w.alloc (.cells #[.int .i64 u] 3) = w1 := ⟨_, rfl⟩
  have hy : w1.cell? ⟨Y, 0, none⟩ = some (.int .i64 u) := by rw [← hw1, ← hY, World.cell?, World.alloc_heap_new]; rfl
  have hyl : Y < w1.heap.size := by rw [← hw1, ← hY]; simp
  rw [hw1] at hb1
  have hBY : B ≠ Y := by omega
  have htb1 := htb.below hb1
  have hset := htb1.set i a
  obtain ⟨c1u, f1u⟩ := htb1.cell i hil
  rw [hiu] at c1u
  have hs2 : Below Y w1 (w1.setCell ⟨B, i, none⟩ (.int .i64 a)) ∨ True := .inr trivial
  have hf2 : Frn (fun b => b = B) w1 (w1.setCell ⟨B, i, none⟩ (.int .i64 a)) := Frn.setCell (T := fun b => b = B) (Frn.refl _ w1) ⟨B, i, none⟩ (.inl rfl) _
  have hy2 : (w1.setCell ⟨B, i, none⟩ (.int .i64 a)).cell? ⟨Y, 0, none⟩ = some (.int .i64 u) := (World.cell?_of_block (w := w1) (a := ⟨Y, 0, none⟩) (hf2.block Y hyl (Ne.symm hBY))).trans hy
  have hyl2 : Y < (w1.setCell ⟨B, i, none⟩ (.int .i64 a)).heap.size := Nat.lt_of_lt_of_le hyl hf2.size
  obtain ⟨w2, hw2⟩ : ∃ w2, w1.setCell ⟨B, i, none⟩ (.int .i64 a) = w2 := ⟨_, rfl⟩
  rw [hw2] at hset hf2 hy2 hyl2
  have hf02 : Frn (fun b => b = B) w w2 := (Frn.of_below hb1).trans hf2
  have hown2 : OwnRn w2 p cap rs := OwnG.keep hown (fun b hb => hf02.block b (OwnG.lt hown hb) (fun e => hsep (e ▸ hb)))
  obtain ⟨n, hn⟩ : ∃ n, rs.length = n := ⟨_, rfl⟩
  have HW := Lib.hid (And.intro hw1 (And.intro hY hw2))
  have H2 : Hid (TabAt w2 B 132 (t.set i a) ∧ Frn (fun b => b = B) w w2 ∧ OwnRn w2 p cap rs ∧ rs.length = n ∧ t.getD i 0 = u ∧ w.heap.size ≤ w2.heap.size ∧ B < w.heap.size) := Lib.hid ⟨hset, hf02, hown2, hn, hu, hf02.size, hBl⟩
  have HSM := Lib.hid hsm
  have HLN := Lib.hid hln
  rw [hn]
  clear hown hown2 hn hset hf02 hf2 hs2 htb1 htb ht
  have du : (u == 0) = false := beq_eq_false_iff_ne.2 (by rw [← H2.out.2.2.2.2.1]; exact hz)
  have hj := joinedR_any p cap rs (Ba := Y) (a := u) w2 H2.out.2.2.1 hy2 hyl2 (by have := HLN.out; omega) HSM.out
  rw [H2.out.2.2.2.1] at hj
  have HJ := Lib.hid hj
  clear hj
  clear hu hgu hBl hb1 hw1 hy hyl hBY hw2 hY hz hsm hln hsep hil hiu
  go_enter Try.func78, Try.ntmps78
  go_upto_region 2 with fail
  rw [HW.out.1, HW.out.2.1]
  go_upto_region 3 with fail
  rw [HW.out.2.2]
  go_wp2_with fail
  refine HJ.out.mono ?_
  rintro e w3 ⟨p3, cap3, rfl, happ⟩
  have HP := Lib.hid happ
  clear happ HJ
  go_wp2_with fail
  go_ret
  exact ⟨p3, cap3, by show _ = Ending.returned (.slice p3 (if t.getD i 0 = 0 then rs else joinR rs (t.getD i 0)).length cap3); rw [if_neg HZ.out, H2.out.2.2.2.2.1]; rfl, H2.out.1.keep (HP.out.2.1.block B (Nat.lt_of_lt_of_le H2.out.2.2.2.2.2.2 H2.out.2.2.2.2.2.1) HSEP.out), by show OwnRn w3 p3 cap3 (if t.getD i 0 = 0 then rs else joinR rs (t.getD i 0)); rw [if_neg HZ.out, H2.out.2.2.2.2.1]; exact HP.out.1, ⟨HP.out.2.1.os.trans H2.out.2.1.os, HP.out.2.1.tape.trans H2.out.2.1.tape, HP.out.2.1.output.trans H2.out.2.1.output, Nat.le_trans H2.out.2.1.size HP.out.2.1.size, fun b hb hn => (HP.out.2.1.block b (Nat.lt_of_lt_of_le hb H2.out.2.1.size) (fun e => hn (.inr e))).trans (H2.out.2.1.block b hb (fun e => hn (.inl e)))⟩, fun b hb => (HP.out.2.2 b hb).imp id (fun h => Nat.le_trans H2.out.2.1.size h.1)⟩
theorem putT_any {B : Nat} {t : List Int} (p : Option Addr) (cap : Nat) (rs : List RunE) (i : Nat) (a : Int) (w : World) (ht : TabOk t) (htb : TabAt w B 132 t) (hown : OwnRn w p cap rs) (hsep : ¬ inP p cap B) (hi : i < 128) (hln : rs.length < 1000000)
    (hsm : ∀ x ∈ rs, 0 ≤ x.1 ∧ x.1 + x.2 ≤ 10000 ∧ 0 ≤ x.2) :
    Calls Try.prog 78 #[.pointer (some ⟨B, 0, none⟩), .slice p rs.length cap, .int .i64 i, .int .i64 a] w (RetPut B t p cap rs i a w) := by
  by_cases hz : t.getD i 0 = 0
  · exact putT_z p cap rs i a w ht htb hown hsep hi hln hsm hz
  · exact putT_n p cap rs i a w ht htb hown hsep hi hln hsm hz
end Go.Proofs.Ytenmogokbelahaa
