/- The walk of the reference's Look. -/
import Derived.Test.YtenmogokbelahaaScanN
import Derived.Test.YtenmogokbelahaaRegF
namespace Go.Proofs.Ytenmogokbelahaa
open Go Go.RowKit

def rightR09 (left : BitVec 64) (n : Nat) : Bool := decide (left ≠ 0#64 ∧ n % 2 = 0 ∧ 4 ≤ n ∧ n ≤ 56)
set_option maxRecDepth 100000 in
set_option maxHeartbeats 4000000 in
theorem refRight09_any (left : BitVec 64) (p : Option Addr) (cap : Nat) (s : List (BitVec 64)) (w : World) :
    Calls Try.prog 57 #[vw left, .slice p s.length cap] w fun e w' => e = .returned (.bool (rightR09 left s.length)) ∧ w = w' := by
  obtain ⟨n, hn⟩ : ∃ n, s.length = n := ⟨_, rfl⟩
  rw [hn]
  obtain ⟨V, hV⟩ : ∃ V : Int, (left.toNat : Int) = V := ⟨_, rfl⟩
  have eV : vw left = .int .u64 V := by rw [← hV]
  have h0 : left = 0#64 ↔ V = 0 := by rw [← hV, word_eq0]
  rw [eV]
  clear hn eV hV
  have hun : ∀ b : Bool, (b = true ↔ (¬ V = 0 ∧ n % 2 = 0 ∧ 4 ≤ n ∧ n ≤ 56)) → rightR09 left n = b := fun b hb => by
    have hi : (left ≠ 0#64 ∧ n % 2 = 0 ∧ 4 ≤ n ∧ n ≤ 56) ↔ (¬ V = 0 ∧ n % 2 = 0 ∧ 4 ≤ n ∧ n ≤ 56) := by simp only [ne_eq, h0]
    unfold rightR09
    cases b
    · exact decide_eq_false (fun h => Bool.noConfusion (hb.2 (hi.1 h)))
    · exact decide_eq_true (hi.2 (hb.1 rfl))
  have HU := Lib.hid hun
  clear hun h0
  by_cases hx : V = 0
  · rw [HU.out false (by simp [hx])]
    subst hx
    go_enter Try.func57, Try.ntmps57
    go_wp2_with fail
    go_ret
    exact ⟨rfl, rfl⟩
  · have hx' : (V != 0) = true := bne_iff_ne.2 hx
    by_cases hm : n % 2 = 0
    · have hm' : (n : Int).tmod 2 = 0 := by rw [Int.tmod_eq_emod_of_nonneg (by omega)]; omega
      have hme : (n : Int) % 2 = 0 := by omega
      by_cases h4 : 4 ≤ n
      · have h4' : (4 : Int) ≤ n := by omega
        rw [HU.out (decide ((n : Int) ≤ 56)) (by simp; omega)]
        clear hm h4 HU
        go_enter Try.func57, Try.ntmps57
        go_wp2_with fail
        go_ret
        exact ⟨rfl, rfl⟩
      · have h4' : (n : Int) < 4 := by omega
        rw [HU.out false (by simp; omega)]
        clear hm h4 HU
        go_enter Try.func57, Try.ntmps57
        go_wp2_with fail
        go_ret
        exact ⟨rfl, rfl⟩
    · have hm' : (n : Int).tmod 2 = 1 := by rw [Int.tmod_eq_emod_of_nonneg (by omega)]; omega
      have hme : (n : Int) % 2 = 1 := by omega
      rw [HU.out false (by simp; omega)]
      clear hm HU
      go_enter Try.func57, Try.ntmps57
      go_wp2_with fail
      go_ret
      exact ⟨rfl, rfl⟩
theorem fine_right (way : Int) (left : BitVec 64) (s : List (BitVec 64)) : FineR way left s ↔ (rightR09 left s.length = true ∧ rightRS way ((s.length : Int) / 2) = true) := by
  unfold FineR rightR09 rightRS
  rw [decide_eq_true_iff, decide_eq_true_iff]
  constructor
  · rintro ⟨h1, h2, h3, h4, h5⟩
    exact ⟨⟨h2, h3, by omega, by omega⟩, h1, by omega, by omega⟩
  · rintro ⟨⟨h2, h3, h4, h5⟩, h1, h6, h7⟩
    exact ⟨h1, h2, h3, by omega, by omega⟩
def rd0 : Rd := ⟨0, 0, 0#64, 0, 0, 0#64, 0#64, false, false, 0⟩
theorem results_look {fn : Func} {p q : Tmp} (h : fn.results = #[.cell p 29, .tmp q]) (tmps : Array Value) (w : World) {g : Nat} {r : Rd} {v : Value}
    (hp : tmps.getD p undef = .pointer (some ⟨g, 0, none⟩)) (hq : tmps.getD q undef = v) (hl : w.heap[g]? = some (.cells (rdC r) 29 (0, 0))) : (results fn tmps).run Try.prog w = .ok (.tuple #[rdV r, v]) w := by
  have hp' : tmps[p]?.getD undef = .pointer (some ⟨g, 0, none⟩) := by simpa using hp
  have hq' : tmps[q]?.getD undef = v := by simpa using hq
  simp [results, h, hp', hq', asAddr, rd_load hl]
set_option maxRecDepth 100000 in
set_option maxHeartbeats 8000000 in
theorem refLook_none (way : Int) (left : BitVec 64) (p : Option Addr) (cap : Nat) (s : List (BitVec 64)) (key : BitVec 64) (w : World) (hl : s.length ≤ 1000000) (hf : ¬ FineR way left s) :
    Calls Try.prog 14 #[.int .i64 way, vw left, .slice p s.length cap, vw key] w fun e w' => e = .returned (.tuple #[rdV rd0, .bool false]) ∧ Below w.heap.size w w' := by
  have HA := Lib.hid (refRight09_any left p cap s)
  have HB := Lib.hid (refRight_any way ((s.length : Int) / 2))
  have hfr := (not_congr (fine_right way left s)).1 hf
  have hd : IntKind.i64.wrap ((s.length : Int).tdiv 2) = (s.length : Int) / 2 := by rw [Int.tdiv_eq_ediv_of_nonneg (by omega), IntKind.wrap_i64]; omega
  have hd2 : IntKind.i64.wrap ((s.length : Int) / 2) = (s.length : Int) / 2 := by rw [IntKind.wrap_i64]; omega
  have hend : ∀ (tmps : Array Value) (h8 : tmps.getD 8 undef = .pointer (some ⟨w.heap.size, 0, none⟩)) (h9 : tmps.getD 9 undef = .bool false),
      bodyPost Try.prog Try.f14 (fun e w' => e = .returned (.tuple #[rdV rd0, .bool false]) ∧ Below w.heap.size w w') .ret { tmps := tmps, defers := [] } (w.alloc (.cells (rdC rd0) 29)) := fun tmps h8 h9 =>
    bodyPost_ret (results_look rfl _ _ h8 h9 (World.alloc_heap_new _ _)) rfl ⟨rfl, (Below.refl _ _).alloc (Nat.le_refl _) _⟩
  have HE := Lib.hid hend
  clear hf hend
  cases h1 : rightR09 left s.length with
  | false =>
    rw [h1] at HA
    clear h1 hfr
    go_enter Try.func14, Try.ntmps14
    go_wp2_with fail
    refine (HA.out _).mono ?_
    rintro e w' ⟨rfl, rfl⟩
    go_wp2_with fail
    exact HE.out _ rfl rfl
  | true =>
    have h2 : rightRS way ((s.length : Int) / 2) = false := by
      cases h2 : rightRS way ((s.length : Int) / 2) with
      | false => rfl
      | true => exact absurd ⟨h1, h2⟩ hfr
    rw [h1] at HA
    rw [h2] at HB
    clear h1 h2 hfr
    go_enter Try.func14, Try.ntmps14
    go_wp2_with fail
    refine (HA.out _).mono ?_
    rintro e w' ⟨rfl, rfl⟩
    go_wp2_with fail
    refine (HB.out _).mono ?_
    rintro e w' ⟨rfl, rfl⟩
    go_wp2_with fail
    exact HE.out _ rfl rfl
set_option maxRecDepth 100000 in
set_option maxHeartbeats 8000000 in
theorem refLook_some (way : Int) (left : BitVec 64) (p : Option Addr) (cap : Nat) (s : List (BitVec 64)) (key : BitVec 64) (w : World) (hrd : RdL w.heap.size w p cap vw s) (hf : FineR way left s) :
    Calls Try.prog 14 #[.int .i64 way, vw left, .slice p s.length cap, vw key] w fun e w' => e = .returned (.tuple #[rdV (endA left s (ofR way s key)), .bool true]) ∧ Below w.heap.size w w' := by
  have HA := Lib.hid (refRight09_any left p cap s)
  have HB := Lib.hid (refRight_any way ((s.length : Int) / 2))
  have hfr := (fine_right way left s).1 hf
  rw [hfr.1] at HA
  rw [hfr.2] at HB
  have hok := ofR_ok hf key
  have hsl : 2 * (ofR way s key).slots = s.length := by
    obtain ⟨-, -, h3, -, -⟩ := hf
    show 2 * (s.length / 2) = s.length
    omega
  have HRN := Lib.hid (fun W => refNew_any way.toNat (s.length / 2) key W (by obtain ⟨h, -⟩ := hf; omega) (by obtain ⟨-, -, -, -, h⟩ := hf; omega))
  rw [show ((way.toNat : Nat) : Int) = way by obtain ⟨h, -⟩ := hf; omega, show (((s.length / 2 : Nat)) : Int) = (s.length : Int) / 2 by omega] at HRN
  rw [show newR way.toNat (s.length / 2) key = ofR way s key from rfl] at HRN
  have hl : s.length ≤ 56 := by obtain ⟨-, -, h3, -, h5⟩ := hf; omega
  have hd : IntKind.i64.wrap ((s.length : Int).tdiv 2) = (s.length : Int) / 2 := by rw [Int.tdiv_eq_ediv_of_nonneg (by omega), IntKind.wrap_i64]; omega
  have hd2 : IntKind.i64.wrap ((s.length : Int) / 2) = (s.length : Int) / 2 := by rw [IntKind.wrap_i64]; omega
  have hm4 : IntKind.i64.wrap (4 * (s.length : Int)) = 4 * (s.length : Int) := by rw [IntKind.wrap_i64]; omega
  obtain ⟨r0, hr0⟩ : ∃ r0, ofR way s key = r0 := ⟨_, rfl⟩
  rw [hr0] at hok hsl HRN ⊢
  have HOK := Lib.hid (And.intro hok hsl)
  have HR := Lib.hid hrd
  obtain ⟨vr, hvr⟩ : ∃ vr, rdV (endA left s r0) = vr := ⟨_, rfl⟩
  rw [hvr]
  have HV := Lib.hid hvr
  clear hrd hf hfr hok hsl hr0 hvr
  unfold rdV rdC at HRN
  obtain ⟨wz, hwz⟩ : ∃ wz, w.alloc (.cells zero10 29) = wz := ⟨_, rfl⟩
  have hbz : Below w.heap.size w wz := by rw [← hwz]; exact (Below.refl _ _).alloc (Nat.le_refl _) _
  have hrz : wz.heap[w.heap.size]? = some (.cells zero10 29 (0, 0)) := by rw [← hwz]; exact World.alloc_heap_new _ _
  have hzz : wz.heap.size = w.heap.size + 1 := by rw [← hwz]; simp
  unfold zero10 at hwz
  have HZ := Lib.hid (And.intro hwz (And.intro hbz (And.intro hrz hzz)))
  clear hwz hbz hrz hzz
  go_enter Try.func14, Try.ntmps14
  go_wp2_with fail
  rw [HZ.out.1]
  refine (HA.out _).mono ?_
  rintro e w' ⟨rfl, rfl⟩
  go_wp2_with fail
  refine (HB.out _).mono ?_
  rintro e w' ⟨rfl, rfl⟩
  go_wp2_with fail
  refine (HRN.out wz).mono ?_
  rintro e w2 ⟨rfl, hb2⟩
  obtain ⟨w3, hw3⟩ : ∃ w3, w2.alloc (.cells (rdC r0) 29) = w3 := ⟨_, rfl⟩
  have hb3 : Below w2.heap.size w2 w3 := by rw [← hw3]; exact (Below.refl _ _).alloc (Nat.le_refl _) _
  have hB3 : w3.heap[w2.heap.size]? = some (.cells (rdC r0) 29 (0, 0)) := by rw [← hw3]; exact World.alloc_heap_new _ _
  have hbz3 : Below wz.heap.size wz w3 := hb2.trans (hb3.mono hb2.size)
  have hR3 : w3.heap[w.heap.size]? = some (.cells zero10 29 (0, 0)) := (hbz3.block _ (by have := HZ.out.2.2.2; omega)).trans HZ.out.2.2.1
  have hBne : w.heap.size < w2.heap.size := by have := HZ.out.2.2.2; have := hb2.size; omega
  unfold rdC at hw3
  obtain ⟨B, hB⟩ : ∃ B, w2.heap.size = B := ⟨_, rfl⟩
  rw [hB] at hB3 hBne
  have H3 : Hid (w3.heap[B]? = some (.cells (rdC r0) 29 (0, 0)) ∧ w3.heap[w.heap.size]? = some (.cells zero10 29 (0, 0)) ∧ Below w.heap.size w w3) := Lib.hid ⟨hB3, hR3, HZ.out.2.1.trans (hbz3.mono (by have := HZ.out.2.2.2; omega))⟩
  have HW3 := Lib.hid (And.intro hw3 hB)
  have HBN := Lib.hid hBne
  clear hb2 hb3 hB3 hbz3 hR3 hBne hw3 hB HRN
  go_wp2_with fail
  rw [HW3.out.1, HW3.out.2]
  go_wp2_with fail
  go_loopw [11] (fun i wr => ∃ k : Nat, k ≤ 4 * s.length ∧ i = .int .i64 k ∧ wr.heap[B]? = some (.cells (rdC (stA left s r0 k)) 29 (0, 0)) ∧ wr.heap[w.heap.size]? = some (.cells zero10 29 (0, 0)) ∧ Below w.heap.size w wr)
    (fun i _ => 4 * s.length - (intOf i).toNat)
  case atStart => exact ⟨0, Nat.zero_le _, rfl, H3.out⟩
  case round =>
    obtain ⟨k, hk, rfl, eB, hRr, ebb⟩ := hrel
    clear H3
    have hfin : (stA left s r0 k).done = true ∨ k = 4 * s.length → stA left s r0 k = endA left s r0 := fun h => by
      rcases h with h | h
      · exact stA_end HOK.out.1 h
      · obtain ⟨j, hj⟩ : ∃ j, k = 4 * r0.slots + j := ⟨k - 4 * r0.slots, by have := HOK.out.2; omega⟩
        rw [hj]
        exact stA_stay (endA_done left s HOK.out.1) j
    have HFIN := Lib.hid hfin
    have hokq := stA_ok left s HOK.out.1 k
    have hsucc := stA_succ (left := left) (s := s) (r := r0) (k := k)
    obtain ⟨q, hq⟩ : ∃ q, stA left s r0 k = q := ⟨_, rfl⟩
    rw [hq] at eB hokq hsucc HFIN
    have eB0 := eB
    unfold rdC at eB0
    obtain ⟨e0, e1, e2, e3, e4, e5, e6, e7, e8, e9, -⟩ := cells10 eB0
    have el : B < wr.heap.size := (Array.getElem?_eq_some_iff.1 eB).1
    have HK := Lib.hid (And.intro hRr hokq)
    have hend : q.done = true ∨ k = 4 * s.length → True := fun _ => trivial
    clear hfin hRr hq eB0 hend
    by_cases hgo : k < 4 * s.length ∧ q.done = false
    · obtain ⟨hlt, hd⟩ := hgo
      have hwin := wants_in hokq.1 hd
      rw [hokq.2.2.1] at hwin
      have HWA := Lib.hid (fun W => refWants_any q W hokq.1 hd)
      have hs2 := hsucc hd
      obtain ⟨x, hx0⟩ : ∃ x, q.wants = x := ⟨_, rfl⟩
      rw [hx0] at HWA hs2 hwin
      have hx : x < s.length := by have := HOK.out.2; omega
      have HGV := Lib.hid (fun W => refGive_any q (atW left s x) W hokq.1 hd)
      rw [← hs2] at HGV
      obtain ⟨qq, hqq⟩ : ∃ qq, stA left s r0 (k + 1) = qq := ⟨_, rfl⟩
      rw [hqq] at HGV
      have HQQ := Lib.hid hqq
      unfold rdV rdC at HWA HGV
      have hlt' : (k : Int) < 4 * (s.length : Int) := by omega
      have er := HR.out.below ebb
      have e7' : wr.cell? ⟨B, 7, none⟩ = some (.bool false) := by rw [e7, hd]
      have HD := Lib.hid hd
      unfold rdC at eB
      clear hsucc hokq hs2 hx0 hqq hwin hd e7
      go_wp2_with fail
      have e7 : wr.cell? ⟨B, 7, none⟩ = some (.bool q.done) := by rw [e7', HD.out]
      clear e7'
      refine wp_region_noPanic ?_
      refine wp_region_F 7 (fun w' => w'.cell? ⟨B, 0, none⟩ = some (.int .i64 q.way) ∧ w'.cell? ⟨B, 1, none⟩ = some (.int .i64 q.slots) ∧ w'.cell? ⟨B, 2, none⟩ = some (.int .i64 q.slot) ∧ w'.cell? ⟨B, 3, none⟩ = some (.int .i64 q.step) ∧ w'.cell? ⟨B, 4, none⟩ = some (vw q.key) ∧ w'.cell? ⟨B, 5, none⟩ = some (vw q.ptr) ∧ w'.cell? ⟨B, 6, none⟩ = some (vw q.ahead) ∧ w'.cell? ⟨B, 7, none⟩ = some (.bool q.done) ∧ w'.cell? ⟨B, 8, none⟩ = some (.bool q.is) ∧ w'.cell? ⟨B, 9, none⟩ = some (.int .i64 q.loads) ∧ RdL w.heap.size w' p cap vw s) (by kernel_rfl) ?_ (fun hHeld => ?_)
      · exact ⟨e0, e1, e2, e3, e4, e5, e6, e7, e8, e9, er⟩
      refine' wpAnyF_take (i := 0) (v := _) rfl (by kernel_rfl) (by kernel_rfl) (by kernel_rfl) (by kernel_rfl) (by rfl) (by kernel_rfl) (fun _ _ _ h => h) (Or.inl ⟨by rfl, ?hy⟩) hHeld _
      case hy => (intro w0 hSw; (try dsimp only at hSw); simp only [List.getElem_toArray, List.getElem_cons_zero]; go_simp; first | done | with_reducible rfl)
      simp only [Act.put, List.getElem_toArray, List.getElem_cons_zero, List.setIfInBounds_toArray, List.set_cons_zero, List.set_cons_succ]
      refine' wpAnyF_takeT (i := 1) (v := _) rfl (by kernel_rfl) (by kernel_rfl) (by kernel_rfl) (by rfl) (fun _ _ _ h => h) (Or.inl ⟨by rfl, ?hy⟩) (fun _ => hHeld) _
      case hy => (intro w0 hSw; (try dsimp only at hSw); simp only [List.getElem_toArray, List.getElem_cons_zero, List.getElem_cons_succ]; go_simp; first | done | with_reducible rfl)
      simp only [Act.put, List.getElem_toArray, List.getElem_cons_zero, List.getElem_cons_succ, List.setIfInBounds_toArray, List.set_cons_zero, List.set_cons_succ]
      refine' wpAnyF_takeT (i := 2) (v := _) rfl (by kernel_rfl) (by kernel_rfl) (by kernel_rfl) (by rfl) (fun _ _ _ h => h) (Or.inl ⟨by rfl, ?hy⟩) (fun _ => hHeld) _
      case hy => (intro w0 hSw; (try dsimp only at hSw); simp only [List.getElem_toArray, List.getElem_cons_zero, List.getElem_cons_succ]; go_simp; first | done | with_reducible rfl)
      simp only [Act.put, List.getElem_toArray, List.getElem_cons_zero, List.getElem_cons_succ, List.setIfInBounds_toArray, List.set_cons_zero, List.set_cons_succ]
      refine' wpAnyF_take (i := 3) (v := _) rfl (by kernel_rfl) (by kernel_rfl) (by kernel_rfl) (by kernel_rfl) (by rfl) (by kernel_rfl) (fun _ _ _ h => h) (Or.inl ⟨by rfl, ?hy⟩) hHeld _
      case hy => (intro w0 hSw; (try dsimp only at hSw); simp only [List.getElem_toArray, List.getElem_cons_zero, List.getElem_cons_succ]; go_simp; first | done | with_reducible rfl)
      simp only [Act.put, List.getElem_toArray, List.getElem_cons_zero, List.getElem_cons_succ, List.setIfInBounds_toArray, List.set_cons_zero, List.set_cons_succ]
      have dB := eB
      have dl := el
      have dbb : Below w.heap.size w wr.drew := ebb.trans (below_drewN (Below.refl _ _) 1)
      refine wpAnyF_one (i := 4) (by kernel_rfl) rfl (fun K hK => ?_)
      go_simp
      refine (HWA.out wr.drew).mono ?_
      rintro e w4 ⟨rfl, gb⟩
      have gB := (gb.block B dl).trans dB
      have gl := Nat.lt_of_lt_of_le dl gb.size
      obtain ⟨g0, g1, g2, g3, g4, g5, g6, g7, g8, g9, gf⟩ := cells10 gB
      have gbb : Below w.heap.size w w4 := dbb.trans (gb.mono dbb.size)
      have gr := HR.out.below gbb
      go_wp2_with fail
      refine hK.out _ _ (fun _ => ?_) ?_
      · exact ⟨g0, g1, g2, g3, g4, g5, g6, g7, g8, g9, gr⟩
      clear hK K
      try simp only [Act.put, List.getElem_toArray, List.getElem_cons_zero, List.getElem_cons_succ, List.setIfInBounds_toArray, List.set_cons_zero, List.set_cons_succ]
      refine wpAnyF_one (i := 5) (by kernel_rfl) rfl (fun K hK => ?_)
      go_simp
      refine (refAt_any left p cap s x w4 (gr.wide (Nat.le_trans gbb.size (Nat.le_refl _))) hx).mono ?_
      rintro e w5 ⟨rfl, rfl⟩
      go_wp2_with fail
      refine hK.out _ _ (fun _ => ?_) ?_
      · exact ⟨g0, g1, g2, g3, g4, g5, g6, g7, g8, g9, gr⟩
      clear hK K
      try simp only [Act.put, List.getElem_toArray, List.getElem_cons_zero, List.getElem_cons_succ, List.setIfInBounds_toArray, List.set_cons_zero, List.set_cons_succ]
      refine wpAnyF_one (i := 6) (by kernel_rfl) rfl (fun K hK => ?_)
      go_simp
      refine (HGV.out _).mono ?_
      rintro e w6 ⟨rfl, hb⟩
      have hB := (hb.block B gl).trans gB
      have hl := Nat.lt_of_lt_of_le gl hb.size
      obtain ⟨h0, h1, h2, h3, h4, h5, h6, h7, h8, h9, hf⟩ := cells10 hB
      have hbb : Below w.heap.size w w6 := gbb.trans (hb.mono gbb.size)
      have hr := HR.out.below hbb
      go_wp2_with fail
      refine hK.out _ _ (fun _ => ?_) ?_
      · exact ⟨h0, h1, h2, h3, h4, h5, h6, h7, h8, h9, hr⟩
      clear hK K
      try simp only [Act.put, List.getElem_toArray, List.getElem_cons_zero, List.getElem_cons_succ, List.setIfInBounds_toArray, List.set_cons_zero, List.set_cons_succ]
      have hf0 := hf 0
      have hf1 := hf 1
      have hf2 := hf 2
      have hf3 := hf 3
      have hf4 := hf 4
      have hf5 := hf 5
      have hf6 := hf 6
      have hf7 := hf 7
      have hf8 := hf 8
      have hf9 := hf 9
      refine wpAnyF_one (i := 7) (by kernel_rfl) rfl (fun K hK => ?_)
      go_simp
      refine hK.out _ _ (fun h => Bool.noConfusion (h.symm.trans (by kernel_rfl : _ = true))) ?_
      clear hK K
      try simp only [Act.put, List.getElem_toArray, List.getElem_cons_zero, List.getElem_cons_succ, List.setIfInBounds_toArray, List.set_cons_zero, List.set_cons_succ]
      refine wpAnyF_done (by kernel_rfl) ?_ _
      refine NoPanic.normal ?_
      obtain ⟨W, hW, hWB, hWo, hWb⟩ := sets10 hB (.int .i64 qq.way) (.int .i64 qq.slots) (.int .i64 qq.slot) (.int .i64 qq.step) (vw qq.key) (vw qq.ptr) (vw qq.ahead) (.bool qq.done) (.bool qq.is) (.int .i64 qq.loads)
      unfold vw at hW
      rw [hW]
      have hRW : W.heap[w.heap.size]? = some (.cells zero10 29 (0, 0)) := by
        have h1 := ((gb.block w.heap.size (by show w.heap.size < wr.heap.size; have := HBN.out; omega)).trans HK.out.1)
        have h2 := (hb.block w.heap.size (by have := HBN.out; have := gl; omega)).trans h1
        exact (hWo _ (by have := HBN.out; omega)).trans h2
      have HW : Hid (W.heap[B]? = some (.cells (rdC qq) 29 (0, 0)) ∧ W.heap[w.heap.size]? = some (.cells zero10 29 (0, 0)) ∧ Below w.heap.size w W) := Lib.hid ⟨hWB, hRW, hWb _ _ (by have := HBN.out; omega) hbb⟩
      clear hW hWB hWo hWb hRW hHeld gb hb gB hB gl hl gbb hbb gr hr dB dl dbb eB el er e0 e1 e2 e3 e4 e5 e6 e7 e8 e9
      go_wp2_with fail
      go_roundw
      case rel => exact ⟨k + 1, hlt, by go_num, by rw [HQQ.out]; exact HW.out⟩
      case measure => simp [intOf]; omega
    · have hq2 : q = endA left s r0 := HFIN.out (by
        by_cases hd : q.done = true
        · exact .inl hd
        · have hd' : q.done = false := by simpa using hd
          right
          by_cases hk2 : k < 4 * s.length
          · exact absurd ⟨hk2, hd'⟩ hgo
          · omega)
      rw [← hq2] at HV
      have hRz := HK.out.1
      unfold zero10 at hRz
      obtain ⟨z0, z1, z2, z3, z4, z5, z6, z7, z8, z9, zf⟩ := cells10 hRz
      have zf0 := zf 0
      have zf1 := zf 1
      have zf2 := zf 2
      have zf3 := zf 3
      have zf4 := zf 4
      have zf5 := zf 5
      have zf6 := zf 6
      have zf7 := zf 7
      have zf8 := zf 8
      have zf9 := zf 9
      obtain ⟨W, hW, hWR, -, hWb⟩ := sets10 hRz (.int .i64 q.way) (.int .i64 q.slots) (.int .i64 q.slot) (.int .i64 q.step) (vw q.key) (vw q.ptr) (vw q.ahead) (.bool q.done) (.bool q.is) (.int .i64 q.loads)
      unfold vw at hW
      have HW := Lib.hid (And.intro hW (And.intro hWR (hWb _ _ (Nat.le_refl _) ebb)))
      clear hq2 hRz zf hW hWR hWb ebb eB hokq hsucc
      by_cases hk2 : k < 4 * s.length
      · have hd : q.done = true := by
          cases hd : q.done with
          | true => rfl
          | false => exact absurd ⟨hk2, hd⟩ hgo
        rw [hd] at e7 HW
        have hk2' : (k : Int) < 4 * (s.length : Int) := by omega
        have HD := Lib.hid hd
        clear hgo hd hk2
        go_wp2_with fail
        rw [HW.out.1]
        rw [← HV.out]
        have hb3 := HW.out.2.1
        rw [← HD.out] at hb3
        exact bodyPost_ret (results_look rfl _ _ rfl rfl hb3) rfl ⟨rfl, HW.out.2.2⟩
      · have hk2' : 4 * (s.length : Int) ≤ (k : Int) := by omega
        clear hgo hk2
        go_wp2_with fail
        rw [HW.out.1]
        rw [← HV.out]
        exact bodyPost_ret (results_look rfl _ _ rfl rfl HW.out.2.1) rfl ⟨rfl, HW.out.2.2⟩
end Go.Proofs.Ytenmogokbelahaa
