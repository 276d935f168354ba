/- The walks of the reference's latch: Has, Same, free. -/
import Derived.Test.YthhdipfadnihjaaApp
import Derived.Test.YthhdipfadnihjaaOpen
import Derived.Test.YthhdipfadnihjaaRows
import Derived.Deep.QuietTactic
import Derived.BigQuiet
import Derived.Deep.RegionHeld3
namespace Go.Proofs.Ythhdipfadnihjaa
open Go Go.RowKit

abbrev Turn := Int × Bool
def tc (t : Turn) : List Value := [.int .i64 t.1, .bool t.2]
theorem RdS.rows {B : Nat} {w : World} {p : Option Addr} {cap : Nat} {ys : List Turn} (h : RdS B w p cap 2 tc ys) (i : Nat) (hi : i < ys.length) :
    ∃ b off, p = some ⟨b, off, none⟩ ∧ b < B ∧ w.cell? ⟨b, off + i * 2, none⟩ = some (.int .i64 ys[i].1) ∧ w.cell? ⟨b, off + i * 2 + 1, none⟩ = some (.bool ys[i].2) := by
  obtain ⟨h1, h2, h3⟩ := h
  rcases h3 with rfl | ⟨b, off, hp, hb, hc⟩
  · omega
  · exact ⟨b, off, hp, hb, by simpa using hc i hi 0 _ rfl, by rw [Nat.add_assoc]; exact hc i hi 1 _ rfl⟩
theorem RdS.len {α : Type} {B : Nat} {w : World} {p : Option Addr} {cap c : Nat} {enc : α → List Value} {ys : List α} (h : RdS B w p cap c enc ys) : ys.length ≤ 9223372036854775807 := by
  have := h.1; have := h.2.1; unfold maxLen at this; omega

def hasT (ys : List Turn) (c : Int) : Bool := ys.any fun t => decide (t.1 = c)
set_option maxRecDepth 100000 in
set_option maxHeartbeats 1000000 in
theorem refHas_any (p : Option Addr) (cap : Nat) (ys : List Turn) (c : Int) (w : World) (hrd : RdS w.heap.size w p cap 2 tc ys) :
    Calls Try.prog 26 #[.slice p ys.length cap, .int .i64 c] w fun e w' => e = .returned (.bool (hasT ys c)) ∧ w = w' := by
  have hlen := hrd.len
  have HR := Lib.hid hrd
  clear hrd
  go_enter Try.func26, Try.ntmps26
  go_wp2
  go_loop [5] (fun i => ∃ k : Nat, k ≤ ys.length ∧ i = .int .i64 k ∧ hasT (ys.take k) c = false) (fun i => ys.length - (intOf i).toNat)
  case atStart => exact ⟨0, Nat.zero_le _, rfl, rfl⟩
  case round =>
    obtain ⟨k, hk, rfl, hno⟩ := hrel
    have HNO := Lib.hid hno
    clear hno
    by_cases hlt : k < ys.length
    · obtain ⟨b, off, rfl, hb, h0, _⟩ := HR.out.rows k hlt
      have hlt' : (k : Int) < (ys.length : Int) := by omega
      by_cases hc : ys[k].1 = c
      · have hY := Lib.hid (show hasT ys c = true from List.any_eq_true.2 ⟨ys[k], List.getElem_mem hlt, by simpa using hc⟩)
        rw [hc] at h0
        go_wp2
        go_ret
        exact ⟨by rw [hY.out]; rfl, rfl⟩
      · obtain ⟨x, hx⟩ : ∃ x, ys[k].1 = x := ⟨_, rfl⟩
        have hN := Lib.hid (show hasT (ys.take (k + 1)) c = false by
          rw [List.take_succ_eq_append_getElem hlt]
          have := HNO.out
          unfold hasT at this ⊢
          rw [List.any_append, this]
          simp [hc])
        rw [hx] at h0 hc
        clear hx
        go_wp2
        go_round
        case rel => exact ⟨k + 1, by omega, by go_num, hN.out⟩
        case measure => simp [intOf]; omega
    · obtain rfl : k = ys.length := by omega
      have h := HNO.out
      rw [List.take_length] at h
      have H := Lib.hid h
      clear h
      go_wp2
      go_ret
      exact ⟨by rw [H.out]; rfl, rfl⟩

def freeT (held : List Turn) (t : Turn) : Bool := held.all fun x => !(t.2 || x.2)
set_option maxRecDepth 100000 in
set_option maxHeartbeats 1000000 in
theorem refFree_any (p : Option Addr) (cap : Nat) (ys : List Turn) (t : Turn) (w : World) (hrd : RdS w.heap.size w p cap 2 tc ys) :
    Calls Try.prog 132 #[.slice p ys.length cap, .agg #[.int .i64 t.1, .bool t.2]] w fun e w' => e = .returned (.bool (freeT ys t)) ∧ Below w.heap.size w w' := by
  obtain ⟨wa, hwa⟩ : ∃ wa, w.alloc (.cells #[.int .i64 t.1, .bool t.2] 53) = wa := ⟨_, rfl⟩
  have hA : At w.heap.size w wa := by rw [← hwa]; exact (At.start w).alloc _
  have hc1 : wa.cell? ⟨w.heap.size, 1, none⟩ = some (.bool t.2) := by rw [← hwa, World.cell?_alloc_new]; rfl
  have hlen := hrd.len
  have HR := Lib.hid hrd
  have HA := Lib.hid hA
  have HC := Lib.hid hc1
  have HWA := Lib.hid hwa
  clear hrd hA hwa
  go_enter Try.func132, Try.ntmps132
  go_wp2
  rw [HWA.out]
  go_loop [5] (fun i => ∃ k : Nat, k ≤ ys.length ∧ i = .int .i64 k ∧ freeT (ys.take k) t = true) (fun i => ys.length - (intOf i).toNat)
  case atStart => exact ⟨0, Nat.zero_le _, rfl, rfl⟩
  case round =>
    obtain ⟨k, hk, rfl, hno⟩ := hrel
    have HNO := Lib.hid hno
    clear hno
    by_cases hlt : k < ys.length
    · obtain ⟨b, off, rfl, hb, _, h1⟩ := HR.out.rows k hlt
      have hlt' : (k : Int) < (ys.length : Int) := by omega
      have h1' := (HA.out.1.cell (p := ⟨b, off + k * 2 + 1, none⟩) hb).trans h1
      obtain ⟨c, t2⟩ := t
      obtain ⟨x, hx⟩ : ∃ x, ys[k].2 = x := ⟨_, rfl⟩
      rw [hx] at h1'
      clear h1
      have hY : t2 = true ∨ x = true → freeT ys (c, t2) = false := fun h => List.all_eq_false.2 ⟨ys[k], List.getElem_mem hlt, by rw [hx]; simp; rcases h with rfl | rfl <;> simp⟩
      have hN : t2 = false → x = false → freeT (ys.take (k + 1)) (c, t2) = true := by
        intro h2 h3
        rw [List.take_succ_eq_append_getElem hlt]
        have := HNO.out
        unfold freeT at this ⊢
        rw [List.all_append, this]
        simp [hx, h2, h3]
      have HY := Lib.hid hY
      have HN := Lib.hid hN
      clear hY hN hx
      cases t2 with
      | true =>
        go_wp2
        go_ret
        exact ⟨by rw [HY.out (.inl trivial)]; rfl, HA.out.1⟩
      | false =>
        cases x with
        | true =>
          go_wp2
          go_ret
          exact ⟨by rw [HY.out (.inr trivial)]; rfl, HA.out.1⟩
        | false =>
          go_wp2
          go_round
          case rel => exact ⟨k + 1, by omega, by go_num, HN.out rfl rfl⟩
          case measure => simp [intOf]; omega
    · obtain rfl : k = ys.length := by omega
      have h := HNO.out
      rw [List.take_length] at h
      have H := Lib.hid h
      clear h
      go_wp2
      go_ret
      exact ⟨by rw [H.out]; rfl, HA.out.1⟩

def sameT (a b : List Turn) : Bool := decide (a = b)
set_option maxRecDepth 100000 in
set_option maxHeartbeats 1000000 in
theorem refSame_any (p q : Option Addr) (cap capq : Nat) (xs ys : List Turn) (w : World) (hrx : RdS w.heap.size w p cap 2 tc xs) (hry : RdS w.heap.size w q capq 2 tc ys) :
    Calls Try.prog 57 #[.slice p xs.length cap, .slice q ys.length capq] w fun e w' => e = .returned (.bool (sameT xs ys)) ∧ ∃ n, w' = w.drewN n := by
  have hlx := hrx.len
  have hly := hry.len
  have HX := Lib.hid hrx
  have HY := Lib.hid hry
  clear hrx hry
  by_cases hl : xs.length = ys.length
  · go_enter Try.func57, Try.ntmps57
    have hl' : (xs.length : Int) = (ys.length : Int) := by omega
    go_wp2
    go_loopw [5] (fun i wr => ∃ k : Nat, k ≤ xs.length ∧ i = .int .i64 k ∧ xs.take k = ys.take k ∧ ∃ n, wr = w.drewN n) (fun i _ => xs.length - (intOf i).toNat)
    case atStart => exact ⟨0, Nat.zero_le _, rfl, rfl, 0, rfl⟩
    case round =>
      obtain ⟨k, hk, rfl, hs, n, rfl⟩ := hrel
      have HSM := Lib.hid hs
      clear hs
      by_cases hlt : k < xs.length
      · obtain ⟨b, off, rfl, hb, h0, h1⟩ := HX.out.rows k hlt
        obtain ⟨c, og, rfl, hc, g0, g1⟩ := HY.out.rows k (by omega)
        have hlt' : (k : Int) < (xs.length : Int) := by omega
        have hlt2 : (k : Int) < (ys.length : Int) := by omega
        have h0' : (w.drewN n).cell? ⟨b, off + k * 2, none⟩ = some (.int .i64 xs[k].1) := h0
        have h1' : (w.drewN n).cell? ⟨b, off + k * 2 + 1, none⟩ = some (.bool xs[k].2) := h1
        have g0' : (w.drewN n).cell? ⟨c, og + k * 2, none⟩ = some (.int .i64 ys[k].1) := g0
        have g1' : (w.drewN n).cell? ⟨c, og + k * 2 + 1, none⟩ = some (.bool ys[k].2) := g1
        have h1'' : (w.drewN n).cell? ⟨b, off + (k * 2 + 1), none⟩ = some (.bool xs[k].2) := by rw [← Nat.add_assoc]; exact h1
        have g1'' : (w.drewN n).cell? ⟨c, og + (k * 2 + 1), none⟩ = some (.bool ys[k].2) := by rw [← Nat.add_assoc]; exact g1
        clear h0 h1 g0 g1
        obtain ⟨x, hx⟩ : ∃ x, xs[k] = x := ⟨_, rfl⟩
        obtain ⟨y, hy⟩ : ∃ y, ys[k] = y := ⟨_, rfl⟩
        rw [hx] at h0' h1' h1''
        rw [hy] at g0' g1' g1''
        obtain ⟨x1, x2⟩ := x
        obtain ⟨y1, y2⟩ := y
        simp only at h0' h1' h1'' g0' g1' g1''
        have e0 : (w.drewN n).drew.cell? ⟨b, off + k * 2, none⟩ = some (.int .i64 x1) := h0'
        have e1 : (w.drewN n).drew.cell? ⟨b, off + k * 2 + 1, none⟩ = some (.bool x2) := h1'
        have e2 : (w.drewN n).drew.cell? ⟨c, og + k * 2, none⟩ = some (.int .i64 y1) := g0'
        have e3 : (w.drewN n).drew.cell? ⟨c, og + k * 2 + 1, none⟩ = some (.bool y2) := g1'
        clear h0' h1' h1'' g0' g1' g1''
        have hsn : xs.take (k + 1) = xs.take k ++ [(x1, x2)] := by rw [List.take_succ_eq_append_getElem hlt, hx]
        have hyn : ys.take (k + 1) = ys.take k ++ [(y1, y2)] := by rw [List.take_succ_eq_append_getElem (by omega), hy]
        have hdiff : (x1, x2) ≠ (y1, y2) → sameT xs ys = false := fun hd => decide_eq_false (fun e => hd (by rw [← hx, ← hy]; simp only [e]))
        have HSN := Lib.hid hsn
        have HYN := Lib.hid hyn
        have HD := Lib.hid hdiff
        clear hsn hyn hdiff hx hy
        by_cases hxy : x1 = y1
        · subst hxy
          by_cases hbb : x2 = y2
          · subst hbb
            go_wp2
            go_region_held3 (fun w' => w'.cell? ⟨b, off + k * 2, none⟩ = some (.int .i64 x1) ∧ w'.cell? ⟨b, off + k * 2 + 1, none⟩ = some (.bool x2) ∧ w'.cell? ⟨c, og + k * 2, none⟩ = some (.int .i64 x1) ∧ w'.cell? ⟨c, og + k * 2 + 1, none⟩ = some (.bool x2))
              (first | exact ⟨e0, e1, e2, e3⟩) (fail)
            go_wp2
            refine ⟨⟨k + 1, by omega, by go_num, by rw [HSN.out, HYN.out, HSM.out], n + 1, by first | rfl | rw [World.drewN_drewN]⟩, by simp [intOf]; omega⟩
          · have HF := Lib.hid (HD.out (by simpa using hbb))
            cases x2 with
            | true =>
              obtain rfl : y2 = false := by cases y2 <;> simp_all
              go_wp2
              go_region_held3 (fun w' => w'.cell? ⟨b, off + k * 2, none⟩ = some (.int .i64 x1) ∧ w'.cell? ⟨b, off + k * 2 + 1, none⟩ = some (.bool true) ∧ w'.cell? ⟨c, og + k * 2, none⟩ = some (.int .i64 x1) ∧ w'.cell? ⟨c, og + k * 2 + 1, none⟩ = some (.bool false))
                (first | exact ⟨e0, e1, e2, e3⟩) (fail)
              go_wp2
              go_ret
              exact ⟨by rw [HF.out]; rfl, n + 1, by first | rfl | rw [World.drewN_drewN]⟩
            | false =>
              obtain rfl : y2 = true := by cases y2 <;> simp_all
              go_wp2
              go_region_held3 (fun w' => w'.cell? ⟨b, off + k * 2, none⟩ = some (.int .i64 x1) ∧ w'.cell? ⟨b, off + k * 2 + 1, none⟩ = some (.bool false) ∧ w'.cell? ⟨c, og + k * 2, none⟩ = some (.int .i64 x1) ∧ w'.cell? ⟨c, og + k * 2 + 1, none⟩ = some (.bool true))
                (first | exact ⟨e0, e1, e2, e3⟩) (fail)
              go_wp2
              go_ret
              exact ⟨by rw [HF.out]; rfl, n + 1, by first | rfl | rw [World.drewN_drewN]⟩
        · have HF := Lib.hid (HD.out (by simpa using fun h => absurd h hxy))
          have hxy' : (x1 = y1) = False := by simp [hxy]
          go_wp2
          go_region_held3 (fun w' => w'.cell? ⟨b, off + k * 2, none⟩ = some (.int .i64 x1) ∧ w'.cell? ⟨b, off + k * 2 + 1, none⟩ = some (.bool x2) ∧ w'.cell? ⟨c, og + k * 2, none⟩ = some (.int .i64 y1) ∧ w'.cell? ⟨c, og + k * 2 + 1, none⟩ = some (.bool y2))
            (first | exact ⟨e0, e1, e2, e3⟩) (fail)
          go_wp2
          go_ret
          exact ⟨by rw [HF.out]; rfl, n + 1, by first | rfl | rw [World.drewN_drewN]⟩
      · obtain rfl : k = xs.length := by omega
        have h := HSM.out
        rw [List.take_length, hl, List.take_length] at h
        have HF := Lib.hid (show sameT xs ys = true from decide_eq_true h)
        clear h
        go_wp2
        go_ret
        exact ⟨by rw [HF.out]; rfl, n, rfl⟩
  · have hl0 : ((xs.length : Int) != (ys.length : Int)) = true := by
      simp only [bne_iff_ne, ne_eq, Int.natCast_inj]; exact hl
    have HF := Lib.hid (show sameT xs ys = false from decide_eq_false (fun e => hl (by rw [e])))
    clear hl
    go_enter Try.func57, Try.ntmps57
    go_wp2
    go_ret
    exact ⟨by rw [HF.out]; rfl, 0, rfl⟩
end Go.Proofs.Ythhdipfadnihjaa
