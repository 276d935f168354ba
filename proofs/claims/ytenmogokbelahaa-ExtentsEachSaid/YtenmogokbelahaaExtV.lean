/- The iterator of extents.Each: pairs of a block and where it lies. -/
import Derived.Test.YtenmogokbelahaaExtU
import Derived.Test.YtenmogokbelahaaExtR
import Derived.Test.YtenmogokbelahaaAgg
import Derived.Sort.QuietIn
namespace Go.Proofs.Ytenmogokbelahaa
open Go Go.RowKit

def encE (t : List Int) : List (Array Value) := (eachTo t 128).map fun (i : Nat) => #[.int .i64 (i : Int), .int .i64 (t.getD i 0)]
theorem eachTo_pre (t : List Int) (k : Nat) : ∀ m, k ≤ m → ∃ r, eachTo t m = eachTo t k ++ r
  | 0, h => ⟨[], by obtain rfl : k = 0 := by omega
                    simp⟩
  | m + 1, h => by
    by_cases e : k = m + 1
    · exact ⟨[], by subst e; simp⟩
    · obtain ⟨r, hr⟩ := eachTo_pre t k m (by omega)
      by_cases hz : t.getD m 0 = 0
      · exact ⟨r, by rw [← hr]; show (if t.getD m 0 = 0 then _ else _) = _; rw [if_pos hz]⟩
      · exact ⟨r ++ [m], by rw [← List.append_assoc, ← hr]; show (if t.getD m 0 = 0 then _ else _) = _; rw [if_neg hz]⟩
theorem eachTo_zero (t : List Int) (k : Nat) (h : t.getD k 0 = 0) : eachTo t (k + 1) = eachTo t k := by
  show (if t.getD k 0 = 0 then _ else _) = _
  rw [if_pos h]
theorem eachTo_new (t : List Int) (k : Nat) (h : ¬ t.getD k 0 = 0) : eachTo t (k + 1) = eachTo t k ++ [k] := by
  show (if t.getD k 0 = 0 then _ else _) = _
  rw [if_neg h]
theorem encE_at (t : List Int) (k : Nat) (hk : k < 128) (h : ¬ t.getD k 0 = 0) : ∃ hj : (eachTo t k).length < (encE t).length, (encE t)[(eachTo t k).length] = #[.int .i64 (k : Int), .int .i64 (t.getD k 0)] := by
  obtain ⟨r, hr⟩ := eachTo_pre t (k + 1) 128 (by omega)
  rw [eachTo_new t k h] at hr
  have hl : (encE t).length = (eachTo t 128).length := by simp [encE]
  have hlt : (eachTo t k).length < (eachTo t 128).length := by rw [hr]; simp
  refine ⟨by rw [hl]; exact hlt, ?_⟩
  have hg : (eachTo t 128)[(eachTo t k).length] = k := by
    rw [List.getElem_of_eq hr]
    simp
  simp only [encE, List.getElem_map, hg]
attribute [local go_sem] Oper.semAt_some
set_option maxRecDepth 100000 in
set_option maxHeartbeats 4000000 in
theorem eEach1_iter (B : Nat) (t : List Int) (w : World) (ht : TabOk t) (hB : TabAt w B 132 t) :
    Iter Try.prog 84 #[.pointer (some ⟨B, 0, none⟩)] (encE t) (fun b => b = B) w := by
  intro l J Jx W T hW hT hJ hJx hY h0
  have hBW : TabAt W B 132 t := hB.keep (hW.block B rfl hB.lt)
  have hel : (encE t).length = (eachTo t 128).length := by simp [encE]
  have HY := Lib.hid hY
  have HB := Lib.hid hBW
  have HT := Lib.hid ht
  have HL := Lib.hid ht.len
  have HEL := Lib.hid hel
  clear hY hJ hJx hB hBW ht hel
  refine callsIn_of_wp Try.func84 rfl trivial ?_ rfl
  simp only [Try.ntmps84, List.size_toArray, List.length_cons, List.length_nil, Nat.reduceAdd, Nat.reduceSub, Array.replicate_succ, Array.replicate_zero, List.push_toArray, List.append_toArray, List.nil_append, List.cons_append]
  gi_wp2
  apply wpIn_scope_wide
  gi_wp2
  apply wpIn_label
  gi_wp2_with (refine wpListIn_load_mid rfl 132 (.tmp 1) rfl B 0 rfl (tb t) (.array 128 3) HB.out.range (by kernel_rfl) rfl (by rw [tb_len, HL.out]; kernel_rfl) ?_)
  gi_loopw [6] (fun i wr => ∃ (k : Nat) (T' : Nat → Prop), k ≤ 128 ∧ i = .int .i64 k ∧ J (eachTo t k).length T' wr ∧ (∀ b, T' b → b < wr.heap.size) ∧ Kps (fun b => b = B) W wr)
    (fun i _ => 128 - (intOf i).toNat)
  case atStart => exact ⟨0, T, Nat.zero_le _, rfl, h0, hT, Kps.refl _ _⟩
  case round =>
    obtain ⟨k, T', hk, rfl, hJs, hTs, hnx⟩ := hrel
    by_cases hlt : k < 128
    · have hlt' : (k : Int) < 128 := by omega
      have hk0 : (0 : Int) ≤ (k : Int) := by omega
      have hkl : k < t.length := by rw [HL.out]; exact hlt
      have hix := tab_index t HL.out k hlt
      have hgd : t.getD k 0 = t[k] := by rw [List.getD_eq_getElem?_getD, List.getElem?_eq_getElem hkl]; rfl
      have hlo := HT.out.lo k hkl
      obtain ⟨a, ha⟩ : ∃ a, t[k] = a := ⟨_, rfl⟩
      rw [ha] at hix hgd hlo
      by_cases ha0 : a = 0
      · have dz : decide (0 < a) = false := decide_eq_false (by omega)
        have HE : Hid (eachTo t (k + 1) = eachTo t k) := Lib.hid (eachTo_zero t k (by rw [hgd]; exact ha0))
        have HS := Lib.hid (And.intro hJs (And.intro hTs hnx))
        clear ha0 ha hgd hlo hJs hTs hnx hkl HY h0 hT
        gi_wp2
        refine ⟨fun f hf => (by cases hf), ?_⟩
        gi_wp2
        go_roundw
        case rel => exact ⟨k + 1, T', by omega, by go_num, by rw [HE.out]; exact HS.out.1, HS.out.2⟩
        case measure => simp [intOf]; omega
      · have dz : decide (0 < a) = true := decide_eq_true (by omega)
        obtain ⟨hj, hget⟩ := encE_at t k hlt (by rw [hgd]; exact ha0)
        rw [hgd] at hget
        have hy0 := HY.out _ hj T' wr hTs hJs
        rw [hget] at hy0
        obtain ⟨fn, tmps, assign, body, hy, hR⟩ := hy0
        have HE : Hid ((eachTo t (k + 1)).length = (eachTo t k).length + 1) := Lib.hid (by rw [eachTo_new t k (by rw [hgd]; exact ha0)]; simp)
        have HS := Lib.hid (And.intro hTs (And.intro hnx hj))
        clear ha0 ha hgd hlo hJs hTs hnx hkl HY hget hj h0 hT
        gi_wp2
        refine ⟨rfl, hR.mono ?_⟩
        clear hR hy
        rintro e W3 (⟨rfl, hJ3, hk3⟩ | ⟨rfl, hJx3, hk3⟩)
        · gi_wp2
          go_roundw
          case rel => exact ⟨k + 1, T', by omega, by go_num, by rw [HE.out]; exact hJ3, fun b hb => Nat.lt_of_lt_of_le (HS.out.1 b hb) hk3.size, HS.out.2.1.trans (hk3.mono fun b hb => .inl hb)⟩
          case measure => simp [intOf]; omega
        · gi_wp2
          rw [Exit.noGoto_normal]
          gi_wp2
          go_end0
          exact ⟨⟨_, rfl⟩, .inr ⟨_, T', HS.out.2.2, Nat.succ_pos _, hJx3, fun b hb => Nat.lt_of_lt_of_le (HS.out.1 b hb) hk3.size⟩⟩
    · obtain rfl : k = 128 := by omega
      clear HY
      gi_wp2
      rw [Exit.noGoto_normal]
      gi_wp2
      go_end0
      exact ⟨⟨_, rfl⟩, .inl ⟨T', by rw [HEL.out]; exact hJs, hTs⟩⟩
end Go.Proofs.Ytenmogokbelahaa
