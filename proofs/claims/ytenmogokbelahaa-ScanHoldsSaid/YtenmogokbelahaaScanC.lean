/- The walks of a reader's functions: again. -/
import Derived.Test.YtenmogokbelahaaScanB
namespace Go.Proofs.Ytenmogokbelahaa
open Go Go.RowKit

/-- What again leaves: found, or what missed leaves. -/
def AgainAt (W : World) (O : Nat) (r : Rd) (v : BitVec 64) : Prop := if v = r.key ∧ r.ptr ≠ 0#64 ∧ r.ptr ≠ r.ahead then ∃ a, RawAt W O { r with is := true } a .nilFunc else EndAt W O r
theorem word_eq {x y : BitVec 64} : ((x.toNat : Int) = (y.toNat : Int)) ↔ x = y := ⟨fun hh => BitVec.eq_of_toNat_eq (by omega), fun h => by rw [h]⟩
theorem word_eq0 {x : BitVec 64} : ((x.toNat : Int) = 0) ↔ x = 0#64 := ⟨fun hh => BitVec.eq_of_toNat_eq (by simp; omega), fun h => by rw [h]; rfl⟩
set_option maxRecDepth 100000 in
set_option maxHeartbeats 2000000 in
/-- again. -/
theorem again_any {O : Nat} {r : Rd} {at_ : Int} {nx : Value} (v : BitVec 64) (w : World) (h : RawAt w O r at_ nx) (hw : r.way = 1 ∨ r.way = 2) (h28 : r.slots ≤ 28) (h1 : 0 ≤ r.slot) (h2 : r.slot < r.slots) :
    Calls Try.prog 108 #[.pointer (some ⟨O, 0, none⟩), vw v] w fun e w' => e = .returned (.tuple #[]) ∧ AgainAt w' O r v ∧ Frn (fun b => b = O) w w' := by
  obtain ⟨-, -, c2, -, -, c5, c6, c7, c8, -⟩ := h.cells
  have f5 := h.free 5
  have f8 := h.free 8
  have HM := Lib.hid fun nq => missed_any (w.drewN nq) (show RawAt (w.drewN nq) O r at_ nx from h) hw h28 h1 h2
  have H := Lib.hid h
  clear h
  obtain ⟨V, hV⟩ : ∃ V : Int, (v.toNat : Int) = V := ⟨_, rfl⟩
  obtain ⟨K, hK⟩ : ∃ V : Int, (r.key.toNat : Int) = V := ⟨_, rfl⟩
  obtain ⟨P, hP⟩ : ∃ V : Int, (r.ptr.toNat : Int) = V := ⟨_, rfl⟩
  obtain ⟨Q, hQ⟩ : ∃ V : Int, (r.ahead.toNat : Int) = V := ⟨_, rfl⟩
  have hiff : (v = r.key ∧ r.ptr ≠ 0#64 ∧ r.ptr ≠ r.ahead) ↔ (V = K ∧ P ≠ 0 ∧ P ≠ Q) := by
    rw [← hV, ← hK, ← hP, ← hQ]
    simp only [Ne, word_eq, word_eq0]
  have hno : ¬ (V = K ∧ P ≠ 0 ∧ P ≠ Q) → ∀ w', EndAt w' O r → AgainAt w' O r v := fun hn w' hb => by unfold AgainAt; rw [if_neg (fun hh => hn (hiff.1 hh))]; exact hb
  have hyes : (V = K ∧ P ≠ 0 ∧ P ≠ Q) → ∀ w', (∃ a, RawAt w' O { r with is := true } a .nilFunc) → AgainAt w' O r v := fun hn w' hb => by unfold AgainAt; rw [if_pos (hiff.2 hn)]; exact hb
  have HNO := Lib.hid hno
  have HYES := Lib.hid hyes
  have hv : ∀ x : BitVec 64, vw x = .int .u64 x.toNat := fun _ => rfl
  rw [hv, hK] at c2
  rw [hv, hP] at c6
  rw [hv, hQ] at c7
  rw [hv, hV]
  clear hno hyes hiff hv hV hK hP hQ hw h28 h1 h2
  by_cases hk : V = K
  · subst hk
    by_cases hp : P = 0
    · subst hp
      have HN := Lib.hid (HNO.out (by rintro ⟨-, h, -⟩; exact h rfl))
      clear HNO HYES
      go_enter Try.func108, Try.ntmps108
      go_wp2_with fail
      go_quiet (fail)
      go_wp2_with fail
      refine (HM.out nq).mono ?_
      rintro e w2 ⟨rfl, hb, hf⟩
      go_wp2_with fail
      go_end0
      exact ⟨rfl, HN.out _ hb, ((Frn.refl (fun b => b = O) w).drewN nq).trans hf⟩
    · by_cases ha : P = Q
      · subst ha
        have HN := Lib.hid (HNO.out (by rintro ⟨-, -, h⟩; exact h rfl))
        have hx : (P != 0) = true := by simpa using hp
        clear HNO HYES hp
        go_enter Try.func108, Try.ntmps108
        go_wp2_with fail
        go_quiet (fail)
        go_wp2_with fail
        refine (HM.out nq).mono ?_
        rintro e w2 ⟨rfl, hb, hf⟩
        go_wp2_with fail
        go_end0
        exact ⟨rfl, HN.out _ hb, ((Frn.refl (fun b => b = O) w).drewN nq).trans hf⟩
      · have HY := Lib.hid (HYES.out ⟨rfl, hp, ha⟩)
        have hx : (P != 0) = true := by simpa using hp
        have hy : (P != Q) = true := by simpa using ha
        have d5 : ∀ nq, (w.drewN nq).cell? ⟨O, 5, none⟩ = some nx := fun _ => c5
        have d8 : ∀ nq, (w.drewN nq).cell? ⟨O, 8, none⟩ = some (.bool r.is) := fun _ => c8
        have g5 : ∀ nq, (w.drewN nq).frozen? ⟨O, 5, none⟩ = false := fun _ => f5
        have g8 : ∀ nq, (w.drewN nq).frozen? ⟨O, 8, none⟩ = false := fun _ => f8
        clear HNO HYES hp ha
        go_enter Try.func108, Try.ntmps108
        go_wp2_with fail
        go_quiet (fail)
        have d5' := d5 nq
        have d8' := d8 nq
        have g5' := g5 nq
        have g8' := g8 nq
        go_wp2_with fail
        refine bodyPost_ret (results_none rfl _ _ _) rfl ⟨rfl, HY.out _ ⟨_, RawAt.setNx (RawAt.setIs (W := w.drewN nq) H.out true) _⟩, ?_⟩
        exact (((Frn.refl (fun b => b = O) w).drewN nq).setCell ⟨O, 8, none⟩ (.inl rfl) _).setCell ⟨O, 5, none⟩ (.inl rfl) _
  · have HN := Lib.hid (HNO.out (fun h => hk h.1))
    have hk' : (V == K) = false := by simpa using hk
    clear HNO HYES
    go_enter Try.func108, Try.ntmps108
    go_wp2_with fail
    go_quiet (fail)
    go_wp2_with fail
    refine (HM.out nq).mono ?_
    rintro e w2 ⟨rfl, hb, hf⟩
    go_wp2_with fail
    go_end0
    exact ⟨rfl, HN.out _ hb, ((Frn.refl (fun b => b = O) w).drewN nq).trans hf⟩
end Go.Proofs.Ytenmogokbelahaa
