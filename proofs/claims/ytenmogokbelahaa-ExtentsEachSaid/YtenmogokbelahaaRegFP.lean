/- RegF for several stores that come up between the loads: S k holds till number k comes up (RegFI without a fence). -/
import Derived.Test.YtenmogokbelahaaRegF
namespace Go.Proofs.Ytenmogokbelahaa
open Go Go.RowKit

section
variable {P : Program} {ops : Array Oper} {Q : Exit → Act → World → Prop} {md : Region.Mode} {S : Nat → World → Prop}

/-- What holds while these have come up. -/
def TillP (S : Nat → World → Prop) (listed : Array Bool) (w : World) : Prop := ∀ k, listed.getD k true = false → S k w

/-- Whatever order is picked from here on. -/
def wpAnyFP (P : Program) (md : Region.Mode) (ops : Array Oper) (Q : Exit → Act → World → Prop) (S : Nat → World → Prop) : Nat → Array Bool → Act → World → Prop
  | 0, listed, a, w => Region.ready md ops listed = [] ∧ Q .normal a w
  | fuel + 1, listed, a, w =>
    (Region.ready md ops listed = [] → Q .normal a w) ∧
    ∀ i ∈ Region.ready md ops listed, wpOp P ops Q i (fun a' w' => TillP S (listed.setIfInBounds i true) w' ∧ wpAnyFP P md ops Q S fuel (listed.setIfInBounds i true) a' w') a w

theorem wpAny_of_FP : ∀ (fuel : Nat) (listed : Array Bool) (a : Act) (w : World), wpAnyFP P md ops Q S fuel listed a w → wpAny P md ops Q fuel listed a w
  | 0, _, _, _, h => h
  | fuel + 1, _, _, _, h => ⟨h.1, fun i hi => wpOp_mono (fun a' w' h' => wpAny_of_FP fuel _ a' w' h'.2) (h.2 i hi)⟩

theorem TillP.set {i : Nat} {listed : Array Bool} {w : World} (h : TillP S listed w) (hi : ∀ w, S i w) : TillP S (listed.setIfInBounds i true) w := fun m hm => by
  by_cases e : i = m
  · exact e ▸ hi w
  · exact h m (by rwa [getD_set_ne true e] at hm)
theorem TillP.unset {i : Nat} {listed : Array Bool} {w : World} (h : TillP S (listed.setIfInBounds i true) w) (hi : ∀ w, S i w) : TillP S listed w := fun m hm => by
  by_cases e : i = m
  · exact e ▸ hi w
  · exact h m (by rwa [getD_set_ne true e])

theorem wpAnyFP_first {i k : Nat} {oi : Oper} {v : Value} (hi : ops[i]? = some oi) (hsel : ∀ (j : Nat) (o : Oper) cs b, ops[j]? = some o → o.op ≠ .select cs b) (hk : waitsFor md ops k i = true) (hki : k ≠ i)
    (hQ : ∀ c a w, Q (.panic c) (a.put oi.dst v) w → Q (.panic c) a w) (hSi : ∀ w, S i w) :
    ∀ (fuel : Nat) (listed : Array Bool) (a : Act) (w : World), listed.getD k true = false →
      (∀ j oj, ops[j]? = some oj → j ≠ i → listed.getD j true = false → (∀ e ∈ oj.after, Region.binds md e = true → e.on ≠ i) → oi.apart ops oj = true) →
      i ∈ Region.ready md ops listed → YieldsIf P ops (S k) oi v a → TillP S listed w →
      wpAnyFP P md ops Q S fuel (listed.setIfInBounds i true) (a.put oi.dst v) w → wpAnyFP P md ops Q S (fuel + 1) listed a w := by
  intro fuel
  induction fuel with
  | zero =>
    intro listed a w hkl _ hr hy hS H
    refine ⟨fun h => (by rw [h] at hr; cases hr), fun j hj => ?_⟩
    by_cases hji : j = i
    · subst hji; exact hy.wpOp hi (hS k hkl) ⟨hS.set hSi, H⟩
    · have := ready_mono hj hji
      rw [H.1] at this
      cases this
  | succ fuel ih =>
    intro listed a w hkl hfree hr hy hS H
    refine ⟨fun h => (by rw [h] at hr; cases hr), fun j hj => ?_⟩
    by_cases hji : j = i
    · subst hji; exact hy.wpOp hi (hS k hkl) ⟨hS.set hSi, H⟩
    · have h1 := H.2 j (ready_mono hj hji)
      obtain ⟨hjun, oj, hoj, hall⟩ := mem_ready.1 hj
      have hjk : j ≠ k := fun e => not_ready_of_waits hk hr (e ▸ hj)
      have hnot : ∀ e ∈ oj.after, Region.binds md e = true → e.on ≠ i := fun e he hb heq => by
        have h1 := hall e he hb
        have h0 := (mem_ready.1 hr).1
        rw [heq] at h1
        rcases Nat.lt_or_ge i listed.size with h' | h'
        · simp [h'] at h0 h1; rw [h0] at h1; cases h1
        · simp [Array.getElem?_eq_none h'] at h1
      have h2 := wpOp_putIf hoj (hfree j oj hoj hji hjun hnot) (fun cs b => hsel i oi cs b hi) (fun cs b => hsel j oj cs b hoj) hQ hy h1
      have hkj : (listed.setIfInBounds j true).getD k true = false := by rw [getD_set_ne true hjk]; exact hkl
      have hfree' : ∀ m on, ops[m]? = some on → m ≠ i → (listed.setIfInBounds j true).getD m true = false →
          (∀ e ∈ on.after, Region.binds md e = true → e.on ≠ i) → oi.apart ops on = true := fun m on hn hni hun hno => by
        refine hfree m on hn hni ?_ hno
        by_cases hjn : j = m
        · subst hjn; exact hjun
        · rw [getD_set_ne true hjn] at hun; exact hun
      refine wpOp_mono (fun a' w' h3 => ?_) h2
      have hT : TillP S (listed.setIfInBounds j true) w' := by
        have := h3.2.1
        rw [Array.setIfInBounds_comm _ _ (Ne.symm hji)] at this
        exact this.unset hSi
      refine ⟨hT, ih (listed.setIfInBounds j true) a' w' hkj hfree' (ready_mono hr (Ne.symm hji)) h3.1 hT ?_⟩
      rw [Array.setIfInBounds_comm _ _ hji]
      exact h3.2.2

/-- Take number i first; number k waits for it. -/
theorem wpAnyFP_take {i : Nat} (k : Nat) {oi : Oper} {v : Value} {fuel : Nat} {listed : Array Bool} {a : Act} {w : World} (hi : ops[i]? = some oi)
    (hs : Region.noSelect ops = true) (hf : Region.free md ops listed i = true) (hr : (Region.ready md ops listed).contains i = true) (hk : waitsFor md ops k i = true) (hki : (k != i) = true) (hkl : listed.getD k true = false)
    (hQ : ∀ c a w, Q (.panic c) (a.put oi.dst v) w → Q (.panic c) a w) (hSi : ∀ w, S i w) (hy : YieldsIf P ops (S k) oi v a) (hS : TillP S listed w)
    (h : wpAnyFP P md ops Q S fuel (listed.setIfInBounds i true) (a.put oi.dst v) w) : wpAnyFP P md ops Q S (fuel + 1) listed a w :=
  wpAnyFP_first hi (Region.noSelect_spec hs) hk (by simpa using hki) hQ hSi fuel listed a w hkl (Region.free_spec hi hf) (by simpa using hr) hy hS h

/-- The one operation that may come up comes up. -/
theorem wpAnyFP_one {i : Nat} {o : Oper} {fuel : Nat} {listed : Array Bool} {a : Act} {w : World} (hr : Region.ready md ops listed = [i]) (ho : ops[i]? = some o)
    (h : ∀ K' : Act → World → Prop, Shut (∀ a w, TillP S (listed.setIfInBounds i true) w → wpAnyFP P md ops Q S fuel (listed.setIfInBounds i true) a w → K' a w) → if Region.wanted o (yielded ops a.tmps) = true then Oper.wp P o a w K' Q else K' (a.put o.dst undef) w) :
    wpAnyFP P md ops Q S (fuel + 1) listed a w := by
  refine ⟨fun h0 => absurd (hr ▸ h0) (by simp), fun j hj => ?_⟩
  rw [hr] at hj
  obtain rfl := List.mem_singleton.1 hj
  exact wpOp_step ho (fun K' hK => h K' (fun a w hS hW => hK a w ⟨hS, hW⟩))

theorem wpAnyFP_done {listed : Array Bool} {a : Act} {w : World} (hr : Region.ready md ops listed = []) (h : Q .normal a w) :
    ∀ fuel, wpAnyFP P md ops Q S fuel listed a w
  | 0 => ⟨hr, h⟩
  | _ + 1 => ⟨fun _ => h, by rw [hr]; simp⟩

/-- The beginning. -/
theorem wp_region_FP {id : Nat} {a : Act} {w : World} (S : Nat → World → Prop) (hm : P.follows .mixedOrders = true) (hS : ∀ k, S k w.drew)
    (h : TillP S (Array.replicate ops.size false) w.drew → wpAnyFP P .any ops Q S ops.size (Array.replicate ops.size false) a w.drew) : (Code.region id ops true).wp P Q a w :=
  wp_region_any hm (wpAny_of_FP _ _ _ _ (h (fun k _ => hS k)))
end
end Go.Proofs.Ytenmogokbelahaa
