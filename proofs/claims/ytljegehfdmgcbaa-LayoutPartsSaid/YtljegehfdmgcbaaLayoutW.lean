/- The plain law of parts: the last part whose first word is not above a word is that of the word. -/
import Derived.Test.YtljegehfdmgcbaaLayoutT
namespace Go.Proofs.Ytljegehfdmgcbaa
open Go Go.RowKit

theorem scanF_lt (l : Lay) (n : Nat) : ∀ it ∈ scanF l n, it.1 < (n : Int) := by
  intro it h
  unfold scanF at h
  rw [List.mem_filterMap] at h
  obtain ⟨w, hw, h⟩ := h
  rw [List.mem_range] at hw
  unfold fst at h
  split at h
  · injection h with h
    rw [← h]
    show (w : Int) < n
    omega
  · cases h
theorem lastI_all {word word' : Int} : ∀ (its : List Itm) (x : Int × Int), (∀ it ∈ its, it.1 ≤ word ∧ it.1 ≤ word') → lastI word its x = lastI word' its x
  | [], _, _ => rfl
  | it :: its, x, h => by
    have h0 := h it (by simp)
    unfold lastI
    rw [List.foldl_cons, List.foldl_cons, if_pos h0.1, if_pos h0.2]
    exact lastI_all its _ (fun it' hit => h it' (by simp [hit]))
theorem lastI_succ (l : Lay) (x : Int × Int) : ∀ n : Nat, lastI (n : Int) (scanF l (n + 1)) x = refP l n := by
  intro n
  induction n with
  | zero =>
    rw [scanF_succ]
    simp [scanF, fst, lastI]
  | succ n ih =>
    rw [scanF_succ]
    have h1 : lastI ((n + 1 : Nat) : Int) (scanF l (n + 1)) x = refP l n := by
      rw [← ih]
      exact lastI_all _ _ fun it hit => by have := scanF_lt l (n + 1) it hit; constructor <;> push_cast at * <;> omega
    cases h : fst l (n + 1) with
    | none =>
      rw [Option.toList_none, List.append_nil, h1]
      unfold fst at h
      split at h
      · cases h
      · rename_i hn
        have h3 : refP l ((n + 1 : Nat) : Int) = refP l (((n + 1 : Nat) : Int) - 1) := Classical.byContradiction fun hc => hn (.inr hc)
        rw [h3]
        congr 1
        push_cast
        omega
    | some it =>
      rw [Option.toList_some, lastI_snoc]
      unfold fst at h
      split at h
      · injection h with h
        rw [← h, if_pos (by simp)]
      · cases h
theorem lastI_more (l : Lay) (x : Int × Int) (word : Nat) : ∀ n, word < n → lastI (word : Int) (scanF l n) x = refP l word := by
  intro n hn
  induction n with
  | zero => omega
  | succ n ih =>
    by_cases h : word = n
    · subst h; exact lastI_succ l x word
    · have ih := ih (by omega)
      rw [scanF_succ]
      cases hf : fst l n with
      | none => rw [Option.toList_none, List.append_nil, ih]
      | some it =>
        rw [Option.toList_some, lastI_snoc]
        unfold fst at hf
        split at hf
        · injection hf with hf
          rw [← hf, if_neg (by simp; omega), ih]
        · cases hf
theorem last_ref {l : Lay} (h : RightL l) (word : Int) (h0 : 0 ≤ word) (h1 : word < 64 * l.B) : lastI word (itemsL l) (0, 0) = refP l word := by
  obtain ⟨n, hn⟩ : ∃ n : Nat, (n : Int) = 64 * l.B := ⟨(64 * l.B).toNat, by omega⟩
  obtain ⟨k, rfl⟩ : ∃ k : Nat, word = k := ⟨word.toNat, by omega⟩
  rw [← scan_all h hn]
  exact lastI_more l _ k n (by omega)
end Go.Proofs.Ytljegehfdmgcbaa
