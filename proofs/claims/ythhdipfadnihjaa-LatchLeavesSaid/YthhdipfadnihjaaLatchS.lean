/- The plain law of who holds a latch; played. -/
import Derived.Test.YthhdipfadnihjaaLawLatchPlays
namespace Go.Proofs.Ythhdipfadnihjaa
open Go Go.RowKit

/-- Whoever writes holds it alone; if nobody holds it, nobody waits. -/
def WfS (s : List Turn × List Turn) : Prop := (s.1 = [] → s.2 = []) ∧ (∀ t ∈ s.1, t.2 = true → s.1.length ≤ 1)
theorem given_nil : ∀ (ws h : List Turn), (givenT h ws).1 = [] → (givenT h ws).2 = []
  | [], _, _ => by simp [givenT]
  | t :: ws, h, he => by
    by_cases hf : freeT h t = true
    · rw [givenT_yes hf] at he ⊢
      exact given_nil ws _ he
    · rw [givenT_no (by simpa using hf)] at he ⊢
      simp only at he
      subst he
      exact absurd (freeT_nil t) hf
theorem given_alone : ∀ (ws h : List Turn), (∀ t ∈ h, t.2 = true → h.length ≤ 1) → ∀ t ∈ (givenT h ws).1, t.2 = true → (givenT h ws).1.length ≤ 1
  | [], _, hh => by simpa [givenT] using hh
  | u :: ws, h, hh => by
    by_cases hf : freeT h u = true
    · rw [givenT_yes hf]
      refine given_alone ws _ ?_
      intro t ht hw
      unfold freeT at hf
      rw [List.all_eq_true] at hf
      cases h with
      | nil => simp
      | cons x h =>
        exfalso
        have hx := hf x (by simp)
        simp at hx
        simp only [List.mem_append, List.mem_singleton] at ht
        rcases ht with ht | rfl
        · have := hf t ht
          simp [hw] at this
        · rw [hx.1] at hw; cases hw
    · rw [givenT_no (by simpa using hf)]
      exact hh
theorem WfS.given {h ws : List Turn} (hh : ∀ t ∈ h, t.2 = true → h.length ≤ 1) : WfS (givenT h ws) := ⟨given_nil ws h, given_alone ws h hh⟩
theorem WfS.ask {s : List Turn × List Turn} (h : WfS s) (c : Int) (b : Bool) : WfS (askS s c b).1 := by
  unfold askS
  by_cases hk : 0 ≤ c ∧ c < 8
  · rw [if_neg (by simpa using hk)]
    cases hin : inT s.1 s.2 c with
    | true => simpa using h
    | false => simpa using WfS.given h.2
  · rw [if_pos hk]; exact h
theorem WfS.free {s : List Turn × List Turn} (h : WfS s) (c : Int) : WfS (freeS s c).1 := by
  unfold freeS
  by_cases hk : 0 ≤ c ∧ c < 8
  · rw [if_neg (by simpa using hk)]
    cases hin : inT s.1 s.2 c with
    | true =>
      simp only [if_true]
      refine WfS.given fun t ht hw => Nat.le_trans (List.length_filter_le _ _) (h.2 t ((List.mem_filter.1 ht).1) hw)
    | false => simpa using h
  · rw [if_pos hk]; exact h
theorem WfS.act {s : List Turn × List Turn} (h : WfS s) (what c : Int) : WfS (actS s what c).1 := by
  unfold actS
  by_cases h0 : what = 0
  · rw [if_pos h0]; exact h.ask _ _
  · rw [if_neg h0]
    by_cases h1 : what = 1
    · rw [if_pos h1]; exact h.ask _ _
    · rw [if_neg h1]
      by_cases h2 : what = 2
      · rw [if_pos h2]; exact h.free _
      · rw [if_neg h2]; exact h
theorem runS_wf (l : List ActT) : WfS (runS l) := by
  unfold runS
  have : ∀ (l : List ActT) (s : List Turn × List Turn), WfS s → WfS (l.foldl (fun s a => (actS s a.1 a.2).1) s) := by
    intro l
    induction l with
    | nil => exact fun s h => h
    | cons a l ih => exact fun s h => ih _ (h.act _ _)
  exact this l _ ⟨fun _ => rfl, fun t ht => by simp at ht⟩
/-- A client's turn stands behind such that are all among 'ahead'. -/
def Front (s : List Turn × List Turn) (ahead : List Turn) (me : Turn) : Prop := ∃ pre post, s.1 ++ s.2 = pre ++ me :: post ∧ ∀ t ∈ pre, t ∈ ahead
theorem Front.ask {s : List Turn × List Turn} {ahead : List Turn} {me : Turn} (h : Front s ahead me) (c : Int) (b : Bool) : Front (askS s c b).1 ahead me := by
  obtain ⟨pre, post, he, hp⟩ := h
  unfold askS
  by_cases hk : 0 ≤ c ∧ c < 8
  · rw [if_neg (by simpa using hk)]
    cases hin : inT s.1 s.2 c with
    | true => exact ⟨pre, post, by simpa using he, hp⟩
    | false =>
      refine ⟨pre, post ++ [(c, b)], ?_, hp⟩
      simp only [Bool.false_eq_true, if_false]
      rw [givenT_cat, ← List.append_assoc, he]; simp
  · rw [if_pos hk]; exact ⟨pre, post, he, hp⟩
theorem Front.free {s : List Turn × List Turn} {ahead : List Turn} {me : Turn} (h : Front s ahead me) (ho : OkS s) (c : Int) (hc : me.1 ≠ c) : Front (freeS s c).1 (withoutT ahead c) me := by
  obtain ⟨pre, post, he, hp⟩ := h
  have hstay : (∀ t ∈ s.1 ++ s.2, t.1 ≠ c) → Front s (withoutT ahead c) me := fun hno => by
    refine ⟨pre, post, he, fun t ht => List.mem_filter.2 ⟨hp t ht, ?_⟩⟩
    have := hno t (by rw [he]; exact List.mem_append_left _ ht)
    simpa using this
  unfold freeS
  by_cases hk : 0 ≤ c ∧ c < 8
  · rw [if_neg (by simpa using hk)]
    cases hin : inT s.1 s.2 c with
    | true =>
      simp only [if_true]
      refine ⟨withoutT pre c, withoutT post c, ?_, fun t ht => ?_⟩
      · rw [givenT_cat]
        have := congrArg (fun l => withoutT l c) he
        simp only [withoutT, List.filter_append, List.filter_cons] at this ⊢
        rw [this]
        simp [hc]
      · obtain ⟨h1, h2⟩ := List.mem_filter.1 ht
        exact List.mem_filter.2 ⟨hp t h1, h2⟩
    | false =>
      simp only [Bool.false_eq_true, if_false]
      refine hstay fun t ht e => ?_
      have : inT s.1 s.2 c = true := by
        unfold inT hasT
        rcases List.mem_append.1 ht with ht | ht
        · rw [List.any_eq_true.2 ⟨t, ht, by simpa using e⟩]; rfl
        · have h2 : (s.2.any fun t => decide (t.1 = c)) = true := List.any_eq_true.2 ⟨t, ht, by simpa using e⟩
          rw [h2]; simp
      rw [this] at hin; cases hin
  · rw [if_pos hk]
    exact hstay fun t ht e => hk (by rw [← e]; exact ho.1 t ht)
theorem Front.act {s : List Turn × List Turn} {ahead : List Turn} {me : Turn} (h : Front s ahead me) (ho : OkS s) (what c : Int) (hc : me.1 ≠ c) : Front (actS s what c).1 (if what = 2 then withoutT ahead c else ahead) me := by
  unfold actS
  by_cases h0 : what = 0
  · rw [if_pos h0, if_neg (by omega)]; exact h.ask _ _
  · rw [if_neg h0]
    by_cases h1 : what = 1
    · rw [if_pos h1, if_neg (by omega)]; exact h.ask _ _
    · rw [if_neg h1]
      by_cases h2 : what = 2
      · rw [if_pos h2, if_pos h2]; exact h.free ho _ hc
      · rw [if_neg h2, if_neg h2]; exact h
theorem Front.holds {s : List Turn × List Turn} {me : Turn} (h : Front s [] me) (hw : WfS s) : hasT s.1 me.1 = true := by
  obtain ⟨pre, post, he, hp⟩ := h
  have hpre : pre = [] := by
    cases pre with
    | nil => rfl
    | cons x pre => have := hp x (by simp); simp at this
  subst hpre
  simp only [List.nil_append] at he
  cases h1 : s.1 with
  | nil =>
    rw [h1, hw.1 h1] at he
    simp at he
  | cons x xs =>
    rw [h1] at he
    simp only [List.cons_append, List.cons.injEq] at he
    unfold hasT
    rw [List.any_eq_true]
    exact ⟨x, by simp, by simp [he.1]⟩
theorem ask_front {s : List Turn × List Turn} {c : Int} {b : Bool} (h : (askS s c b).2 = 0) : Front (askS s c b).1 (s.1 ++ s.2) (c, b) := by
  have e : askS s c b = askS (s.1, s.2) c b := rfl
  rw [e] at h ⊢
  rw [askS_go h]
  exact ⟨s.1 ++ s.2, [], by rw [givenT_cat]; simp, fun t ht => ht⟩
theorem ask_has {s : List Turn × List Turn} {c : Int} {b : Bool} (hc : 0 ≤ c ∧ c < 8) (h : (askS s c b).2 ≠ 0) : hasT (s.1 ++ s.2) c = true := by
  unfold askS at h
  rw [if_neg (by simpa using hc)] at h
  cases hin : inT s.1 s.2 c with
  | true =>
    unfold inT hasT at hin
    unfold hasT
    rw [List.any_append]; exact hin
  | false => rw [hin] at h; simp at h

theorem Lt.widen {n n1 : Nat} {w0 w1 : World} {T : Nat → Prop} {W : World} {L : Nat} {s : List Turn × List Turn} (h : Lt n1 w1 T W L s) (hA : At n w0 w1) (hn : n ≤ n1) : Lt n w0 T W L s :=
  ⟨h.own, h.lt, fun b hb => Nat.le_trans hn (h.ge b hb), ⟨hA.1.trans (h.at_.1.mono hn), Nat.le_trans hn h.at_.2⟩⟩
/-- Behind an act by both, of which the document's lists are of no concern. -/
theorem Lt.acted {n : Nat} {w0 : World} {T : Nat → Prop} {W W' : World} {L : Nat} {s s' z : List Turn × List Turn} {f : Bool} {R : Nat → Prop} {e : Ending} (h : Lt n w0 T W L s) (ha : ActPost T L s' z f R W e W') :
    ∃ T' v, e = .returned (.tuple v) ∧ Lt n w0 T' W' L s' ∧ (∀ b, T' b → T b ∨ W.heap.size ≤ b) ∧ Frn T W W' := by
  obtain ⟨T', p, c, q, d, rfl, a1, a2, a3, a4, _⟩ := ha
  exact ⟨T', _, rfl, ⟨a1, a2, fun b hb => (a3 b hb).elim (h.ge b) (fun hh => Nat.le_trans h.at_.2 hh), ⟨h.at_.1.trans (a4.below h.at_.2 h.ge), Nat.le_trans h.at_.2 a4.size⟩⟩, a3, a4⟩

set_option maxRecDepth 100000 in
set_option maxHeartbeats 2000000 in
theorem played_any (p : Option Addr) (cap : Nat) (ys : List ActT) (w : World) (hrd : RdS w.heap.size w p cap 2 ac ys) :
    Calls Try.prog 20 #[.slice p ys.length cap] w fun e w' => ∃ L T, e = .returned (.pointer (some ⟨L, 0, none⟩)) ∧ Lt w.heap.size w T w' L (runS ys) := by
  have hlen := hrd.len
  have HR := Lib.hid hrd
  clear hrd
  go_enter Try.func20, Try.ntmps20
  go_wp2_with fail
  refine (lt_new w w w.heap.size (At.start w)).mono ?_
  rintro e w1 ⟨L, T0, rfl, h1, _⟩
  have H1 := Lib.hid h1
  clear h1
  go_wp2_with fail
  go_loopw [4] (fun i wr => ∃ (k : Nat) (T : Nat → Prop), k ≤ ys.length ∧ i = .int .i64 k ∧ Lt w.heap.size w T wr L (runS (ys.take k))) (fun i _ => ys.length - (intOf i).toNat)
  case atStart => exact ⟨0, T0, Nat.zero_le _, rfl, H1.out⟩
  case round =>
    obtain ⟨k, T, hk, rfl, hI⟩ := hrel
    by_cases hlt : k < ys.length
    · have hra := (hrd_at HR.out hI.at_)
      obtain ⟨b, off, rfl, hbl, s0, s1⟩ := hra.acts k hlt
      have hlt' : (k : Int) < (ys.length : Int) := by omega
      have hts : runS (ys.take (k + 1)) = (actS (runS (ys.take k)) ys[k].1 ys[k].2).1 := by rw [List.take_succ_eq_append_getElem hlt, runS_snoc]
      have hok := (runS_ok (ys.take k)).len
      have hact := act_any T L _ _ none 0 [] none 0 [] ys[k].1 ys[k].2 wr hI.own hI.lt (by omega) ⟨Nat.le_refl _, by simp [maxLen], .inl rfl⟩ ⟨Nat.le_refl _, by simp [maxLen], .inl rfl⟩ (by simp)
        (by rintro b (⟨a, ha, _⟩ | ⟨a, ha, _⟩) <;> cases ha)
      rw [show ((runS (ys.take k)).1, (runS (ys.take k)).2) = runS (ys.take k) from rfl, ← hts] at hact
      have HACT := Lib.hid hact
      have HI := Lib.hid hI
      obtain ⟨y, hy⟩ : ∃ y, ys[k] = y := ⟨_, rfl⟩
      rw [hy] at s0 s1 HACT
      clear hra hts hok hact hI hy
      go_wp2_with fail
      refine HACT.out.mono ?_
      rintro e w2 ha
      obtain ⟨T', v, rfl, h2, _⟩ := HI.out.acted ha
      have H2 := Lib.hid h2
      clear ha h2 s0 s1
      go_wp2_with fail
      refine ⟨⟨k + 1, T', by omega, by go_num, H2.out⟩, by simp [intOf]; omega⟩
    · obtain rfl : k = ys.length := by omega
      rw [List.take_length] at hI
      have HI := Lib.hid hI
      clear hI
      go_wp2_with fail
      go_ret
      exact ⟨L, T, rfl, HI.out⟩
end Go.Proofs.Ythhdipfadnihjaa
