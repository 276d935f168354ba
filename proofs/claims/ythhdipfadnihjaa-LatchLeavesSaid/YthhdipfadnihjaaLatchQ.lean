/- The latch's Copy; the plain law: clients are apart; the chapter's rows. -/
import Derived.Test.YthhdipfadnihjaaLatchP
namespace Go.Proofs.Ythhdipfadnihjaa
open Go Go.RowKit

set_option maxHeartbeats 2000000 in
theorem copy_any (T : Nat → Prop) (L : Nat) (xs ys : List Turn) (w : World) (h : LOwn T w L xs ys) (hn : xs.length ≤ 1000 ∧ ys.length ≤ 1000) :
    Calls Try.prog 31 #[.pointer (some ⟨L, 0, none⟩)] w fun e w' => ∃ B, e = .returned (.pointer (some ⟨B, 0, none⟩)) ∧ LOwn (fun b => w.heap.size ≤ b ∧ b < w'.heap.size) w' B xs ys ∧ Below w.heap.size w w' := by
  obtain ⟨p, c, q, d, hst, _⟩ := h
  have c2 := hst.c2
  have hsd := hst.below (Below.refl _ _).drew
  have m0 := hsd.c0
  have m1 := hsd.c1
  have hc1 := cloneT_any p c xs w.drew hsd.ox.rds (by omega)
  have HS := Lib.hid hst
  have HC1 := Lib.hid hc1
  clear hst hsd hc1
  go_enter Try.func31, Try.ntmps31
  go_wp2_with fail
  refine (lnone_any L w c2).mono ?_
  rintro e w1 ⟨rfl, rfl⟩
  go_wp2_with fail
  go_region_held3 (fun w' => w'.cell? ⟨L, 0, none⟩ = some (.slice p xs.length c) ∧ w'.cell? ⟨L, 1, none⟩ = some (.slice q ys.length d))
    (first | exact ⟨m0, m1⟩ | exact ⟨n0, n1⟩ | exact ⟨o0, o1⟩ | exact ⟨q0, q1⟩)
    (first
    | (go_at_call_of 59 (Value.slice p xs.length c)
       refine HC1.out.mono ?_
       rintro e w2 ⟨p2, c2', rfl, ho2, hq2, hb2⟩
       have HB2 := Lib.hid (show Below w.heap.size w w2 from (Below.refl _ _).drew.trans hb2)
       have HO2 := Lib.hid ho2
       have HQ2 := Lib.hid (show ∀ b, inP p2 c2' b → w.heap.size ≤ b from hq2)
       have n0 := (HS.out.below HB2.out).c0
       have n1 := (HS.out.below HB2.out).c1
       clear ho2 hq2 hb2)
    | (go_at_call 59
       refine (cloneT_any q d ys w2 (HS.out.below HB2.out).oy.rds (by omega)).mono ?_
       rintro e w3 ⟨p3, c3, rfl, ho3, hq3, hb3⟩
       have HB3 := Lib.hid (show Below w.heap.size w w3 from HB2.out.trans (hb3.mono HB2.out.size))
       have HO3 := Lib.hid ho3
       have HO2' := Lib.hid (HO2.out.below hb3)
       have HQ3 := Lib.hid (show ∀ b, inP p3 c3 b → w2.heap.size ≤ b from hq3)
       have o0 := (HS.out.below HB3.out).c0
       have o1 := (HS.out.below HB3.out).c1
       have hb4 : Below w.heap.size w (w3.alloc (.cells #[.slice p2 xs.length c2', .slice p3 ys.length c3, .bool true] 113)) := HB3.out.alloc HB3.out.size _
       have q0 := (HS.out.below hb4).c0
       have q1 := (HS.out.below hb4).c1
       clear ho3 hq3 hb3))
  go_wp2_with fail
  go_ret
  have hal : Below w3.heap.size w3 (w3.alloc (.cells #[.slice p2 xs.length c2', .slice p3 ys.length c3, .bool true] 113)) := (Below.refl _ _).alloc (Nat.le_refl _) _
  have hsz := HB3.out.size
  have hsz2 := HB2.out.size
  refine ⟨w3.heap.size, rfl, ⟨p2, c2', p3, c3, ⟨World.alloc_heap_new w3 _, HO2'.out.below hal, HO3.out.below hal, fun h => Nat.lt_irrefl _ (HO2'.out.lt h), fun h => Nat.lt_irrefl _ (HO3.out.lt h), fun b hb hb2 => ?_⟩, fun b hb => ?_⟩, hb4⟩
  · have := HQ3.out b hb2; have := HO2.out.lt hb; omega
  · rcases hb with rfl | hb | hb
    · exact ⟨hsz, by simp⟩
    · exact ⟨HQ2.out b hb, Nat.lt_of_lt_of_le (HO2'.out.lt hb) (by simp)⟩
    · exact ⟨Nat.le_trans hsz2 (HQ3.out b hb), Nat.lt_of_lt_of_le (HO3.out.lt hb) (by simp)⟩

/-- Clients lie in their bounds, and none has two turns. -/
def OkS (s : List Turn × List Turn) : Prop := (∀ t ∈ s.1 ++ s.2, 0 ≤ t.1 ∧ t.1 < 8) ∧ ((s.1 ++ s.2).map fun t => t.1).Nodup
theorem givenT_cat (h ws : List Turn) : (givenT h ws).1 ++ (givenT h ws).2 = h ++ ws := by
  induction ws generalizing h with
  | nil => simp [givenT]
  | cons t ws ih =>
    by_cases hf : freeT h t = true
    · rw [givenT_yes hf, ih]; simp
    · rw [givenT_no (by simpa using hf)]
theorem OkS.given {h ws : List Turn} (ho : OkS (h, ws)) : OkS (givenT h ws) := by
  unfold OkS at ho ⊢
  rw [givenT_cat]; exact ho
theorem OkS.sub {a b : List Turn × List Turn} (h : OkS a) (hs : List.Sublist (b.1 ++ b.2) (a.1 ++ a.2)) : OkS b :=
  ⟨fun t ht => h.1 t (hs.subset ht), h.2.sublist (hs.map _)⟩
theorem OkS.ask {s : List Turn × List Turn} (h : OkS s) (c : Int) (b : Bool) : OkS (askS s c b).1 := by
  unfold askS
  by_cases hk : 0 ≤ c ∧ c < 8
  · rw [if_neg (by simpa using hk)]
    cases hin : inT s.1 s.2 c with
    | true => simpa using h
    | false =>
      simp only [Bool.false_eq_true, if_false]
      refine OkS.given ⟨?_, ?_⟩
      · intro t ht
        simp only [List.mem_append, List.mem_singleton] at ht
        rcases ht with ht | ht | rfl
        · exact h.1 t (List.mem_append_left _ ht)
        · exact h.1 t (List.mem_append_right _ ht)
        · exact hk
      · have hno : c ∉ (s.1 ++ s.2).map fun t => t.1 := by
          intro hm
          obtain ⟨t, ht, hc⟩ := List.mem_map.1 hm
          have : inT s.1 s.2 c = true := by
            unfold inT hasT
            rcases List.mem_append.1 ht with ht | ht
            · rw [List.any_eq_true.2 ⟨t, ht, by simpa using hc⟩]; rfl
            · have h2 : (s.2.any fun t => decide (t.1 = c)) = true := List.any_eq_true.2 ⟨t, ht, by simpa using hc⟩
              rw [h2]; simp
          rw [this] at hin; cases hin
        rw [← List.append_assoc, List.map_append, List.nodup_append]
        refine ⟨h.2, by simp, ?_⟩
        intro a ha b hb
        simp at hb
        subst hb
        rintro rfl
        exact hno ha
  · rw [if_pos hk]; exact h
theorem OkS.free {s : List Turn × List Turn} (h : OkS s) (c : Int) : OkS (freeS s c).1 := by
  unfold freeS
  by_cases hk : 0 ≤ c ∧ c < 8
  · rw [if_neg (by simpa using hk)]
    cases hin : inT s.1 s.2 c with
    | true =>
      simp only [if_true]
      exact OkS.given (h.sub (List.filter_sublist.append List.filter_sublist))
    | false => simpa using h
  · rw [if_pos hk]; exact h
theorem OkS.act {s : List Turn × List Turn} (h : OkS s) (what c : Int) : OkS (actS s what c).1 := by
  unfold actS
  by_cases h0 : what = 0
  · rw [if_pos h0]; exact h.ask _ _
  · rw [if_neg h0]
    by_cases h1 : what = 1
    · rw [if_pos h1]; exact h.ask _ _
    · rw [if_neg h1]
      by_cases h2 : what = 2
      · rw [if_pos h2]; exact h.free _
      · rw [if_neg h2]; exact h
theorem OkS.nil : OkS ([], []) := ⟨fun t ht => by simp at ht, by simp⟩
theorem nodup_len : ∀ (n : Nat) (l : List Int), l.Nodup → (∀ x ∈ l, 0 ≤ x ∧ x < n) → l.length ≤ n
  | 0, l, _, h => by
    cases l with
    | nil => simp
    | cons x l => have := h x (by simp); omega
  | n + 1, l, hd, h => by
    by_cases hm : (n : Int) ∈ l
    · have h1 := nodup_len n (l.erase n) (hd.erase _) (fun x hx => by
        have hx2 := List.mem_of_mem_erase hx
        have hne : x ≠ n := fun e => by
          subst e
          exact (List.Nodup.not_mem_erase hd) hx
        have := h x hx2
        omega)
      rw [List.length_erase_of_mem hm] at h1
      omega
    · have := nodup_len n l hd (fun x hx => by
        have hne : x ≠ n := fun e => hm (e ▸ hx)
        have := h x hx
        omega)
      omega
theorem OkS.len {s : List Turn × List Turn} (h : OkS s) : s.1.length + s.2.length ≤ 8 := by
  have := nodup_len 8 _ h.2 (fun x hx => by
    obtain ⟨t, ht, rfl⟩ := List.mem_map.1 hx
    exact h.1 t ht)
  simpa using this
theorem OkS.held {s : List Turn × List Turn} (h : OkS s) : ∀ t ∈ s.1, 0 ≤ t.1 ∧ t.1 < 8 := fun t ht => h.1 t (List.mem_append_left _ ht)

/-- A latch in block L stands so; its blocks T lie from n on. -/
structure Lt (n : Nat) (w0 : World) (T : Nat → Prop) (W : World) (L : Nat) (s : List Turn × List Turn) : Prop where
  own : LOwn T W L s.1 s.2
  lt : ∀ b, T b → b < W.heap.size
  ge : ∀ b, T b → n ≤ b
  at_ : At n w0 W
theorem Lt.below {n : Nat} {w0 : World} {T : Nat → Prop} {W W' : World} {L : Nat} {s : List Turn × List Turn} (h : Lt n w0 T W L s) (hb : Below W.heap.size W W') : Lt n w0 T W' L s :=
  ⟨h.own.below hb, fun b hb' => Nat.lt_of_lt_of_le (h.lt b hb') hb.size, h.ge, h.at_.below hb⟩
theorem Lt.step {n : Nat} {w0 : World} {T : Nat → Prop} {W W' : World} {L : Nat} {s s' : List Turn × List Turn} (h : Lt n w0 T W L s) (ho : LOwn (grow T W W') W' L s'.1 s'.2) (hf : Frn T W W') : Lt n w0 (grow T W W') W' L s' := by
  refine ⟨ho, fun b hb => ?_, fun b hb => ?_, ⟨h.at_.1.trans (hf.below h.at_.2 h.ge), Nat.le_trans h.at_.2 hf.size⟩⟩
  · rcases hb with hb | hb
    · exact Nat.lt_of_lt_of_le (h.lt b hb) hf.size
    · exact hb.2
  · rcases hb with hb | hb
    · exact h.ge b hb
    · exact Nat.le_trans h.at_.2 hb.1
theorem lt_new (w0 W : World) (n : Nat) (hA : At n w0 W) :
    Calls Try.prog 29 #[] W fun e w' => ∃ L T, e = .returned (.pointer (some ⟨L, 0, none⟩)) ∧ Lt n w0 T w' L ([], []) ∧ Below W.heap.size W w' := by
  refine (lnewO_any W).mono ?_
  rintro e w' ⟨rfl, ho, hb⟩
  refine ⟨_, _, rfl, ⟨ho, fun b hb' => ?_, fun b hb' => ?_, hA.below hb⟩, hb⟩
  · rcases hb' with h | h
    · exact h.elim
    · exact h.2
  · rcases hb' with h | h
    · exact h.elim
    · exact Nat.le_trans hA.2 h.1
theorem lt_ask {n : Nat} {w0 : World} {T : Nat → Prop} {W : World} {L : Nat} {s : List Turn × List Turn} (h : Lt n w0 T W L s) (ho : OkS s) (k : Int) (b : Bool) :
    Calls Try.prog 25 #[.pointer (some ⟨L, 0, none⟩), .int .i64 k, .bool b] W fun e w' => e = .returned (.int .i64 (askS s k b).2) ∧ Lt n w0 (grow T W w') w' L (askS s k b).1 ∧ Frn T W w' := by
  have := ho.len
  refine (ask_any T L s.1 s.2 k b W h.own h.lt (by omega)).mono ?_
  rintro e w' ⟨rfl, h1, h2⟩
  exact ⟨rfl, h.step h1 h2, h2⟩
theorem lt_free {n : Nat} {w0 : World} {T : Nat → Prop} {W : World} {L : Nat} {s : List Turn × List Turn} (h : Lt n w0 T W L s) (ho : OkS s) (k : Int) :
    Calls Try.prog 56 #[.pointer (some ⟨L, 0, none⟩), .int .i64 k] W fun e w' => e = .returned (.int .i64 (freeS s k).2) ∧ Lt n w0 (grow T W w') w' L (freeS s k).1 ∧ Frn T W w' := by
  have := ho.len
  refine (free_any T L s.1 s.2 k W h.own h.lt (by omega)).mono ?_
  rintro e w' ⟨rfl, h1, h2⟩
  exact ⟨rfl, h.step h1 h2, h2⟩
end Go.Proofs.Ythhdipfadnihjaa
