/- What the law of plans knows between its loops. -/
import Derived.Test.YthhdipfadnihjaaPlanG
import Derived.Test.YthhdipfadnihjaaQuietR
namespace Go.Proofs.Ythhdipfadnihjaa
open Go Go.RowKit

theorem goA_max {ps : List Put2} (h : ∀ x ∈ ps, x.1 ≤ 9223372036854775807) : (∀ x ∈ (goA ps).1, x.2.1 ≤ 9223372036854775807) ∧ (goA ps).2 ≤ 9223372036854775807 := by
  have hh : ∀ (n : Nat) (ps : List Put2), ps.length = n → (∀ x ∈ ps, x.1 ≤ 9223372036854775807) → (∀ x ∈ (goA ps).1, x.2.1 ≤ 9223372036854775807) ∧ (goA ps).2 ≤ 9223372036854775807 := by
    intro n
    induction n with
    | zero =>
      intro ps hp _
      rw [List.length_eq_zero_iff.1 hp]
      exact ⟨by intro x hx; simp [goA] at hx, by decide⟩
    | succ n ih =>
      intro ps hp hx
      rcases List.eq_nil_or_concat ps with rfl | ⟨qs, q, rfl⟩
      · simp at hp
      · rw [List.concat_eq_append] at hp hx ⊢
        obtain ⟨h1, h2⟩ := ih qs (by simpa using hp) (fun x hx' => hx x (by simp [hx']))
        have hq : q.1 ≤ 9223372036854775807 := hx q (by simp)
        rw [goA_snoc]
        unfold stepA
        simp only
        refine ⟨?_, by unfold lnP; omega⟩
        intro x hx'
        rw [List.mem_append] at hx'
        rcases hx' with hx' | hx'
        · split at hx'
          · rw [List.mem_append] at hx'
            rcases hx' with hx' | hx'
            · exact h1 x hx'
            · simp only [shutA, List.mem_cons, List.not_mem_nil, or_false] at hx'
              rcases hx' with rfl | rfl
              · exact h2
              · decide
          · exact h1 x hx'
        · simp only [List.mem_cons, List.not_mem_nil, or_false] at hx'
          subst hx'
          exact hq
  exact hh _ _ rfl h
theorem ordA_max {ps : List Put2} (h : ∀ x ∈ ps, x.1 ≤ 9223372036854775807) : ∀ x ∈ ordA ps, x.2.1 ≤ 9223372036854775807 := by
  obtain ⟨h1, h2⟩ := goA_max h
  intro x hx
  unfold ordA endA at hx
  split at hx
  · simp at hx
  · split at hx
    · rw [List.mem_append] at hx
      rcases hx with hx | hx
      · exact h1 x hx
      · simp only [shutA, List.mem_cons, List.not_mem_nil, or_false] at hx
        rcases hx with rfl | rfl
        · exact h2
        · decide
    · exact h1 x hx

def vnP (k : Nat) : Value := .int .i64 (k : Int)
/-- How many rounds there are where one leaves behind so many. -/
def LeaveAtP (many : Int) (len m : Nat) : Prop := (many ≤ 1 ∧ m ≤ 1 ∧ m ≤ len ∧ (m = 1 ∨ m = len)) ∨ (1 < many ∧ (m : Int) ≤ many ∧ m ≤ len ∧ ((m : Int) = many ∨ m = len))
structure PT (w : World) (zs : List Act3) (many : Int) (Bw Bs bt : Nat) (qa : Option Addr) (da : Nat) (qw : Option Addr) (dw : Nat) (qe : Option Addr) (de : Nat) (turn : Nat) (W : World) : Prop where
  at_ : At w.heap.size w W
  lw : w.heap.size + 2 ≤ Bw
  ls : w.heap.size + 2 ≤ Bs
  ltw : Bw < bt
  lts : Bs < bt
  bm : Box W w.heap.size 3 (.int .i64 many)
  br : Box W (w.heap.size + 1) 4 (.bool false)
  bw : Box W Bw 24 (.slice qw zs.length dw)
  bs : Box W Bs 24 (.slice qe zs.length de)
  tn : Box W bt 3 (vnP turn)
  ra : RdS bt W qa da 3 ac3 zs
  rw : RdS bt W qw dw 3 ac3 zs
  re : RdS bt W qe de 3 ac3 zs
/-- Another block that turns. -/
theorem PT.kept {w : World} {zs : List Act3} {many : Int} {Bw Bs bt : Nat} {qa : Option Addr} {da : Nat} {qw : Option Addr} {dw : Nat} {qe : Option Addr} {de : Nat} {turn : Nat} {W W' : World} {X T : Nat → Prop} (h : PT w zs many Bw Bs bt qa da qw dw qe de turn W) (hk : Keep X W T W')
    (hX : ∀ b, X b → bt < b) : PT w zs many Bw Bs bt qa da qw dw qe de turn W' := by
  have h1 := h.lw
  have h2 := h.ls
  have h3 := h.ltw
  have h4 := h.lts
  have nx : ∀ b, b ≤ bt → ¬ X b := fun b hb hx => by have := hX b hx; omega
  have hbl := h.tn.lt
  have rd : ∀ {q : Option Addr} {d : Nat}, RdS bt W q d 3 ac3 zs → RdS bt W' q d 3 ac3 zs := fun hr => hr.keep fun b hb => hk.frn.block _ (by have := hr.inlt hb; omega) (nx _ (by have := hr.inlt hb; omega))
  exact ⟨hk.at h.at_ (fun b hb => by have := hX b hb; omega), h1, h2, h3, h4, hk.box h.bm (nx _ (by omega)), hk.box h.br (nx _ (by omega)), hk.box h.bw (nx _ (by omega)), hk.box h.bs (nx _ (by omega)), hk.box h.tn (nx _ (by omega)), rd h.ra, rd h.rw, rd h.re⟩
/-- Another variable of turns. -/
theorem PT.next {w : World} {zs : List Act3} {many : Int} {Bw Bs bt : Nat} {qa : Option Addr} {da : Nat} {qw : Option Addr} {dw : Nat} {qe : Option Addr} {de : Nat} {turn : Nat} {W : World} (h : PT w zs many Bw Bs bt qa da qw dw qe de turn W) (t : Nat) :
    PT w zs many Bw Bs W.heap.size qa da qw dw qe de t (W.alloc (.cells #[.int .i64 (t : Int)] 3)) := by
  have h2 := h.kept (X := fun _ => False) (T := fun _ => False) ((Keep.start _ _).alloc (Obj.cells #[Value.int IntKind.i64 t] 3)) (fun _ h => h.elim)
  have hl := h.tn.lt
  exact ⟨h2.at_, h2.lw, h2.ls, by have := h2.ltw; omega, by have := h2.lts; omega, h2.bm, h2.br, h2.bw, h2.bs, Box.new _ _ _, h2.ra.wide (Nat.le_of_lt hl), h2.rw.wide (Nat.le_of_lt hl), h2.re.wide (Nat.le_of_lt hl)⟩
theorem tri_c0 {W : World} {L : Nat} {u v x : Value} {t : TypeId} (h : W.heap[L]? = some (.cells #[u, v, x] t (0, 0))) : W.cell? ⟨L, 0, none⟩ = some u := by simp [World.cell?, h]
theorem tri_c1 {W : World} {L : Nat} {u v x : Value} {t : TypeId} (h : W.heap[L]? = some (.cells #[u, v, x] t (0, 0))) : W.cell? ⟨L, 1, none⟩ = some v := by simp [World.cell?, h]
theorem tri_c2 {W : World} {L : Nat} {u v x : Value} {t : TypeId} (h : W.heap[L]? = some (.cells #[u, v, x] t (0, 0))) : W.cell? ⟨L, 2, none⟩ = some x := by simp [World.cell?, h]
theorem funcE_nil (W : World) (k : Nat) : (binOp .eql 31 (.func (.func 52) #[] #[.pointer (some ⟨k, 0, none⟩)]) .nilFunc).run Try.prog W = .ok (.bool false) W := by kernel_rfl
end Go.Proofs.Ythhdipfadnihjaa
