/-
  The law of regions by facts, for a region in the order of the text.
-/
import Derived.Test.YtojmkgllbhbeiaaFct
namespace Go.Proofs.Ytojmkgllbhbeiaa
open Go.RowKit

theorem wpList_of_one {P : Program} {o : Oper} {a : Act} {w : World} {G : Value → World → Prop} {ops : Array Oper} {Q : Exit → Act → World → Prop} {rest : List Oper}
    (hK : ∀ v w', G v w' → wpList P ops Q rest (a.put o.dst v) w') (h : wpList P ops (oneV a G o) [o] a w) : wpList P ops Q (o :: rest) a w := by
  have hnl : ¬ LetsOut (oneV a G o) := fun ⟨_, _, h⟩ => h
  unfold wpList at h ⊢
  have hput : ∀ a' w', wpList P ops (oneV a G o) [] a' w' → wpList P ops Q rest a' w' := fun a' w' ⟨v, he, hG⟩ => by
    rw [he]; exact hK v w' hG
  by_cases hw : Region.wanted o (yielded ops a.tmps) = true
  · simp only [hw, if_true] at h ⊢
    rcases h with h | ⟨_, h⟩
    · refine .inl ?_
      unfold Oper.wp at h ⊢
      generalize (execOp a.eval o).run P w = r at h
      cases r with
      | halt x w' => cases x <;> simp only [Oper.upon] at h ⊢ <;> first | exact h.elim | exact h
      | ok nx w' =>
        cases nx <;> simp only [Oper.upon] at h ⊢
        case value v => exact hput _ _ h
        case skip => exact hput _ _ h
        case defer d => exact hput _ _ h
        case enter f args =>
          refine h.mono fun e w'' he => ?_
          cases e with
          | returned v => exact hput _ _ he
          | panicked c => exact he.elim
          | outgrown => exact (hnl he).elim
        case row r args => exact h.mono fun v w'' he => hput _ _ he
    · exact (hnl h).elim
  · simp only [hw] at h ⊢
    exact hput _ _ h

theorem wpList_facts {P : Program} {n : Nat} {l : List Oper} {a0 : Act} {w0 : World} {Q : Exit → Act → World → Prop} {F : List Fact} (hB : monoB n l 0 = true) (hsz : a0.tmps.size = n)
    (hsteps : MonoSteps P l a0 (fun w => Below w0.heap.size w0 w) (fun w w' => Below w.heap.size w w') (fun k vs w => (F.getD k .any).says (vs k) w) l 0)
    (hend : ∀ vs w, Below w0.heap.size w0 w → (∀ k, k < l.length → (F.getD k .any).says (vs k) w) → Q .normal (putAll vs l 0 a0) w) :
    ∀ (r : List Oper) (k : Nat) (vs : Nat → Value) (w : World), l.drop k = r → Below w0.heap.size w0 w → (∀ j, j < k → j < l.length → (F.getD j .any).says (vs j) w) → wpList P l.toArray Q r (putAll vs l 0 a0) w := by
  intro r
  induction r with
  | nil =>
    intro k vs w hr hR hF
    have hk : l.length ≤ k := by
      have := congrArg List.length hr
      simp at this; omega
    exact hend vs w hR fun j hj => hF j (by omega) hj
  | cons o r ih =>
    intro k vs w hr hR hF
    have hk : k < l.length := by
      have := congrArg List.length hr
      simp at this; omega
    have ho : l[k] = o := by
      have := List.drop_eq_getElem_cons hk
      rw [hr] at this
      exact (List.cons.inj this).1.symm
    have hr' : l.drop (k + 1) = r := by
      have := List.drop_eq_getElem_cons hk
      rw [hr] at this
      exact (List.cons.inj this).2.symm
    have hat := monoB_at l 0 k hB hk
    have hnear := fun j t h => by have := putAll_near l 0 j vs a0 t hB hsz h; rwa [Nat.zero_add] at this
    have hone := hsteps.at l 0 k hk vs (putAll vs l 0 a0) w hR (fun j hj => hF j (by have := hat.1 j hj; omega) (by have := hat.1 j hj; omega)) hnear (fun t ht => putAll_far l t 0 vs a0 fun o ho => by
      have := List.all_eq_true.1 ht o ho
      simpa using this) fun j t h => by
        have h1 := hnear j t h
        have hlt : t < (putAll vs l 0 a0).tmps.size := by
          rw [(putAll_size l 0 vs a0).1, hsz]
          unfold dstAt at h
          cases hj : l[j]? with
          | none => rw [hj] at h; cases h
          | some o =>
            obtain ⟨hjl, hje⟩ := List.getElem?_eq_some_iff.1 hj
            rw [hj] at h
            exact (monoB_at l 0 j hB hjl).2 t (by rw [hje]; exact h)
        rw [Array.getD_eq_getD_getElem?, Array.getElem?_eq_getElem hlt, Option.getD_some] at h1
        rw [Array.getElem?_eq_getElem hlt, h1]
    rw [Nat.zero_add] at hone
    rw [ho] at hone
    refine wpList_of_one (fun v w' hG => ?_) hone
    obtain ⟨hR', hT, hFi⟩ := hG
    have hup := putAll_upd l 0 k vs a0 v hB hk
    rw [ho, Nat.zero_add] at hup
    rw [hup]
    refine ih (k + 1) _ _ hr' hR' fun j hj hjl => ?_
    by_cases hjk : j = k
    · subst hjk; exact hFi
    · rw [upd_ne _ _ _ hjk]
      exact Fact.later _ (hF j (by omega) hjl) hT

/-- THE LAW. -/
theorem wp_region_line {P : Program} {id : Nat} {l : List Oper} {a0 : Act} {w0 : World} {Q : Exit → Act → World → Prop} (n : Nat) (F : List Fact)
    (hsz : a0.tmps.size = n) (hB : monoB n l 0 = true)
    (hsteps : MonoSteps P l a0 (fun w => Below w0.heap.size w0 w) (fun w w' => Below w.heap.size w w') (fun k vs w => (F.getD k .any).says (vs k) w) l 0)
    (hend : ∀ vs w, Below w0.heap.size w0 w → (∀ k, k < l.length → (F.getD k .any).says (vs k) w) → Q .normal (putAll vs l 0 a0) w) : (Code.region id l.toArray false).wp P Q a0 w0 := by
  refine wp_region_lit ?_
  have hst0 : putAll (fun k => (l[k]?).elim undef (fun o => got o a0)) l 0 a0 = a0 := putAll_start l a0 0 _ fun j hj => by simp [hj]
  have := wpList_facts (P := P) (Q := Q) hB hsz hsteps hend l 0 (fun k => (l[k]?).elim undef (fun o => got o a0)) w0 rfl (Below.refl _ _) (fun j hj => by omega)
  rwa [hst0] at this
end Go.Proofs.Ytojmkgllbhbeiaa
