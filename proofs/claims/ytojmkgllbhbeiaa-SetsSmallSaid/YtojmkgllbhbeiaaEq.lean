/-
  '==' and '!=' of two arrays of integers, in the model.
-/
import Derived.Test.YtojmkgllbhbeiaaReg
namespace Go.Proofs.Ytojmkgllbhbeiaa
open Go.RowKit
section
variable {P : Program} (w : World)

theorem run_eqLoop (d : Nat) (e : TypeId) (k k' : IntKind) (he : P.underlying e = some (.int k')) (ha : ∀ w, (isAgg e).run P w = .ok false w)
    (xs ys : Array Value) (f g : Nat → Int) (l : List Nat) : ∀ (_ : ∀ i, i ∈ l → xs[i * 1]? = some (.int k (f i))) (_ : ∀ i, i ∈ l → ys[i * 1]? = some (.int k (g i))),
    (do
      let r ← forIn (m := Sem) l ((none, ()) : Option Bool × Unit) (fun i (_ : Option Bool × Unit) => do
        let a ← part e xs (i * 1)
        let b ← part e ys (i * 1)
        let c ← Op.equalIn (d + 1) e a b
        if (!c) = true then pure (ForInStep.done ((some false, ()) : Option Bool × Unit)) else pure (ForInStep.yield ((none, ()) : Option Bool × Unit)))
      match r.fst with
      | some b => (pure b : Sem Bool)
      | none => pure true).run P w = .ok (decide (∀ i, i ∈ l → f i = g i)) w := by
  induction l with
  | nil => intro _ _; simp
  | cons j l ih =>
    intro hx hy
    have ex := hx j (by simp)
    have ey := hy j (by simp)
    have ih' := ih (fun i hi => hx i (by simp [hi])) (fun i hi => hy i (by simp [hi]))
    have px : (part e xs (j * 1)).run P w = .ok (.int k (f j)) w := by unfold part; simp only [Sem.run_bind, ha, Result.andThen_ok, Bool.false_eq_true, if_false, ex]; rfl
    have py : (part e ys (j * 1)).run P w = .ok (.int k (g j)) w := by unfold part; simp only [Sem.run_bind, ha, Result.andThen_ok, Bool.false_eq_true, if_false, ey]; rfl
    simp only [List.forIn_cons, Sem.run_bind, px, py, Result.andThen_ok, run_equalIn_int w d e k k' _ _ he] at ih' ⊢
    by_cases h : f j = g j
    · simp only [h, beq_self_eq_true, Bool.not_true, Bool.false_eq_true, if_false, Sem.run_pure, Result.andThen_ok]
      rw [ih']
      simp [h]
    · have hb : (f j == g j) = false := by simp [h]
      simp only [hb, Bool.not_false, if_true, Sem.run_pure, Result.andThen_ok]
      simp [h]

theorem run_equalIn_arr (d : Nat) (t e : TypeId) (n : Nat) (k k' : IntKind) (ht : P.underlying t = some (.array n e)) (he : P.underlying e = some (.int k')) (ha : ∀ w, (isAgg e).run P w = .ok false w)
    (hz : ∀ w, (sizeOf e).run P w = .ok 1 w) (xs ys : Array Value) (f g : Nat → Int) (hx : ∀ i, i < n → xs[i]? = some (.int k (f i))) (hy : ∀ i, i < n → ys[i]? = some (.int k (g i))) :
    (Op.equalIn (d + 2) t (.agg xs) (.agg ys)).run P w = .ok (decide (∀ i, i < n → f i = g i)) w := by
  have h := run_eqLoop (P := P) w d e k k' he ha xs ys f g (List.range' 0 n 1) (fun i hi => by rw [Nat.mul_one]; exact hx i (by simpa [List.mem_range'] using hi)) (fun i hi => by rw [Nat.mul_one]; exact hy i (by simpa [List.mem_range'] using hi))
  unfold Op.equalIn
  simp only [Sem.run_bind, run_underlying ht, Result.andThen_ok, hz, Std.Legacy.Range.forIn_eq_forIn_range', Std.Legacy.Range.size, Nat.sub_zero, Nat.add_sub_cancel, Nat.div_one] at h ⊢
  refine Eq.trans (b := _) ?_ (h.trans ?_)
  congr 1
  · funext a w'
    rcases a with ⟨_ | b, u⟩ <;> rfl
  congr 1
  exact decide_eq_decide.2 ⟨fun hh i hi => hh i (by simpa [List.mem_range'] using hi), fun hh i hi => hh i (by simpa [List.mem_range'] using hi)⟩

/-- '==' of two arrays of integers. -/
theorem run_eql_arr (t e : TypeId) (n : Nat) (k k' : IntKind) (ht : P.underlying t = some (.array n e)) (he : P.underlying e = some (.int k')) (ha : ∀ w, (isAgg e).run P w = .ok false w)
    (hz : ∀ w, (sizeOf e).run P w = .ok 1 w) (xs ys : Array Value) (f g : Nat → Int) (hx : ∀ i, i < n → xs[i]? = some (.int k (f i))) (hy : ∀ i, i < n → ys[i]? = some (.int k (g i)))
    (b : Bool) (hb : b = true ↔ ∀ i, i < n → f i = g i) : (binOp .eql t (.agg xs) (.agg ys)).run P w = .ok (.bool b) w := by
  simp only [binOp, Op.equal, Op.maxDepth, Sem.run_bind, run_equalIn_arr w 9998 t e n k k' ht he ha hz xs ys f g hx hy, Result.andThen_ok, Sem.run_pure]
  rw [show decide (∀ i, i < n → f i = g i) = b from by rw [Bool.eq_iff_iff, decide_eq_true_eq]; exact hb.symm]
/-- '!=' of two arrays of integers. -/
theorem run_neq_arr (t e : TypeId) (n : Nat) (k k' : IntKind) (ht : P.underlying t = some (.array n e)) (he : P.underlying e = some (.int k')) (ha : ∀ w, (isAgg e).run P w = .ok false w)
    (hz : ∀ w, (sizeOf e).run P w = .ok 1 w) (xs ys : Array Value) (f g : Nat → Int) (hx : ∀ i, i < n → xs[i]? = some (.int k (f i))) (hy : ∀ i, i < n → ys[i]? = some (.int k (g i)))
    (b : Bool) (hb : b = true ↔ ∀ i, i < n → f i = g i) : (binOp .neq t (.agg xs) (.agg ys)).run P w = .ok (.bool (!b)) w := by
  simp only [binOp, Op.equal, Op.maxDepth, Sem.run_bind, run_equalIn_arr w 9998 t e n k k' ht he ha hz xs ys f g hx hy, Result.andThen_ok, Sem.run_pure]
  rw [show decide (∀ i, i < n → f i = g i) = b from by rw [Bool.eq_iff_iff, decide_eq_true_eq]; exact hb.symm]
end
end Go.Proofs.Ytojmkgllbhbeiaa
