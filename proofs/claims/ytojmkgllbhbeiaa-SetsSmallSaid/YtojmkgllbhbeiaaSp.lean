/-
  The spans of a set, in plain Lean: they neither touch nor overlap, they cover the set, they count its bytes.
-/
import Derived.Test.YtojmkgllbhbeiaaW7
namespace Go.Proofs.Ytojmkgllbhbeiaa
open Go.RowKit

/-- How many bytes spans hold. -/
def spSum (l : List (Nat × Nat)) : Nat := (l.map fun x => x.2 + 1 - x.1).sum
theorem spSum_snoc (l : List (Nat × Nat)) (x : Nat × Nat) : spSum (l ++ [x]) = spSum l + (x.2 + 1 - x.1) := by simp [spSum]
/-- Spans that ascend, with a byte between each two, all below k. -/
def SpOk (k : Nat) (l : List (Nat × Nat)) : Prop := (∀ x ∈ l, x.1 ≤ x.2 ∧ x.2 < k) ∧ l.Pairwise fun x y => x.2 + 1 < y.1

theorem SpOk.mono {k m : Nat} {l : List (Nat × Nat)} (h : SpOk k l) (hk : k ≤ m) : SpOk m l := ⟨fun x hx => ⟨(h.1 x hx).1, by have := (h.1 x hx).2; omega⟩, h.2⟩

structure SpInv (s k : Nat) : Prop where
  ok : SpOk k (spansOf (upto s k))
  bits : ∀ d, (ofSpans (spansOf (upto s k))).testBit d = (decide (d < k) && s.testBit d)
  sum : spSum (spansOf (upto s k)) = (upto s k).length

theorem spInv (s k : Nat) (hk : k ≤ 256) : SpInv s k := by
  induction k with
  | zero => exact ⟨⟨by simp [upto, spansOf], by simp [upto, spansOf]⟩, by simp [upto, spansOf, ofSpans], by simp [upto, spansOf, spSum]⟩
  | succ k ih =>
    obtain ⟨ok, bits, sum⟩ := ih (by omega)
    cases hb : s.testBit k with
    | false =>
      have he := upto_no hb
      refine ⟨by rw [he]; exact ok.mono (by omega), fun d => ?_, by rw [he]; exact sum⟩
      rw [he, bits d]
      by_cases hd : d = k
      · subst hd; simp [hb]
      · have : decide (d < k + 1) = decide (d < k) := decide_eq_decide.2 (by omega)
        rw [this]
    | true =>
      have he := upto_yes hb
      have hbit : ∀ d, (decide (d < k + 1) && s.testBit d) = ((decide (d < k) && s.testBit d) || decide (d = k)) := fun d => by
        by_cases hd : d = k
        · subst hd; simp [hb]
        · have : decide (d < k + 1) = decide (d < k) := decide_eq_decide.2 (by omega)
          rw [this]; simp [hd]
      have hlen : (upto s (k + 1)).length = (upto s k).length + 1 := by rw [he]; simp
      have hstep : spansOf (upto s (k + 1)) = spStep (spansOf (upto s k)) k := by rw [he, spansOf_snoc, Nat.mod_eq_of_lt (by omega)]
      generalize spansOf (upto s k) = acc at ok bits sum hstep
      rcases List.eq_nil_or_concat acc with rfl | ⟨acc', ⟨lo, hi⟩, rfl⟩
      · have hv : spStep [] k = [(k, k)] := rfl
        rw [hv] at hstep
        refine ⟨?_, fun d => ?_, ?_⟩
        · rw [hstep]; exact ⟨by simp, by simp⟩
        · rw [hstep, hbit, ← bits d]
          show (Sx.or (Sx.range k k) 0).testBit d = ((0 : Nat).testBit d || decide (d = k))
          rw [Sx.tb_or, Sx.tb_range, Sx.tb_zero, Bool.or_false, Bool.false_or, Bool.eq_iff_iff]
          simp only [Bool.and_eq_true, decide_eq_true_eq]; omega
        · rw [hstep, hlen, ← sum]; simp [spSum]
      · rw [List.concat_eq_append] at *
        have hl := ok.1 (lo, hi) (by simp)
        have hpw := List.pairwise_append.1 ok.2
        have hv : spStep (acc' ++ [(lo, hi)]) k = if hi = (k + 255) % 256 then acc' ++ [(lo, k)] else acc' ++ [(lo, hi)] ++ [(k, k)] := by
          unfold spStep
          rw [List.getLast?_concat]
          dsimp only
          rw [List.dropLast_concat]
        have hk1 : hi = (k + 255) % 256 ↔ hi + 1 = k := by
          have := hl.2
          dsimp only at this
          omega
        rw [hv] at hstep
        by_cases hc : hi + 1 = k
        · rw [if_pos (hk1.2 hc)] at hstep
          refine ⟨?_, fun d => ?_, ?_⟩
          · rw [hstep]
            refine ⟨fun x hx => ?_, ?_⟩
            · rcases List.mem_append.1 hx with hx | hx
              · have := ok.1 x (List.mem_append_left _ hx); omega
              · rw [List.mem_singleton.1 hx]; exact ⟨by have := hl.1; dsimp only at this ⊢; omega, by dsimp only; omega⟩
            · refine List.pairwise_append.2 ⟨hpw.1, by simp, fun x hx y hy => ?_⟩
              rw [List.mem_singleton.1 hy]
              exact hpw.2.2 x hx (lo, hi) (by simp)
          · rw [hstep, hbit, ← bits d, ofSpans_snoc, ofSpans_snoc, Sx.tb_or, Sx.tb_or, Sx.tb_range, Sx.tb_range, Bool.or_assoc]
            congr 1
            rw [Bool.eq_iff_iff]
            have := hl.1
            simp only [Bool.or_eq_true, Bool.and_eq_true, decide_eq_true_eq] at this ⊢
            omega
          · rw [hstep, hlen, ← sum, spSum_snoc, spSum_snoc]
            have := hl.1
            dsimp only at this ⊢
            omega
        · rw [if_neg (fun h => hc (hk1.1 h))] at hstep
          refine ⟨?_, fun d => ?_, ?_⟩
          · rw [hstep]
            refine ⟨fun x hx => ?_, ?_⟩
            · rcases List.mem_append.1 hx with hx | hx
              · have := ok.1 x hx; omega
              · rw [List.mem_singleton.1 hx]; exact ⟨Nat.le_refl _, by dsimp only; omega⟩
            · refine List.pairwise_append.2 ⟨ok.2, by simp, fun x hx y hy => ?_⟩
              rw [List.mem_singleton.1 hy]
              rcases List.mem_append.1 hx with hx | hx
              · have h1 := hpw.2.2 x hx (lo, hi) (by simp)
                have := hl.1
                have := hl.2
                dsimp only at *
                omega
              · rw [List.mem_singleton.1 hx]
                have := hl.2
                dsimp only at *
                omega
          · rw [hstep, hbit, ← bits d, ofSpans_snoc, Sx.tb_or, Sx.tb_range]
            congr 1
            rw [Bool.eq_iff_iff]
            simp only [Bool.and_eq_true, decide_eq_true_eq]
            omega
          · rw [hstep, hlen, ← sum, spSum_snoc]
            dsimp only
            omega

theorem spans_ok (s : Nat) : SpOk 256 (spansOf (elems s)) := (spInv s 256 (Nat.le_refl _)).ok
theorem spans_sum (s : Nat) : spSum (spansOf (elems s)) = (elems s).length := (spInv s 256 (Nat.le_refl _)).sum
theorem ofSpans_lt {l : List (Nat × Nat)} (h : ∀ x ∈ l, x.2 < 256) : ofSpans l < 2 ^ 256 := by
  induction l with
  | nil => exact by decide
  | cons x l ih => exact Sx.or_lt (Sx.range_lt (h x (by simp))) (ih fun y hy => h y (by simp [hy]))
theorem ofSpans_spans {s : Nat} (hs : s < 2 ^ 256) : ofSpans (spansOf (elems s)) = s :=
  Sx.ext (ofSpans_lt fun x hx => ((spans_ok s).1 x hx).2) hs fun d hd => by
    have := (spInv s 256 (Nat.le_refl _)).bits d
    rw [decide_eq_true hd, Bool.true_and] at this
    exact this
theorem ofL_elems {s : Nat} (hs : s < 2 ^ 256) : Sx.ofL (elems s) = s :=
  Sx.ext (Sx.ofL_lt _ fun c hc => elems_lt hc) hs fun d hd => by
    rw [Sx.tb_ofL, Bool.eq_iff_iff, decide_eq_true_eq, mem_elems]
    exact ⟨fun h => h.2, fun h => ⟨hd, h⟩⟩

theorem upto_sorted' (s k : Nat) : (upto s k).Pairwise (· < ·) := (List.pairwise_lt_range (n := k)).filter _
theorem filter_drop (c : Nat) : ∀ (l : List Nat) (j : Nat), l.Pairwise (· < ·) → l[j]? = some c → l.filter (fun d => decide (c < d)) = l.drop (j + 1) := by
  intro l
  induction l with
  | nil => intro j _ h; cases h
  | cons x l ih =>
    intro j hp h
    obtain ⟨h1, h2⟩ := List.pairwise_cons.1 hp
    cases j with
    | zero =>
      have hx : x = c := by simpa using h
      subst hx
      rw [List.filter_cons_of_neg (by simp), List.drop_succ_cons, List.drop_zero, List.filter_eq_self]
      intro d hd
      simpa using h1 d hd
    | succ j =>
      have hj : l[j]? = some c := by simpa using h
      have hxc : x < c := h1 c (List.mem_of_getElem? hj)
      rw [List.filter_cons_of_neg (by simp; omega), List.drop_succ_cons]
      exact ih j h2 hj
theorem elems_above (s c : Nat) : elems (Sx.and s (Sx.range (c + 1) 255)) = (elems s).filter (fun d => decide (c < d)) := by
  unfold elems upto
  rw [List.filter_filter]
  refine List.filter_congr fun d hd => ?_
  have hd : d < 256 := List.mem_range.1 hd
  rw [Sx.tb_and, Sx.tb_range, Bool.eq_iff_iff]
  simp only [Bool.and_eq_true, decide_eq_true_eq]
  constructor
  · rintro ⟨h1, h2, h3⟩; exact ⟨by omega, h1⟩
  · rintro ⟨h1, h2⟩; exact ⟨h2, by omega, by omega⟩
theorem next_at (s j c : Nat) (h : (elems s)[j]? = some c) : nextB s c = ((elems s).getD (j + 1) 0, decide (j + 1 < (elems s).length)) := by
  have hs : (elems s).Pairwise (· < ·) := upto_sorted' s 256
  have hm : c ∈ elems s := List.mem_of_getElem? h
  have hc := elems_lt hm
  have hdrop := filter_drop c (elems s) j hs h
  unfold nextB
  by_cases h255 : c = 255
  · rw [if_pos h255]
    have hnil : (elems s).drop (j + 1) = [] := by
      rw [← hdrop, List.filter_eq_nil_iff]
      intro d hd
      have := elems_lt hd
      simp; omega
    have hlen := List.drop_eq_nil_iff.1 hnil
    rw [decide_eq_false (by omega), List.getD_eq_getElem?_getD, List.getElem?_eq_none hlen]; rfl
  · rw [if_neg h255, elems_above s c, hdrop]
    refine Prod.ext ?_ ?_
    · show ((elems s).drop (j + 1)).headD 0 = _
      rw [List.headD_eq_head?_getD, List.head?_drop, List.getD_eq_getElem?_getD]
    · show (!((elems s).drop (j + 1)).isEmpty) = _
      rw [Bool.eq_iff_iff, Bool.not_eq_true', decide_eq_true_eq, List.isEmpty_eq_false_iff, Ne, List.drop_eq_nil_iff]
      omega
theorem first_at (s : Nat) : (elems s).headD 0 = (elems s).getD 0 0 ∧ (!(elems s).isEmpty) = decide (0 < (elems s).length) := by
  cases elems s <;> simp
end Go.Proofs.Ytojmkgllbhbeiaa
