/-
  The order of sets: a strict weak order; total on sets.
-/
import Derived.Test.YtojmkgllbhbeiaaW5
import Derived.Shelf.SlSortCmp.WholeK
namespace Go.Proofs.Ytojmkgllbhbeiaa
open Go.RowKit

/-- s comes ahead of t at the byte c. -/
def Ahead (s t c : Nat) : Prop := c < 256 ∧ s.testBit c = true ∧ t.testBit c = false ∧ ∀ d, d < c → s.testBit d = t.testBit d

theorem diff_tb (s t c : Nat) : (Sx.or (Sx.less s t) (Sx.less t s)).testBit c = (s.testBit c != t.testBit c) := by
  rw [Sx.tb_or, Sx.tb_less, Sx.tb_less]
  cases s.testBit c <;> cases t.testBit c <;> rfl

theorem upto_sorted (s k : Nat) : (upto s k).Pairwise (· < ·) := (List.pairwise_lt_range (n := k)).filter _
theorem head_least {s c : Nat} {l : List Nat} (h : elems s = c :: l) : s.testBit c = true ∧ c < 256 ∧ ∀ d, d < c → s.testBit d = false := by
  have hm : c ∈ elems s := by rw [h]; simp
  obtain ⟨h1, h2⟩ := mem_elems.1 hm
  refine ⟨h2, h1, fun d hd => ?_⟩
  cases ht : s.testBit d with
  | false => rfl
  | true =>
    have hdm : d ∈ elems s := mem_elems.2 ⟨by omega, ht⟩
    have hs : (elems s).Pairwise (· < ·) := upto_sorted s 256
    rw [h] at hdm hs
    rcases List.mem_cons.1 hdm with rfl | hdl
    · omega
    · have := (List.pairwise_cons.1 hs).1 d hdl
      omega

/-- The three cases of Compare. -/
theorem cmpS_cases (s t : Nat) : (cmpS s t = 0 ∧ ∀ c, c < 256 → s.testBit c = t.testBit c) ∨ (cmpS s t = -1 ∧ ∃ c, Ahead s t c) ∨ (cmpS s t = 1 ∧ ∃ c, Ahead t s c) := by
  cases he : elems (Sx.or (Sx.less s t) (Sx.less t s)) with
  | nil =>
    refine .inl ⟨by unfold cmpS; rw [he]; rfl, fun c hc => ?_⟩
    have : c ∉ elems (Sx.or (Sx.less s t) (Sx.less t s)) := by rw [he]; simp
    rw [mem_elems, diff_tb] at this
    simp only [hc, true_and, bne_iff_ne, ne_eq, Classical.not_not] at this
    exact this
  | cons c l =>
    obtain ⟨h1, h2, h3⟩ := head_least he
    rw [diff_tb] at h1
    have h4 : ∀ d, d < c → s.testBit d = t.testBit d := fun d hd => by
      have := h3 d hd
      rw [diff_tb] at this
      simpa using this
    have hv : cmpS s t = if s.testBit c = true then -1 else 1 := by unfold cmpS; rw [he]; rfl
    rw [hv]
    by_cases hs : s.testBit c = true
    · rw [hs] at h1
      rw [if_pos hs]
      exact .inr (.inl ⟨rfl, c, h2, hs, by simpa using h1, h4⟩)
    · rw [if_neg hs]
      rw [Bool.not_eq_true] at hs
      rw [hs] at h1
      exact .inr (.inr ⟨rfl, c, h2, by simpa using h1, hs, fun d hd => (h4 d hd).symm⟩)

theorem Ahead.not_both {s t c d : Nat} (h : Ahead s t c) (k : Ahead t s d) : False := by
  obtain ⟨_, a1, a2, a3⟩ := h
  obtain ⟨_, b1, b2, b3⟩ := k
  rcases Nat.lt_trichotomy c d with hl | rfl | hl
  · rw [b3 c hl, a1] at a2; cases a2
  · rw [a1] at b2; cases b2
  · rw [a3 d hl, b1] at b2; cases b2
theorem Ahead.not_same {s t c : Nat} (h : Ahead s t c) (k : ∀ c, c < 256 → s.testBit c = t.testBit c) : False := by
  obtain ⟨h0, h1, h2, _⟩ := h
  rw [k c h0, h2] at h1; cases h1
theorem Ahead.trans {s t u c d : Nat} (h : Ahead s t c) (k : Ahead t u d) : Ahead s u (min c d) := by
  obtain ⟨a0, a1, a2, a3⟩ := h
  obtain ⟨b0, b1, b2, b3⟩ := k
  rcases Nat.lt_trichotomy c d with hl | rfl | hl
  · rw [Nat.min_eq_left (Nat.le_of_lt hl)]
    exact ⟨a0, a1, by rw [← b3 c hl]; exact a2, fun e he => (a3 e he).trans (b3 e (by omega))⟩
  · rw [a2] at b1; cases b1
  · rw [Nat.min_eq_right (Nat.le_of_lt hl)]
    exact ⟨b0, by rw [a3 d hl]; exact b1, b2, fun e he => (a3 e (by omega)).trans (b3 e he)⟩
theorem Ahead.congr {s t s' t' c : Nat} (h : Ahead s t c) (hs : ∀ c, c < 256 → s.testBit c = s'.testBit c) (ht : ∀ c, c < 256 → t.testBit c = t'.testBit c) : Ahead s' t' c := by
  obtain ⟨a0, a1, a2, a3⟩ := h
  exact ⟨a0, by rw [← hs c a0]; exact a1, by rw [← ht c a0]; exact a2, fun d hd => by rw [← hs d (by omega), ← ht d (by omega)]; exact a3 d hd⟩

theorem cmpS_lt {s t : Nat} : cmpS s t < 0 ↔ ∃ c, Ahead s t c := by
  rcases cmpS_cases s t with ⟨h, k⟩ | ⟨h, k⟩ | ⟨h, c, k⟩
  · exact ⟨fun h' => by omega, fun ⟨c, hc⟩ => (hc.not_same k).elim⟩
  · exact ⟨fun _ => k, fun _ => by omega⟩
  · exact ⟨fun h' => by omega, fun ⟨d, hd⟩ => (hd.not_both k).elim⟩
theorem cmpS_nlt {s t : Nat} : ¬ cmpS s t < 0 ↔ (∃ c, Ahead t s c) ∨ ∀ c, c < 256 → s.testBit c = t.testBit c := by
  rcases cmpS_cases s t with ⟨h, k⟩ | ⟨h, c, k⟩ | ⟨h, k⟩
  · exact ⟨fun _ => .inr k, fun _ => by omega⟩
  · exact ⟨fun h' => absurd (by omega) h', fun h' => h'.elim (fun ⟨d, hd⟩ => (hd.not_both k).elim) (fun h' => (k.not_same h').elim)⟩
  · exact ⟨fun _ => .inl k, fun _ => by omega⟩

open Go.Lib Go.Sort Go.Shelf in
theorem swoS : SWO (ltOf cmpS) where
  irrefl x := by
    unfold ltOf
    rw [decide_eq_false_iff_not, cmpS_nlt]
    exact .inr fun _ _ => rfl
  trans x y z h1 h2 := by
    unfold ltOf at *
    rw [decide_eq_true_eq, cmpS_lt] at *
    obtain ⟨c, hc⟩ := h1
    obtain ⟨d, hd⟩ := h2
    exact ⟨_, hc.trans hd⟩
  ntrans x y z h1 h2 := by
    unfold ltOf at *
    rw [decide_eq_false_iff_not, cmpS_nlt] at *
    rcases h1 with ⟨c, hc⟩ | h1
    · rcases h2 with ⟨d, hd⟩ | h2
      · exact .inl ⟨_, hd.trans hc⟩
      · exact .inl ⟨c, hc.congr h2 fun _ _ => rfl⟩
    · rcases h2 with ⟨d, hd⟩ | h2
      · exact .inl ⟨d, hd.congr (fun _ _ => rfl) fun c hc => (h1 c hc).symm⟩
      · exact .inr fun c hc => (h1 c hc).trans (h2 c hc)

/-- Sets of the same order are the same. -/
theorem cmpS_zero {s t : Nat} (hs : s < 2 ^ 256) (ht : t < 2 ^ 256) : cmpS s t = 0 ↔ s = t := by
  rcases cmpS_cases s t with ⟨h, k⟩ | ⟨h, c, k⟩ | ⟨h, c, k⟩
  · exact ⟨fun _ => Sx.ext hs ht k, fun _ => h⟩
  · exact ⟨fun h' => by omega, fun e => by subst e; exact (k.not_same fun _ _ => rfl).elim⟩
  · exact ⟨fun h' => by omega, fun e => by subst e; exact (k.not_same fun _ _ => rfl).elim⟩
theorem cmpS_neg (s t : Nat) : cmpS t s = - cmpS s t := by
  rcases cmpS_cases s t with ⟨h, k⟩ | ⟨h, c, k⟩ | ⟨h, c, k⟩ <;> rcases cmpS_cases t s with ⟨h', k'⟩ | ⟨h', d, k'⟩ | ⟨h', d, k'⟩
  · omega
  · exact (k'.not_same fun c hc => (k c hc).symm).elim
  · exact (k'.not_same k).elim
  · exact (k.not_same fun c hc => (k' c hc).symm).elim
  · exact (k'.not_both k).elim
  · omega
  · exact (k.not_same k').elim
  · omega
  · exact (k'.not_both k).elim
end Go.Proofs.Ytojmkgllbhbeiaa
