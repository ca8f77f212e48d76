/-
  PLAIN LAWS on the bytes of a set, how many there are, and on parting sets. No program here.
-/
import Derived.Test.YtojmkgllbhbeiaaSx
namespace Go.Proofs.Ytojmkgllbhbeiaa

/-- The bytes of a set below k, in order. -/
def upto (s k : Nat) : List Nat := (List.range k).filter s.testBit
theorem upto_yes {s k : Nat} (h : s.testBit k = true) : upto s (k + 1) = upto s k ++ [k] := by simp [upto, List.range_succ, h]
theorem upto_no {s k : Nat} (h : s.testBit k = false) : upto s (k + 1) = upto s k := by simp [upto, List.range_succ, h]
theorem upto_len (s k : Nat) : (upto s k).length ≤ k := by
  have := List.length_filter_le s.testBit (List.range k); rwa [List.length_range] at this
/-- All bytes of a set, in order. -/
def elems (s : Nat) : List Nat := upto s 256
theorem upto_prefix (s : Nat) {k m : Nat} (h : k ≤ m) : upto s k <+: upto s m := by
  refine (List.IsPrefix.filter s.testBit (?_ : List.range k <+: List.range m))
  refine ⟨List.range' k (m - k), ?_⟩
  have h2 := List.range'_append_1 (s := 0) (m := k) (n := m - k)
  rw [Nat.zero_add, show k + (m - k) = m by omega] at h2
  rw [List.range_eq_range', List.range_eq_range', h2]
theorem mem_elems {s c : Nat} : c ∈ elems s ↔ c < 256 ∧ s.testBit c = true := by simp [elems, upto]
theorem elems_lt {s c : Nat} (h : c ∈ elems s) : c < 256 := (mem_elems.1 h).1
theorem elems_zero : elems 0 = [] := by simp [elems, upto]
theorem elems_nil {s : Nat} (hs : s < 2 ^ 256) : elems s = [] ↔ s = 0 := by
  constructor
  · intro h
    refine Sx.ext hs (by decide) fun c hc => ?_
    rw [Nat.zero_testBit]
    cases ht : s.testBit c with
    | false => rfl
    | true => have : c ∈ elems s := mem_elems.2 ⟨hc, ht⟩; rw [h] at this; cases this
  · rintro rfl; exact elems_zero
theorem elems_ext {s t : Nat} (hs : s < 2 ^ 256) (ht : t < 2 ^ 256) (h : ∀ c, c ∈ elems s ↔ c ∈ elems t) : s = t := by
  refine Sx.ext hs ht fun c hc => ?_
  rw [Bool.eq_iff_iff]
  have := h c
  simp only [mem_elems, hc, true_and] at this
  exact this

/-- How many bytes. -/
def size (s : Nat) : Nat := (elems s).length
theorem size_le (s : Nat) : size s ≤ 256 := upto_len s 256
theorem size_zero : size 0 = 0 := by rw [size, elems_zero]; rfl
theorem size_pos {s : Nat} (hs : s < 2 ^ 256) (h : s ≠ 0) : 1 ≤ size s := by
  unfold size
  cases he : elems s with
  | nil => exact absurd ((elems_nil hs).1 he) h
  | cons x l => simp
theorem upto_size (a b k : Nat) : (upto (Sx.or a b) k).length + (upto (Sx.and a b) k).length = (upto a k).length + (upto b k).length := by
  induction k with
  | zero => rfl
  | succ k ih =>
    have ho := Sx.tb_or a b k
    have ha := Sx.tb_and a b k
    cases h1 : a.testBit k <;> cases h2 : b.testBit k <;> simp only [h1, h2, Bool.or_false, Bool.or_true, Bool.and_false, Bool.and_true] at ho ha
    · rw [upto_no ho, upto_no ha, upto_no h1, upto_no h2]; exact ih
    · rw [upto_yes ho, upto_no ha, upto_no h1, upto_yes h2]; simp; omega
    · rw [upto_yes ho, upto_no ha, upto_yes h1, upto_no h2]; simp; omega
    · rw [upto_yes ho, upto_yes ha, upto_yes h1, upto_yes h2]; simp; omega
theorem size_or_and (a b : Nat) : size (Sx.or a b) + size (Sx.and a b) = size a + size b := upto_size a b 256

/-- Sets that are not empty, and meet none of the others. -/
def Part (ps : List Nat) : Prop := (∀ p ∈ ps, p ≠ 0 ∧ p < 2 ^ 256) ∧ ps.Pairwise fun p q => Sx.and p q = 0
/-- All of them together. -/
def orAll : List Nat → Nat
  | [] => 0
  | p :: ps => Sx.or p (orAll ps)
theorem tb_orAll (c : Nat) : ∀ (ps : List Nat), (orAll ps).testBit c = ps.any fun p => p.testBit c
  | [] => by simp [orAll]
  | p :: ps => by rw [orAll, Sx.tb_or, tb_orAll c ps, List.any_cons]
theorem orAll_lt : ∀ (ps : List Nat), (∀ p ∈ ps, p < 2 ^ 256) → orAll ps < 2 ^ 256
  | [], _ => by decide
  | p :: ps, h => Sx.or_lt (h p (by simp)) (orAll_lt ps fun q hq => h q (by simp [hq]))
theorem and_zero {p q : Nat} : Sx.and p q = 0 ↔ ∀ c, ¬ (p.testBit c = true ∧ q.testBit c = true) := by
  constructor
  · intro h c hc
    have := Sx.tb_and p q c
    rw [h, hc.1, hc.2] at this
    simp at this
  · intro h
    refine Nat.eq_of_testBit_eq fun c => ?_
    rw [Sx.tb_and, Nat.zero_testBit]
    cases h1 : p.testBit c <;> cases h2 : q.testBit c <;> simp
    exact h c ⟨h1, h2⟩
theorem Part.len : ∀ {ps : List Nat}, Part ps → ps.length ≤ size (orAll ps)
  | [], _ => Nat.zero_le _
  | p :: ps, h => by
    obtain ⟨h1, h2⟩ := h
    rw [List.pairwise_cons] at h2
    have ih := Part.len (ps := ps) ⟨fun q hq => h1 q (by simp [hq]), h2.2⟩
    have hz : Sx.and p (orAll ps) = 0 := by
      rw [and_zero]
      rintro c ⟨hp, ho⟩
      rw [tb_orAll, List.any_eq_true] at ho
      obtain ⟨q, hq, hqc⟩ := ho
      exact and_zero.1 (h2.1 q hq) c ⟨hp, hqc⟩
    have hs := size_or_and p (orAll ps)
    rw [hz, size_zero] at hs
    have hp := size_pos (h1 p (by simp)).2 (h1 p (by simp)).1
    rw [orAll, List.length_cons]
    omega
theorem Part.len256 {ps : List Nat} (h : Part ps) : ps.length ≤ 256 := Nat.le_trans h.len (size_le _)

/-- A set, parted by another one. -/
def split (p s : Nat) : List Nat := [Sx.and p s, Sx.less p s].filter (· ≠ 0)
def partStep (ps : List Nat) (s : Nat) : List Nat := ps.flatMap fun p => split p s
/-- The classes, in the order in which they are made. -/
def rawParts (ss : List Nat) : List Nat := ss.foldl partStep [Sx.full]
theorem mem_split {p s q : Nat} (h : q ∈ split p s) : q ≠ 0 ∧ (q = Sx.and p s ∨ q = Sx.less p s) := by
  simp only [split, List.mem_filter, List.mem_cons, List.not_mem_nil, or_false, decide_eq_true_eq] at h
  exact ⟨h.2, h.1⟩
theorem split_sub {p s q c : Nat} (h : q ∈ split p s) (hc : q.testBit c = true) : p.testBit c = true := by
  rcases (mem_split h).2 with rfl | rfl
  · rw [Sx.tb_and, Bool.and_eq_true] at hc; exact hc.1
  · rw [Sx.tb_less, Bool.and_eq_true] at hc; exact hc.1
theorem split_len (p s : Nat) : (split p s).length ≤ 2 := List.length_filter_le _ _
theorem Part.step {ps : List Nat} (h : Part ps) (s : Nat) : Part (partStep ps s) := by
  obtain ⟨h1, h2⟩ := h
  refine ⟨fun q hq => ?_, ?_⟩
  · obtain ⟨p, hp, hqp⟩ := List.mem_flatMap.1 hq
    refine ⟨(mem_split hqp).1, ?_⟩
    rcases (mem_split hqp).2 with rfl | rfl
    · exact Sx.and_lt s (h1 p hp).2
    · exact Sx.less_lt s (h1 p hp).2
  · unfold partStep
    rw [List.pairwise_flatMap]
    refine ⟨fun p _ => ?_, h2.imp_of_mem fun {p p'} _ _ hd q hq q' hq' => ?_⟩
    · unfold split
      refine List.Pairwise.filter _ ?_
      refine List.pairwise_pair.2 ?_
      rw [and_zero]
      rintro c ⟨a, b⟩
      rw [Sx.tb_and, Bool.and_eq_true] at a
      rw [Sx.tb_less, Bool.and_eq_true] at b
      rw [a.2] at b
      simp at b
    · rw [and_zero]
      rintro c ⟨a, b⟩
      exact and_zero.1 hd c ⟨split_sub hq a, split_sub hq' b⟩
theorem part_raw (ss : List Nat) : Part (rawParts ss) := by
  have h0 : Part [Sx.full] := ⟨fun p hp => by rw [List.mem_singleton.1 hp]; decide, List.pairwise_singleton _ _⟩
  unfold rawParts
  generalize [Sx.full] = ps at h0
  induction ss generalizing ps with
  | nil => exact h0
  | cons s ss ih => exact ih _ (h0.step s)
theorem raw_snoc (ss : List Nat) (s : Nat) : rawParts (ss ++ [s]) = partStep (rawParts ss) s := by simp [rawParts]
theorem partStep_len (ps : List Nat) (s : Nat) : (partStep ps s).length ≤ ps.length * 2 := by
  induction ps with
  | nil => simp [partStep]
  | cons p ps ih =>
    have := split_len p s
    simp only [partStep, List.flatMap_cons, List.length_append, List.length_cons] at ih ⊢
    omega
theorem partStep_snoc (ps : List Nat) (p s : Nat) : partStep (ps ++ [p]) s = partStep ps s ++ split p s := by simp [partStep]
end Go.Proofs.Ytojmkgllbhbeiaa
