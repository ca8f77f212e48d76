/-
  PLAIN LAWS on sets of bytes, as natural numbers below 2^256: bit c is set where the set has byte c. No program here.
-/
import Derived.WalkKit
namespace Go.Proofs.Ytojmkgllbhbeiaa.Sx

/-- Word i of a set. -/
def wd (s i : Nat) : Nat := s / 2 ^ (64 * i) % 2 ^ 64

theorem wd_lt (s i : Nat) : wd s i < 18446744073709551616 := Nat.mod_lt _ (by decide)

theorem testBit_wd (s i j : Nat) : (wd s i).testBit j = (decide (j < 64) && s.testBit (64 * i + j)) := by
  unfold wd
  rw [Nat.testBit_mod_two_pow, Nat.testBit_div_two_pow, Nat.add_comm]

def full : Nat := 2 ^ 256 - 1
def or (s t : Nat) : Nat := s ||| t
def and (s t : Nat) : Nat := s &&& t
def less (s t : Nat) : Nat := s ^^^ (s &&& t)
def not (s : Nat) : Nat := full ^^^ (full &&& s)
def one (c : Nat) : Nat := 2 ^ c

theorem tb_or (s t c : Nat) : (or s t).testBit c = (s.testBit c || t.testBit c) := Nat.testBit_or ..
theorem tb_and (s t c : Nat) : (and s t).testBit c = (s.testBit c && t.testBit c) := Nat.testBit_and ..
theorem tb_less (s t c : Nat) : (less s t).testBit c = (s.testBit c && !t.testBit c) := by
  unfold less; rw [Nat.testBit_xor, Nat.testBit_and]; cases s.testBit c <;> cases t.testBit c <;> rfl
theorem tb_full (c : Nat) : full.testBit c = decide (c < 256) := by unfold full; rw [Nat.testBit_two_pow_sub_one]
theorem tb_not (s c : Nat) : (not s).testBit c = (decide (c < 256) && !s.testBit c) := by
  unfold not; rw [Nat.testBit_xor, Nat.testBit_and, tb_full]; cases s.testBit c <;> cases decide (c < 256) <;> rfl
theorem tb_one (c d : Nat) : (one c).testBit d = decide (c = d) := by unfold one; rw [Nat.testBit_two_pow]
theorem tb_zero (c : Nat) : (0 : Nat).testBit c = false := Nat.zero_testBit c

theorem or_lt {s t : Nat} (hs : s < 2 ^ 256) (ht : t < 2 ^ 256) : or s t < 2 ^ 256 := Nat.or_lt_two_pow hs ht
theorem and_lt {s : Nat} (t : Nat) (hs : s < 2 ^ 256) : and s t < 2 ^ 256 := Nat.lt_of_le_of_lt Nat.and_le_left hs
theorem less_lt {s : Nat} (t : Nat) (hs : s < 2 ^ 256) : less s t < 2 ^ 256 := Nat.xor_lt_two_pow hs (Nat.lt_of_le_of_lt Nat.and_le_left hs)
theorem full_lt : full < 2 ^ 256 := by decide
theorem not_lt (s : Nat) : not s < 2 ^ 256 := Nat.xor_lt_two_pow full_lt (Nat.lt_of_le_of_lt Nat.and_le_left full_lt)
theorem one_lt {c : Nat} (h : c < 256) : one c < 2 ^ 256 := Nat.pow_lt_pow_right (by decide) h

theorem ext {s t : Nat} (hs : s < 2 ^ 256) (ht : t < 2 ^ 256) (h : ∀ c, c < 256 → s.testBit c = t.testBit c) : s = t := by
  refine Nat.eq_of_testBit_eq fun c => ?_
  by_cases hc : c < 256
  · exact h c hc
  · rw [Nat.testBit_lt_two_pow (Nat.lt_of_lt_of_le hs (Nat.pow_le_pow_right (by decide) (by omega))),
      Nat.testBit_lt_two_pow (Nat.lt_of_lt_of_le ht (Nat.pow_le_pow_right (by decide) (by omega)))]

/-- A number below 2^64 by its bits. -/
theorem ext64 {a b : Nat} (ha : a < 18446744073709551616) (hb : b < 18446744073709551616) (h : ∀ j, j < 64 → a.testBit j = b.testBit j) : a = b := by
  refine Nat.eq_of_testBit_eq fun j => ?_
  by_cases hj : j < 64
  · exact h j hj
  · rw [Nat.testBit_lt_two_pow (Nat.lt_of_lt_of_le (show a < 2 ^ 64 from ha) (Nat.pow_le_pow_right (by decide) (by omega))),
      Nat.testBit_lt_two_pow (Nat.lt_of_lt_of_le (show b < 2 ^ 64 from hb) (Nat.pow_le_pow_right (by decide) (by omega)))]

theorem wd_ext {s t : Nat} (hs : s < 2 ^ 256) (ht : t < 2 ^ 256) (h0 : wd s 0 = wd t 0) (h1 : wd s 1 = wd t 1) (h2 : wd s 2 = wd t 2) (h3 : wd s 3 = wd t 3) : s = t := by
  refine ext hs ht fun c hc => ?_
  have key : ∀ i j, c = 64 * i + j → j < 64 → wd s i = wd t i → s.testBit c = t.testBit c := by
    intro i j e hj he
    have h := congrArg (fun n => n.testBit j) he
    simp only [testBit_wd, hj, decide_true, Bool.true_and] at h
    rw [e]; exact h
  have hd : c = 64 * (c / 64) + c % 64 := by omega
  have hm : c % 64 < 64 := Nat.mod_lt _ (by decide)
  have hq : c / 64 = 0 ∨ c / 64 = 1 ∨ c / 64 = 2 ∨ c / 64 = 3 := by omega
  rcases hq with q | q | q | q <;> rw [q] at hd
  · exact key 0 _ hd hm h0
  · exact key 1 _ hd hm h1
  · exact key 2 _ hd hm h2
  · exact key 3 _ hd hm h3

/-- The set of four words. -/
def ofW (a b c d : Nat) : Nat := a + b * 2 ^ 64 + c * 2 ^ 128 + d * 2 ^ 192

theorem ofW_lt {a b c d : Nat} (ha : a < 18446744073709551616) (hb : b < 18446744073709551616) (hc : c < 18446744073709551616) (hd : d < 18446744073709551616) : ofW a b c d < 2 ^ 256 := by
  unfold ofW; omega
theorem wd_ofW0 {a b c d : Nat} (ha : a < 18446744073709551616) : wd (ofW a b c d) 0 = a := by unfold wd ofW; omega
theorem wd_ofW1 {a b c d : Nat} (ha : a < 18446744073709551616) (hb : b < 18446744073709551616) : wd (ofW a b c d) 1 = b := by unfold wd ofW; omega
theorem wd_ofW2 {a b c d : Nat} (ha : a < 18446744073709551616) (hb : b < 18446744073709551616) (hc : c < 18446744073709551616) : wd (ofW a b c d) 2 = c := by unfold wd ofW; omega
theorem wd_ofW3 {a b c d : Nat} (ha : a < 18446744073709551616) (hb : b < 18446744073709551616) (hc : c < 18446744073709551616) (hd : d < 18446744073709551616) : wd (ofW a b c d) 3 = d := by unfold wd ofW; omega

theorem wd_or (s t i : Nat) : wd (or s t) i = wd s i ||| wd t i := by
  refine Nat.eq_of_testBit_eq fun j => ?_
  rw [Nat.testBit_or, testBit_wd, testBit_wd, testBit_wd, tb_or]; cases decide (j < 64) <;> simp
theorem wd_and (s t i : Nat) : wd (and s t) i = wd s i &&& wd t i := by
  refine Nat.eq_of_testBit_eq fun j => ?_
  rw [Nat.testBit_and, testBit_wd, testBit_wd, testBit_wd, tb_and]; cases decide (j < 64) <;> simp
theorem wd_less (s t i : Nat) : wd (less s t) i = wd s i ^^^ (wd s i &&& wd t i) := by
  refine Nat.eq_of_testBit_eq fun j => ?_
  rw [Nat.testBit_xor, Nat.testBit_and, testBit_wd, testBit_wd, testBit_wd, tb_less]; cases decide (j < 64) <;> cases s.testBit (64 * i + j) <;> cases t.testBit (64 * i + j) <;> rfl
theorem wd_zero (i : Nat) : wd 0 i = 0 := by unfold wd; simp
theorem wd_full {i : Nat} (h : i < 4) : wd full i = 18446744073709551615 := by
  have : i = 0 ∨ i = 1 ∨ i = 2 ∨ i = 3 := by omega
  rcases this with rfl | rfl | rfl | rfl <;> decide
theorem wd_not {s i : Nat} (h : i < 4) : wd (not s) i = 18446744073709551615 ^^^ wd s i := by
  rw [← wd_full h]
  refine Nat.eq_of_testBit_eq fun j => ?_
  rw [Nat.testBit_xor, testBit_wd, testBit_wd, testBit_wd, tb_not, tb_full]
  by_cases hj : j < 64
  · have : 64 * i + j < 256 := by omega
    simp [hj, this]
  · simp [hj]
theorem wd_orOne (s c i : Nat) : wd (or s (one c)) i = if i = c / 64 then wd s i ||| 2 ^ (c % 64) else wd s i := by
  rw [wd_or]
  refine Nat.eq_of_testBit_eq fun j => ?_
  rw [Nat.testBit_or, testBit_wd (one c), tb_one]
  by_cases h : i = c / 64
  · rw [if_pos h, Nat.testBit_or, Nat.testBit_two_pow]
    congr 1
    by_cases hj : j < 64
    · simp only [hj, decide_true, Bool.true_and]; exact decide_eq_decide.2 (by omega)
    · have : ¬ (c % 64 = j) := by omega
      simp [hj, this]
  · rw [if_neg h]
    by_cases hj : j < 64
    · have : ¬ (c = 64 * i + j) := by omega
      simp [this]
    · simp [hj]
/-- The byte's bit, out of its word. -/
theorem tb_word (s c : Nat) : s.testBit c = (wd s (c / 64) / 2 ^ (c % 64) % 2 == 1) := by
  have h := testBit_wd s (c / 64) (c % 64)
  have hm : c % 64 < 64 := Nat.mod_lt _ (by decide)
  have hd : 64 * (c / 64) + c % 64 = c := by omega
  rw [hd] at h
  simp only [hm, decide_true, Bool.true_and] at h
  rw [← h, Nat.testBit_eq_decide_div_mod_eq]
  rfl

/-- The set with some bytes. -/
def ofL : List Nat → Nat
  | [] => 0
  | c :: l => or (ofL l) (one c)
theorem ofL_lt : ∀ (l : List Nat), (∀ c ∈ l, c < 256) → ofL l < 2 ^ 256
  | [], _ => by decide
  | c :: l, h => or_lt (ofL_lt l fun d hd => h d (by simp [hd])) (one_lt (h c (by simp)))
theorem tb_ofL (d : Nat) : ∀ (l : List Nat), (ofL l).testBit d = decide (d ∈ l)
  | [] => by simp [ofL]
  | c :: l => by
    rw [ofL, tb_or, tb_ofL d l, tb_one, Bool.eq_iff_iff]
    simp only [Bool.or_eq_true, decide_eq_true_eq, List.mem_cons]
    constructor <;> rintro (h | h) <;> simp [h]
theorem ofL_snoc (l : List Nat) (c : Nat) : ofL (l ++ [c]) = or (ofL l) (one c) := by
  refine Nat.eq_of_testBit_eq fun d => ?_
  rw [tb_or, tb_ofL, tb_ofL, tb_one, Bool.eq_iff_iff]
  simp only [Bool.or_eq_true, decide_eq_true_eq, List.mem_append, List.mem_singleton]
  constructor <;> rintro (h | h) <;> simp [h]
/-- The set with all bytes from lo to hi. -/
def range (lo hi : Nat) : Nat := ofL (List.range' lo (hi + 1 - lo))
theorem tb_range (lo hi c : Nat) : (range lo hi).testBit c = (decide (lo ≤ c) && decide (c ≤ hi)) := by
  rw [range, tb_ofL, Bool.eq_iff_iff]
  simp only [decide_eq_true_eq, Bool.and_eq_true, List.mem_range'_1]
  omega
theorem range_lt {lo hi : Nat} (h : hi < 256) : range lo hi < 2 ^ 256 := ofL_lt _ fun c hc => by simp only [List.mem_range'_1] at hc; omega
end Go.Proofs.Ytojmkgllbhbeiaa.Sx
