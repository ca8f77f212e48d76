/-
  WALKS: SetsAlgebra.
-/
import Derived.Test.YtojmkgllbhbeiaaAw
import Derived.Test.YtojmkgllbhbeiaaLn
namespace Go.Proofs.Ytojmkgllbhbeiaa
open Go.RowKit

theorem or_comm' {a b : Nat} (ha : a < 2 ^ 256) (hb : b < 2 ^ 256) : Sx.or a b = Sx.or b a := Sx.ext (Sx.or_lt ha hb) (Sx.or_lt hb ha) fun c _ => by simp only [Sx.tb_or]; exact Bool.or_comm _ _
theorem and_comm' {a b : Nat} (ha : a < 2 ^ 256) (hb : b < 2 ^ 256) : Sx.and a b = Sx.and b a := Sx.ext (Sx.and_lt _ ha) (Sx.and_lt _ hb) fun c _ => by simp only [Sx.tb_and]; exact Bool.and_comm _ _
theorem or_assoc' {a b c : Nat} (ha : a < 2 ^ 256) (hb : b < 2 ^ 256) (hc : c < 2 ^ 256) : Sx.or a (Sx.or b c) = Sx.or (Sx.or a b) c := Sx.ext (Sx.or_lt ha (Sx.or_lt hb hc)) (Sx.or_lt (Sx.or_lt ha hb) hc) fun d _ => by simp only [Sx.tb_or]; exact (Bool.or_assoc _ _ _).symm
theorem and_assoc' {a b c : Nat} (ha : a < 2 ^ 256) : Sx.and a (Sx.and b c) = Sx.and (Sx.and a b) c := Sx.ext (Sx.and_lt _ ha) (Sx.and_lt _ (Sx.and_lt _ ha)) fun d _ => by simp only [Sx.tb_and]; exact (Bool.and_assoc _ _ _).symm
theorem and_or' {a b c : Nat} (ha : a < 2 ^ 256) : Sx.and a (Sx.or b c) = Sx.or (Sx.and a b) (Sx.and a c) := Sx.ext (Sx.and_lt _ ha) (Sx.or_lt (Sx.and_lt _ ha) (Sx.and_lt _ ha)) fun d _ => by simp only [Sx.tb_and, Sx.tb_or]; exact Bool.and_or_distrib_left _ _ _
theorem or_and' {a b c : Nat} (ha : a < 2 ^ 256) (hb : b < 2 ^ 256) : Sx.or a (Sx.and b c) = Sx.and (Sx.or a b) (Sx.or a c) := Sx.ext (Sx.or_lt ha (Sx.and_lt _ hb)) (Sx.and_lt _ (Sx.or_lt ha hb)) fun d _ => by simp only [Sx.tb_and, Sx.tb_or]; exact Bool.or_and_distrib_left _ _ _
theorem not_or' {a b : Nat} : Sx.not (Sx.or a b) = Sx.and (Sx.not a) (Sx.not b) := Sx.ext (Sx.not_lt _) (Sx.and_lt _ (Sx.not_lt _)) fun d h => by simp only [Sx.tb_not, Sx.tb_and, Sx.tb_or, h, decide_true, Bool.true_and, Bool.not_or]
theorem not_not' {a : Nat} (ha : a < 2 ^ 256) : Sx.not (Sx.not a) = a := Sx.ext (Sx.not_lt _) ha fun d h => by simp only [Sx.tb_not, h, decide_true, Bool.true_and, Bool.not_not]
theorem or_not' {a : Nat} (ha : a < 2 ^ 256) : Sx.or a (Sx.not a) = Sx.full := Sx.ext (Sx.or_lt ha (Sx.not_lt _)) Sx.full_lt fun d h => by simp only [Sx.tb_not, Sx.tb_or, Sx.tb_full, h, decide_true, Bool.true_and, Bool.or_not_self]
theorem and_not' {a : Nat} (ha : a < 2 ^ 256) : Sx.and a (Sx.not a) = 0 := Sx.ext (Sx.and_lt _ ha) (by decide) fun d h => by simp only [Sx.tb_not, Sx.tb_and, Sx.tb_zero, h, decide_true, Bool.true_and, Bool.and_not_self]
theorem less_not' {a b : Nat} (ha : a < 2 ^ 256) : Sx.less a b = Sx.and a (Sx.not b) := Sx.ext (Sx.less_lt _ ha) (Sx.and_lt _ ha) fun d h => by simp only [Sx.tb_not, Sx.tb_and, Sx.tb_less, h, decide_true, Bool.true_and]
theorem less_zero {a b : Nat} (ha : a < 2 ^ 256) : Sx.less a b = 0 ↔ ∀ d, d < 256 → a.testBit d = true → b.testBit d = true := by
  constructor
  · intro h d _ h1
    have := Sx.tb_less a b d
    rw [h, Sx.tb_zero, h1] at this
    simpa using this.symm
  · intro h
    refine Sx.ext (Sx.less_lt _ ha) (by decide) fun d hd => ?_
    rw [Sx.tb_less, Sx.tb_zero]
    cases h1 : a.testBit d with
    | false => rfl
    | true => rw [h d hd h1]; rfl
theorem or_eq {a b : Nat} (ha : a < 2 ^ 256) (hb : b < 2 ^ 256) : Sx.or a b = b ↔ Sx.less a b = 0 := by
  rw [less_zero ha]
  constructor
  · intro h d _ h1
    rw [← h, Sx.tb_or, h1]; rfl
  · intro h
    refine Sx.ext (Sx.or_lt ha hb) hb fun d hd => ?_
    rw [Sx.tb_or]
    cases h1 : a.testBit d with
    | false => rfl
    | true => rw [h d hd h1]; rfl
theorem and_eq {a b : Nat} (ha : a < 2 ^ 256) : Sx.and a b = 0 ↔ Sx.less a (Sx.not b) = 0 := by
  rw [less_zero ha]
  constructor
  · intro h d hd h1
    have := Sx.tb_and a b d
    rw [h, Sx.tb_zero, h1, Bool.true_and] at this
    rw [Sx.tb_not, ← this]; simp [hd]
  · intro h
    refine Sx.ext (Sx.and_lt _ ha) (by decide) fun d hd => ?_
    rw [Sx.tb_and, Sx.tb_zero]
    cases h1 : a.testBit d with
    | false => rfl
    | true =>
      have := h d hd h1
      rw [Sx.tb_not] at this
      simp [hd] at this
      rw [this]; rfl
theorem of_within {a x : Nat} (hx : x < 256) : Sx.less (Sx.ofL [x]) a = 0 ↔ a.testBit x = true := by
  rw [less_zero (Sx.ofL_lt [x] (by simpa using hx))]
  constructor
  · intro h; exact h x hx (by rw [Sx.tb_ofL]; simp)
  · intro h d _ h1
    rw [Sx.tb_ofL] at h1
    have : d = x := by simpa using h1
    rw [this]; exact h
theorem has_not {a x : Nat} (hx : x < 256) : (Sx.not a).testBit x = !a.testBit x := by rw [Sx.tb_not]; simp [hx]

theorem neqSame (s t : Nat) (hs : s < 2 ^ 256) (h : s = t) (w : World) : (binOp .neq 24 (setV s) (setV t)).run Try.prog w = .ok (.bool false) w := by
  subst h
  rw [neqSet hs hs w, decide_eq_true rfl]; rfl

set_option maxRecDepth 100000 in
set_option maxHeartbeats 4000000 in
theorem algebra_any (s t u c : Nat) (hs : s < 2 ^ 256) (ht : t < 2 ^ 256) (hu : u < 2 ^ 256) (hc : c < 256) (w : World) : Calls Try.prog 5 #[setV s, setV t, setV u, .int .u8 c] w fun e w' => e = .returned (.bool true) ∧ Below w.heap.size w w' := by
  have HA := fun w => awake_any w
  unfold setV setA
  go_enter Try.func5, Try.ntmps5
  go_wp2_with fail
  refine (HA _).mono ?_
  rintro e w1 ⟨rfl, hb⟩
  have hB1 := bthen (below3 w _ _ _) hb
  have b4 := Blk.laterB (((blkOf1 w #[.int .u64 (Sx.wd s 0), .int .u64 (Sx.wd s 1), .int .u64 (Sx.wd s 2), .int .u64 (Sx.wd s 3)] 24).alloc (.cells #[.int .u64 (Sx.wd t 0), .int .u64 (Sx.wd t 1), .int .u64 (Sx.wd t 2), .int .u64 (Sx.wd t 3)] 24)).alloc (.cells #[.int .u64 (Sx.wd u 0), .int .u64 (Sx.wd u 1), .int .u64 (Sx.wd u 2), .int .u64 (Sx.wd u 3)] 24)) hb
  have b5 := Blk.laterB ((blkOf2 w (.cells #[.int .u64 (Sx.wd s 0), .int .u64 (Sx.wd s 1), .int .u64 (Sx.wd s 2), .int .u64 (Sx.wd s 3)] 24) #[.int .u64 (Sx.wd t 0), .int .u64 (Sx.wd t 1), .int .u64 (Sx.wd t 2), .int .u64 (Sx.wd t 3)] 24).alloc (.cells #[.int .u64 (Sx.wd u 0), .int .u64 (Sx.wd u 1), .int .u64 (Sx.wd u 2), .int .u64 (Sx.wd u 3)] 24)) hb
  have b6 := Blk.laterB (blkOf3 w (.cells #[.int .u64 (Sx.wd s 0), .int .u64 (Sx.wd s 1), .int .u64 (Sx.wd s 2), .int .u64 (Sx.wd s 3)] 24) (.cells #[.int .u64 (Sx.wd t 0), .int .u64 (Sx.wd t 1), .int .u64 (Sx.wd t 2), .int .u64 (Sx.wd t 3)] 24) #[.int .u64 (Sx.wd u 0), .int .u64 (Sx.wd u 1), .int .u64 (Sx.wd u 2), .int .u64 (Sx.wd u 3)] 24) hb
  clear hb HA
  go_wp2_with fail
  refine wp_region_facts 199 [.eq (setV s), .eq (setV t), .eq (setV (Sx.or s t)), .eq (setV t), .eq (setV s), .eq (setV (Sx.or t s)), .eq (.bool false), .eq (.bool false), .eq (setV s), .eq (setV t), .eq (setV (Sx.and s t)), .eq (setV t), .eq (setV s), .eq (setV (Sx.and t s)), .eq (.bool false), .eq (.bool false), .eq (.bool false), .eq (setV s), .eq (setV t), .eq (setV u), .eq (setV (Sx.or t u)), .eq (setV (Sx.or s (Sx.or t u))), .eq (setV s), .eq (setV t), .eq (setV (Sx.or s t)), .eq (setV u), .eq (setV (Sx.or (Sx.or s t) u)), .eq (.bool false), .eq (.bool false), .eq (.bool false), .eq (setV s), .eq (setV t), .eq (setV u), .eq (setV (Sx.and t u)), .eq (setV (Sx.and s (Sx.and t u))), .eq (setV s), .eq (setV t), .eq (setV (Sx.and s t)), .eq (setV u), .eq (setV (Sx.and (Sx.and s t) u)), .eq (.bool false), .eq (.bool false), .eq (.bool false), .eq (setV s), .eq (setV t), .eq (setV u), .eq (setV (Sx.or t u)), .eq (setV (Sx.and s (Sx.or t u))), .eq (setV s), .eq (setV t), .eq (setV (Sx.and s t)), .eq (setV s), .eq (setV u), .eq (setV (Sx.and s u)), .eq (setV (Sx.or (Sx.and s t) (Sx.and s u))), .eq (.bool false), .eq (.bool false), .eq (.bool false), .eq (setV s), .eq (setV t), .eq (setV u), .eq (setV (Sx.and t u)), .eq (setV (Sx.or s (Sx.and t u))), .eq (setV s), .eq (setV t), .eq (setV (Sx.or s t)), .eq (setV s), .eq (setV u), .eq (setV (Sx.or s u)), .eq (setV (Sx.and (Sx.or s t) (Sx.or s u))), .eq (.bool false), .eq (.bool false)] mixed rfl (by kernel_rfl) ?_ ?_
  · refine ⟨?_, ?_, ?_, ?_, ?_, ?_, ?_, ?_, ?_, ?_, ?_, ?_, ?_, ?_, ?_, ?_, ?_, ?_, ?_, ?_, ?_, ?_, ?_, ?_, ?_, ?_, ?_, ?_, ?_, ?_, ?_, ?_, ?_, ?_, ?_, ?_, ?_, ?_, ?_, ?_, ?_, ?_, ?_, ?_, ?_, ?_, ?_, ?_, ?_, ?_, ?_, ?_, ?_, ?_, ?_, ?_, ?_, ?_, ?_, ?_, ?_, ?_, ?_, ?_, ?_, ?_, ?_, ?_, ?_, ?_, ?_, ?_, trivial⟩
    · intro vs a w hR H hin hout hget
      refine one_free rfl ?_
      have e0 := hout 4 (by kernel_rfl)
      obtain ⟨c0, c1, c2, c3, _⟩ := (b4.laterB hR).four
      clear H hin hout hget
      dsimp only [bare]
      go_wp2
      exact ⟨_, rfl, shows0 hR rfl⟩
    · intro vs a w hR H hin hout hget
      refine one_free rfl ?_
      have e0 := hout 5 (by kernel_rfl)
      obtain ⟨c0, c1, c2, c3, _⟩ := (b5.laterB hR).four
      clear H hin hout hget
      dsimp only [bare]
      go_wp2
      exact ⟨_, rfl, shows0 hR rfl⟩
    · intro vs a w hR H hin hout hget
      refine one_free rfl ?_
      have e0 := (hget 0 12 (by kernel_rfl)).trans (congrArg some (H 0 (by decide)))
      have e1 := (hget 1 13 (by kernel_rfl)).trans (congrArg some (H 1 (by decide)))
      clear H hin hout hget
      dsimp only [bare]
      go_wp2_with fail
      refine (or_any _ _ w).mono ?_
      rintro e w1 ⟨rfl, hb⟩
      go_wp2
      exact ⟨_, rfl, shows hR hb.below rfl⟩
    · intro vs a w hR H hin hout hget
      refine one_free rfl ?_
      have e0 := hout 5 (by kernel_rfl)
      obtain ⟨c0, c1, c2, c3, _⟩ := (b5.laterB hR).four
      clear H hin hout hget
      dsimp only [bare]
      go_wp2
      exact ⟨_, rfl, shows0 hR rfl⟩
    · intro vs a w hR H hin hout hget
      refine one_free rfl ?_
      have e0 := hout 4 (by kernel_rfl)
      obtain ⟨c0, c1, c2, c3, _⟩ := (b4.laterB hR).four
      clear H hin hout hget
      dsimp only [bare]
      go_wp2
      exact ⟨_, rfl, shows0 hR rfl⟩
    · intro vs a w hR H hin hout hget
      refine one_free rfl ?_
      have e0 := (hget 3 15 (by kernel_rfl)).trans (congrArg some (H 3 (by decide)))
      have e1 := (hget 4 16 (by kernel_rfl)).trans (congrArg some (H 4 (by decide)))
      clear H hin hout hget
      dsimp only [bare]
      go_wp2_with fail
      refine (or_any _ _ w).mono ?_
      rintro e w1 ⟨rfl, hb⟩
      go_wp2
      exact ⟨_, rfl, shows hR hb.below rfl⟩
    · intro vs a w hR H hin hout hget
      refine one_free rfl ?_
      have e0 := (hget 2 14 (by kernel_rfl)).trans (congrArg some (H 2 (by decide)))
      have e1 := (hget 5 17 (by kernel_rfl)).trans (congrArg some (H 5 (by decide)))
      have HE := neqSame (Sx.or s t) (Sx.or t s) (Sx.or_lt hs ht) (or_comm' hs ht)
      have HG := guardSetV
      clear H hin hout hget
      dsimp only [bare]
      go_wp2
      exact ⟨_, rfl, shows0 hR rfl⟩
    · intro vs a w hR H hin hout hget
      refine one_free rfl ?_
      have e0 := (hget 6 18 (by kernel_rfl)).trans (congrArg some (H 6 (by decide)))
      clear H hin hout hget
      dsimp only [bare]
      go_wp2
      exact ⟨_, rfl, shows0 hR rfl⟩
    · intro vs a w hR H hin hout hget
      refine one_guard 7 false 19 rfl (by kernel_rfl) ((hget 7 19 (by kernel_rfl)).trans (congrArg some (H 7 (by decide)))) ?_
      have e0 := hout 4 (by kernel_rfl)
      obtain ⟨c0, c1, c2, c3, _⟩ := (b4.laterB hR).four
      clear H hin hout hget
      dsimp only [bare]
      go_wp2
      exact ⟨_, rfl, shows0 hR rfl⟩
    · intro vs a w hR H hin hout hget
      refine one_guard 7 false 19 rfl (by kernel_rfl) ((hget 7 19 (by kernel_rfl)).trans (congrArg some (H 7 (by decide)))) ?_
      have e0 := hout 5 (by kernel_rfl)
      obtain ⟨c0, c1, c2, c3, _⟩ := (b5.laterB hR).four
      clear H hin hout hget
      dsimp only [bare]
      go_wp2
      exact ⟨_, rfl, shows0 hR rfl⟩
    · intro vs a w hR H hin hout hget
      refine one_guard 7 false 19 rfl (by kernel_rfl) ((hget 7 19 (by kernel_rfl)).trans (congrArg some (H 7 (by decide)))) ?_
      have e0 := (hget 8 20 (by kernel_rfl)).trans (congrArg some (H 8 (by decide)))
      have e1 := (hget 9 21 (by kernel_rfl)).trans (congrArg some (H 9 (by decide)))
      clear H hin hout hget
      dsimp only [bare]
      go_wp2_with fail
      refine (and_any _ _ w).mono ?_
      rintro e w1 ⟨rfl, hb⟩
      go_wp2
      exact ⟨_, rfl, shows hR hb.below rfl⟩
    · intro vs a w hR H hin hout hget
      refine one_guard 7 false 19 rfl (by kernel_rfl) ((hget 7 19 (by kernel_rfl)).trans (congrArg some (H 7 (by decide)))) ?_
      have e0 := hout 5 (by kernel_rfl)
      obtain ⟨c0, c1, c2, c3, _⟩ := (b5.laterB hR).four
      clear H hin hout hget
      dsimp only [bare]
      go_wp2
      exact ⟨_, rfl, shows0 hR rfl⟩
    · intro vs a w hR H hin hout hget
      refine one_guard 7 false 19 rfl (by kernel_rfl) ((hget 7 19 (by kernel_rfl)).trans (congrArg some (H 7 (by decide)))) ?_
      have e0 := hout 4 (by kernel_rfl)
      obtain ⟨c0, c1, c2, c3, _⟩ := (b4.laterB hR).four
      clear H hin hout hget
      dsimp only [bare]
      go_wp2
      exact ⟨_, rfl, shows0 hR rfl⟩
    · intro vs a w hR H hin hout hget
      refine one_guard 7 false 19 rfl (by kernel_rfl) ((hget 7 19 (by kernel_rfl)).trans (congrArg some (H 7 (by decide)))) ?_
      have e0 := (hget 11 23 (by kernel_rfl)).trans (congrArg some (H 11 (by decide)))
      have e1 := (hget 12 24 (by kernel_rfl)).trans (congrArg some (H 12 (by decide)))
      clear H hin hout hget
      dsimp only [bare]
      go_wp2_with fail
      refine (and_any _ _ w).mono ?_
      rintro e w1 ⟨rfl, hb⟩
      go_wp2
      exact ⟨_, rfl, shows hR hb.below rfl⟩
    · intro vs a w hR H hin hout hget
      refine one_guard 7 false 19 rfl (by kernel_rfl) ((hget 7 19 (by kernel_rfl)).trans (congrArg some (H 7 (by decide)))) ?_
      have e0 := (hget 10 22 (by kernel_rfl)).trans (congrArg some (H 10 (by decide)))
      have e1 := (hget 13 25 (by kernel_rfl)).trans (congrArg some (H 13 (by decide)))
      have HE := neqSame (Sx.and s t) (Sx.and t s) (Sx.and_lt _ hs) (and_comm' hs ht)
      have HG := guardSetV
      clear H hin hout hget
      dsimp only [bare]
      go_wp2
      exact ⟨_, rfl, shows0 hR rfl⟩
    · intro vs a w hR H hin hout hget
      refine one_free rfl ?_
      have e0 := (hget 7 19 (by kernel_rfl)).trans (congrArg some (H 7 (by decide)))
      have e1 := (hget 14 26 (by kernel_rfl)).trans (congrArg some (H 14 (by decide)))
      clear H hin hout hget
      dsimp only [bare]
      go_wp2
      exact ⟨_, rfl, shows0 hR rfl⟩
    · intro vs a w hR H hin hout hget
      refine one_free rfl ?_
      have e0 := (hget 15 27 (by kernel_rfl)).trans (congrArg some (H 15 (by decide)))
      clear H hin hout hget
      dsimp only [bare]
      go_wp2
      exact ⟨_, rfl, shows0 hR rfl⟩
    · intro vs a w hR H hin hout hget
      refine one_guard 16 false 28 rfl (by kernel_rfl) ((hget 16 28 (by kernel_rfl)).trans (congrArg some (H 16 (by decide)))) ?_
      have e0 := hout 4 (by kernel_rfl)
      obtain ⟨c0, c1, c2, c3, _⟩ := (b4.laterB hR).four
      clear H hin hout hget
      dsimp only [bare]
      go_wp2
      exact ⟨_, rfl, shows0 hR rfl⟩
    · intro vs a w hR H hin hout hget
      refine one_guard 16 false 28 rfl (by kernel_rfl) ((hget 16 28 (by kernel_rfl)).trans (congrArg some (H 16 (by decide)))) ?_
      have e0 := hout 5 (by kernel_rfl)
      obtain ⟨c0, c1, c2, c3, _⟩ := (b5.laterB hR).four
      clear H hin hout hget
      dsimp only [bare]
      go_wp2
      exact ⟨_, rfl, shows0 hR rfl⟩
    · intro vs a w hR H hin hout hget
      refine one_guard 16 false 28 rfl (by kernel_rfl) ((hget 16 28 (by kernel_rfl)).trans (congrArg some (H 16 (by decide)))) ?_
      have e0 := hout 6 (by kernel_rfl)
      obtain ⟨c0, c1, c2, c3, _⟩ := (b6.laterB hR).four
      clear H hin hout hget
      dsimp only [bare]
      go_wp2
      exact ⟨_, rfl, shows0 hR rfl⟩
    · intro vs a w hR H hin hout hget
      refine one_guard 16 false 28 rfl (by kernel_rfl) ((hget 16 28 (by kernel_rfl)).trans (congrArg some (H 16 (by decide)))) ?_
      have e0 := (hget 18 30 (by kernel_rfl)).trans (congrArg some (H 18 (by decide)))
      have e1 := (hget 19 31 (by kernel_rfl)).trans (congrArg some (H 19 (by decide)))
      clear H hin hout hget
      dsimp only [bare]
      go_wp2_with fail
      refine (or_any _ _ w).mono ?_
      rintro e w1 ⟨rfl, hb⟩
      go_wp2
      exact ⟨_, rfl, shows hR hb.below rfl⟩
    · intro vs a w hR H hin hout hget
      refine one_guard 16 false 28 rfl (by kernel_rfl) ((hget 16 28 (by kernel_rfl)).trans (congrArg some (H 16 (by decide)))) ?_
      have e0 := (hget 17 29 (by kernel_rfl)).trans (congrArg some (H 17 (by decide)))
      have e1 := (hget 20 32 (by kernel_rfl)).trans (congrArg some (H 20 (by decide)))
      clear H hin hout hget
      dsimp only [bare]
      go_wp2_with fail
      refine (or_any _ _ w).mono ?_
      rintro e w1 ⟨rfl, hb⟩
      go_wp2
      exact ⟨_, rfl, shows hR hb.below rfl⟩
    · intro vs a w hR H hin hout hget
      refine one_guard 16 false 28 rfl (by kernel_rfl) ((hget 16 28 (by kernel_rfl)).trans (congrArg some (H 16 (by decide)))) ?_
      have e0 := hout 4 (by kernel_rfl)
      obtain ⟨c0, c1, c2, c3, _⟩ := (b4.laterB hR).four
      clear H hin hout hget
      dsimp only [bare]
      go_wp2
      exact ⟨_, rfl, shows0 hR rfl⟩
    · intro vs a w hR H hin hout hget
      refine one_guard 16 false 28 rfl (by kernel_rfl) ((hget 16 28 (by kernel_rfl)).trans (congrArg some (H 16 (by decide)))) ?_
      have e0 := hout 5 (by kernel_rfl)
      obtain ⟨c0, c1, c2, c3, _⟩ := (b5.laterB hR).four
      clear H hin hout hget
      dsimp only [bare]
      go_wp2
      exact ⟨_, rfl, shows0 hR rfl⟩
    · intro vs a w hR H hin hout hget
      refine one_guard 16 false 28 rfl (by kernel_rfl) ((hget 16 28 (by kernel_rfl)).trans (congrArg some (H 16 (by decide)))) ?_
      have e0 := (hget 22 34 (by kernel_rfl)).trans (congrArg some (H 22 (by decide)))
      have e1 := (hget 23 35 (by kernel_rfl)).trans (congrArg some (H 23 (by decide)))
      clear H hin hout hget
      dsimp only [bare]
      go_wp2_with fail
      refine (or_any _ _ w).mono ?_
      rintro e w1 ⟨rfl, hb⟩
      go_wp2
      exact ⟨_, rfl, shows hR hb.below rfl⟩
    · intro vs a w hR H hin hout hget
      refine one_guard 16 false 28 rfl (by kernel_rfl) ((hget 16 28 (by kernel_rfl)).trans (congrArg some (H 16 (by decide)))) ?_
      have e0 := hout 6 (by kernel_rfl)
      obtain ⟨c0, c1, c2, c3, _⟩ := (b6.laterB hR).four
      clear H hin hout hget
      dsimp only [bare]
      go_wp2
      exact ⟨_, rfl, shows0 hR rfl⟩
    · intro vs a w hR H hin hout hget
      refine one_guard 16 false 28 rfl (by kernel_rfl) ((hget 16 28 (by kernel_rfl)).trans (congrArg some (H 16 (by decide)))) ?_
      have e0 := (hget 24 36 (by kernel_rfl)).trans (congrArg some (H 24 (by decide)))
      have e1 := (hget 25 37 (by kernel_rfl)).trans (congrArg some (H 25 (by decide)))
      clear H hin hout hget
      dsimp only [bare]
      go_wp2_with fail
      refine (or_any _ _ w).mono ?_
      rintro e w1 ⟨rfl, hb⟩
      go_wp2
      exact ⟨_, rfl, shows hR hb.below rfl⟩
    · intro vs a w hR H hin hout hget
      refine one_guard 16 false 28 rfl (by kernel_rfl) ((hget 16 28 (by kernel_rfl)).trans (congrArg some (H 16 (by decide)))) ?_
      have e0 := (hget 21 33 (by kernel_rfl)).trans (congrArg some (H 21 (by decide)))
      have e1 := (hget 26 38 (by kernel_rfl)).trans (congrArg some (H 26 (by decide)))
      have HE := neqSame (Sx.or s (Sx.or t u)) (Sx.or (Sx.or s t) u) (Sx.or_lt hs (Sx.or_lt ht hu)) (or_assoc' hs ht hu)
      have HG := guardSetV
      clear H hin hout hget
      dsimp only [bare]
      go_wp2
      exact ⟨_, rfl, shows0 hR rfl⟩
    · intro vs a w hR H hin hout hget
      refine one_free rfl ?_
      have e0 := (hget 16 28 (by kernel_rfl)).trans (congrArg some (H 16 (by decide)))
      have e1 := (hget 27 39 (by kernel_rfl)).trans (congrArg some (H 27 (by decide)))
      clear H hin hout hget
      dsimp only [bare]
      go_wp2
      exact ⟨_, rfl, shows0 hR rfl⟩
    · intro vs a w hR H hin hout hget
      refine one_free rfl ?_
      have e0 := (hget 28 40 (by kernel_rfl)).trans (congrArg some (H 28 (by decide)))
      clear H hin hout hget
      dsimp only [bare]
      go_wp2
      exact ⟨_, rfl, shows0 hR rfl⟩
    · intro vs a w hR H hin hout hget
      refine one_guard 29 false 41 rfl (by kernel_rfl) ((hget 29 41 (by kernel_rfl)).trans (congrArg some (H 29 (by decide)))) ?_
      have e0 := hout 4 (by kernel_rfl)
      obtain ⟨c0, c1, c2, c3, _⟩ := (b4.laterB hR).four
      clear H hin hout hget
      dsimp only [bare]
      go_wp2
      exact ⟨_, rfl, shows0 hR rfl⟩
    · intro vs a w hR H hin hout hget
      refine one_guard 29 false 41 rfl (by kernel_rfl) ((hget 29 41 (by kernel_rfl)).trans (congrArg some (H 29 (by decide)))) ?_
      have e0 := hout 5 (by kernel_rfl)
      obtain ⟨c0, c1, c2, c3, _⟩ := (b5.laterB hR).four
      clear H hin hout hget
      dsimp only [bare]
      go_wp2
      exact ⟨_, rfl, shows0 hR rfl⟩
    · intro vs a w hR H hin hout hget
      refine one_guard 29 false 41 rfl (by kernel_rfl) ((hget 29 41 (by kernel_rfl)).trans (congrArg some (H 29 (by decide)))) ?_
      have e0 := hout 6 (by kernel_rfl)
      obtain ⟨c0, c1, c2, c3, _⟩ := (b6.laterB hR).four
      clear H hin hout hget
      dsimp only [bare]
      go_wp2
      exact ⟨_, rfl, shows0 hR rfl⟩
    · intro vs a w hR H hin hout hget
      refine one_guard 29 false 41 rfl (by kernel_rfl) ((hget 29 41 (by kernel_rfl)).trans (congrArg some (H 29 (by decide)))) ?_
      have e0 := (hget 31 43 (by kernel_rfl)).trans (congrArg some (H 31 (by decide)))
      have e1 := (hget 32 44 (by kernel_rfl)).trans (congrArg some (H 32 (by decide)))
      clear H hin hout hget
      dsimp only [bare]
      go_wp2_with fail
      refine (and_any _ _ w).mono ?_
      rintro e w1 ⟨rfl, hb⟩
      go_wp2
      exact ⟨_, rfl, shows hR hb.below rfl⟩
    · intro vs a w hR H hin hout hget
      refine one_guard 29 false 41 rfl (by kernel_rfl) ((hget 29 41 (by kernel_rfl)).trans (congrArg some (H 29 (by decide)))) ?_
      have e0 := (hget 30 42 (by kernel_rfl)).trans (congrArg some (H 30 (by decide)))
      have e1 := (hget 33 45 (by kernel_rfl)).trans (congrArg some (H 33 (by decide)))
      clear H hin hout hget
      dsimp only [bare]
      go_wp2_with fail
      refine (and_any _ _ w).mono ?_
      rintro e w1 ⟨rfl, hb⟩
      go_wp2
      exact ⟨_, rfl, shows hR hb.below rfl⟩
    · intro vs a w hR H hin hout hget
      refine one_guard 29 false 41 rfl (by kernel_rfl) ((hget 29 41 (by kernel_rfl)).trans (congrArg some (H 29 (by decide)))) ?_
      have e0 := hout 4 (by kernel_rfl)
      obtain ⟨c0, c1, c2, c3, _⟩ := (b4.laterB hR).four
      clear H hin hout hget
      dsimp only [bare]
      go_wp2
      exact ⟨_, rfl, shows0 hR rfl⟩
    · intro vs a w hR H hin hout hget
      refine one_guard 29 false 41 rfl (by kernel_rfl) ((hget 29 41 (by kernel_rfl)).trans (congrArg some (H 29 (by decide)))) ?_
      have e0 := hout 5 (by kernel_rfl)
      obtain ⟨c0, c1, c2, c3, _⟩ := (b5.laterB hR).four
      clear H hin hout hget
      dsimp only [bare]
      go_wp2
      exact ⟨_, rfl, shows0 hR rfl⟩
    · intro vs a w hR H hin hout hget
      refine one_guard 29 false 41 rfl (by kernel_rfl) ((hget 29 41 (by kernel_rfl)).trans (congrArg some (H 29 (by decide)))) ?_
      have e0 := (hget 35 47 (by kernel_rfl)).trans (congrArg some (H 35 (by decide)))
      have e1 := (hget 36 48 (by kernel_rfl)).trans (congrArg some (H 36 (by decide)))
      clear H hin hout hget
      dsimp only [bare]
      go_wp2_with fail
      refine (and_any _ _ w).mono ?_
      rintro e w1 ⟨rfl, hb⟩
      go_wp2
      exact ⟨_, rfl, shows hR hb.below rfl⟩
    · intro vs a w hR H hin hout hget
      refine one_guard 29 false 41 rfl (by kernel_rfl) ((hget 29 41 (by kernel_rfl)).trans (congrArg some (H 29 (by decide)))) ?_
      have e0 := hout 6 (by kernel_rfl)
      obtain ⟨c0, c1, c2, c3, _⟩ := (b6.laterB hR).four
      clear H hin hout hget
      dsimp only [bare]
      go_wp2
      exact ⟨_, rfl, shows0 hR rfl⟩
    · intro vs a w hR H hin hout hget
      refine one_guard 29 false 41 rfl (by kernel_rfl) ((hget 29 41 (by kernel_rfl)).trans (congrArg some (H 29 (by decide)))) ?_
      have e0 := (hget 37 49 (by kernel_rfl)).trans (congrArg some (H 37 (by decide)))
      have e1 := (hget 38 50 (by kernel_rfl)).trans (congrArg some (H 38 (by decide)))
      clear H hin hout hget
      dsimp only [bare]
      go_wp2_with fail
      refine (and_any _ _ w).mono ?_
      rintro e w1 ⟨rfl, hb⟩
      go_wp2
      exact ⟨_, rfl, shows hR hb.below rfl⟩
    · intro vs a w hR H hin hout hget
      refine one_guard 29 false 41 rfl (by kernel_rfl) ((hget 29 41 (by kernel_rfl)).trans (congrArg some (H 29 (by decide)))) ?_
      have e0 := (hget 34 46 (by kernel_rfl)).trans (congrArg some (H 34 (by decide)))
      have e1 := (hget 39 51 (by kernel_rfl)).trans (congrArg some (H 39 (by decide)))
      have HE := neqSame (Sx.and s (Sx.and t u)) (Sx.and (Sx.and s t) u) (Sx.and_lt _ hs) (and_assoc' hs)
      have HG := guardSetV
      clear H hin hout hget
      dsimp only [bare]
      go_wp2
      exact ⟨_, rfl, shows0 hR rfl⟩
    · intro vs a w hR H hin hout hget
      refine one_free rfl ?_
      have e0 := (hget 29 41 (by kernel_rfl)).trans (congrArg some (H 29 (by decide)))
      have e1 := (hget 40 52 (by kernel_rfl)).trans (congrArg some (H 40 (by decide)))
      clear H hin hout hget
      dsimp only [bare]
      go_wp2
      exact ⟨_, rfl, shows0 hR rfl⟩
    · intro vs a w hR H hin hout hget
      refine one_free rfl ?_
      have e0 := (hget 41 53 (by kernel_rfl)).trans (congrArg some (H 41 (by decide)))
      clear H hin hout hget
      dsimp only [bare]
      go_wp2
      exact ⟨_, rfl, shows0 hR rfl⟩
    · intro vs a w hR H hin hout hget
      refine one_guard 42 false 54 rfl (by kernel_rfl) ((hget 42 54 (by kernel_rfl)).trans (congrArg some (H 42 (by decide)))) ?_
      have e0 := hout 4 (by kernel_rfl)
      obtain ⟨c0, c1, c2, c3, _⟩ := (b4.laterB hR).four
      clear H hin hout hget
      dsimp only [bare]
      go_wp2
      exact ⟨_, rfl, shows0 hR rfl⟩
    · intro vs a w hR H hin hout hget
      refine one_guard 42 false 54 rfl (by kernel_rfl) ((hget 42 54 (by kernel_rfl)).trans (congrArg some (H 42 (by decide)))) ?_
      have e0 := hout 5 (by kernel_rfl)
      obtain ⟨c0, c1, c2, c3, _⟩ := (b5.laterB hR).four
      clear H hin hout hget
      dsimp only [bare]
      go_wp2
      exact ⟨_, rfl, shows0 hR rfl⟩
    · intro vs a w hR H hin hout hget
      refine one_guard 42 false 54 rfl (by kernel_rfl) ((hget 42 54 (by kernel_rfl)).trans (congrArg some (H 42 (by decide)))) ?_
      have e0 := hout 6 (by kernel_rfl)
      obtain ⟨c0, c1, c2, c3, _⟩ := (b6.laterB hR).four
      clear H hin hout hget
      dsimp only [bare]
      go_wp2
      exact ⟨_, rfl, shows0 hR rfl⟩
    · intro vs a w hR H hin hout hget
      refine one_guard 42 false 54 rfl (by kernel_rfl) ((hget 42 54 (by kernel_rfl)).trans (congrArg some (H 42 (by decide)))) ?_
      have e0 := (hget 44 56 (by kernel_rfl)).trans (congrArg some (H 44 (by decide)))
      have e1 := (hget 45 57 (by kernel_rfl)).trans (congrArg some (H 45 (by decide)))
      clear H hin hout hget
      dsimp only [bare]
      go_wp2_with fail
      refine (or_any _ _ w).mono ?_
      rintro e w1 ⟨rfl, hb⟩
      go_wp2
      exact ⟨_, rfl, shows hR hb.below rfl⟩
    · intro vs a w hR H hin hout hget
      refine one_guard 42 false 54 rfl (by kernel_rfl) ((hget 42 54 (by kernel_rfl)).trans (congrArg some (H 42 (by decide)))) ?_
      have e0 := (hget 43 55 (by kernel_rfl)).trans (congrArg some (H 43 (by decide)))
      have e1 := (hget 46 58 (by kernel_rfl)).trans (congrArg some (H 46 (by decide)))
      clear H hin hout hget
      dsimp only [bare]
      go_wp2_with fail
      refine (and_any _ _ w).mono ?_
      rintro e w1 ⟨rfl, hb⟩
      go_wp2
      exact ⟨_, rfl, shows hR hb.below rfl⟩
    · intro vs a w hR H hin hout hget
      refine one_guard 42 false 54 rfl (by kernel_rfl) ((hget 42 54 (by kernel_rfl)).trans (congrArg some (H 42 (by decide)))) ?_
      have e0 := hout 4 (by kernel_rfl)
      obtain ⟨c0, c1, c2, c3, _⟩ := (b4.laterB hR).four
      clear H hin hout hget
      dsimp only [bare]
      go_wp2
      exact ⟨_, rfl, shows0 hR rfl⟩
    · intro vs a w hR H hin hout hget
      refine one_guard 42 false 54 rfl (by kernel_rfl) ((hget 42 54 (by kernel_rfl)).trans (congrArg some (H 42 (by decide)))) ?_
      have e0 := hout 5 (by kernel_rfl)
      obtain ⟨c0, c1, c2, c3, _⟩ := (b5.laterB hR).four
      clear H hin hout hget
      dsimp only [bare]
      go_wp2
      exact ⟨_, rfl, shows0 hR rfl⟩
    · intro vs a w hR H hin hout hget
      refine one_guard 42 false 54 rfl (by kernel_rfl) ((hget 42 54 (by kernel_rfl)).trans (congrArg some (H 42 (by decide)))) ?_
      have e0 := (hget 48 60 (by kernel_rfl)).trans (congrArg some (H 48 (by decide)))
      have e1 := (hget 49 61 (by kernel_rfl)).trans (congrArg some (H 49 (by decide)))
      clear H hin hout hget
      dsimp only [bare]
      go_wp2_with fail
      refine (and_any _ _ w).mono ?_
      rintro e w1 ⟨rfl, hb⟩
      go_wp2
      exact ⟨_, rfl, shows hR hb.below rfl⟩
    · intro vs a w hR H hin hout hget
      refine one_guard 42 false 54 rfl (by kernel_rfl) ((hget 42 54 (by kernel_rfl)).trans (congrArg some (H 42 (by decide)))) ?_
      have e0 := hout 4 (by kernel_rfl)
      obtain ⟨c0, c1, c2, c3, _⟩ := (b4.laterB hR).four
      clear H hin hout hget
      dsimp only [bare]
      go_wp2
      exact ⟨_, rfl, shows0 hR rfl⟩
    · intro vs a w hR H hin hout hget
      refine one_guard 42 false 54 rfl (by kernel_rfl) ((hget 42 54 (by kernel_rfl)).trans (congrArg some (H 42 (by decide)))) ?_
      have e0 := hout 6 (by kernel_rfl)
      obtain ⟨c0, c1, c2, c3, _⟩ := (b6.laterB hR).four
      clear H hin hout hget
      dsimp only [bare]
      go_wp2
      exact ⟨_, rfl, shows0 hR rfl⟩
    · intro vs a w hR H hin hout hget
      refine one_guard 42 false 54 rfl (by kernel_rfl) ((hget 42 54 (by kernel_rfl)).trans (congrArg some (H 42 (by decide)))) ?_
      have e0 := (hget 51 63 (by kernel_rfl)).trans (congrArg some (H 51 (by decide)))
      have e1 := (hget 52 64 (by kernel_rfl)).trans (congrArg some (H 52 (by decide)))
      clear H hin hout hget
      dsimp only [bare]
      go_wp2_with fail
      refine (and_any _ _ w).mono ?_
      rintro e w1 ⟨rfl, hb⟩
      go_wp2
      exact ⟨_, rfl, shows hR hb.below rfl⟩
    · intro vs a w hR H hin hout hget
      refine one_guard 42 false 54 rfl (by kernel_rfl) ((hget 42 54 (by kernel_rfl)).trans (congrArg some (H 42 (by decide)))) ?_
      have e0 := (hget 50 62 (by kernel_rfl)).trans (congrArg some (H 50 (by decide)))
      have e1 := (hget 53 65 (by kernel_rfl)).trans (congrArg some (H 53 (by decide)))
      clear H hin hout hget
      dsimp only [bare]
      go_wp2_with fail
      refine (or_any _ _ w).mono ?_
      rintro e w1 ⟨rfl, hb⟩
      go_wp2
      exact ⟨_, rfl, shows hR hb.below rfl⟩
    · intro vs a w hR H hin hout hget
      refine one_guard 42 false 54 rfl (by kernel_rfl) ((hget 42 54 (by kernel_rfl)).trans (congrArg some (H 42 (by decide)))) ?_
      have e0 := (hget 47 59 (by kernel_rfl)).trans (congrArg some (H 47 (by decide)))
      have e1 := (hget 54 66 (by kernel_rfl)).trans (congrArg some (H 54 (by decide)))
      have HE := neqSame (Sx.and s (Sx.or t u)) (Sx.or (Sx.and s t) (Sx.and s u)) (Sx.and_lt _ hs) (and_or' hs)
      have HG := guardSetV
      clear H hin hout hget
      dsimp only [bare]
      go_wp2
      exact ⟨_, rfl, shows0 hR rfl⟩
    · intro vs a w hR H hin hout hget
      refine one_free rfl ?_
      have e0 := (hget 42 54 (by kernel_rfl)).trans (congrArg some (H 42 (by decide)))
      have e1 := (hget 55 67 (by kernel_rfl)).trans (congrArg some (H 55 (by decide)))
      clear H hin hout hget
      dsimp only [bare]
      go_wp2
      exact ⟨_, rfl, shows0 hR rfl⟩
    · intro vs a w hR H hin hout hget
      refine one_free rfl ?_
      have e0 := (hget 56 68 (by kernel_rfl)).trans (congrArg some (H 56 (by decide)))
      clear H hin hout hget
      dsimp only [bare]
      go_wp2
      exact ⟨_, rfl, shows0 hR rfl⟩
    · intro vs a w hR H hin hout hget
      refine one_guard 57 false 69 rfl (by kernel_rfl) ((hget 57 69 (by kernel_rfl)).trans (congrArg some (H 57 (by decide)))) ?_
      have e0 := hout 4 (by kernel_rfl)
      obtain ⟨c0, c1, c2, c3, _⟩ := (b4.laterB hR).four
      clear H hin hout hget
      dsimp only [bare]
      go_wp2
      exact ⟨_, rfl, shows0 hR rfl⟩
    · intro vs a w hR H hin hout hget
      refine one_guard 57 false 69 rfl (by kernel_rfl) ((hget 57 69 (by kernel_rfl)).trans (congrArg some (H 57 (by decide)))) ?_
      have e0 := hout 5 (by kernel_rfl)
      obtain ⟨c0, c1, c2, c3, _⟩ := (b5.laterB hR).four
      clear H hin hout hget
      dsimp only [bare]
      go_wp2
      exact ⟨_, rfl, shows0 hR rfl⟩
    · intro vs a w hR H hin hout hget
      refine one_guard 57 false 69 rfl (by kernel_rfl) ((hget 57 69 (by kernel_rfl)).trans (congrArg some (H 57 (by decide)))) ?_
      have e0 := hout 6 (by kernel_rfl)
      obtain ⟨c0, c1, c2, c3, _⟩ := (b6.laterB hR).four
      clear H hin hout hget
      dsimp only [bare]
      go_wp2
      exact ⟨_, rfl, shows0 hR rfl⟩
    · intro vs a w hR H hin hout hget
      refine one_guard 57 false 69 rfl (by kernel_rfl) ((hget 57 69 (by kernel_rfl)).trans (congrArg some (H 57 (by decide)))) ?_
      have e0 := (hget 59 71 (by kernel_rfl)).trans (congrArg some (H 59 (by decide)))
      have e1 := (hget 60 72 (by kernel_rfl)).trans (congrArg some (H 60 (by decide)))
      clear H hin hout hget
      dsimp only [bare]
      go_wp2_with fail
      refine (and_any _ _ w).mono ?_
      rintro e w1 ⟨rfl, hb⟩
      go_wp2
      exact ⟨_, rfl, shows hR hb.below rfl⟩
    · intro vs a w hR H hin hout hget
      refine one_guard 57 false 69 rfl (by kernel_rfl) ((hget 57 69 (by kernel_rfl)).trans (congrArg some (H 57 (by decide)))) ?_
      have e0 := (hget 58 70 (by kernel_rfl)).trans (congrArg some (H 58 (by decide)))
      have e1 := (hget 61 73 (by kernel_rfl)).trans (congrArg some (H 61 (by decide)))
      clear H hin hout hget
      dsimp only [bare]
      go_wp2_with fail
      refine (or_any _ _ w).mono ?_
      rintro e w1 ⟨rfl, hb⟩
      go_wp2
      exact ⟨_, rfl, shows hR hb.below rfl⟩
    · intro vs a w hR H hin hout hget
      refine one_guard 57 false 69 rfl (by kernel_rfl) ((hget 57 69 (by kernel_rfl)).trans (congrArg some (H 57 (by decide)))) ?_
      have e0 := hout 4 (by kernel_rfl)
      obtain ⟨c0, c1, c2, c3, _⟩ := (b4.laterB hR).four
      clear H hin hout hget
      dsimp only [bare]
      go_wp2
      exact ⟨_, rfl, shows0 hR rfl⟩
    · intro vs a w hR H hin hout hget
      refine one_guard 57 false 69 rfl (by kernel_rfl) ((hget 57 69 (by kernel_rfl)).trans (congrArg some (H 57 (by decide)))) ?_
      have e0 := hout 5 (by kernel_rfl)
      obtain ⟨c0, c1, c2, c3, _⟩ := (b5.laterB hR).four
      clear H hin hout hget
      dsimp only [bare]
      go_wp2
      exact ⟨_, rfl, shows0 hR rfl⟩
    · intro vs a w hR H hin hout hget
      refine one_guard 57 false 69 rfl (by kernel_rfl) ((hget 57 69 (by kernel_rfl)).trans (congrArg some (H 57 (by decide)))) ?_
      have e0 := (hget 63 75 (by kernel_rfl)).trans (congrArg some (H 63 (by decide)))
      have e1 := (hget 64 76 (by kernel_rfl)).trans (congrArg some (H 64 (by decide)))
      clear H hin hout hget
      dsimp only [bare]
      go_wp2_with fail
      refine (or_any _ _ w).mono ?_
      rintro e w1 ⟨rfl, hb⟩
      go_wp2
      exact ⟨_, rfl, shows hR hb.below rfl⟩
    · intro vs a w hR H hin hout hget
      refine one_guard 57 false 69 rfl (by kernel_rfl) ((hget 57 69 (by kernel_rfl)).trans (congrArg some (H 57 (by decide)))) ?_
      have e0 := hout 4 (by kernel_rfl)
      obtain ⟨c0, c1, c2, c3, _⟩ := (b4.laterB hR).four
      clear H hin hout hget
      dsimp only [bare]
      go_wp2
      exact ⟨_, rfl, shows0 hR rfl⟩
    · intro vs a w hR H hin hout hget
      refine one_guard 57 false 69 rfl (by kernel_rfl) ((hget 57 69 (by kernel_rfl)).trans (congrArg some (H 57 (by decide)))) ?_
      have e0 := hout 6 (by kernel_rfl)
      obtain ⟨c0, c1, c2, c3, _⟩ := (b6.laterB hR).four
      clear H hin hout hget
      dsimp only [bare]
      go_wp2
      exact ⟨_, rfl, shows0 hR rfl⟩
    · intro vs a w hR H hin hout hget
      refine one_guard 57 false 69 rfl (by kernel_rfl) ((hget 57 69 (by kernel_rfl)).trans (congrArg some (H 57 (by decide)))) ?_
      have e0 := (hget 66 78 (by kernel_rfl)).trans (congrArg some (H 66 (by decide)))
      have e1 := (hget 67 79 (by kernel_rfl)).trans (congrArg some (H 67 (by decide)))
      clear H hin hout hget
      dsimp only [bare]
      go_wp2_with fail
      refine (or_any _ _ w).mono ?_
      rintro e w1 ⟨rfl, hb⟩
      go_wp2
      exact ⟨_, rfl, shows hR hb.below rfl⟩
    · intro vs a w hR H hin hout hget
      refine one_guard 57 false 69 rfl (by kernel_rfl) ((hget 57 69 (by kernel_rfl)).trans (congrArg some (H 57 (by decide)))) ?_
      have e0 := (hget 65 77 (by kernel_rfl)).trans (congrArg some (H 65 (by decide)))
      have e1 := (hget 68 80 (by kernel_rfl)).trans (congrArg some (H 68 (by decide)))
      clear H hin hout hget
      dsimp only [bare]
      go_wp2_with fail
      refine (and_any _ _ w).mono ?_
      rintro e w1 ⟨rfl, hb⟩
      go_wp2
      exact ⟨_, rfl, shows hR hb.below rfl⟩
    · intro vs a w hR H hin hout hget
      refine one_guard 57 false 69 rfl (by kernel_rfl) ((hget 57 69 (by kernel_rfl)).trans (congrArg some (H 57 (by decide)))) ?_
      have e0 := (hget 62 74 (by kernel_rfl)).trans (congrArg some (H 62 (by decide)))
      have e1 := (hget 69 81 (by kernel_rfl)).trans (congrArg some (H 69 (by decide)))
      have HE := neqSame (Sx.or s (Sx.and t u)) (Sx.and (Sx.or s t) (Sx.or s u)) (Sx.or_lt hs (Sx.and_lt _ ht)) (or_and' hs ht)
      have HG := guardSetV
      clear H hin hout hget
      dsimp only [bare]
      go_wp2
      exact ⟨_, rfl, shows0 hR rfl⟩
    · intro vs a w hR H hin hout hget
      refine one_free rfl ?_
      have e0 := (hget 57 69 (by kernel_rfl)).trans (congrArg some (H 57 (by decide)))
      have e1 := (hget 70 82 (by kernel_rfl)).trans (congrArg some (H 70 (by decide)))
      clear H hin hout hget
      dsimp only [bare]
      go_wp2
      exact ⟨_, rfl, shows0 hR rfl⟩
  · intro vs w2 hR H
    generalize hA : putAll vs _ 0 _ = A
    have k3 : A.tmps.getD 3 undef = .int .u8 c := by rw [← hA]; exact (putAll_far _ 3 0 vs _ (by decide)).trans (by kernel_rfl)
    have k4 : A.tmps.getD 4 undef = .pointer (some ⟨w.heap.size, 0, none⟩) := by rw [← hA]; exact (putAll_far _ 4 0 vs _ (by decide)).trans (by kernel_rfl)
    have k5 : A.tmps.getD 5 undef = .pointer (some ⟨w.heap.size + 1, 0, none⟩) := by rw [← hA]; exact (putAll_far _ 5 0 vs _ (by decide)).trans (by kernel_rfl)
    have k83 : A.tmps.getD 83 undef = .bool false := by rw [← hA]; exact (putAll_near (n := 199) _ 0 71 vs _ 83 (by kernel_rfl) rfl (by kernel_rfl)).trans (H 71 (by decide))
    have ksz : A.tmps.size = 199 := by rw [← hA]; exact (putAll_size _ 0 vs _).1
    have kd : A.defers = [] := by rw [← hA]; exact (putAll_size _ 0 vs _).2
    replace b4 := b4.laterB hR
    replace b5 := b5.laterB hR
    have hB2 := hB1.trans (hR.mono hB1.size)
    clear H hA hR b6 hB1
    go_wp2_with fail
    refine wp_cond_false k83 ?_
    go_wp2_with fail
    refine wp_region_facts 199 [.eq (setV s), .eq (setV t), .eq (setV (Sx.or s t)), .eq (setV (Sx.not (Sx.or s t))), .eq (setV s), .eq (setV (Sx.not s)), .eq (setV t), .eq (setV (Sx.not t)), .eq (setV (Sx.and (Sx.not s) (Sx.not t))), .eq (.bool false), .eq (.bool false), .eq (setV s), .eq (setV (Sx.not s)), .eq (setV (Sx.not (Sx.not s))), .eq (setV s), .eq (.bool false), .eq (.bool false), .eq (.bool false), .eq (setV s), .eq (setV s), .eq (setV (Sx.not s)), .eq (setV (Sx.or s (Sx.not s))), .eq (setV Sx.full), .eq (.bool false), .eq (.bool false), .eq (.bool false), .eq (setV s), .eq (setV s), .eq (setV (Sx.not s)), .eq (setV (Sx.and s (Sx.not s))), .eq (setV 0), .eq (.bool false), .eq (.bool false), .eq (.bool false), .eq (setV s), .eq (setV t), .eq (setV (Sx.less s t)), .eq (setV s), .eq (setV t), .eq (setV (Sx.not t)), .eq (setV (Sx.and s (Sx.not t))), .eq (.bool false), .eq (.bool false)] mixed ksz (by kernel_rfl) ?_ ?_
    · refine ⟨?_, ?_, ?_, ?_, ?_, ?_, ?_, ?_, ?_, ?_, ?_, ?_, ?_, ?_, ?_, ?_, ?_, ?_, ?_, ?_, ?_, ?_, ?_, ?_, ?_, ?_, ?_, ?_, ?_, ?_, ?_, ?_, ?_, ?_, ?_, ?_, ?_, ?_, ?_, ?_, ?_, ?_, ?_, trivial⟩
      · intro vs a w hR H hin hout hget
        refine one_free rfl ?_
        have e0 := hout 4 (by kernel_rfl)
        obtain ⟨c0, c1, c2, c3, _⟩ := (b4.laterB hR).four
        rw [k4] at e0
        clear H hin hout hget
        dsimp only [bare]
        go_wp2
        exact ⟨_, rfl, shows0 hR rfl⟩
      · intro vs a w hR H hin hout hget
        refine one_free rfl ?_
        have e0 := hout 5 (by kernel_rfl)
        obtain ⟨c0, c1, c2, c3, _⟩ := (b5.laterB hR).four
        rw [k5] at e0
        clear H hin hout hget
        dsimp only [bare]
        go_wp2
        exact ⟨_, rfl, shows0 hR rfl⟩
      · intro vs a w hR H hin hout hget
        refine one_free rfl ?_
        have e0 := (hget 0 84 (by kernel_rfl)).trans (congrArg some (H 0 (by decide)))
        have e1 := (hget 1 85 (by kernel_rfl)).trans (congrArg some (H 1 (by decide)))
        clear H hin hout hget
        dsimp only [bare]
        go_wp2_with fail
        refine (or_any _ _ w).mono ?_
        rintro e w1 ⟨rfl, hb⟩
        go_wp2
        exact ⟨_, rfl, shows hR hb.below rfl⟩
      · intro vs a w hR H hin hout hget
        refine one_free rfl ?_
        have e0 := (hget 2 86 (by kernel_rfl)).trans (congrArg some (H 2 (by decide)))
        clear H hin hout hget
        dsimp only [bare]
        go_wp2_with fail
        refine (not_any _ w).mono ?_
        rintro e w1 ⟨rfl, hb⟩
        go_wp2
        exact ⟨_, rfl, shows hR hb.below rfl⟩
      · intro vs a w hR H hin hout hget
        refine one_free rfl ?_
        have e0 := hout 4 (by kernel_rfl)
        obtain ⟨c0, c1, c2, c3, _⟩ := (b4.laterB hR).four
        rw [k4] at e0
        clear H hin hout hget
        dsimp only [bare]
        go_wp2
        exact ⟨_, rfl, shows0 hR rfl⟩
      · intro vs a w hR H hin hout hget
        refine one_free rfl ?_
        have e0 := (hget 4 88 (by kernel_rfl)).trans (congrArg some (H 4 (by decide)))
        clear H hin hout hget
        dsimp only [bare]
        go_wp2_with fail
        refine (not_any _ w).mono ?_
        rintro e w1 ⟨rfl, hb⟩
        go_wp2
        exact ⟨_, rfl, shows hR hb.below rfl⟩
      · intro vs a w hR H hin hout hget
        refine one_free rfl ?_
        have e0 := hout 5 (by kernel_rfl)
        obtain ⟨c0, c1, c2, c3, _⟩ := (b5.laterB hR).four
        rw [k5] at e0
        clear H hin hout hget
        dsimp only [bare]
        go_wp2
        exact ⟨_, rfl, shows0 hR rfl⟩
      · intro vs a w hR H hin hout hget
        refine one_free rfl ?_
        have e0 := (hget 6 90 (by kernel_rfl)).trans (congrArg some (H 6 (by decide)))
        clear H hin hout hget
        dsimp only [bare]
        go_wp2_with fail
        refine (not_any _ w).mono ?_
        rintro e w1 ⟨rfl, hb⟩
        go_wp2
        exact ⟨_, rfl, shows hR hb.below rfl⟩
      · intro vs a w hR H hin hout hget
        refine one_free rfl ?_
        have e0 := (hget 5 89 (by kernel_rfl)).trans (congrArg some (H 5 (by decide)))
        have e1 := (hget 7 91 (by kernel_rfl)).trans (congrArg some (H 7 (by decide)))
        clear H hin hout hget
        dsimp only [bare]
        go_wp2_with fail
        refine (and_any _ _ w).mono ?_
        rintro e w1 ⟨rfl, hb⟩
        go_wp2
        exact ⟨_, rfl, shows hR hb.below rfl⟩
      · intro vs a w hR H hin hout hget
        refine one_free rfl ?_
        have e0 := (hget 3 87 (by kernel_rfl)).trans (congrArg some (H 3 (by decide)))
        have e1 := (hget 8 92 (by kernel_rfl)).trans (congrArg some (H 8 (by decide)))
        have HE := neqSame (Sx.not (Sx.or s t)) (Sx.and (Sx.not s) (Sx.not t)) (Sx.not_lt _) not_or'
        have HG := guardSetV
        clear H hin hout hget
        dsimp only [bare]
        go_wp2
        exact ⟨_, rfl, shows0 hR rfl⟩
      · intro vs a w hR H hin hout hget
        refine one_free rfl ?_
        have e0 := (hget 9 93 (by kernel_rfl)).trans (congrArg some (H 9 (by decide)))
        clear H hin hout hget
        dsimp only [bare]
        go_wp2
        exact ⟨_, rfl, shows0 hR rfl⟩
      · intro vs a w hR H hin hout hget
        refine one_guard 10 false 94 rfl (by kernel_rfl) ((hget 10 94 (by kernel_rfl)).trans (congrArg some (H 10 (by decide)))) ?_
        have e0 := hout 4 (by kernel_rfl)
        obtain ⟨c0, c1, c2, c3, _⟩ := (b4.laterB hR).four
        rw [k4] at e0
        clear H hin hout hget
        dsimp only [bare]
        go_wp2
        exact ⟨_, rfl, shows0 hR rfl⟩
      · intro vs a w hR H hin hout hget
        refine one_guard 10 false 94 rfl (by kernel_rfl) ((hget 10 94 (by kernel_rfl)).trans (congrArg some (H 10 (by decide)))) ?_
        have e0 := (hget 11 95 (by kernel_rfl)).trans (congrArg some (H 11 (by decide)))
        clear H hin hout hget
        dsimp only [bare]
        go_wp2_with fail
        refine (not_any _ w).mono ?_
        rintro e w1 ⟨rfl, hb⟩
        go_wp2
        exact ⟨_, rfl, shows hR hb.below rfl⟩
      · intro vs a w hR H hin hout hget
        refine one_guard 10 false 94 rfl (by kernel_rfl) ((hget 10 94 (by kernel_rfl)).trans (congrArg some (H 10 (by decide)))) ?_
        have e0 := (hget 12 96 (by kernel_rfl)).trans (congrArg some (H 12 (by decide)))
        clear H hin hout hget
        dsimp only [bare]
        go_wp2_with fail
        refine (not_any _ w).mono ?_
        rintro e w1 ⟨rfl, hb⟩
        go_wp2
        exact ⟨_, rfl, shows hR hb.below rfl⟩
      · intro vs a w hR H hin hout hget
        refine one_guard 10 false 94 rfl (by kernel_rfl) ((hget 10 94 (by kernel_rfl)).trans (congrArg some (H 10 (by decide)))) ?_
        have e0 := hout 4 (by kernel_rfl)
        obtain ⟨c0, c1, c2, c3, _⟩ := (b4.laterB hR).four
        rw [k4] at e0
        clear H hin hout hget
        dsimp only [bare]
        go_wp2
        exact ⟨_, rfl, shows0 hR rfl⟩
      · intro vs a w hR H hin hout hget
        refine one_guard 10 false 94 rfl (by kernel_rfl) ((hget 10 94 (by kernel_rfl)).trans (congrArg some (H 10 (by decide)))) ?_
        have e0 := (hget 13 97 (by kernel_rfl)).trans (congrArg some (H 13 (by decide)))
        have e1 := (hget 14 98 (by kernel_rfl)).trans (congrArg some (H 14 (by decide)))
        have HE := neqSame (Sx.not (Sx.not s)) s (Sx.not_lt _) (not_not' hs)
        have HG := guardSetV
        clear H hin hout hget
        dsimp only [bare]
        go_wp2
        exact ⟨_, rfl, shows0 hR rfl⟩
      · intro vs a w hR H hin hout hget
        refine one_free rfl ?_
        have e0 := (hget 10 94 (by kernel_rfl)).trans (congrArg some (H 10 (by decide)))
        have e1 := (hget 15 99 (by kernel_rfl)).trans (congrArg some (H 15 (by decide)))
        clear H hin hout hget
        dsimp only [bare]
        go_wp2
        exact ⟨_, rfl, shows0 hR rfl⟩
      · intro vs a w hR H hin hout hget
        refine one_free rfl ?_
        have e0 := (hget 16 100 (by kernel_rfl)).trans (congrArg some (H 16 (by decide)))
        clear H hin hout hget
        dsimp only [bare]
        go_wp2
        exact ⟨_, rfl, shows0 hR rfl⟩
      · intro vs a w hR H hin hout hget
        refine one_guard 17 false 101 rfl (by kernel_rfl) ((hget 17 101 (by kernel_rfl)).trans (congrArg some (H 17 (by decide)))) ?_
        have e0 := hout 4 (by kernel_rfl)
        obtain ⟨c0, c1, c2, c3, _⟩ := (b4.laterB hR).four
        rw [k4] at e0
        clear H hin hout hget
        dsimp only [bare]
        go_wp2
        exact ⟨_, rfl, shows0 hR rfl⟩
      · intro vs a w hR H hin hout hget
        refine one_guard 17 false 101 rfl (by kernel_rfl) ((hget 17 101 (by kernel_rfl)).trans (congrArg some (H 17 (by decide)))) ?_
        have e0 := hout 4 (by kernel_rfl)
        obtain ⟨c0, c1, c2, c3, _⟩ := (b4.laterB hR).four
        rw [k4] at e0
        clear H hin hout hget
        dsimp only [bare]
        go_wp2
        exact ⟨_, rfl, shows0 hR rfl⟩
      · intro vs a w hR H hin hout hget
        refine one_guard 17 false 101 rfl (by kernel_rfl) ((hget 17 101 (by kernel_rfl)).trans (congrArg some (H 17 (by decide)))) ?_
        have e0 := (hget 19 103 (by kernel_rfl)).trans (congrArg some (H 19 (by decide)))
        clear H hin hout hget
        dsimp only [bare]
        go_wp2_with fail
        refine (not_any _ w).mono ?_
        rintro e w1 ⟨rfl, hb⟩
        go_wp2
        exact ⟨_, rfl, shows hR hb.below rfl⟩
      · intro vs a w hR H hin hout hget
        refine one_guard 17 false 101 rfl (by kernel_rfl) ((hget 17 101 (by kernel_rfl)).trans (congrArg some (H 17 (by decide)))) ?_
        have e0 := (hget 18 102 (by kernel_rfl)).trans (congrArg some (H 18 (by decide)))
        have e1 := (hget 20 104 (by kernel_rfl)).trans (congrArg some (H 20 (by decide)))
        clear H hin hout hget
        dsimp only [bare]
        go_wp2_with fail
        refine (or_any _ _ w).mono ?_
        rintro e w1 ⟨rfl, hb⟩
        go_wp2
        exact ⟨_, rfl, shows hR hb.below rfl⟩
      · intro vs a w hR H hin hout hget
        refine one_guard 17 false 101 rfl (by kernel_rfl) ((hget 17 101 (by kernel_rfl)).trans (congrArg some (H 17 (by decide)))) ?_
        clear H hin hout hget
        dsimp only [bare]
        go_wp2_with fail
        refine (all_any w).mono ?_
        rintro e w1 ⟨rfl, hb⟩
        go_wp2
        exact ⟨_, rfl, shows hR hb.below rfl⟩
      · intro vs a w hR H hin hout hget
        refine one_guard 17 false 101 rfl (by kernel_rfl) ((hget 17 101 (by kernel_rfl)).trans (congrArg some (H 17 (by decide)))) ?_
        have e0 := (hget 21 105 (by kernel_rfl)).trans (congrArg some (H 21 (by decide)))
        have e1 := (hget 22 106 (by kernel_rfl)).trans (congrArg some (H 22 (by decide)))
        have HE := neqSame (Sx.or s (Sx.not s)) Sx.full (Sx.or_lt hs (Sx.not_lt _)) (or_not' hs)
        have HG := guardSetV
        clear H hin hout hget
        dsimp only [bare]
        go_wp2
        exact ⟨_, rfl, shows0 hR rfl⟩
      · intro vs a w hR H hin hout hget
        refine one_free rfl ?_
        have e0 := (hget 17 101 (by kernel_rfl)).trans (congrArg some (H 17 (by decide)))
        have e1 := (hget 23 107 (by kernel_rfl)).trans (congrArg some (H 23 (by decide)))
        clear H hin hout hget
        dsimp only [bare]
        go_wp2
        exact ⟨_, rfl, shows0 hR rfl⟩
      · intro vs a w hR H hin hout hget
        refine one_free rfl ?_
        have e0 := (hget 24 108 (by kernel_rfl)).trans (congrArg some (H 24 (by decide)))
        clear H hin hout hget
        dsimp only [bare]
        go_wp2
        exact ⟨_, rfl, shows0 hR rfl⟩
      · intro vs a w hR H hin hout hget
        refine one_guard 25 false 109 rfl (by kernel_rfl) ((hget 25 109 (by kernel_rfl)).trans (congrArg some (H 25 (by decide)))) ?_
        have e0 := hout 4 (by kernel_rfl)
        obtain ⟨c0, c1, c2, c3, _⟩ := (b4.laterB hR).four
        rw [k4] at e0
        clear H hin hout hget
        dsimp only [bare]
        go_wp2
        exact ⟨_, rfl, shows0 hR rfl⟩
      · intro vs a w hR H hin hout hget
        refine one_guard 25 false 109 rfl (by kernel_rfl) ((hget 25 109 (by kernel_rfl)).trans (congrArg some (H 25 (by decide)))) ?_
        have e0 := hout 4 (by kernel_rfl)
        obtain ⟨c0, c1, c2, c3, _⟩ := (b4.laterB hR).four
        rw [k4] at e0
        clear H hin hout hget
        dsimp only [bare]
        go_wp2
        exact ⟨_, rfl, shows0 hR rfl⟩
      · intro vs a w hR H hin hout hget
        refine one_guard 25 false 109 rfl (by kernel_rfl) ((hget 25 109 (by kernel_rfl)).trans (congrArg some (H 25 (by decide)))) ?_
        have e0 := (hget 27 111 (by kernel_rfl)).trans (congrArg some (H 27 (by decide)))
        clear H hin hout hget
        dsimp only [bare]
        go_wp2_with fail
        refine (not_any _ w).mono ?_
        rintro e w1 ⟨rfl, hb⟩
        go_wp2
        exact ⟨_, rfl, shows hR hb.below rfl⟩
      · intro vs a w hR H hin hout hget
        refine one_guard 25 false 109 rfl (by kernel_rfl) ((hget 25 109 (by kernel_rfl)).trans (congrArg some (H 25 (by decide)))) ?_
        have e0 := (hget 26 110 (by kernel_rfl)).trans (congrArg some (H 26 (by decide)))
        have e1 := (hget 28 112 (by kernel_rfl)).trans (congrArg some (H 28 (by decide)))
        clear H hin hout hget
        dsimp only [bare]
        go_wp2_with fail
        refine (and_any _ _ w).mono ?_
        rintro e w1 ⟨rfl, hb⟩
        go_wp2
        exact ⟨_, rfl, shows hR hb.below rfl⟩
      · intro vs a w hR H hin hout hget
        refine one_guard 25 false 109 rfl (by kernel_rfl) ((hget 25 109 (by kernel_rfl)).trans (congrArg some (H 25 (by decide)))) ?_
        clear H hin hout hget
        dsimp only [bare]
        go_wp2
        exact ⟨_, rfl, shows0 hR setV_zero.symm⟩
      · intro vs a w hR H hin hout hget
        refine one_guard 25 false 109 rfl (by kernel_rfl) ((hget 25 109 (by kernel_rfl)).trans (congrArg some (H 25 (by decide)))) ?_
        have e0 := (hget 29 113 (by kernel_rfl)).trans (congrArg some (H 29 (by decide)))
        have e1 := (hget 30 114 (by kernel_rfl)).trans (congrArg some (H 30 (by decide)))
        have HE := neqSame (Sx.and s (Sx.not s)) 0 (Sx.and_lt _ hs) (and_not' hs)
        have HG := guardSetV
        clear H hin hout hget
        dsimp only [bare]
        go_wp2
        exact ⟨_, rfl, shows0 hR rfl⟩
      · intro vs a w hR H hin hout hget
        refine one_free rfl ?_
        have e0 := (hget 25 109 (by kernel_rfl)).trans (congrArg some (H 25 (by decide)))
        have e1 := (hget 31 115 (by kernel_rfl)).trans (congrArg some (H 31 (by decide)))
        clear H hin hout hget
        dsimp only [bare]
        go_wp2
        exact ⟨_, rfl, shows0 hR rfl⟩
      · intro vs a w hR H hin hout hget
        refine one_free rfl ?_
        have e0 := (hget 32 116 (by kernel_rfl)).trans (congrArg some (H 32 (by decide)))
        clear H hin hout hget
        dsimp only [bare]
        go_wp2
        exact ⟨_, rfl, shows0 hR rfl⟩
      · intro vs a w hR H hin hout hget
        refine one_guard 33 false 117 rfl (by kernel_rfl) ((hget 33 117 (by kernel_rfl)).trans (congrArg some (H 33 (by decide)))) ?_
        have e0 := hout 4 (by kernel_rfl)
        obtain ⟨c0, c1, c2, c3, _⟩ := (b4.laterB hR).four
        rw [k4] at e0
        clear H hin hout hget
        dsimp only [bare]
        go_wp2
        exact ⟨_, rfl, shows0 hR rfl⟩
      · intro vs a w hR H hin hout hget
        refine one_guard 33 false 117 rfl (by kernel_rfl) ((hget 33 117 (by kernel_rfl)).trans (congrArg some (H 33 (by decide)))) ?_
        have e0 := hout 5 (by kernel_rfl)
        obtain ⟨c0, c1, c2, c3, _⟩ := (b5.laterB hR).four
        rw [k5] at e0
        clear H hin hout hget
        dsimp only [bare]
        go_wp2
        exact ⟨_, rfl, shows0 hR rfl⟩
      · intro vs a w hR H hin hout hget
        refine one_guard 33 false 117 rfl (by kernel_rfl) ((hget 33 117 (by kernel_rfl)).trans (congrArg some (H 33 (by decide)))) ?_
        have e0 := (hget 34 118 (by kernel_rfl)).trans (congrArg some (H 34 (by decide)))
        have e1 := (hget 35 119 (by kernel_rfl)).trans (congrArg some (H 35 (by decide)))
        clear H hin hout hget
        dsimp only [bare]
        go_wp2_with fail
        refine (less_any _ _ w).mono ?_
        rintro e w1 ⟨rfl, hb⟩
        go_wp2
        exact ⟨_, rfl, shows hR hb.below rfl⟩
      · intro vs a w hR H hin hout hget
        refine one_guard 33 false 117 rfl (by kernel_rfl) ((hget 33 117 (by kernel_rfl)).trans (congrArg some (H 33 (by decide)))) ?_
        have e0 := hout 4 (by kernel_rfl)
        obtain ⟨c0, c1, c2, c3, _⟩ := (b4.laterB hR).four
        rw [k4] at e0
        clear H hin hout hget
        dsimp only [bare]
        go_wp2
        exact ⟨_, rfl, shows0 hR rfl⟩
      · intro vs a w hR H hin hout hget
        refine one_guard 33 false 117 rfl (by kernel_rfl) ((hget 33 117 (by kernel_rfl)).trans (congrArg some (H 33 (by decide)))) ?_
        have e0 := hout 5 (by kernel_rfl)
        obtain ⟨c0, c1, c2, c3, _⟩ := (b5.laterB hR).four
        rw [k5] at e0
        clear H hin hout hget
        dsimp only [bare]
        go_wp2
        exact ⟨_, rfl, shows0 hR rfl⟩
      · intro vs a w hR H hin hout hget
        refine one_guard 33 false 117 rfl (by kernel_rfl) ((hget 33 117 (by kernel_rfl)).trans (congrArg some (H 33 (by decide)))) ?_
        have e0 := (hget 38 122 (by kernel_rfl)).trans (congrArg some (H 38 (by decide)))
        clear H hin hout hget
        dsimp only [bare]
        go_wp2_with fail
        refine (not_any _ w).mono ?_
        rintro e w1 ⟨rfl, hb⟩
        go_wp2
        exact ⟨_, rfl, shows hR hb.below rfl⟩
      · intro vs a w hR H hin hout hget
        refine one_guard 33 false 117 rfl (by kernel_rfl) ((hget 33 117 (by kernel_rfl)).trans (congrArg some (H 33 (by decide)))) ?_
        have e0 := (hget 37 121 (by kernel_rfl)).trans (congrArg some (H 37 (by decide)))
        have e1 := (hget 39 123 (by kernel_rfl)).trans (congrArg some (H 39 (by decide)))
        clear H hin hout hget
        dsimp only [bare]
        go_wp2_with fail
        refine (and_any _ _ w).mono ?_
        rintro e w1 ⟨rfl, hb⟩
        go_wp2
        exact ⟨_, rfl, shows hR hb.below rfl⟩
      · intro vs a w hR H hin hout hget
        refine one_guard 33 false 117 rfl (by kernel_rfl) ((hget 33 117 (by kernel_rfl)).trans (congrArg some (H 33 (by decide)))) ?_
        have e0 := (hget 36 120 (by kernel_rfl)).trans (congrArg some (H 36 (by decide)))
        have e1 := (hget 40 124 (by kernel_rfl)).trans (congrArg some (H 40 (by decide)))
        have HE := neqSame (Sx.less s t) (Sx.and s (Sx.not t)) (Sx.less_lt _ hs) (less_not' hs)
        have HG := guardSetV
        clear H hin hout hget
        dsimp only [bare]
        go_wp2
        exact ⟨_, rfl, shows0 hR rfl⟩
      · intro vs a w hR H hin hout hget
        refine one_free rfl ?_
        have e0 := (hget 33 117 (by kernel_rfl)).trans (congrArg some (H 33 (by decide)))
        have e1 := (hget 41 125 (by kernel_rfl)).trans (congrArg some (H 41 (by decide)))
        clear H hin hout hget
        dsimp only [bare]
        go_wp2
        exact ⟨_, rfl, shows0 hR rfl⟩
    · intro vs w3 hR H
      generalize hA : putAll vs _ 0 _ = B
      have l3 : B.tmps.getD 3 undef = .int .u8 c := by rw [← hA]; exact (putAll_far _ 3 0 vs _ (by decide)).trans k3
      have l4 : B.tmps.getD 4 undef = .pointer (some ⟨w.heap.size, 0, none⟩) := by rw [← hA]; exact (putAll_far _ 4 0 vs _ (by decide)).trans k4
      have l5 : B.tmps.getD 5 undef = .pointer (some ⟨w.heap.size + 1, 0, none⟩) := by rw [← hA]; exact (putAll_far _ 5 0 vs _ (by decide)).trans k5
      have l126 : B.tmps.getD 126 undef = .bool false := by rw [← hA]; exact (putAll_near (n := 199) _ 0 42 vs _ 126 (by kernel_rfl) ksz (by kernel_rfl)).trans (H 42 (by decide))
      have lsz : B.tmps.size = 199 := by rw [← hA]; exact (putAll_size _ 0 vs _).1.trans ksz
      have ld : B.defers = [] := by rw [← hA]; exact (putAll_size _ 0 vs _).2.trans kd
      replace b4 := b4.laterB hR
      replace b5 := b5.laterB hR
      have hB3 := hB2.trans (hR.mono hB2.size)
      clear H hA hR hB2 k3 k4 k5 k83 ksz kd
      go_wp2_with fail
      refine wp_cond_false l126 ?_
      refine wp_skip ?_
      rename_i K0 hK0
      refine hK0 _ _ ?_
      refine wp_seq ?_
      clear hK0
      obtain ⟨p, hp⟩ : ∃ p, p = decide (Sx.less s t = 0) := ⟨_, rfl⟩
      have H28 : ∀ w, Calls Try.prog 28 #[setV s, setV t] w fun e w' => e = .returned (.bool p) ∧ Gr w.heap.size w w' := by rw [hp]; exact within_any s t hs
      have HE1 : ∀ w, (binOp .eql 24 (setV (Sx.or s t)) (setV t)).run Try.prog w = .ok (.bool p) w := fun w => by rw [hp, eqlSet (Sx.or_lt hs ht) ht w, decide_eq_decide.2 (or_eq hs ht)]
      obtain ⟨q, hq⟩ : ∃ q, q = decide (Sx.less s (Sx.not t) = 0) := ⟨_, rfl⟩
      have H28n : ∀ w, Calls Try.prog 28 #[setV s, setV (Sx.not t)] w fun e w' => e = .returned (.bool q) ∧ Gr w.heap.size w w' := by rw [hq]; exact within_any s (Sx.not t) hs
      have H29 : ∀ w, Calls Try.prog 29 #[setV s, setV t] w fun e w' => e = .returned (.bool (!q)) ∧ Gr w.heap.size w w' := by
        have h := meets_any s t hs
        rw [decide_eq_decide.2 (and_eq hs), ← hq] at h
        exact h
      have hsz := size_or_and s t
      have z1 := size_le s
      have z2 := size_le t
      unfold size at hsz z1 z2
      have H301 := fun w => size_any s w
      have H302 := fun w => size_any t w
      have H303 := fun w => size_any (Sx.or s t) w
      have H304 := fun w => size_any (Sx.and s t) w
      generalize (elems s).length = k1 at *
      generalize (elems t).length = k2 at *
      generalize (elems (Sx.or s t)).length = k3 at *
      generalize (elems (Sx.and s t)).length = k4 at *
      obtain ⟨n1, hn1⟩ : ∃ n : Int, (k1 : Int) = n := ⟨_, rfl⟩
      obtain ⟨n2, hn2⟩ : ∃ n : Int, (k2 : Int) = n := ⟨_, rfl⟩
      obtain ⟨n3, hn3⟩ : ∃ n : Int, (k3 : Int) = n := ⟨_, rfl⟩
      obtain ⟨n4, hn4⟩ : ∃ n : Int, (k4 : Int) = n := ⟨_, rfl⟩
      obtain ⟨n5, hn5⟩ : ∃ n : Int, n1 + n2 = n := ⟨_, rfl⟩
      have hn6 : n3 + n4 = n5 := by omega
      have hn7 : 0 ≤ n5 := by omega
      have hn8 : n5 ≤ 512 := by omega
      rw [hn1] at H301
      rw [hn2] at H302
      rw [hn3] at H303
      rw [hn4] at H304
      clear hn1 hn2 hn3 hn4 hsz z1 z2 hp hq
      obtain ⟨r, hr⟩ : ∃ r, r = t.testBit c := ⟨_, rfl⟩
      have H22t : ∀ w, Calls Try.prog 22 #[setV t, .int .u8 c] w fun e w' => e = .returned (.bool r) ∧ Gr w.heap.size w w' := by rw [hr]; exact has_any t c hc
      cases hv : s.testBit c
      · have H22 : ∀ w, Calls Try.prog 22 #[setV s, .int .u8 c] w fun e w' => e = .returned (.bool false) ∧ Gr w.heap.size w w' := by rw [← hv]; exact has_any s c hc
        have H22n : ∀ w, Calls Try.prog 22 #[setV (Sx.not s), .int .u8 c] w fun e w' => e = .returned (.bool true) ∧ Gr w.heap.size w w' := by
          have h := has_any (Sx.not s) c hc
          rw [has_not hc, hv] at h; exact h
        have H22o : ∀ w, Calls Try.prog 22 #[setV (Sx.or s t), .int .u8 c] w fun e w' => e = .returned (.bool r) ∧ Gr w.heap.size w w' := by
          have h := has_any (Sx.or s t) c hc
          rw [Sx.tb_or, hv] at h; rw [hr]; exact h
        have H28o : ∀ w, Calls Try.prog 28 #[setV (Sx.ofL [c]), setV s] w fun e w' => e = .returned (.bool false) ∧ Gr w.heap.size w w' := by
          have h := within_any (Sx.ofL [c]) s (Sx.ofL_lt [c] (by simpa using hc))
          have e : decide (Sx.less (Sx.ofL [c]) s = 0) = false := by
            rw [← hv]
            exact Bool.eq_iff_iff.2 (decide_eq_true_iff.trans (of_within hc))
          rw [e] at h
          exact h
        clear hv hr
        refine wp_region_line 199 [.eq (setV s), .eq (.int .u8 c), .eq (.bool false), .eq (.bool false)] lsz (by kernel_rfl) ?_ ?_
        · refine ⟨?_, ?_, ?_, ?_, trivial⟩
          · intro vs a w hR H hin hout hget
            refine one_free rfl ?_
            have e0 := hout 4 (by kernel_rfl)
            obtain ⟨c0, c1, c2, c3, _⟩ := (b4.laterB hR).four
            rw [l4] at e0
            clear H hin hout hget
            dsimp only [bare]
            go_wp2
            exact ⟨_, rfl, shows0 hR rfl⟩
          · intro vs a w hR H hin hout hget
            refine one_free rfl ?_
            have e0 := hout 3 (by kernel_rfl)
            rw [l3] at e0
            clear H hin hout hget
            dsimp only [bare]
            go_wp2
            exact ⟨_, rfl, shows0 hR rfl⟩
          · intro vs a w hR H hin hout hget
            refine one_free rfl ?_
            have e0 := (hget 0 127 (by kernel_rfl)).trans (congrArg some (H 0 (by decide)))
            have e1 := (hget 1 128 (by kernel_rfl)).trans (congrArg some (H 1 (by decide)))
            clear H hin hout hget
            dsimp only [bare]
            go_wp2_with fail
            refine (H22 w).mono ?_
            rintro e w1 ⟨rfl, hb⟩
            go_wp2
            exact ⟨_, rfl, shows hR hb.below rfl⟩
          · intro vs a w hR H hin hout hget
            refine one_free rfl ?_
            have e0 := (hget 2 129 (by kernel_rfl)).trans (congrArg some (H 2 (by decide)))
            clear H hin hout hget
            dsimp only [bare]
            go_wp2
            exact ⟨_, rfl, shows0 hR rfl⟩
        · intro vs w4 hR H
          generalize hA : putAll vs _ 0 _ = C
          have m3 : C.tmps.getD 3 undef = .int .u8 c := by rw [← hA]; exact (putAll_far _ 3 0 vs _ (by decide)).trans l3
          have m4 : C.tmps.getD 4 undef = .pointer (some ⟨w.heap.size, 0, none⟩) := by rw [← hA]; exact (putAll_far _ 4 0 vs _ (by decide)).trans l4
          have m5 : C.tmps.getD 5 undef = .pointer (some ⟨w.heap.size + 1, 0, none⟩) := by rw [← hA]; exact (putAll_far _ 5 0 vs _ (by decide)).trans l5
          have m9 : C.tmps.getD 9 undef = .bool false := by rw [← hA]; exact (putAll_near (n := 199) _ 0 3 vs _ 9 (by kernel_rfl) lsz (by kernel_rfl)).trans (H 3 (by decide))
          have msz : C.tmps.size = 199 := by rw [← hA]; exact (putAll_size _ 0 vs _).1.trans lsz
          have md : C.defers = [] := by rw [← hA]; exact (putAll_size _ 0 vs _).2.trans ld
          replace b4 := b4.laterB hR
          replace b5 := b5.laterB hR
          have hB4 := hB3.trans (hR.mono hB3.size)
          clear H hA hR hB3 l3 l4 l5 l126 lsz ld H22
          go_wp2_with fail
          refine wp_region_facts 199 [.eq (setV s), .eq (setV t), .eq (.bool p), .eq (setV s), .eq (setV t), .eq (setV (Sx.or s t)), .eq (setV t), .eq (.bool p), .eq (.bool true), .eq (.bool true), .eq (setV s), .eq (setV t), .eq (.bool (!q)), .eq (setV s), .eq (setV t), .eq (setV (Sx.not t)), .eq (.bool q), .eq (.bool (!q)), .eq (.bool true), .eq (.bool true), .eq (.bool true), .eq (setV s), .eq (.int .i64 n1), .eq (setV t), .eq (.int .i64 n2), .eq (.int .i64 n5), .eq (setV s), .eq (setV t), .eq (setV (Sx.or s t)), .eq (.int .i64 n3), .eq (setV s), .eq (setV t), .eq (setV (Sx.and s t)), .eq (.int .i64 n4), .eq (.int .i64 n5), .eq (.bool true), .eq (.bool true), .eq (.bool true), .eq (setV s), .eq (setV (Sx.not s)), .eq (.int .u8 c), .eq (.bool true), .eq (.bool false), .eq (.bool true), .eq (.bool true), .eq (.bool true), .eq (.bool true), .eq (.int .u8 c), .sl 1 1 ([c].map byteV), .eq (setV (Sx.ofL [c])), .eq (setV s), .eq (.bool false), .eq (.bool false), .eq (.bool true), .eq (.bool true), .eq (.bool true), .eq (setV s), .eq (setV t), .eq (setV (Sx.or s t)), .eq (.int .u8 c), .eq (.bool r), .eq (.bool false), .eq (.bool false), .eq (setV t), .eq (.int .u8 c), .eq (.bool r), .eq (.bool r), .eq (.bool true), .eq (.bool true), .eq (.bool true)] mixed msz (by kernel_rfl) ?_ ?_
          · refine ⟨?_, ?_, ?_, ?_, ?_, ?_, ?_, ?_, ?_, ?_, ?_, ?_, ?_, ?_, ?_, ?_, ?_, ?_, ?_, ?_, ?_, ?_, ?_, ?_, ?_, ?_, ?_, ?_, ?_, ?_, ?_, ?_, ?_, ?_, ?_, ?_, ?_, ?_, ?_, ?_, ?_, ?_, ?_, ?_, ?_, ?_, ?_, ?_, ?_, ?_, ?_, ?_, ?_, ?_, ?_, ?_, ?_, ?_, ?_, ?_, ?_, ?_, ?_, ?_, ?_, ?_, ?_, ?_, ?_, ?_, trivial⟩
            · intro vs a w hR H hin hout hget
              refine one_free rfl ?_
              have e0 := hout 4 (by kernel_rfl)
              obtain ⟨c0, c1, c2, c3, _⟩ := (b4.laterB hR).four
              rw [m4] at e0
              clear H hin hout hget
              dsimp only [bare]
              go_wp2
              exact ⟨_, rfl, shows0 hR rfl⟩
            · intro vs a w hR H hin hout hget
              refine one_free rfl ?_
              have e0 := hout 5 (by kernel_rfl)
              obtain ⟨c0, c1, c2, c3, _⟩ := (b5.laterB hR).four
              rw [m5] at e0
              clear H hin hout hget
              dsimp only [bare]
              go_wp2
              exact ⟨_, rfl, shows0 hR rfl⟩
            · intro vs a w hR H hin hout hget
              refine one_free rfl ?_
              have e0 := (hget 0 130 (by kernel_rfl)).trans (congrArg some (H 0 (by decide)))
              have e1 := (hget 1 131 (by kernel_rfl)).trans (congrArg some (H 1 (by decide)))
              clear H hin hout hget
              dsimp only [bare]
              go_wp2_with fail
              refine (H28 w).mono ?_
              rintro e w1 ⟨rfl, hb⟩
              go_wp2
              exact ⟨_, rfl, shows hR hb.below rfl⟩
            · intro vs a w hR H hin hout hget
              refine one_free rfl ?_
              have e0 := hout 4 (by kernel_rfl)
              obtain ⟨c0, c1, c2, c3, _⟩ := (b4.laterB hR).four
              rw [m4] at e0
              clear H hin hout hget
              dsimp only [bare]
              go_wp2
              exact ⟨_, rfl, shows0 hR rfl⟩
            · intro vs a w hR H hin hout hget
              refine one_free rfl ?_
              have e0 := hout 5 (by kernel_rfl)
              obtain ⟨c0, c1, c2, c3, _⟩ := (b5.laterB hR).four
              rw [m5] at e0
              clear H hin hout hget
              dsimp only [bare]
              go_wp2
              exact ⟨_, rfl, shows0 hR rfl⟩
            · intro vs a w hR H hin hout hget
              refine one_free rfl ?_
              have e0 := (hget 3 133 (by kernel_rfl)).trans (congrArg some (H 3 (by decide)))
              have e1 := (hget 4 134 (by kernel_rfl)).trans (congrArg some (H 4 (by decide)))
              clear H hin hout hget
              dsimp only [bare]
              go_wp2_with fail
              refine (or_any _ _ w).mono ?_
              rintro e w1 ⟨rfl, hb⟩
              go_wp2
              exact ⟨_, rfl, shows hR hb.below rfl⟩
            · intro vs a w hR H hin hout hget
              refine one_free rfl ?_
              have e0 := hout 5 (by kernel_rfl)
              obtain ⟨c0, c1, c2, c3, _⟩ := (b5.laterB hR).four
              rw [m5] at e0
              clear H hin hout hget
              dsimp only [bare]
              go_wp2
              exact ⟨_, rfl, shows0 hR rfl⟩
            · intro vs a w hR H hin hout hget
              refine one_free rfl ?_
              have e0 := (hget 5 135 (by kernel_rfl)).trans (congrArg some (H 5 (by decide)))
              have e1 := (hget 6 136 (by kernel_rfl)).trans (congrArg some (H 6 (by decide)))
              have HE := HE1
              have HG := guardSetV
              clear H hin hout hget
              dsimp only [bare]
              go_wp2
              exact ⟨_, rfl, shows0 hR rfl⟩
            · intro vs a w hR H hin hout hget
              refine one_free rfl ?_
              have e0 := (hget 2 132 (by kernel_rfl)).trans (congrArg some (H 2 (by decide)))
              have e1 := (hget 7 137 (by kernel_rfl)).trans (congrArg some (H 7 (by decide)))
              clear H hin hout hget
              dsimp only [bare]
              go_wp2
              exact ⟨_, rfl, shows0 hR rfl⟩
            · intro vs a w hR H hin hout hget
              refine one_free rfl ?_
              have e0 := (hget 8 138 (by kernel_rfl)).trans (congrArg some (H 8 (by decide)))
              clear H hin hout hget
              dsimp only [bare]
              go_wp2
              exact ⟨_, rfl, shows0 hR rfl⟩
            · intro vs a w hR H hin hout hget
              refine one_guard 9 true 139 rfl (by kernel_rfl) ((hget 9 139 (by kernel_rfl)).trans (congrArg some (H 9 (by decide)))) ?_
              have e0 := hout 4 (by kernel_rfl)
              obtain ⟨c0, c1, c2, c3, _⟩ := (b4.laterB hR).four
              rw [m4] at e0
              clear H hin hout hget
              dsimp only [bare]
              go_wp2
              exact ⟨_, rfl, shows0 hR rfl⟩
            · intro vs a w hR H hin hout hget
              refine one_guard 9 true 139 rfl (by kernel_rfl) ((hget 9 139 (by kernel_rfl)).trans (congrArg some (H 9 (by decide)))) ?_
              have e0 := hout 5 (by kernel_rfl)
              obtain ⟨c0, c1, c2, c3, _⟩ := (b5.laterB hR).four
              rw [m5] at e0
              clear H hin hout hget
              dsimp only [bare]
              go_wp2
              exact ⟨_, rfl, shows0 hR rfl⟩
            · intro vs a w hR H hin hout hget
              refine one_guard 9 true 139 rfl (by kernel_rfl) ((hget 9 139 (by kernel_rfl)).trans (congrArg some (H 9 (by decide)))) ?_
              have e0 := (hget 10 140 (by kernel_rfl)).trans (congrArg some (H 10 (by decide)))
              have e1 := (hget 11 141 (by kernel_rfl)).trans (congrArg some (H 11 (by decide)))
              clear H hin hout hget
              dsimp only [bare]
              go_wp2_with fail
              refine (H29 w).mono ?_
              rintro e w1 ⟨rfl, hb⟩
              go_wp2
              exact ⟨_, rfl, shows hR hb.below rfl⟩
            · intro vs a w hR H hin hout hget
              refine one_guard 9 true 139 rfl (by kernel_rfl) ((hget 9 139 (by kernel_rfl)).trans (congrArg some (H 9 (by decide)))) ?_
              have e0 := hout 4 (by kernel_rfl)
              obtain ⟨c0, c1, c2, c3, _⟩ := (b4.laterB hR).four
              rw [m4] at e0
              clear H hin hout hget
              dsimp only [bare]
              go_wp2
              exact ⟨_, rfl, shows0 hR rfl⟩
            · intro vs a w hR H hin hout hget
              refine one_guard 9 true 139 rfl (by kernel_rfl) ((hget 9 139 (by kernel_rfl)).trans (congrArg some (H 9 (by decide)))) ?_
              have e0 := hout 5 (by kernel_rfl)
              obtain ⟨c0, c1, c2, c3, _⟩ := (b5.laterB hR).four
              rw [m5] at e0
              clear H hin hout hget
              dsimp only [bare]
              go_wp2
              exact ⟨_, rfl, shows0 hR rfl⟩
            · intro vs a w hR H hin hout hget
              refine one_guard 9 true 139 rfl (by kernel_rfl) ((hget 9 139 (by kernel_rfl)).trans (congrArg some (H 9 (by decide)))) ?_
              have e0 := (hget 14 144 (by kernel_rfl)).trans (congrArg some (H 14 (by decide)))
              clear H hin hout hget
              dsimp only [bare]
              go_wp2_with fail
              refine (not_any _ w).mono ?_
              rintro e w1 ⟨rfl, hb⟩
              go_wp2
              exact ⟨_, rfl, shows hR hb.below rfl⟩
            · intro vs a w hR H hin hout hget
              refine one_guard 9 true 139 rfl (by kernel_rfl) ((hget 9 139 (by kernel_rfl)).trans (congrArg some (H 9 (by decide)))) ?_
              have e0 := (hget 13 143 (by kernel_rfl)).trans (congrArg some (H 13 (by decide)))
              have e1 := (hget 15 145 (by kernel_rfl)).trans (congrArg some (H 15 (by decide)))
              clear H hin hout hget
              dsimp only [bare]
              go_wp2_with fail
              refine (H28n w).mono ?_
              rintro e w1 ⟨rfl, hb⟩
              go_wp2
              exact ⟨_, rfl, shows hR hb.below rfl⟩
            · intro vs a w hR H hin hout hget
              refine one_guard 9 true 139 rfl (by kernel_rfl) ((hget 9 139 (by kernel_rfl)).trans (congrArg some (H 9 (by decide)))) ?_
              have e0 := (hget 16 146 (by kernel_rfl)).trans (congrArg some (H 16 (by decide)))
              clear H hin hout hget
              dsimp only [bare]
              go_wp2
              exact ⟨_, rfl, shows0 hR rfl⟩
            · intro vs a w hR H hin hout hget
              refine one_guard 9 true 139 rfl (by kernel_rfl) ((hget 9 139 (by kernel_rfl)).trans (congrArg some (H 9 (by decide)))) ?_
              have e0 := (hget 12 142 (by kernel_rfl)).trans (congrArg some (H 12 (by decide)))
              have e1 := (hget 17 147 (by kernel_rfl)).trans (congrArg some (H 17 (by decide)))
              clear H hin hout hget
              dsimp only [bare]
              go_wp2
              exact ⟨_, rfl, shows0 hR rfl⟩
            · intro vs a w hR H hin hout hget
              refine one_free rfl ?_
              have e0 := (hget 9 139 (by kernel_rfl)).trans (congrArg some (H 9 (by decide)))
              have e1 := (hget 18 148 (by kernel_rfl)).trans (congrArg some (H 18 (by decide)))
              clear H hin hout hget
              dsimp only [bare]
              go_wp2
              exact ⟨_, rfl, shows0 hR rfl⟩
            · intro vs a w hR H hin hout hget
              refine one_free rfl ?_
              have e0 := (hget 19 149 (by kernel_rfl)).trans (congrArg some (H 19 (by decide)))
              clear H hin hout hget
              dsimp only [bare]
              go_wp2
              exact ⟨_, rfl, shows0 hR rfl⟩
            · intro vs a w hR H hin hout hget
              refine one_guard 20 true 150 rfl (by kernel_rfl) ((hget 20 150 (by kernel_rfl)).trans (congrArg some (H 20 (by decide)))) ?_
              have e0 := hout 4 (by kernel_rfl)
              obtain ⟨c0, c1, c2, c3, _⟩ := (b4.laterB hR).four
              rw [m4] at e0
              clear H hin hout hget
              dsimp only [bare]
              go_wp2
              exact ⟨_, rfl, shows0 hR rfl⟩
            · intro vs a w hR H hin hout hget
              refine one_guard 20 true 150 rfl (by kernel_rfl) ((hget 20 150 (by kernel_rfl)).trans (congrArg some (H 20 (by decide)))) ?_
              have e0 := (hget 21 151 (by kernel_rfl)).trans (congrArg some (H 21 (by decide)))
              clear H hin hout hget
              dsimp only [bare]
              go_wp2_with fail
              refine (H301 w).mono ?_
              rintro e w1 ⟨rfl, hb⟩
              go_wp2
              exact ⟨_, rfl, shows hR hb.below rfl⟩
            · intro vs a w hR H hin hout hget
              refine one_guard 20 true 150 rfl (by kernel_rfl) ((hget 20 150 (by kernel_rfl)).trans (congrArg some (H 20 (by decide)))) ?_
              have e0 := hout 5 (by kernel_rfl)
              obtain ⟨c0, c1, c2, c3, _⟩ := (b5.laterB hR).four
              rw [m5] at e0
              clear H hin hout hget
              dsimp only [bare]
              go_wp2
              exact ⟨_, rfl, shows0 hR rfl⟩
            · intro vs a w hR H hin hout hget
              refine one_guard 20 true 150 rfl (by kernel_rfl) ((hget 20 150 (by kernel_rfl)).trans (congrArg some (H 20 (by decide)))) ?_
              have e0 := (hget 23 153 (by kernel_rfl)).trans (congrArg some (H 23 (by decide)))
              clear H hin hout hget
              dsimp only [bare]
              go_wp2_with fail
              refine (H302 w).mono ?_
              rintro e w1 ⟨rfl, hb⟩
              go_wp2
              exact ⟨_, rfl, shows hR hb.below rfl⟩
            · intro vs a w hR H hin hout hget
              refine one_guard 20 true 150 rfl (by kernel_rfl) ((hget 20 150 (by kernel_rfl)).trans (congrArg some (H 20 (by decide)))) ?_
              have e0 := (hget 22 152 (by kernel_rfl)).trans (congrArg some (H 22 (by decide)))
              have e1 := (hget 24 154 (by kernel_rfl)).trans (congrArg some (H 24 (by decide)))
              clear H hin hout hget
              dsimp only [bare]
              go_wp2
              exact ⟨_, rfl, shows0 hR rfl⟩
            · intro vs a w hR H hin hout hget
              refine one_guard 20 true 150 rfl (by kernel_rfl) ((hget 20 150 (by kernel_rfl)).trans (congrArg some (H 20 (by decide)))) ?_
              have e0 := hout 4 (by kernel_rfl)
              obtain ⟨c0, c1, c2, c3, _⟩ := (b4.laterB hR).four
              rw [m4] at e0
              clear H hin hout hget
              dsimp only [bare]
              go_wp2
              exact ⟨_, rfl, shows0 hR rfl⟩
            · intro vs a w hR H hin hout hget
              refine one_guard 20 true 150 rfl (by kernel_rfl) ((hget 20 150 (by kernel_rfl)).trans (congrArg some (H 20 (by decide)))) ?_
              have e0 := hout 5 (by kernel_rfl)
              obtain ⟨c0, c1, c2, c3, _⟩ := (b5.laterB hR).four
              rw [m5] at e0
              clear H hin hout hget
              dsimp only [bare]
              go_wp2
              exact ⟨_, rfl, shows0 hR rfl⟩
            · intro vs a w hR H hin hout hget
              refine one_guard 20 true 150 rfl (by kernel_rfl) ((hget 20 150 (by kernel_rfl)).trans (congrArg some (H 20 (by decide)))) ?_
              have e0 := (hget 26 156 (by kernel_rfl)).trans (congrArg some (H 26 (by decide)))
              have e1 := (hget 27 157 (by kernel_rfl)).trans (congrArg some (H 27 (by decide)))
              clear H hin hout hget
              dsimp only [bare]
              go_wp2_with fail
              refine (or_any _ _ w).mono ?_
              rintro e w1 ⟨rfl, hb⟩
              go_wp2
              exact ⟨_, rfl, shows hR hb.below rfl⟩
            · intro vs a w hR H hin hout hget
              refine one_guard 20 true 150 rfl (by kernel_rfl) ((hget 20 150 (by kernel_rfl)).trans (congrArg some (H 20 (by decide)))) ?_
              have e0 := (hget 28 158 (by kernel_rfl)).trans (congrArg some (H 28 (by decide)))
              clear H hin hout hget
              dsimp only [bare]
              go_wp2_with fail
              refine (H303 w).mono ?_
              rintro e w1 ⟨rfl, hb⟩
              go_wp2
              exact ⟨_, rfl, shows hR hb.below rfl⟩
            · intro vs a w hR H hin hout hget
              refine one_guard 20 true 150 rfl (by kernel_rfl) ((hget 20 150 (by kernel_rfl)).trans (congrArg some (H 20 (by decide)))) ?_
              have e0 := hout 4 (by kernel_rfl)
              obtain ⟨c0, c1, c2, c3, _⟩ := (b4.laterB hR).four
              rw [m4] at e0
              clear H hin hout hget
              dsimp only [bare]
              go_wp2
              exact ⟨_, rfl, shows0 hR rfl⟩
            · intro vs a w hR H hin hout hget
              refine one_guard 20 true 150 rfl (by kernel_rfl) ((hget 20 150 (by kernel_rfl)).trans (congrArg some (H 20 (by decide)))) ?_
              have e0 := hout 5 (by kernel_rfl)
              obtain ⟨c0, c1, c2, c3, _⟩ := (b5.laterB hR).four
              rw [m5] at e0
              clear H hin hout hget
              dsimp only [bare]
              go_wp2
              exact ⟨_, rfl, shows0 hR rfl⟩
            · intro vs a w hR H hin hout hget
              refine one_guard 20 true 150 rfl (by kernel_rfl) ((hget 20 150 (by kernel_rfl)).trans (congrArg some (H 20 (by decide)))) ?_
              have e0 := (hget 30 160 (by kernel_rfl)).trans (congrArg some (H 30 (by decide)))
              have e1 := (hget 31 161 (by kernel_rfl)).trans (congrArg some (H 31 (by decide)))
              clear H hin hout hget
              dsimp only [bare]
              go_wp2_with fail
              refine (and_any _ _ w).mono ?_
              rintro e w1 ⟨rfl, hb⟩
              go_wp2
              exact ⟨_, rfl, shows hR hb.below rfl⟩
            · intro vs a w hR H hin hout hget
              refine one_guard 20 true 150 rfl (by kernel_rfl) ((hget 20 150 (by kernel_rfl)).trans (congrArg some (H 20 (by decide)))) ?_
              have e0 := (hget 32 162 (by kernel_rfl)).trans (congrArg some (H 32 (by decide)))
              clear H hin hout hget
              dsimp only [bare]
              go_wp2_with fail
              refine (H304 w).mono ?_
              rintro e w1 ⟨rfl, hb⟩
              go_wp2
              exact ⟨_, rfl, shows hR hb.below rfl⟩
            · intro vs a w hR H hin hout hget
              refine one_guard 20 true 150 rfl (by kernel_rfl) ((hget 20 150 (by kernel_rfl)).trans (congrArg some (H 20 (by decide)))) ?_
              have e0 := (hget 29 159 (by kernel_rfl)).trans (congrArg some (H 29 (by decide)))
              have e1 := (hget 33 163 (by kernel_rfl)).trans (congrArg some (H 33 (by decide)))
              clear H hin hout hget
              dsimp only [bare]
              go_wp2
              exact ⟨_, rfl, shows0 hR rfl⟩
            · intro vs a w hR H hin hout hget
              refine one_guard 20 true 150 rfl (by kernel_rfl) ((hget 20 150 (by kernel_rfl)).trans (congrArg some (H 20 (by decide)))) ?_
              have e0 := (hget 25 155 (by kernel_rfl)).trans (congrArg some (H 25 (by decide)))
              have e1 := (hget 34 164 (by kernel_rfl)).trans (congrArg some (H 34 (by decide)))
              clear H hin hout hget
              dsimp only [bare]
              go_wp2
              exact ⟨_, rfl, shows0 hR rfl⟩
            · intro vs a w hR H hin hout hget
              refine one_free rfl ?_
              have e0 := (hget 20 150 (by kernel_rfl)).trans (congrArg some (H 20 (by decide)))
              have e1 := (hget 35 165 (by kernel_rfl)).trans (congrArg some (H 35 (by decide)))
              clear H hin hout hget
              dsimp only [bare]
              go_wp2
              exact ⟨_, rfl, shows0 hR rfl⟩
            · intro vs a w hR H hin hout hget
              refine one_free rfl ?_
              have e0 := (hget 36 166 (by kernel_rfl)).trans (congrArg some (H 36 (by decide)))
              clear H hin hout hget
              dsimp only [bare]
              go_wp2
              exact ⟨_, rfl, shows0 hR rfl⟩
            · intro vs a w hR H hin hout hget
              refine one_guard 37 true 167 rfl (by kernel_rfl) ((hget 37 167 (by kernel_rfl)).trans (congrArg some (H 37 (by decide)))) ?_
              have e0 := hout 4 (by kernel_rfl)
              obtain ⟨c0, c1, c2, c3, _⟩ := (b4.laterB hR).four
              rw [m4] at e0
              clear H hin hout hget
              dsimp only [bare]
              go_wp2
              exact ⟨_, rfl, shows0 hR rfl⟩
            · intro vs a w hR H hin hout hget
              refine one_guard 37 true 167 rfl (by kernel_rfl) ((hget 37 167 (by kernel_rfl)).trans (congrArg some (H 37 (by decide)))) ?_
              have e0 := (hget 38 168 (by kernel_rfl)).trans (congrArg some (H 38 (by decide)))
              clear H hin hout hget
              dsimp only [bare]
              go_wp2_with fail
              refine (not_any _ w).mono ?_
              rintro e w1 ⟨rfl, hb⟩
              go_wp2
              exact ⟨_, rfl, shows hR hb.below rfl⟩
            · intro vs a w hR H hin hout hget
              refine one_guard 37 true 167 rfl (by kernel_rfl) ((hget 37 167 (by kernel_rfl)).trans (congrArg some (H 37 (by decide)))) ?_
              have e0 := hout 3 (by kernel_rfl)
              rw [m3] at e0
              clear H hin hout hget
              dsimp only [bare]
              go_wp2
              exact ⟨_, rfl, shows0 hR rfl⟩
            · intro vs a w hR H hin hout hget
              refine one_guard 37 true 167 rfl (by kernel_rfl) ((hget 37 167 (by kernel_rfl)).trans (congrArg some (H 37 (by decide)))) ?_
              have e0 := (hget 39 169 (by kernel_rfl)).trans (congrArg some (H 39 (by decide)))
              have e1 := (hget 40 170 (by kernel_rfl)).trans (congrArg some (H 40 (by decide)))
              clear H hin hout hget
              dsimp only [bare]
              go_wp2_with fail
              refine (H22n w).mono ?_
              rintro e w1 ⟨rfl, hb⟩
              go_wp2
              exact ⟨_, rfl, shows hR hb.below rfl⟩
            · intro vs a w hR H hin hout hget
              refine one_guard 37 true 167 rfl (by kernel_rfl) ((hget 37 167 (by kernel_rfl)).trans (congrArg some (H 37 (by decide)))) ?_
              have e0 := hout 9 (by kernel_rfl)
              rw [m9] at e0
              clear H hin hout hget
              dsimp only [bare]
              go_wp2
              exact ⟨_, rfl, shows0 hR rfl⟩
            · intro vs a w hR H hin hout hget
              refine one_guard 37 true 167 rfl (by kernel_rfl) ((hget 37 167 (by kernel_rfl)).trans (congrArg some (H 37 (by decide)))) ?_
              have e0 := (hget 42 172 (by kernel_rfl)).trans (congrArg some (H 42 (by decide)))
              clear H hin hout hget
              dsimp only [bare]
              go_wp2
              exact ⟨_, rfl, shows0 hR rfl⟩
            · intro vs a w hR H hin hout hget
              refine one_guard 37 true 167 rfl (by kernel_rfl) ((hget 37 167 (by kernel_rfl)).trans (congrArg some (H 37 (by decide)))) ?_
              have e0 := (hget 41 171 (by kernel_rfl)).trans (congrArg some (H 41 (by decide)))
              have e1 := (hget 43 173 (by kernel_rfl)).trans (congrArg some (H 43 (by decide)))
              clear H hin hout hget
              dsimp only [bare]
              go_wp2
              exact ⟨_, rfl, shows0 hR rfl⟩
            · intro vs a w hR H hin hout hget
              refine one_free rfl ?_
              have e0 := (hget 37 167 (by kernel_rfl)).trans (congrArg some (H 37 (by decide)))
              have e1 := (hget 44 174 (by kernel_rfl)).trans (congrArg some (H 44 (by decide)))
              clear H hin hout hget
              dsimp only [bare]
              go_wp2
              exact ⟨_, rfl, shows0 hR rfl⟩
            · intro vs a w hR H hin hout hget
              refine one_free rfl ?_
              have e0 := (hget 45 175 (by kernel_rfl)).trans (congrArg some (H 45 (by decide)))
              clear H hin hout hget
              dsimp only [bare]
              go_wp2
              exact ⟨_, rfl, shows0 hR rfl⟩
            · intro vs a w hR H hin hout hget
              refine one_guard 46 true 176 rfl (by kernel_rfl) ((hget 46 176 (by kernel_rfl)).trans (congrArg some (H 46 (by decide)))) ?_
              have e0 := hout 3 (by kernel_rfl)
              rw [m3] at e0
              clear H hin hout hget
              dsimp only [bare]
              go_wp2
              exact ⟨_, rfl, shows0 hR rfl⟩
            · intro vs a w hR H hin hout hget
              refine one_guard 46 true 176 rfl (by kernel_rfl) ((hget 46 176 (by kernel_rfl)).trans (congrArg some (H 46 (by decide)))) ?_
              have e0 := (hget 47 177 (by kernel_rfl)).trans (congrArg some (H 47 (by decide)))
              clear H hin hout hget
              dsimp only [bare]
              go_wp2
              exact ⟨_, rfl, shows hR (below1 w _) (slN_new w _ _ _ _ _ rfl)⟩
            · intro vs a w hR H hin hout hget
              refine one_guard 46 true 176 rfl (by kernel_rfl) ((hget 46 176 (by kernel_rfl)).trans (congrArg some (H 46 (by decide)))) ?_
              obtain ⟨b0, o0, cap0, h0, lt0, c0⟩ := H 48 (by decide)
              have e0 := (hget 48 178 (by kernel_rfl)).trans (congrArg some h0)
              clear H hin hout hget
              dsimp only [bare]
              go_wp2_with fail
              refine (of_any _ [c] (by simpa using hc) w ⟨rfl, .inr ⟨_, _, _, rfl, lt0, c0⟩⟩ (show 1 ≤ maxLen by decide)).mono ?_
              rintro e w1 ⟨rfl, hb⟩
              go_wp2
              exact ⟨_, rfl, shows hR hb.below rfl⟩
            · intro vs a w hR H hin hout hget
              refine one_guard 46 true 176 rfl (by kernel_rfl) ((hget 46 176 (by kernel_rfl)).trans (congrArg some (H 46 (by decide)))) ?_
              have e0 := hout 4 (by kernel_rfl)
              obtain ⟨c0, c1, c2, c3, _⟩ := (b4.laterB hR).four
              rw [m4] at e0
              clear H hin hout hget
              dsimp only [bare]
              go_wp2
              exact ⟨_, rfl, shows0 hR rfl⟩
            · intro vs a w hR H hin hout hget
              refine one_guard 46 true 176 rfl (by kernel_rfl) ((hget 46 176 (by kernel_rfl)).trans (congrArg some (H 46 (by decide)))) ?_
              have e0 := (hget 49 179 (by kernel_rfl)).trans (congrArg some (H 49 (by decide)))
              have e1 := (hget 50 180 (by kernel_rfl)).trans (congrArg some (H 50 (by decide)))
              clear H hin hout hget
              dsimp only [bare]
              go_wp2_with fail
              refine (H28o w).mono ?_
              rintro e w1 ⟨rfl, hb⟩
              go_wp2
              exact ⟨_, rfl, shows hR hb.below rfl⟩
            · intro vs a w hR H hin hout hget
              refine one_guard 46 true 176 rfl (by kernel_rfl) ((hget 46 176 (by kernel_rfl)).trans (congrArg some (H 46 (by decide)))) ?_
              have e0 := hout 9 (by kernel_rfl)
              rw [m9] at e0
              clear H hin hout hget
              dsimp only [bare]
              go_wp2
              exact ⟨_, rfl, shows0 hR rfl⟩
            · intro vs a w hR H hin hout hget
              refine one_guard 46 true 176 rfl (by kernel_rfl) ((hget 46 176 (by kernel_rfl)).trans (congrArg some (H 46 (by decide)))) ?_
              have e0 := (hget 51 181 (by kernel_rfl)).trans (congrArg some (H 51 (by decide)))
              have e1 := (hget 52 182 (by kernel_rfl)).trans (congrArg some (H 52 (by decide)))
              clear H hin hout hget
              dsimp only [bare]
              go_wp2
              exact ⟨_, rfl, shows0 hR rfl⟩
            · intro vs a w hR H hin hout hget
              refine one_free rfl ?_
              have e0 := (hget 46 176 (by kernel_rfl)).trans (congrArg some (H 46 (by decide)))
              have e1 := (hget 53 183 (by kernel_rfl)).trans (congrArg some (H 53 (by decide)))
              clear H hin hout hget
              dsimp only [bare]
              go_wp2
              exact ⟨_, rfl, shows0 hR rfl⟩
            · intro vs a w hR H hin hout hget
              refine one_free rfl ?_
              have e0 := (hget 54 184 (by kernel_rfl)).trans (congrArg some (H 54 (by decide)))
              clear H hin hout hget
              dsimp only [bare]
              go_wp2
              exact ⟨_, rfl, shows0 hR rfl⟩
            · intro vs a w hR H hin hout hget
              refine one_guard 55 true 185 rfl (by kernel_rfl) ((hget 55 185 (by kernel_rfl)).trans (congrArg some (H 55 (by decide)))) ?_
              have e0 := hout 4 (by kernel_rfl)
              obtain ⟨c0, c1, c2, c3, _⟩ := (b4.laterB hR).four
              rw [m4] at e0
              clear H hin hout hget
              dsimp only [bare]
              go_wp2
              exact ⟨_, rfl, shows0 hR rfl⟩
            · intro vs a w hR H hin hout hget
              refine one_guard 55 true 185 rfl (by kernel_rfl) ((hget 55 185 (by kernel_rfl)).trans (congrArg some (H 55 (by decide)))) ?_
              have e0 := hout 5 (by kernel_rfl)
              obtain ⟨c0, c1, c2, c3, _⟩ := (b5.laterB hR).four
              rw [m5] at e0
              clear H hin hout hget
              dsimp only [bare]
              go_wp2
              exact ⟨_, rfl, shows0 hR rfl⟩
            · intro vs a w hR H hin hout hget
              refine one_guard 55 true 185 rfl (by kernel_rfl) ((hget 55 185 (by kernel_rfl)).trans (congrArg some (H 55 (by decide)))) ?_
              have e0 := (hget 56 186 (by kernel_rfl)).trans (congrArg some (H 56 (by decide)))
              have e1 := (hget 57 187 (by kernel_rfl)).trans (congrArg some (H 57 (by decide)))
              clear H hin hout hget
              dsimp only [bare]
              go_wp2_with fail
              refine (or_any _ _ w).mono ?_
              rintro e w1 ⟨rfl, hb⟩
              go_wp2
              exact ⟨_, rfl, shows hR hb.below rfl⟩
            · intro vs a w hR H hin hout hget
              refine one_guard 55 true 185 rfl (by kernel_rfl) ((hget 55 185 (by kernel_rfl)).trans (congrArg some (H 55 (by decide)))) ?_
              have e0 := hout 3 (by kernel_rfl)
              rw [m3] at e0
              clear H hin hout hget
              dsimp only [bare]
              go_wp2
              exact ⟨_, rfl, shows0 hR rfl⟩
            · intro vs a w hR H hin hout hget
              refine one_guard 55 true 185 rfl (by kernel_rfl) ((hget 55 185 (by kernel_rfl)).trans (congrArg some (H 55 (by decide)))) ?_
              have e0 := (hget 58 188 (by kernel_rfl)).trans (congrArg some (H 58 (by decide)))
              have e1 := (hget 59 189 (by kernel_rfl)).trans (congrArg some (H 59 (by decide)))
              clear H hin hout hget
              dsimp only [bare]
              go_wp2_with fail
              refine (H22o w).mono ?_
              rintro e w1 ⟨rfl, hb⟩
              go_wp2
              exact ⟨_, rfl, shows hR hb.below rfl⟩
            · intro vs a w hR H hin hout hget
              refine one_guard 55 true 185 rfl (by kernel_rfl) ((hget 55 185 (by kernel_rfl)).trans (congrArg some (H 55 (by decide)))) ?_
              have e0 := hout 9 (by kernel_rfl)
              rw [m9] at e0
              clear H hin hout hget
              dsimp only [bare]
              go_wp2
              exact ⟨_, rfl, shows0 hR rfl⟩
            · intro vs a w hR H hin hout hget
              refine one_guard 55 true 185 rfl (by kernel_rfl) ((hget 55 185 (by kernel_rfl)).trans (congrArg some (H 55 (by decide)))) ?_
              have e0 := (hget 61 191 (by kernel_rfl)).trans (congrArg some (H 61 (by decide)))
              clear H hin hout hget
              dsimp only [bare]
              go_wp2
              exact ⟨_, rfl, shows0 hR rfl⟩
            · intro vs a w hR H hin hout hget
              refine one_guard 62 false 192 rfl (by kernel_rfl) ((hget 62 192 (by kernel_rfl)).trans (congrArg some (H 62 (by decide)))) ?_
              have e0 := hout 5 (by kernel_rfl)
              obtain ⟨c0, c1, c2, c3, _⟩ := (b5.laterB hR).four
              rw [m5] at e0
              clear H hin hout hget
              dsimp only [bare]
              go_wp2
              exact ⟨_, rfl, shows0 hR rfl⟩
            · intro vs a w hR H hin hout hget
              refine one_guard 62 false 192 rfl (by kernel_rfl) ((hget 62 192 (by kernel_rfl)).trans (congrArg some (H 62 (by decide)))) ?_
              have e0 := hout 3 (by kernel_rfl)
              rw [m3] at e0
              clear H hin hout hget
              dsimp only [bare]
              go_wp2
              exact ⟨_, rfl, shows0 hR rfl⟩
            · intro vs a w hR H hin hout hget
              refine one_guard 62 false 192 rfl (by kernel_rfl) ((hget 62 192 (by kernel_rfl)).trans (congrArg some (H 62 (by decide)))) ?_
              have e0 := (hget 63 193 (by kernel_rfl)).trans (congrArg some (H 63 (by decide)))
              have e1 := (hget 64 194 (by kernel_rfl)).trans (congrArg some (H 64 (by decide)))
              clear H hin hout hget
              dsimp only [bare]
              go_wp2_with fail
              refine (H22t w).mono ?_
              rintro e w1 ⟨rfl, hb⟩
              go_wp2
              exact ⟨_, rfl, shows hR hb.below rfl⟩
            · intro vs a w hR H hin hout hget
              refine one_guard 55 true 185 rfl (by kernel_rfl) ((hget 55 185 (by kernel_rfl)).trans (congrArg some (H 55 (by decide)))) ?_
              have e0 := (hget 62 192 (by kernel_rfl)).trans (congrArg some (H 62 (by decide)))
              have e1 := (hget 65 195 (by kernel_rfl)).trans (congrArg some (H 65 (by decide)))
              clear H hin hout hget
              dsimp only [bare]
              go_wp2
              exact ⟨_, rfl, shows0 hR rfl⟩
            · intro vs a w hR H hin hout hget
              refine one_guard 55 true 185 rfl (by kernel_rfl) ((hget 55 185 (by kernel_rfl)).trans (congrArg some (H 55 (by decide)))) ?_
              have e0 := (hget 60 190 (by kernel_rfl)).trans (congrArg some (H 60 (by decide)))
              have e1 := (hget 66 196 (by kernel_rfl)).trans (congrArg some (H 66 (by decide)))
              clear H hin hout hget
              dsimp only [bare]
              go_wp2
              exact ⟨_, rfl, shows0 hR rfl⟩
            · intro vs a w hR H hin hout hget
              refine one_free rfl ?_
              have e0 := (hget 55 185 (by kernel_rfl)).trans (congrArg some (H 55 (by decide)))
              have e1 := (hget 67 197 (by kernel_rfl)).trans (congrArg some (H 67 (by decide)))
              clear H hin hout hget
              dsimp only [bare]
              go_wp2
              exact ⟨_, rfl, shows0 hR rfl⟩
            · intro vs a w hR H hin hout hget
              refine one_free rfl ?_
              have e0 := (hget 68 198 (by kernel_rfl)).trans (congrArg some (H 68 (by decide)))
              clear H hin hout hget
              dsimp only [bare]
              go_wp2
              exact ⟨_, rfl, shows0 hR rfl⟩
          · intro vs w5 hR H
            have e8 : vs 69 = .bool true := H 69 (by decide)
            clear H
            generalize hA : putAll vs _ 0 _ = D
            have r8 : D.tmps.getD 8 undef = .bool true := by rw [← hA]; exact (putAll_near (n := 199) _ 0 69 vs _ 8 (by kernel_rfl) msz (by kernel_rfl)).trans e8
            have rd : D.defers = [] := by rw [← hA]; exact (putAll_size _ 0 vs _).2.trans md
            have hB5 := hB4.trans (hR.mono hB4.size)
            clear hA e8 hB4 hR
            obtain ⟨T, Ds⟩ := D
            dsimp only at r8 rd
            subst rd
            go_wp2
            go_ret
            exact ⟨congrArg Ending.returned r8, hB5⟩
      · have H22 : ∀ w, Calls Try.prog 22 #[setV s, .int .u8 c] w fun e w' => e = .returned (.bool true) ∧ Gr w.heap.size w w' := by rw [← hv]; exact has_any s c hc
        have H22n : ∀ w, Calls Try.prog 22 #[setV (Sx.not s), .int .u8 c] w fun e w' => e = .returned (.bool false) ∧ Gr w.heap.size w w' := by
          have h := has_any (Sx.not s) c hc
          rw [has_not hc, hv] at h; exact h
        have H22o : ∀ w, Calls Try.prog 22 #[setV (Sx.or s t), .int .u8 c] w fun e w' => e = .returned (.bool true) ∧ Gr w.heap.size w w' := by
          have h := has_any (Sx.or s t) c hc
          rw [Sx.tb_or, hv] at h; exact h
        have H28o : ∀ w, Calls Try.prog 28 #[setV (Sx.ofL [c]), setV s] w fun e w' => e = .returned (.bool true) ∧ Gr w.heap.size w w' := by
          have h := within_any (Sx.ofL [c]) s (Sx.ofL_lt [c] (by simpa using hc))
          have e : decide (Sx.less (Sx.ofL [c]) s = 0) = true := by
            rw [← hv]
            exact Bool.eq_iff_iff.2 (decide_eq_true_iff.trans (of_within hc))
          rw [e] at h
          exact h
        clear hv hr
        refine wp_region_line 199 [.eq (setV s), .eq (.int .u8 c), .eq (.bool true), .eq (.bool true)] lsz (by kernel_rfl) ?_ ?_
        · refine ⟨?_, ?_, ?_, ?_, trivial⟩
          · intro vs a w hR H hin hout hget
            refine one_free rfl ?_
            have e0 := hout 4 (by kernel_rfl)
            obtain ⟨c0, c1, c2, c3, _⟩ := (b4.laterB hR).four
            rw [l4] at e0
            clear H hin hout hget
            dsimp only [bare]
            go_wp2
            exact ⟨_, rfl, shows0 hR rfl⟩
          · intro vs a w hR H hin hout hget
            refine one_free rfl ?_
            have e0 := hout 3 (by kernel_rfl)
            rw [l3] at e0
            clear H hin hout hget
            dsimp only [bare]
            go_wp2
            exact ⟨_, rfl, shows0 hR rfl⟩
          · intro vs a w hR H hin hout hget
            refine one_free rfl ?_
            have e0 := (hget 0 127 (by kernel_rfl)).trans (congrArg some (H 0 (by decide)))
            have e1 := (hget 1 128 (by kernel_rfl)).trans (congrArg some (H 1 (by decide)))
            clear H hin hout hget
            dsimp only [bare]
            go_wp2_with fail
            refine (H22 w).mono ?_
            rintro e w1 ⟨rfl, hb⟩
            go_wp2
            exact ⟨_, rfl, shows hR hb.below rfl⟩
          · intro vs a w hR H hin hout hget
            refine one_free rfl ?_
            have e0 := (hget 2 129 (by kernel_rfl)).trans (congrArg some (H 2 (by decide)))
            clear H hin hout hget
            dsimp only [bare]
            go_wp2
            exact ⟨_, rfl, shows0 hR rfl⟩
        · intro vs w4 hR H
          generalize hA : putAll vs _ 0 _ = C
          have m3 : C.tmps.getD 3 undef = .int .u8 c := by rw [← hA]; exact (putAll_far _ 3 0 vs _ (by decide)).trans l3
          have m4 : C.tmps.getD 4 undef = .pointer (some ⟨w.heap.size, 0, none⟩) := by rw [← hA]; exact (putAll_far _ 4 0 vs _ (by decide)).trans l4
          have m5 : C.tmps.getD 5 undef = .pointer (some ⟨w.heap.size + 1, 0, none⟩) := by rw [← hA]; exact (putAll_far _ 5 0 vs _ (by decide)).trans l5
          have m9 : C.tmps.getD 9 undef = .bool true := by rw [← hA]; exact (putAll_near (n := 199) _ 0 3 vs _ 9 (by kernel_rfl) lsz (by kernel_rfl)).trans (H 3 (by decide))
          have msz : C.tmps.size = 199 := by rw [← hA]; exact (putAll_size _ 0 vs _).1.trans lsz
          have md : C.defers = [] := by rw [← hA]; exact (putAll_size _ 0 vs _).2.trans ld
          replace b4 := b4.laterB hR
          replace b5 := b5.laterB hR
          have hB4 := hB3.trans (hR.mono hB3.size)
          clear H hA hR hB3 l3 l4 l5 l126 lsz ld H22
          go_wp2_with fail
          refine wp_region_facts 199 [.eq (setV s), .eq (setV t), .eq (.bool p), .eq (setV s), .eq (setV t), .eq (setV (Sx.or s t)), .eq (setV t), .eq (.bool p), .eq (.bool true), .eq (.bool true), .eq (setV s), .eq (setV t), .eq (.bool (!q)), .eq (setV s), .eq (setV t), .eq (setV (Sx.not t)), .eq (.bool q), .eq (.bool (!q)), .eq (.bool true), .eq (.bool true), .eq (.bool true), .eq (setV s), .eq (.int .i64 n1), .eq (setV t), .eq (.int .i64 n2), .eq (.int .i64 n5), .eq (setV s), .eq (setV t), .eq (setV (Sx.or s t)), .eq (.int .i64 n3), .eq (setV s), .eq (setV t), .eq (setV (Sx.and s t)), .eq (.int .i64 n4), .eq (.int .i64 n5), .eq (.bool true), .eq (.bool true), .eq (.bool true), .eq (setV s), .eq (setV (Sx.not s)), .eq (.int .u8 c), .eq (.bool false), .eq (.bool true), .eq (.bool false), .eq (.bool true), .eq (.bool true), .eq (.bool true), .eq (.int .u8 c), .sl 1 1 ([c].map byteV), .eq (setV (Sx.ofL [c])), .eq (setV s), .eq (.bool true), .eq (.bool true), .eq (.bool true), .eq (.bool true), .eq (.bool true), .eq (setV s), .eq (setV t), .eq (setV (Sx.or s t)), .eq (.int .u8 c), .eq (.bool true), .eq (.bool true), .eq (.bool true), .any, .any, .any, .eq (.bool true), .eq (.bool true), .eq (.bool true), .eq (.bool true)] mixed msz (by kernel_rfl) ?_ ?_
          · refine ⟨?_, ?_, ?_, ?_, ?_, ?_, ?_, ?_, ?_, ?_, ?_, ?_, ?_, ?_, ?_, ?_, ?_, ?_, ?_, ?_, ?_, ?_, ?_, ?_, ?_, ?_, ?_, ?_, ?_, ?_, ?_, ?_, ?_, ?_, ?_, ?_, ?_, ?_, ?_, ?_, ?_, ?_, ?_, ?_, ?_, ?_, ?_, ?_, ?_, ?_, ?_, ?_, ?_, ?_, ?_, ?_, ?_, ?_, ?_, ?_, ?_, ?_, ?_, ?_, ?_, ?_, ?_, ?_, ?_, ?_, trivial⟩
            · intro vs a w hR H hin hout hget
              refine one_free rfl ?_
              have e0 := hout 4 (by kernel_rfl)
              obtain ⟨c0, c1, c2, c3, _⟩ := (b4.laterB hR).four
              rw [m4] at e0
              clear H hin hout hget
              dsimp only [bare]
              go_wp2
              exact ⟨_, rfl, shows0 hR rfl⟩
            · intro vs a w hR H hin hout hget
              refine one_free rfl ?_
              have e0 := hout 5 (by kernel_rfl)
              obtain ⟨c0, c1, c2, c3, _⟩ := (b5.laterB hR).four
              rw [m5] at e0
              clear H hin hout hget
              dsimp only [bare]
              go_wp2
              exact ⟨_, rfl, shows0 hR rfl⟩
            · intro vs a w hR H hin hout hget
              refine one_free rfl ?_
              have e0 := (hget 0 130 (by kernel_rfl)).trans (congrArg some (H 0 (by decide)))
              have e1 := (hget 1 131 (by kernel_rfl)).trans (congrArg some (H 1 (by decide)))
              clear H hin hout hget
              dsimp only [bare]
              go_wp2_with fail
              refine (H28 w).mono ?_
              rintro e w1 ⟨rfl, hb⟩
              go_wp2
              exact ⟨_, rfl, shows hR hb.below rfl⟩
            · intro vs a w hR H hin hout hget
              refine one_free rfl ?_
              have e0 := hout 4 (by kernel_rfl)
              obtain ⟨c0, c1, c2, c3, _⟩ := (b4.laterB hR).four
              rw [m4] at e0
              clear H hin hout hget
              dsimp only [bare]
              go_wp2
              exact ⟨_, rfl, shows0 hR rfl⟩
            · intro vs a w hR H hin hout hget
              refine one_free rfl ?_
              have e0 := hout 5 (by kernel_rfl)
              obtain ⟨c0, c1, c2, c3, _⟩ := (b5.laterB hR).four
              rw [m5] at e0
              clear H hin hout hget
              dsimp only [bare]
              go_wp2
              exact ⟨_, rfl, shows0 hR rfl⟩
            · intro vs a w hR H hin hout hget
              refine one_free rfl ?_
              have e0 := (hget 3 133 (by kernel_rfl)).trans (congrArg some (H 3 (by decide)))
              have e1 := (hget 4 134 (by kernel_rfl)).trans (congrArg some (H 4 (by decide)))
              clear H hin hout hget
              dsimp only [bare]
              go_wp2_with fail
              refine (or_any _ _ w).mono ?_
              rintro e w1 ⟨rfl, hb⟩
              go_wp2
              exact ⟨_, rfl, shows hR hb.below rfl⟩
            · intro vs a w hR H hin hout hget
              refine one_free rfl ?_
              have e0 := hout 5 (by kernel_rfl)
              obtain ⟨c0, c1, c2, c3, _⟩ := (b5.laterB hR).four
              rw [m5] at e0
              clear H hin hout hget
              dsimp only [bare]
              go_wp2
              exact ⟨_, rfl, shows0 hR rfl⟩
            · intro vs a w hR H hin hout hget
              refine one_free rfl ?_
              have e0 := (hget 5 135 (by kernel_rfl)).trans (congrArg some (H 5 (by decide)))
              have e1 := (hget 6 136 (by kernel_rfl)).trans (congrArg some (H 6 (by decide)))
              have HE := HE1
              have HG := guardSetV
              clear H hin hout hget
              dsimp only [bare]
              go_wp2
              exact ⟨_, rfl, shows0 hR rfl⟩
            · intro vs a w hR H hin hout hget
              refine one_free rfl ?_
              have e0 := (hget 2 132 (by kernel_rfl)).trans (congrArg some (H 2 (by decide)))
              have e1 := (hget 7 137 (by kernel_rfl)).trans (congrArg some (H 7 (by decide)))
              clear H hin hout hget
              dsimp only [bare]
              go_wp2
              exact ⟨_, rfl, shows0 hR rfl⟩
            · intro vs a w hR H hin hout hget
              refine one_free rfl ?_
              have e0 := (hget 8 138 (by kernel_rfl)).trans (congrArg some (H 8 (by decide)))
              clear H hin hout hget
              dsimp only [bare]
              go_wp2
              exact ⟨_, rfl, shows0 hR rfl⟩
            · intro vs a w hR H hin hout hget
              refine one_guard 9 true 139 rfl (by kernel_rfl) ((hget 9 139 (by kernel_rfl)).trans (congrArg some (H 9 (by decide)))) ?_
              have e0 := hout 4 (by kernel_rfl)
              obtain ⟨c0, c1, c2, c3, _⟩ := (b4.laterB hR).four
              rw [m4] at e0
              clear H hin hout hget
              dsimp only [bare]
              go_wp2
              exact ⟨_, rfl, shows0 hR rfl⟩
            · intro vs a w hR H hin hout hget
              refine one_guard 9 true 139 rfl (by kernel_rfl) ((hget 9 139 (by kernel_rfl)).trans (congrArg some (H 9 (by decide)))) ?_
              have e0 := hout 5 (by kernel_rfl)
              obtain ⟨c0, c1, c2, c3, _⟩ := (b5.laterB hR).four
              rw [m5] at e0
              clear H hin hout hget
              dsimp only [bare]
              go_wp2
              exact ⟨_, rfl, shows0 hR rfl⟩
            · intro vs a w hR H hin hout hget
              refine one_guard 9 true 139 rfl (by kernel_rfl) ((hget 9 139 (by kernel_rfl)).trans (congrArg some (H 9 (by decide)))) ?_
              have e0 := (hget 10 140 (by kernel_rfl)).trans (congrArg some (H 10 (by decide)))
              have e1 := (hget 11 141 (by kernel_rfl)).trans (congrArg some (H 11 (by decide)))
              clear H hin hout hget
              dsimp only [bare]
              go_wp2_with fail
              refine (H29 w).mono ?_
              rintro e w1 ⟨rfl, hb⟩
              go_wp2
              exact ⟨_, rfl, shows hR hb.below rfl⟩
            · intro vs a w hR H hin hout hget
              refine one_guard 9 true 139 rfl (by kernel_rfl) ((hget 9 139 (by kernel_rfl)).trans (congrArg some (H 9 (by decide)))) ?_
              have e0 := hout 4 (by kernel_rfl)
              obtain ⟨c0, c1, c2, c3, _⟩ := (b4.laterB hR).four
              rw [m4] at e0
              clear H hin hout hget
              dsimp only [bare]
              go_wp2
              exact ⟨_, rfl, shows0 hR rfl⟩
            · intro vs a w hR H hin hout hget
              refine one_guard 9 true 139 rfl (by kernel_rfl) ((hget 9 139 (by kernel_rfl)).trans (congrArg some (H 9 (by decide)))) ?_
              have e0 := hout 5 (by kernel_rfl)
              obtain ⟨c0, c1, c2, c3, _⟩ := (b5.laterB hR).four
              rw [m5] at e0
              clear H hin hout hget
              dsimp only [bare]
              go_wp2
              exact ⟨_, rfl, shows0 hR rfl⟩
            · intro vs a w hR H hin hout hget
              refine one_guard 9 true 139 rfl (by kernel_rfl) ((hget 9 139 (by kernel_rfl)).trans (congrArg some (H 9 (by decide)))) ?_
              have e0 := (hget 14 144 (by kernel_rfl)).trans (congrArg some (H 14 (by decide)))
              clear H hin hout hget
              dsimp only [bare]
              go_wp2_with fail
              refine (not_any _ w).mono ?_
              rintro e w1 ⟨rfl, hb⟩
              go_wp2
              exact ⟨_, rfl, shows hR hb.below rfl⟩
            · intro vs a w hR H hin hout hget
              refine one_guard 9 true 139 rfl (by kernel_rfl) ((hget 9 139 (by kernel_rfl)).trans (congrArg some (H 9 (by decide)))) ?_
              have e0 := (hget 13 143 (by kernel_rfl)).trans (congrArg some (H 13 (by decide)))
              have e1 := (hget 15 145 (by kernel_rfl)).trans (congrArg some (H 15 (by decide)))
              clear H hin hout hget
              dsimp only [bare]
              go_wp2_with fail
              refine (H28n w).mono ?_
              rintro e w1 ⟨rfl, hb⟩
              go_wp2
              exact ⟨_, rfl, shows hR hb.below rfl⟩
            · intro vs a w hR H hin hout hget
              refine one_guard 9 true 139 rfl (by kernel_rfl) ((hget 9 139 (by kernel_rfl)).trans (congrArg some (H 9 (by decide)))) ?_
              have e0 := (hget 16 146 (by kernel_rfl)).trans (congrArg some (H 16 (by decide)))
              clear H hin hout hget
              dsimp only [bare]
              go_wp2
              exact ⟨_, rfl, shows0 hR rfl⟩
            · intro vs a w hR H hin hout hget
              refine one_guard 9 true 139 rfl (by kernel_rfl) ((hget 9 139 (by kernel_rfl)).trans (congrArg some (H 9 (by decide)))) ?_
              have e0 := (hget 12 142 (by kernel_rfl)).trans (congrArg some (H 12 (by decide)))
              have e1 := (hget 17 147 (by kernel_rfl)).trans (congrArg some (H 17 (by decide)))
              clear H hin hout hget
              dsimp only [bare]
              go_wp2
              exact ⟨_, rfl, shows0 hR rfl⟩
            · intro vs a w hR H hin hout hget
              refine one_free rfl ?_
              have e0 := (hget 9 139 (by kernel_rfl)).trans (congrArg some (H 9 (by decide)))
              have e1 := (hget 18 148 (by kernel_rfl)).trans (congrArg some (H 18 (by decide)))
              clear H hin hout hget
              dsimp only [bare]
              go_wp2
              exact ⟨_, rfl, shows0 hR rfl⟩
            · intro vs a w hR H hin hout hget
              refine one_free rfl ?_
              have e0 := (hget 19 149 (by kernel_rfl)).trans (congrArg some (H 19 (by decide)))
              clear H hin hout hget
              dsimp only [bare]
              go_wp2
              exact ⟨_, rfl, shows0 hR rfl⟩
            · intro vs a w hR H hin hout hget
              refine one_guard 20 true 150 rfl (by kernel_rfl) ((hget 20 150 (by kernel_rfl)).trans (congrArg some (H 20 (by decide)))) ?_
              have e0 := hout 4 (by kernel_rfl)
              obtain ⟨c0, c1, c2, c3, _⟩ := (b4.laterB hR).four
              rw [m4] at e0
              clear H hin hout hget
              dsimp only [bare]
              go_wp2
              exact ⟨_, rfl, shows0 hR rfl⟩
            · intro vs a w hR H hin hout hget
              refine one_guard 20 true 150 rfl (by kernel_rfl) ((hget 20 150 (by kernel_rfl)).trans (congrArg some (H 20 (by decide)))) ?_
              have e0 := (hget 21 151 (by kernel_rfl)).trans (congrArg some (H 21 (by decide)))
              clear H hin hout hget
              dsimp only [bare]
              go_wp2_with fail
              refine (H301 w).mono ?_
              rintro e w1 ⟨rfl, hb⟩
              go_wp2
              exact ⟨_, rfl, shows hR hb.below rfl⟩
            · intro vs a w hR H hin hout hget
              refine one_guard 20 true 150 rfl (by kernel_rfl) ((hget 20 150 (by kernel_rfl)).trans (congrArg some (H 20 (by decide)))) ?_
              have e0 := hout 5 (by kernel_rfl)
              obtain ⟨c0, c1, c2, c3, _⟩ := (b5.laterB hR).four
              rw [m5] at e0
              clear H hin hout hget
              dsimp only [bare]
              go_wp2
              exact ⟨_, rfl, shows0 hR rfl⟩
            · intro vs a w hR H hin hout hget
              refine one_guard 20 true 150 rfl (by kernel_rfl) ((hget 20 150 (by kernel_rfl)).trans (congrArg some (H 20 (by decide)))) ?_
              have e0 := (hget 23 153 (by kernel_rfl)).trans (congrArg some (H 23 (by decide)))
              clear H hin hout hget
              dsimp only [bare]
              go_wp2_with fail
              refine (H302 w).mono ?_
              rintro e w1 ⟨rfl, hb⟩
              go_wp2
              exact ⟨_, rfl, shows hR hb.below rfl⟩
            · intro vs a w hR H hin hout hget
              refine one_guard 20 true 150 rfl (by kernel_rfl) ((hget 20 150 (by kernel_rfl)).trans (congrArg some (H 20 (by decide)))) ?_
              have e0 := (hget 22 152 (by kernel_rfl)).trans (congrArg some (H 22 (by decide)))
              have e1 := (hget 24 154 (by kernel_rfl)).trans (congrArg some (H 24 (by decide)))
              clear H hin hout hget
              dsimp only [bare]
              go_wp2
              exact ⟨_, rfl, shows0 hR rfl⟩
            · intro vs a w hR H hin hout hget
              refine one_guard 20 true 150 rfl (by kernel_rfl) ((hget 20 150 (by kernel_rfl)).trans (congrArg some (H 20 (by decide)))) ?_
              have e0 := hout 4 (by kernel_rfl)
              obtain ⟨c0, c1, c2, c3, _⟩ := (b4.laterB hR).four
              rw [m4] at e0
              clear H hin hout hget
              dsimp only [bare]
              go_wp2
              exact ⟨_, rfl, shows0 hR rfl⟩
            · intro vs a w hR H hin hout hget
              refine one_guard 20 true 150 rfl (by kernel_rfl) ((hget 20 150 (by kernel_rfl)).trans (congrArg some (H 20 (by decide)))) ?_
              have e0 := hout 5 (by kernel_rfl)
              obtain ⟨c0, c1, c2, c3, _⟩ := (b5.laterB hR).four
              rw [m5] at e0
              clear H hin hout hget
              dsimp only [bare]
              go_wp2
              exact ⟨_, rfl, shows0 hR rfl⟩
            · intro vs a w hR H hin hout hget
              refine one_guard 20 true 150 rfl (by kernel_rfl) ((hget 20 150 (by kernel_rfl)).trans (congrArg some (H 20 (by decide)))) ?_
              have e0 := (hget 26 156 (by kernel_rfl)).trans (congrArg some (H 26 (by decide)))
              have e1 := (hget 27 157 (by kernel_rfl)).trans (congrArg some (H 27 (by decide)))
              clear H hin hout hget
              dsimp only [bare]
              go_wp2_with fail
              refine (or_any _ _ w).mono ?_
              rintro e w1 ⟨rfl, hb⟩
              go_wp2
              exact ⟨_, rfl, shows hR hb.below rfl⟩
            · intro vs a w hR H hin hout hget
              refine one_guard 20 true 150 rfl (by kernel_rfl) ((hget 20 150 (by kernel_rfl)).trans (congrArg some (H 20 (by decide)))) ?_
              have e0 := (hget 28 158 (by kernel_rfl)).trans (congrArg some (H 28 (by decide)))
              clear H hin hout hget
              dsimp only [bare]
              go_wp2_with fail
              refine (H303 w).mono ?_
              rintro e w1 ⟨rfl, hb⟩
              go_wp2
              exact ⟨_, rfl, shows hR hb.below rfl⟩
            · intro vs a w hR H hin hout hget
              refine one_guard 20 true 150 rfl (by kernel_rfl) ((hget 20 150 (by kernel_rfl)).trans (congrArg some (H 20 (by decide)))) ?_
              have e0 := hout 4 (by kernel_rfl)
              obtain ⟨c0, c1, c2, c3, _⟩ := (b4.laterB hR).four
              rw [m4] at e0
              clear H hin hout hget
              dsimp only [bare]
              go_wp2
              exact ⟨_, rfl, shows0 hR rfl⟩
            · intro vs a w hR H hin hout hget
              refine one_guard 20 true 150 rfl (by kernel_rfl) ((hget 20 150 (by kernel_rfl)).trans (congrArg some (H 20 (by decide)))) ?_
              have e0 := hout 5 (by kernel_rfl)
              obtain ⟨c0, c1, c2, c3, _⟩ := (b5.laterB hR).four
              rw [m5] at e0
              clear H hin hout hget
              dsimp only [bare]
              go_wp2
              exact ⟨_, rfl, shows0 hR rfl⟩
            · intro vs a w hR H hin hout hget
              refine one_guard 20 true 150 rfl (by kernel_rfl) ((hget 20 150 (by kernel_rfl)).trans (congrArg some (H 20 (by decide)))) ?_
              have e0 := (hget 30 160 (by kernel_rfl)).trans (congrArg some (H 30 (by decide)))
              have e1 := (hget 31 161 (by kernel_rfl)).trans (congrArg some (H 31 (by decide)))
              clear H hin hout hget
              dsimp only [bare]
              go_wp2_with fail
              refine (and_any _ _ w).mono ?_
              rintro e w1 ⟨rfl, hb⟩
              go_wp2
              exact ⟨_, rfl, shows hR hb.below rfl⟩
            · intro vs a w hR H hin hout hget
              refine one_guard 20 true 150 rfl (by kernel_rfl) ((hget 20 150 (by kernel_rfl)).trans (congrArg some (H 20 (by decide)))) ?_
              have e0 := (hget 32 162 (by kernel_rfl)).trans (congrArg some (H 32 (by decide)))
              clear H hin hout hget
              dsimp only [bare]
              go_wp2_with fail
              refine (H304 w).mono ?_
              rintro e w1 ⟨rfl, hb⟩
              go_wp2
              exact ⟨_, rfl, shows hR hb.below rfl⟩
            · intro vs a w hR H hin hout hget
              refine one_guard 20 true 150 rfl (by kernel_rfl) ((hget 20 150 (by kernel_rfl)).trans (congrArg some (H 20 (by decide)))) ?_
              have e0 := (hget 29 159 (by kernel_rfl)).trans (congrArg some (H 29 (by decide)))
              have e1 := (hget 33 163 (by kernel_rfl)).trans (congrArg some (H 33 (by decide)))
              clear H hin hout hget
              dsimp only [bare]
              go_wp2
              exact ⟨_, rfl, shows0 hR rfl⟩
            · intro vs a w hR H hin hout hget
              refine one_guard 20 true 150 rfl (by kernel_rfl) ((hget 20 150 (by kernel_rfl)).trans (congrArg some (H 20 (by decide)))) ?_
              have e0 := (hget 25 155 (by kernel_rfl)).trans (congrArg some (H 25 (by decide)))
              have e1 := (hget 34 164 (by kernel_rfl)).trans (congrArg some (H 34 (by decide)))
              clear H hin hout hget
              dsimp only [bare]
              go_wp2
              exact ⟨_, rfl, shows0 hR rfl⟩
            · intro vs a w hR H hin hout hget
              refine one_free rfl ?_
              have e0 := (hget 20 150 (by kernel_rfl)).trans (congrArg some (H 20 (by decide)))
              have e1 := (hget 35 165 (by kernel_rfl)).trans (congrArg some (H 35 (by decide)))
              clear H hin hout hget
              dsimp only [bare]
              go_wp2
              exact ⟨_, rfl, shows0 hR rfl⟩
            · intro vs a w hR H hin hout hget
              refine one_free rfl ?_
              have e0 := (hget 36 166 (by kernel_rfl)).trans (congrArg some (H 36 (by decide)))
              clear H hin hout hget
              dsimp only [bare]
              go_wp2
              exact ⟨_, rfl, shows0 hR rfl⟩
            · intro vs a w hR H hin hout hget
              refine one_guard 37 true 167 rfl (by kernel_rfl) ((hget 37 167 (by kernel_rfl)).trans (congrArg some (H 37 (by decide)))) ?_
              have e0 := hout 4 (by kernel_rfl)
              obtain ⟨c0, c1, c2, c3, _⟩ := (b4.laterB hR).four
              rw [m4] at e0
              clear H hin hout hget
              dsimp only [bare]
              go_wp2
              exact ⟨_, rfl, shows0 hR rfl⟩
            · intro vs a w hR H hin hout hget
              refine one_guard 37 true 167 rfl (by kernel_rfl) ((hget 37 167 (by kernel_rfl)).trans (congrArg some (H 37 (by decide)))) ?_
              have e0 := (hget 38 168 (by kernel_rfl)).trans (congrArg some (H 38 (by decide)))
              clear H hin hout hget
              dsimp only [bare]
              go_wp2_with fail
              refine (not_any _ w).mono ?_
              rintro e w1 ⟨rfl, hb⟩
              go_wp2
              exact ⟨_, rfl, shows hR hb.below rfl⟩
            · intro vs a w hR H hin hout hget
              refine one_guard 37 true 167 rfl (by kernel_rfl) ((hget 37 167 (by kernel_rfl)).trans (congrArg some (H 37 (by decide)))) ?_
              have e0 := hout 3 (by kernel_rfl)
              rw [m3] at e0
              clear H hin hout hget
              dsimp only [bare]
              go_wp2
              exact ⟨_, rfl, shows0 hR rfl⟩
            · intro vs a w hR H hin hout hget
              refine one_guard 37 true 167 rfl (by kernel_rfl) ((hget 37 167 (by kernel_rfl)).trans (congrArg some (H 37 (by decide)))) ?_
              have e0 := (hget 39 169 (by kernel_rfl)).trans (congrArg some (H 39 (by decide)))
              have e1 := (hget 40 170 (by kernel_rfl)).trans (congrArg some (H 40 (by decide)))
              clear H hin hout hget
              dsimp only [bare]
              go_wp2_with fail
              refine (H22n w).mono ?_
              rintro e w1 ⟨rfl, hb⟩
              go_wp2
              exact ⟨_, rfl, shows hR hb.below rfl⟩
            · intro vs a w hR H hin hout hget
              refine one_guard 37 true 167 rfl (by kernel_rfl) ((hget 37 167 (by kernel_rfl)).trans (congrArg some (H 37 (by decide)))) ?_
              have e0 := hout 9 (by kernel_rfl)
              rw [m9] at e0
              clear H hin hout hget
              dsimp only [bare]
              go_wp2
              exact ⟨_, rfl, shows0 hR rfl⟩
            · intro vs a w hR H hin hout hget
              refine one_guard 37 true 167 rfl (by kernel_rfl) ((hget 37 167 (by kernel_rfl)).trans (congrArg some (H 37 (by decide)))) ?_
              have e0 := (hget 42 172 (by kernel_rfl)).trans (congrArg some (H 42 (by decide)))
              clear H hin hout hget
              dsimp only [bare]
              go_wp2
              exact ⟨_, rfl, shows0 hR rfl⟩
            · intro vs a w hR H hin hout hget
              refine one_guard 37 true 167 rfl (by kernel_rfl) ((hget 37 167 (by kernel_rfl)).trans (congrArg some (H 37 (by decide)))) ?_
              have e0 := (hget 41 171 (by kernel_rfl)).trans (congrArg some (H 41 (by decide)))
              have e1 := (hget 43 173 (by kernel_rfl)).trans (congrArg some (H 43 (by decide)))
              clear H hin hout hget
              dsimp only [bare]
              go_wp2
              exact ⟨_, rfl, shows0 hR rfl⟩
            · intro vs a w hR H hin hout hget
              refine one_free rfl ?_
              have e0 := (hget 37 167 (by kernel_rfl)).trans (congrArg some (H 37 (by decide)))
              have e1 := (hget 44 174 (by kernel_rfl)).trans (congrArg some (H 44 (by decide)))
              clear H hin hout hget
              dsimp only [bare]
              go_wp2
              exact ⟨_, rfl, shows0 hR rfl⟩
            · intro vs a w hR H hin hout hget
              refine one_free rfl ?_
              have e0 := (hget 45 175 (by kernel_rfl)).trans (congrArg some (H 45 (by decide)))
              clear H hin hout hget
              dsimp only [bare]
              go_wp2
              exact ⟨_, rfl, shows0 hR rfl⟩
            · intro vs a w hR H hin hout hget
              refine one_guard 46 true 176 rfl (by kernel_rfl) ((hget 46 176 (by kernel_rfl)).trans (congrArg some (H 46 (by decide)))) ?_
              have e0 := hout 3 (by kernel_rfl)
              rw [m3] at e0
              clear H hin hout hget
              dsimp only [bare]
              go_wp2
              exact ⟨_, rfl, shows0 hR rfl⟩
            · intro vs a w hR H hin hout hget
              refine one_guard 46 true 176 rfl (by kernel_rfl) ((hget 46 176 (by kernel_rfl)).trans (congrArg some (H 46 (by decide)))) ?_
              have e0 := (hget 47 177 (by kernel_rfl)).trans (congrArg some (H 47 (by decide)))
              clear H hin hout hget
              dsimp only [bare]
              go_wp2
              exact ⟨_, rfl, shows hR (below1 w _) (slN_new w _ _ _ _ _ rfl)⟩
            · intro vs a w hR H hin hout hget
              refine one_guard 46 true 176 rfl (by kernel_rfl) ((hget 46 176 (by kernel_rfl)).trans (congrArg some (H 46 (by decide)))) ?_
              obtain ⟨b0, o0, cap0, h0, lt0, c0⟩ := H 48 (by decide)
              have e0 := (hget 48 178 (by kernel_rfl)).trans (congrArg some h0)
              clear H hin hout hget
              dsimp only [bare]
              go_wp2_with fail
              refine (of_any _ [c] (by simpa using hc) w ⟨rfl, .inr ⟨_, _, _, rfl, lt0, c0⟩⟩ (show 1 ≤ maxLen by decide)).mono ?_
              rintro e w1 ⟨rfl, hb⟩
              go_wp2
              exact ⟨_, rfl, shows hR hb.below rfl⟩
            · intro vs a w hR H hin hout hget
              refine one_guard 46 true 176 rfl (by kernel_rfl) ((hget 46 176 (by kernel_rfl)).trans (congrArg some (H 46 (by decide)))) ?_
              have e0 := hout 4 (by kernel_rfl)
              obtain ⟨c0, c1, c2, c3, _⟩ := (b4.laterB hR).four
              rw [m4] at e0
              clear H hin hout hget
              dsimp only [bare]
              go_wp2
              exact ⟨_, rfl, shows0 hR rfl⟩
            · intro vs a w hR H hin hout hget
              refine one_guard 46 true 176 rfl (by kernel_rfl) ((hget 46 176 (by kernel_rfl)).trans (congrArg some (H 46 (by decide)))) ?_
              have e0 := (hget 49 179 (by kernel_rfl)).trans (congrArg some (H 49 (by decide)))
              have e1 := (hget 50 180 (by kernel_rfl)).trans (congrArg some (H 50 (by decide)))
              clear H hin hout hget
              dsimp only [bare]
              go_wp2_with fail
              refine (H28o w).mono ?_
              rintro e w1 ⟨rfl, hb⟩
              go_wp2
              exact ⟨_, rfl, shows hR hb.below rfl⟩
            · intro vs a w hR H hin hout hget
              refine one_guard 46 true 176 rfl (by kernel_rfl) ((hget 46 176 (by kernel_rfl)).trans (congrArg some (H 46 (by decide)))) ?_
              have e0 := hout 9 (by kernel_rfl)
              rw [m9] at e0
              clear H hin hout hget
              dsimp only [bare]
              go_wp2
              exact ⟨_, rfl, shows0 hR rfl⟩
            · intro vs a w hR H hin hout hget
              refine one_guard 46 true 176 rfl (by kernel_rfl) ((hget 46 176 (by kernel_rfl)).trans (congrArg some (H 46 (by decide)))) ?_
              have e0 := (hget 51 181 (by kernel_rfl)).trans (congrArg some (H 51 (by decide)))
              have e1 := (hget 52 182 (by kernel_rfl)).trans (congrArg some (H 52 (by decide)))
              clear H hin hout hget
              dsimp only [bare]
              go_wp2
              exact ⟨_, rfl, shows0 hR rfl⟩
            · intro vs a w hR H hin hout hget
              refine one_free rfl ?_
              have e0 := (hget 46 176 (by kernel_rfl)).trans (congrArg some (H 46 (by decide)))
              have e1 := (hget 53 183 (by kernel_rfl)).trans (congrArg some (H 53 (by decide)))
              clear H hin hout hget
              dsimp only [bare]
              go_wp2
              exact ⟨_, rfl, shows0 hR rfl⟩
            · intro vs a w hR H hin hout hget
              refine one_free rfl ?_
              have e0 := (hget 54 184 (by kernel_rfl)).trans (congrArg some (H 54 (by decide)))
              clear H hin hout hget
              dsimp only [bare]
              go_wp2
              exact ⟨_, rfl, shows0 hR rfl⟩
            · intro vs a w hR H hin hout hget
              refine one_guard 55 true 185 rfl (by kernel_rfl) ((hget 55 185 (by kernel_rfl)).trans (congrArg some (H 55 (by decide)))) ?_
              have e0 := hout 4 (by kernel_rfl)
              obtain ⟨c0, c1, c2, c3, _⟩ := (b4.laterB hR).four
              rw [m4] at e0
              clear H hin hout hget
              dsimp only [bare]
              go_wp2
              exact ⟨_, rfl, shows0 hR rfl⟩
            · intro vs a w hR H hin hout hget
              refine one_guard 55 true 185 rfl (by kernel_rfl) ((hget 55 185 (by kernel_rfl)).trans (congrArg some (H 55 (by decide)))) ?_
              have e0 := hout 5 (by kernel_rfl)
              obtain ⟨c0, c1, c2, c3, _⟩ := (b5.laterB hR).four
              rw [m5] at e0
              clear H hin hout hget
              dsimp only [bare]
              go_wp2
              exact ⟨_, rfl, shows0 hR rfl⟩
            · intro vs a w hR H hin hout hget
              refine one_guard 55 true 185 rfl (by kernel_rfl) ((hget 55 185 (by kernel_rfl)).trans (congrArg some (H 55 (by decide)))) ?_
              have e0 := (hget 56 186 (by kernel_rfl)).trans (congrArg some (H 56 (by decide)))
              have e1 := (hget 57 187 (by kernel_rfl)).trans (congrArg some (H 57 (by decide)))
              clear H hin hout hget
              dsimp only [bare]
              go_wp2_with fail
              refine (or_any _ _ w).mono ?_
              rintro e w1 ⟨rfl, hb⟩
              go_wp2
              exact ⟨_, rfl, shows hR hb.below rfl⟩
            · intro vs a w hR H hin hout hget
              refine one_guard 55 true 185 rfl (by kernel_rfl) ((hget 55 185 (by kernel_rfl)).trans (congrArg some (H 55 (by decide)))) ?_
              have e0 := hout 3 (by kernel_rfl)
              rw [m3] at e0
              clear H hin hout hget
              dsimp only [bare]
              go_wp2
              exact ⟨_, rfl, shows0 hR rfl⟩
            · intro vs a w hR H hin hout hget
              refine one_guard 55 true 185 rfl (by kernel_rfl) ((hget 55 185 (by kernel_rfl)).trans (congrArg some (H 55 (by decide)))) ?_
              have e0 := (hget 58 188 (by kernel_rfl)).trans (congrArg some (H 58 (by decide)))
              have e1 := (hget 59 189 (by kernel_rfl)).trans (congrArg some (H 59 (by decide)))
              clear H hin hout hget
              dsimp only [bare]
              go_wp2_with fail
              refine (H22o w).mono ?_
              rintro e w1 ⟨rfl, hb⟩
              go_wp2
              exact ⟨_, rfl, shows hR hb.below rfl⟩
            · intro vs a w hR H hin hout hget
              refine one_guard 55 true 185 rfl (by kernel_rfl) ((hget 55 185 (by kernel_rfl)).trans (congrArg some (H 55 (by decide)))) ?_
              have e0 := hout 9 (by kernel_rfl)
              rw [m9] at e0
              clear H hin hout hget
              dsimp only [bare]
              go_wp2
              exact ⟨_, rfl, shows0 hR rfl⟩
            · intro vs a w hR H hin hout hget
              refine one_guard 55 true 185 rfl (by kernel_rfl) ((hget 55 185 (by kernel_rfl)).trans (congrArg some (H 55 (by decide)))) ?_
              have e0 := (hget 61 191 (by kernel_rfl)).trans (congrArg some (H 61 (by decide)))
              clear H hin hout hget
              dsimp only [bare]
              go_wp2
              exact ⟨_, rfl, shows0 hR rfl⟩
            · intro vs a w hR H hin hout hget
              exact one_skip 62 false 192 rfl (by kernel_rfl) ((hget 62 192 (by kernel_rfl)).trans (congrArg some (H 62 (by decide)))) (shows0 hR trivial)
            · intro vs a w hR H hin hout hget
              exact one_skip 62 false 192 rfl (by kernel_rfl) ((hget 62 192 (by kernel_rfl)).trans (congrArg some (H 62 (by decide)))) (shows0 hR trivial)
            · intro vs a w hR H hin hout hget
              exact one_skip 62 false 192 rfl (by kernel_rfl) ((hget 62 192 (by kernel_rfl)).trans (congrArg some (H 62 (by decide)))) (shows0 hR trivial)
            · intro vs a w hR H hin hout hget
              refine one_guard 55 true 185 rfl (by kernel_rfl) ((hget 55 185 (by kernel_rfl)).trans (congrArg some (H 55 (by decide)))) ?_
              have e0 := (hget 62 192 (by kernel_rfl)).trans (congrArg some (H 62 (by decide)))
              clear H hin hout hget
              dsimp only [bare]
              go_wp2
              exact ⟨_, rfl, shows0 hR rfl⟩
            · intro vs a w hR H hin hout hget
              refine one_guard 55 true 185 rfl (by kernel_rfl) ((hget 55 185 (by kernel_rfl)).trans (congrArg some (H 55 (by decide)))) ?_
              have e0 := (hget 60 190 (by kernel_rfl)).trans (congrArg some (H 60 (by decide)))
              have e1 := (hget 66 196 (by kernel_rfl)).trans (congrArg some (H 66 (by decide)))
              clear H hin hout hget
              dsimp only [bare]
              go_wp2
              exact ⟨_, rfl, shows0 hR rfl⟩
            · intro vs a w hR H hin hout hget
              refine one_free rfl ?_
              have e0 := (hget 55 185 (by kernel_rfl)).trans (congrArg some (H 55 (by decide)))
              have e1 := (hget 67 197 (by kernel_rfl)).trans (congrArg some (H 67 (by decide)))
              clear H hin hout hget
              dsimp only [bare]
              go_wp2
              exact ⟨_, rfl, shows0 hR rfl⟩
            · intro vs a w hR H hin hout hget
              refine one_free rfl ?_
              have e0 := (hget 68 198 (by kernel_rfl)).trans (congrArg some (H 68 (by decide)))
              clear H hin hout hget
              dsimp only [bare]
              go_wp2
              exact ⟨_, rfl, shows0 hR rfl⟩
          · intro vs w5 hR H
            have e8 : vs 69 = .bool true := H 69 (by decide)
            clear H
            generalize hA : putAll vs _ 0 _ = D
            have r8 : D.tmps.getD 8 undef = .bool true := by rw [← hA]; exact (putAll_near (n := 199) _ 0 69 vs _ 8 (by kernel_rfl) msz (by kernel_rfl)).trans e8
            have rd : D.defers = [] := by rw [← hA]; exact (putAll_size _ 0 vs _).2.trans md
            have hB5 := hB4.trans (hR.mono hB4.size)
            clear hA e8 hB4 hR
            obtain ⟨T, Ds⟩ := D
            dsimp only at r8 rd
            subst rd
            go_wp2
            go_ret
            exact ⟨congrArg Ending.returned r8, hB5⟩
end Go.Proofs.Ytojmkgllbhbeiaa
