/-
  WALKS: SetsBack, the empty set, and every set.
-/
import Derived.Test.YtojmkgllbhbeiaaO8
namespace Go.Proofs.Ytojmkgllbhbeiaa
open Go.RowKit

set_option maxRecDepth 100000 in
set_option maxHeartbeats 4000000 in
theorem back_none (s : Nat) (hs : s < 2 ^ 256) (he : elems s = []) (w : World) : Calls Try.prog 8 #[setV s] w fun e w' => e = .returned (.bool true) ∧ Below w.heap.size w w' := by
  have h0 : (elems s).length = 0 := by rw [he]; rfl
  have h02 : (spansOf (elems s)).length = 0 := by rw [he]; rfl
  have hs0 : s = 0 := (elems_nil hs).1 he
  have HA := fun w => awake_any w
  have HOf : ∀ w, Calls Try.prog 21 #[.slice none 0 0] w fun e w' => e = .returned (setV s) ∧ Gr w.heap.size w w' := fun w => by rw [hs0]; exact of_none w
  have HFs : ∀ w, Calls Try.prog 36 #[.slice none 0 0] w fun e w' => e = .returned (setV s) ∧ Gr w.heap.size w w' := fun w => by rw [hs0]; exact fromSpans_none w
  have HSz : ∀ w, Calls Try.prog 30 #[setV s] w fun e w' => e = .returned (.int .i64 0) ∧ Gr w.heap.size w w' := fun w => by have := size_any s w; rw [h0] at this; exact this
  have HF : ∀ w, Calls Try.prog 32 #[setV s] w fun e w' => e = .returned (.tuple #[byteV 0, .bool false]) ∧ Gr w.heap.size w w' := fun w => by have := first_any s w; rw [he] at this; exact this
  clear he hs0
  unfold setV setA
  go_enter Try.func8, Try.ntmps8
  go_wp2_with fail
  refine (HA _).mono ?_
  rintro e w1 ⟨rfl, hb⟩
  have hB1 := bthen (below1 w _) hb
  have b1 := Blk.laterB (blkOf1 w #[.int .u64 (Sx.wd s 0), .int .u64 (Sx.wd s 1), .int .u64 (Sx.wd s 2), .int .u64 (Sx.wd s 3)] 24) hb
  clear hb HA
  go_wp2_with fail
  refine wp_region_facts 109 [.eq (setV s), .eq (.slice none 0 0), .eq (setV s), .eq (.slice none 0 0), .eq (.slice none 0 0), .eq (.slice none 0 0)] mixed rfl (by kernel_rfl) ?_ ?_
  · refine ⟨?_, ?_, ?_, ?_, ?_, ?_, trivial⟩
    · intro vs a w hR H hin hout hget
      refine one_free rfl ?_
      have e0 := hout 1 (by kernel_rfl)
      obtain ⟨c0, c1, c2, c3, _⟩ := (b1.laterB hR).four
      clear H hin hout hget
      dsimp only [bare]
      go_wp2
      exact ⟨_, rfl, shows0 hR rfl⟩
    · intro vs a w hR H hin hout hget
      refine one_free rfl ?_
      have e0 := (hget 0 14 (by kernel_rfl)).trans (congrArg some (H 0 (by decide)))
      clear H hin hout hget
      dsimp only [bare]
      go_wp2_with fail
      refine (bytes_any s w).mono ?_
      rintro e w1 ⟨v, rfl, hf, hb⟩
      obtain rfl := hf.2.2 h0
      go_wp2
      exact ⟨_, rfl, shows hR hb rfl⟩
    · intro vs a w hR H hin hout hget
      refine one_free rfl ?_
      have e0 := hout 1 (by kernel_rfl)
      obtain ⟨c0, c1, c2, c3, _⟩ := (b1.laterB hR).four
      clear H hin hout hget
      dsimp only [bare]
      go_wp2
      exact ⟨_, rfl, shows0 hR rfl⟩
    · intro vs a w hR H hin hout hget
      refine one_free rfl ?_
      have e0 := (hget 2 16 (by kernel_rfl)).trans (congrArg some (H 2 (by decide)))
      clear H hin hout hget
      dsimp only [bare]
      go_wp2_with fail
      refine (spans_any s w).mono ?_
      rintro e w1 ⟨v, rfl, hf, hb⟩
      obtain rfl := hf.2.2 h02
      go_wp2
      exact ⟨_, rfl, shows hR hb rfl⟩
    · intro vs a w hR H hin hout hget
      refine one_free rfl ?_
      have e0 := (hget 1 15 (by kernel_rfl)).trans (congrArg some (H 1 (by decide)))
      clear H hin hout hget
      dsimp only [bare]
      go_wp2
      exact ⟨_, rfl, shows0 hR rfl⟩
    · intro vs a w hR H hin hout hget
      refine one_free rfl ?_
      have e0 := (hget 3 17 (by kernel_rfl)).trans (congrArg some (H 3 (by decide)))
      clear H hin hout hget
      dsimp only [bare]
      go_wp2
      exact ⟨_, rfl, shows0 hR rfl⟩
  · intro vs w2 hR H
    have e3 : vs 4 = .slice none 0 0 := H 4 (by decide)
    have e4 : vs 5 = .slice none 0 0 := H 5 (by decide)
    simp only [putAll, Act.put, List.setIfInBounds_toArray, List.set_cons_succ, List.set_cons_zero, Nat.zero_add, Nat.reduceAdd, e3, e4]
    replace b1 := b1.laterB hR
    have hB2 := hB1.trans (hR.mono hB1.size)
    clear H hR hB1 e3 e4 h0 h02
    generalize vs 0 = y0
    generalize vs 1 = y1
    generalize vs 2 = y2
    generalize vs 3 = y3
    go_wp2_with fail
    refine wp_region_facts 109 [.eq (.slice none 0 0), .eq (setV s), .eq (setV s), .eq (.bool false), .eq (.bool false), .eq (.slice none 0 0), .eq (setV s), .eq (setV s), .eq (.bool false), .eq (.bool false), .eq (.bool false), .eq (setV s), .eq (.int .i64 0), .eq (.slice none 0 0), .eq (.int .i64 0), .eq (.bool false), .eq (.bool false)] mixed rfl (by kernel_rfl) ?_ ?_
    · refine ⟨?_, ?_, ?_, ?_, ?_, ?_, ?_, ?_, ?_, ?_, ?_, ?_, ?_, ?_, ?_, ?_, ?_, trivial⟩
      · intro vs a w hR H hin hout hget
        refine one_free rfl ?_
        have e0 := hout 3 (by kernel_rfl)
        clear H hin hout hget
        dsimp only [bare]
        go_wp2
        exact ⟨_, rfl, shows0 hR rfl⟩
      · intro vs a w hR H hin hout hget
        refine one_free rfl ?_
        have e0 := (hget 0 18 (by kernel_rfl)).trans (congrArg some (H 0 (by decide)))
        clear H hin hout hget
        dsimp only [bare]
        go_wp2_with fail
        refine (HOf w).mono ?_
        rintro e w1 ⟨rfl, hb⟩
        go_wp2
        exact ⟨_, rfl, shows hR hb.below rfl⟩
      · intro vs a w hR H hin hout hget
        refine one_free rfl ?_
        have e0 := hout 1 (by kernel_rfl)
        obtain ⟨c0, c1, c2, c3, _⟩ := (b1.laterB hR).four
        clear H hin hout hget
        dsimp only [bare]
        go_wp2
        exact ⟨_, rfl, shows0 hR rfl⟩
      · intro vs a w hR H hin hout hget
        refine one_free rfl ?_
        have e0 := (hget 1 19 (by kernel_rfl)).trans (congrArg some (H 1 (by decide)))
        have e1 := (hget 2 20 (by kernel_rfl)).trans (congrArg some (H 2 (by decide)))
        have HE := neqSame s s hs rfl
        have HG := guardSetV
        clear H hin hout hget
        dsimp only [bare]
        go_wp2
        exact ⟨_, rfl, shows0 hR rfl⟩
      · intro vs a w hR H hin hout hget
        refine one_free rfl ?_
        have e0 := (hget 3 21 (by kernel_rfl)).trans (congrArg some (H 3 (by decide)))
        clear H hin hout hget
        dsimp only [bare]
        go_wp2
        exact ⟨_, rfl, shows0 hR rfl⟩
      · intro vs a w hR H hin hout hget
        refine one_guard 4 false 22 rfl (by kernel_rfl) ((hget 4 22 (by kernel_rfl)).trans (congrArg some (H 4 (by decide)))) ?_
        have e0 := hout 4 (by kernel_rfl)
        clear H hin hout hget
        dsimp only [bare]
        go_wp2
        exact ⟨_, rfl, shows0 hR rfl⟩
      · intro vs a w hR H hin hout hget
        refine one_guard 4 false 22 rfl (by kernel_rfl) ((hget 4 22 (by kernel_rfl)).trans (congrArg some (H 4 (by decide)))) ?_
        have e0 := (hget 5 23 (by kernel_rfl)).trans (congrArg some (H 5 (by decide)))
        clear H hin hout hget
        dsimp only [bare]
        go_wp2_with fail
        refine (HFs w).mono ?_
        rintro e w1 ⟨rfl, hb⟩
        go_wp2
        exact ⟨_, rfl, shows hR hb.below rfl⟩
      · intro vs a w hR H hin hout hget
        refine one_guard 4 false 22 rfl (by kernel_rfl) ((hget 4 22 (by kernel_rfl)).trans (congrArg some (H 4 (by decide)))) ?_
        have e0 := hout 1 (by kernel_rfl)
        obtain ⟨c0, c1, c2, c3, _⟩ := (b1.laterB hR).four
        clear H hin hout hget
        dsimp only [bare]
        go_wp2
        exact ⟨_, rfl, shows0 hR rfl⟩
      · intro vs a w hR H hin hout hget
        refine one_guard 4 false 22 rfl (by kernel_rfl) ((hget 4 22 (by kernel_rfl)).trans (congrArg some (H 4 (by decide)))) ?_
        have e0 := (hget 6 24 (by kernel_rfl)).trans (congrArg some (H 6 (by decide)))
        have e1 := (hget 7 25 (by kernel_rfl)).trans (congrArg some (H 7 (by decide)))
        have HE := neqSame s s hs rfl
        have HG := guardSetV
        clear H hin hout hget
        dsimp only [bare]
        go_wp2
        exact ⟨_, rfl, shows0 hR rfl⟩
      · intro vs a w hR H hin hout hget
        refine one_free rfl ?_
        have e0 := (hget 4 22 (by kernel_rfl)).trans (congrArg some (H 4 (by decide)))
        have e1 := (hget 8 26 (by kernel_rfl)).trans (congrArg some (H 8 (by decide)))
        clear H hin hout hget
        dsimp only [bare]
        go_wp2
        exact ⟨_, rfl, shows0 hR rfl⟩
      · intro vs a w hR H hin hout hget
        refine one_free rfl ?_
        have e0 := (hget 9 27 (by kernel_rfl)).trans (congrArg some (H 9 (by decide)))
        clear H hin hout hget
        dsimp only [bare]
        go_wp2
        exact ⟨_, rfl, shows0 hR rfl⟩
      · intro vs a w hR H hin hout hget
        refine one_guard 10 false 28 rfl (by kernel_rfl) ((hget 10 28 (by kernel_rfl)).trans (congrArg some (H 10 (by decide)))) ?_
        have e0 := hout 1 (by kernel_rfl)
        obtain ⟨c0, c1, c2, c3, _⟩ := (b1.laterB hR).four
        clear H hin hout hget
        dsimp only [bare]
        go_wp2
        exact ⟨_, rfl, shows0 hR rfl⟩
      · intro vs a w hR H hin hout hget
        refine one_guard 10 false 28 rfl (by kernel_rfl) ((hget 10 28 (by kernel_rfl)).trans (congrArg some (H 10 (by decide)))) ?_
        have e0 := (hget 11 29 (by kernel_rfl)).trans (congrArg some (H 11 (by decide)))
        clear H hin hout hget
        dsimp only [bare]
        go_wp2_with fail
        refine (HSz w).mono ?_
        rintro e w1 ⟨rfl, hb⟩
        go_wp2
        exact ⟨_, rfl, shows hR hb.below rfl⟩
      · intro vs a w hR H hin hout hget
        refine one_guard 10 false 28 rfl (by kernel_rfl) ((hget 10 28 (by kernel_rfl)).trans (congrArg some (H 10 (by decide)))) ?_
        have e0 := hout 3 (by kernel_rfl)
        clear H hin hout hget
        dsimp only [bare]
        go_wp2
        exact ⟨_, rfl, shows0 hR rfl⟩
      · intro vs a w hR H hin hout hget
        refine one_guard 10 false 28 rfl (by kernel_rfl) ((hget 10 28 (by kernel_rfl)).trans (congrArg some (H 10 (by decide)))) ?_
        have e0 := (hget 13 31 (by kernel_rfl)).trans (congrArg some (H 13 (by decide)))
        clear H hin hout hget
        dsimp only [bare]
        go_wp2
        exact ⟨_, rfl, shows0 hR rfl⟩
      · intro vs a w hR H hin hout hget
        refine one_guard 10 false 28 rfl (by kernel_rfl) ((hget 10 28 (by kernel_rfl)).trans (congrArg some (H 10 (by decide)))) ?_
        have e0 := (hget 12 30 (by kernel_rfl)).trans (congrArg some (H 12 (by decide)))
        have e1 := (hget 14 32 (by kernel_rfl)).trans (congrArg some (H 14 (by decide)))
        clear H hin hout hget
        dsimp only [bare]
        go_wp2
        exact ⟨_, rfl, shows0 hR rfl⟩
      · intro vs a w hR H hin hout hget
        refine one_free rfl ?_
        have e0 := (hget 10 28 (by kernel_rfl)).trans (congrArg some (H 10 (by decide)))
        have e1 := (hget 15 33 (by kernel_rfl)).trans (congrArg some (H 15 (by decide)))
        clear H hin hout hget
        dsimp only [bare]
        go_wp2
        exact ⟨_, rfl, shows0 hR rfl⟩
    · intro vs w3 hR H
      have e16 : vs 16 = .bool false := H 16 (by decide)
      replace b1 := b1.laterB hR
      have hB3 := hB2.trans (hR.mono hB2.size)
      simp only [putAll, Act.put, List.setIfInBounds_toArray, List.set_cons_succ, List.set_cons_zero, Nat.zero_add, Nat.reduceAdd, e16]
      clear H hR hB2 e16 HOf HFs HSz
      generalize vs 0 = z0
      generalize vs 1 = z1
      generalize vs 2 = z2
      generalize vs 3 = z3
      generalize vs 4 = z4
      generalize vs 5 = z5
      generalize vs 6 = z6
      generalize vs 7 = z7
      generalize vs 8 = z8
      generalize vs 9 = z9
      generalize vs 10 = z10
      generalize vs 11 = z11
      generalize vs 12 = z12
      generalize vs 13 = z13
      generalize vs 14 = z14
      generalize vs 15 = z15
      unfold setV setA byteV at HF
      go_wp2_with fail
      go_loopw [37, 5] (fun i n wr => i = .int .i64 0 ∧ n = .int .i64 0 ∧ Below w3.heap.size w3 wr) (fun _ _ _ => 0)
      case atStart => exact ⟨rfl, rfl, Below.refl _ _⟩
      case round =>
        obtain ⟨rfl, rfl, hBk⟩ := hrel
        obtain ⟨f0, f1, f2, f3, _⟩ := (b1.laterB hBk).four
        have hBS := hB3.trans (hBk.mono hB3.size)
        go_wp2_with fail
        refine (HF _).mono ?_
        rintro e w9 ⟨rfl, h9⟩
        have hBS9 := hBS.trans (h9.below.mono hBS.size)
        clear HF f0 f1 f2 f3 h9
        go_wp2_with fail
        go_loopw [83, 9] (fun i ok wr => i = .int .i64 0 ∧ ok = .bool false ∧ Below w9.heap.size w9 wr) (fun _ _ _ => 0)
        case atStart => exact ⟨rfl, rfl, Below.refl _ _⟩
        case round =>
          obtain ⟨rfl, rfl, hBj⟩ := hrel
          go_wp2
          go_ret
          exact ⟨rfl, hBS9.trans (hBj.mono hBS9.size)⟩

theorem back_any (s : Nat) (hs : s < 2 ^ 256) (w : World) : Calls Try.prog 8 #[setV s] w fun e w' => e = .returned (.bool true) ∧ Below w.heap.size w w' := by
  rcases hq : elems s with _ | ⟨x, l⟩
  · exact back_none s hs hq w
  · have h1 : 0 < (elems s).length := by rw [hq]; simp
    refine back_some s hs h1 ?_ w
    rcases hsp : spansOf (elems s) with _ | ⟨y, m⟩
    · have := spans_sum s
      rw [hsp] at this
      simp [spSum] at this
      omega
    · simp
end Go.Proofs.Ytojmkgllbhbeiaa
