/-
  WALKS: SetsSmall.
-/
import Derived.Test.YtojmkgllbhbeiaaO7
import Derived.Test.YtojmkgllbhbeiaaO4
namespace Go.Proofs.Ytojmkgllbhbeiaa
open Go.RowKit

theorem wp_cond_both {P : Program} {Q : Exit → Act → World → Prop} {a : Act} {w : World} {c : Operand} {x y : Code} {q : Bool} (hc : a.eval c = .bool q) (hx : x.wp P Q a w) (hy : y.wp P Q a w) : (Code.cond c x y).wp P Q a w := by
  cases q
  · exact wp_cond_false hc hy
  · exact wp_cond_true hc hx

set_option maxRecDepth 100000 in
set_option maxHeartbeats 1500000 in
theorem setsSmall_any (w : World) : Calls Try.prog 10 #[] w fun e w' => e = .returned (.bool true) ∧ Below w.heap.size w w' := by
  go_enter Try.func10, Try.ntmps10
  go_wp2_with fail
  go_loopw [9] (fun i wr => ∃ c : Nat, c ≤ 256 ∧ i = .int .i64 c ∧ Below w.heap.size w wr) (fun i _ => 256 - (intOf i).toNat)
  case atStart => exact ⟨0, by omega, rfl, Below.refl _ _⟩
  case round =>
    obtain ⟨c, hc, rfl, hB⟩ := hrel
    by_cases hlt : c < 256
    · have hl1 : ∀ x ∈ [c], x < 256 := by simpa using hlt
      have hA : Sx.ofL [c] < 2 ^ 256 := Sx.ofL_lt _ hl1
      have hsp : ∀ x ∈ [(c, 64), (128, c)], x.1 < 256 ∧ x.2 < 256 := by
        intro x hx
        simp only [List.mem_cons, List.not_mem_nil, or_false] at hx
        rcases hx with rfl | rfl
        · exact ⟨hlt, (show 64 < 256 by decide)⟩
        · exact ⟨(show 128 < 256 by decide), hlt⟩
      have hse : ∀ s ∈ [Sx.ofL [c], Sx.range c 200], s < 2 ^ 256 := by
        intro s hs
        simp only [List.mem_cons, List.not_mem_nil, or_false] at hs
        rcases hs with rfl | rfl
        · exact hA
        · exact Sx.range_lt (by decide)
      have HO : ∀ v w, Sl w v 1 1 [byteV c] → Calls Try.prog 21 #[v] w fun e w' => e = .returned (setV (Sx.ofL [c])) ∧ Gr w.heap.size w w' := fun v w h => of_any v [c] hl1 w h (show 1 ≤ maxLen by decide)
      unfold setV setA at HO
      replace HO := Lib.hid HO
      replace hl1 := Lib.hid hl1
      go_wp2_with fail
      refine (HO.out _ _ ⟨rfl, .inr ⟨_, _, _, rfl, by simp, fun i hi => ?_⟩⟩).mono ?_
      · obtain rfl : i = 0 := by omega
        exact (blkOf1 wr _ _).cell 0
      rintro e w1 ⟨rfl, h1⟩
      have hB1 := hB.trans ((bthen (below1 wr _) (h1.below.mono (Nat.le_refl _))).mono hB.size)
      clear h1 HO
      go_wp2_with fail
      obtain ⟨W2, hW2, b2, hB2⟩ : ∃ W2, W2 = w1.alloc (.cells #[.int .u64 (Sx.wd (Sx.ofL [c]) 0), .int .u64 (Sx.wd (Sx.ofL [c]) 1), .int .u64 (Sx.wd (Sx.ofL [c]) 2), .int .u64 (Sx.wd (Sx.ofL [c]) 3)] 24) ∧ Blk W2 w1.heap.size (setA (Sx.ofL [c])) 24 ∧ Below w.heap.size w W2 :=
        ⟨_, rfl, blkOf1 w1 _ _, hB1.alloc hB1.size _⟩
      rw [← hW2]
      clear hW2 hB1
      refine wp_region_facts 147 [.eq (setV (Sx.ofL [c])), .eq (.int .i64 c), .eq (.int .u8 c), .eq (setV (Sx.range c 255)), .eq (.int .i64 c), .eq (.int .u8 c), .eq (.int .i64 c), .eq (.int .i64 (255 - (c : Int))), .eq (.int .u8 (255 - c : Nat)), .eq (.bool true), .eq (.bool false), .eq (.bool false), .eq (.int .i64 c), .eq (.int .u8 c), .eq (setV (Sx.range 0 c)), .eq (setV (Sx.ofL [c])), .eq (setV (Sx.not (Sx.ofL [c]))), .eq (.int .i64 c), .eq (.int .u8 c), .eq (.bool true), .eq (.bool false), .eq (.bool false), .eq (.bool false), .eq (.int .i64 c), .eq (.int .u8 c), .eq (.agg #[byteV c, byteV 64]), .eq (.int .i64 c), .eq (.int .u8 c), .eq (.agg #[byteV 128, byteV c]), .sl 2 2 (spanCells [(c, 64), (128, c)]), .eq (setV (Sx.ofL [c])), .eq (.int .i64 c), .eq (.int .u8 c), .eq (setV (Sx.range c 200)), .sl 4 2 (setCells [(Sx.ofL [c]), Sx.range c 200]), .eq (.bool true), .eq (.bool false), .eq (.bool false)] mixed rfl (by kernel_rfl) ?_ ?_
      · refine ⟨?_, ?_, ?_, ?_, ?_, ?_, ?_, ?_, ?_, ?_, ?_, ?_, ?_, ?_, ?_, ?_, ?_, ?_, ?_, ?_, ?_, ?_, ?_, ?_, ?_, ?_, ?_, ?_, ?_, ?_, ?_, ?_, ?_, ?_, ?_, ?_, ?_, ?_, trivial⟩
        · intro vs a w hR H hin hout hget
          refine one_free rfl ?_
          have e0 := hout 2 (by kernel_rfl)
          obtain ⟨c0, c1, c2, c3, _⟩ := (show Blk w _ #[_, _, _, _] 24 from b2.laterB hR).four
          clear H hin hout hget
          dsimp only [bare]
          go_wp2
          exact ⟨_, rfl, shows0 hR rfl⟩
        · intro vs a w hR H hin hout hget
          refine one_free rfl ?_
          have e0 := hout 1 (by kernel_rfl)
          clear H hin hout hget
          dsimp only [bare]
          go_wp2
          exact ⟨_, rfl, shows0 hR rfl⟩
        · intro vs a w hR H hin hout hget
          refine one_free rfl ?_
          have e0 := (hget 1 17 (by kernel_rfl)).trans (congrArg some (H 1 (by decide)))
          clear H hin hout hget
          dsimp only [bare]
          go_wp2
          exact ⟨_, rfl, shows0 hR rfl⟩
        · intro vs a w hR H hin hout hget
          refine one_free rfl ?_
          have e0 := (hget 2 18 (by kernel_rfl)).trans (congrArg some (H 2 (by decide)))
          clear H hin hout hget
          dsimp only [bare]
          go_wp2_with fail
          refine (range_any c 255 hlt (by decide) w).mono ?_
          rintro e w1 ⟨rfl, hb⟩
          go_wp2
          exact ⟨_, rfl, shows hR hb.below rfl⟩
        · intro vs a w hR H hin hout hget
          refine one_free rfl ?_
          have e0 := hout 1 (by kernel_rfl)
          clear H hin hout hget
          dsimp only [bare]
          go_wp2
          exact ⟨_, rfl, shows0 hR rfl⟩
        · intro vs a w hR H hin hout hget
          refine one_free rfl ?_
          have e0 := (hget 4 20 (by kernel_rfl)).trans (congrArg some (H 4 (by decide)))
          clear H hin hout hget
          dsimp only [bare]
          go_wp2
          exact ⟨_, rfl, shows0 hR rfl⟩
        · intro vs a w hR H hin hout hget
          refine one_free rfl ?_
          have e0 := hout 1 (by kernel_rfl)
          clear H hin hout hget
          dsimp only [bare]
          go_wp2
          exact ⟨_, rfl, shows0 hR rfl⟩
        · intro vs a w hR H hin hout hget
          refine one_free rfl ?_
          have e0 := (hget 6 22 (by kernel_rfl)).trans (congrArg some (H 6 (by decide)))
          clear H hin hout hget
          dsimp only [bare]
          go_wp2
          exact ⟨_, rfl, shows0 hR rfl⟩
        · intro vs a w hR H hin hout hget
          refine one_free rfl ?_
          have e0 := (hget 7 23 (by kernel_rfl)).trans (congrArg some (H 7 (by decide)))
          clear H hin hout hget
          dsimp only [bare]
          have hq := hlt
          go_wp2
          exact ⟨_, rfl, shows0 hR (congrArg (Value.int .u8) (by omega))⟩
        · intro vs a w hR H hin hout hget
          refine one_free rfl ?_
          have e0 := (hget 0 16 (by kernel_rfl)).trans (congrArg some (H 0 (by decide)))
          have e1 := (hget 3 19 (by kernel_rfl)).trans (congrArg some (H 3 (by decide)))
          have e2 := (hget 5 21 (by kernel_rfl)).trans (congrArg some (H 5 (by decide)))
          have e3 := (hget 8 24 (by kernel_rfl)).trans (congrArg some (H 8 (by decide)))
          clear H hin hout hget
          dsimp only [bare]
          go_wp2_with fail
          refine (tells_any _ _ c (255 - c) hA (Sx.range_lt (by decide)) hlt (by omega) w).mono ?_
          rintro e w1 ⟨rfl, hb⟩
          go_wp2
          exact ⟨_, rfl, shows hR hb rfl⟩
        · intro vs a w hR H hin hout hget
          refine one_free rfl ?_
          have e0 := (hget 9 25 (by kernel_rfl)).trans (congrArg some (H 9 (by decide)))
          clear H hin hout hget
          dsimp only [bare]
          go_wp2
          exact ⟨_, rfl, shows0 hR rfl⟩
        · intro vs a w hR H hin hout hget
          refine one_free rfl ?_
          have e0 := (hget 10 26 (by kernel_rfl)).trans (congrArg some (H 10 (by decide)))
          clear H hin hout hget
          dsimp only [bare]
          go_wp2
          exact ⟨_, rfl, shows0 hR rfl⟩
        · intro vs a w hR H hin hout hget
          refine one_guard 11 false 27 rfl (by kernel_rfl) ((hget 11 27 (by kernel_rfl)).trans (congrArg some (H 11 (by decide)))) ?_
          have e0 := hout 1 (by kernel_rfl)
          clear H hin hout hget
          dsimp only [bare]
          go_wp2
          exact ⟨_, rfl, shows0 hR rfl⟩
        · intro vs a w hR H hin hout hget
          refine one_guard 11 false 27 rfl (by kernel_rfl) ((hget 11 27 (by kernel_rfl)).trans (congrArg some (H 11 (by decide)))) ?_
          have e0 := (hget 12 28 (by kernel_rfl)).trans (congrArg some (H 12 (by decide)))
          clear H hin hout hget
          dsimp only [bare]
          go_wp2
          exact ⟨_, rfl, shows0 hR rfl⟩
        · intro vs a w hR H hin hout hget
          refine one_guard 11 false 27 rfl (by kernel_rfl) ((hget 11 27 (by kernel_rfl)).trans (congrArg some (H 11 (by decide)))) ?_
          have e0 := (hget 13 29 (by kernel_rfl)).trans (congrArg some (H 13 (by decide)))
          clear H hin hout hget
          dsimp only [bare]
          go_wp2_with fail
          refine (range_any 0 c (by decide) hlt w).mono ?_
          rintro e w1 ⟨rfl, hb⟩
          go_wp2
          exact ⟨_, rfl, shows hR hb.below rfl⟩
        · intro vs a w hR H hin hout hget
          refine one_guard 11 false 27 rfl (by kernel_rfl) ((hget 11 27 (by kernel_rfl)).trans (congrArg some (H 11 (by decide)))) ?_
          have e0 := hout 2 (by kernel_rfl)
          obtain ⟨c0, c1, c2, c3, _⟩ := (show Blk w _ #[_, _, _, _] 24 from b2.laterB hR).four
          clear H hin hout hget
          dsimp only [bare]
          go_wp2
          exact ⟨_, rfl, shows0 hR rfl⟩
        · intro vs a w hR H hin hout hget
          refine one_guard 11 false 27 rfl (by kernel_rfl) ((hget 11 27 (by kernel_rfl)).trans (congrArg some (H 11 (by decide)))) ?_
          have e0 := (hget 15 31 (by kernel_rfl)).trans (congrArg some (H 15 (by decide)))
          clear H hin hout hget
          dsimp only [bare]
          go_wp2_with fail
          refine (not_any _ w).mono ?_
          rintro e w1 ⟨rfl, hb⟩
          go_wp2
          exact ⟨_, rfl, shows hR hb.below rfl⟩
        · intro vs a w hR H hin hout hget
          refine one_guard 11 false 27 rfl (by kernel_rfl) ((hget 11 27 (by kernel_rfl)).trans (congrArg some (H 11 (by decide)))) ?_
          have e0 := hout 1 (by kernel_rfl)
          clear H hin hout hget
          dsimp only [bare]
          go_wp2
          exact ⟨_, rfl, shows0 hR rfl⟩
        · intro vs a w hR H hin hout hget
          refine one_guard 11 false 27 rfl (by kernel_rfl) ((hget 11 27 (by kernel_rfl)).trans (congrArg some (H 11 (by decide)))) ?_
          have e0 := (hget 17 33 (by kernel_rfl)).trans (congrArg some (H 17 (by decide)))
          clear H hin hout hget
          dsimp only [bare]
          go_wp2
          exact ⟨_, rfl, shows0 hR rfl⟩
        · intro vs a w hR H hin hout hget
          refine one_guard 11 false 27 rfl (by kernel_rfl) ((hget 11 27 (by kernel_rfl)).trans (congrArg some (H 11 (by decide)))) ?_
          have e0 := (hget 14 30 (by kernel_rfl)).trans (congrArg some (H 14 (by decide)))
          have e1 := (hget 16 32 (by kernel_rfl)).trans (congrArg some (H 16 (by decide)))
          have e2 := (hget 18 34 (by kernel_rfl)).trans (congrArg some (H 18 (by decide)))
          clear H hin hout hget
          dsimp only [bare]
          go_wp2_with fail
          refine (tells_any _ _ c 63 (Sx.range_lt hlt) (Sx.not_lt _) hlt (by decide) w).mono ?_
          rintro e w1 ⟨rfl, hb⟩
          go_wp2
          exact ⟨_, rfl, shows hR hb rfl⟩
        · intro vs a w hR H hin hout hget
          refine one_guard 11 false 27 rfl (by kernel_rfl) ((hget 11 27 (by kernel_rfl)).trans (congrArg some (H 11 (by decide)))) ?_
          have e0 := (hget 19 35 (by kernel_rfl)).trans (congrArg some (H 19 (by decide)))
          clear H hin hout hget
          dsimp only [bare]
          go_wp2
          exact ⟨_, rfl, shows0 hR rfl⟩
        · intro vs a w hR H hin hout hget
          refine one_free rfl ?_
          have e0 := (hget 11 27 (by kernel_rfl)).trans (congrArg some (H 11 (by decide)))
          have e1 := (hget 20 36 (by kernel_rfl)).trans (congrArg some (H 20 (by decide)))
          clear H hin hout hget
          dsimp only [bare]
          go_wp2
          exact ⟨_, rfl, shows0 hR rfl⟩
        · intro vs a w hR H hin hout hget
          refine one_free rfl ?_
          have e0 := (hget 21 37 (by kernel_rfl)).trans (congrArg some (H 21 (by decide)))
          clear H hin hout hget
          dsimp only [bare]
          go_wp2
          exact ⟨_, rfl, shows0 hR rfl⟩
        · intro vs a w hR H hin hout hget
          refine one_guard 22 false 38 rfl (by kernel_rfl) ((hget 22 38 (by kernel_rfl)).trans (congrArg some (H 22 (by decide)))) ?_
          have e0 := hout 1 (by kernel_rfl)
          clear H hin hout hget
          dsimp only [bare]
          go_wp2
          exact ⟨_, rfl, shows0 hR rfl⟩
        · intro vs a w hR H hin hout hget
          refine one_guard 22 false 38 rfl (by kernel_rfl) ((hget 22 38 (by kernel_rfl)).trans (congrArg some (H 22 (by decide)))) ?_
          have e0 := (hget 23 39 (by kernel_rfl)).trans (congrArg some (H 23 (by decide)))
          clear H hin hout hget
          dsimp only [bare]
          go_wp2
          exact ⟨_, rfl, shows0 hR rfl⟩
        · intro vs a w hR H hin hout hget
          refine one_guard 22 false 38 rfl (by kernel_rfl) ((hget 22 38 (by kernel_rfl)).trans (congrArg some (H 22 (by decide)))) ?_
          have e0 := (hget 24 40 (by kernel_rfl)).trans (congrArg some (H 24 (by decide)))
          clear H hin hout hget
          dsimp only [bare]
          go_wp2
          exact ⟨_, rfl, shows0 hR rfl⟩
        · intro vs a w hR H hin hout hget
          refine one_guard 22 false 38 rfl (by kernel_rfl) ((hget 22 38 (by kernel_rfl)).trans (congrArg some (H 22 (by decide)))) ?_
          have e0 := hout 1 (by kernel_rfl)
          clear H hin hout hget
          dsimp only [bare]
          go_wp2
          exact ⟨_, rfl, shows0 hR rfl⟩
        · intro vs a w hR H hin hout hget
          refine one_guard 22 false 38 rfl (by kernel_rfl) ((hget 22 38 (by kernel_rfl)).trans (congrArg some (H 22 (by decide)))) ?_
          have e0 := (hget 26 42 (by kernel_rfl)).trans (congrArg some (H 26 (by decide)))
          clear H hin hout hget
          dsimp only [bare]
          go_wp2
          exact ⟨_, rfl, shows0 hR rfl⟩
        · intro vs a w hR H hin hout hget
          refine one_guard 22 false 38 rfl (by kernel_rfl) ((hget 22 38 (by kernel_rfl)).trans (congrArg some (H 22 (by decide)))) ?_
          have e0 := (hget 27 43 (by kernel_rfl)).trans (congrArg some (H 27 (by decide)))
          clear H hin hout hget
          dsimp only [bare]
          go_wp2
          exact ⟨_, rfl, shows0 hR rfl⟩
        · intro vs a w hR H hin hout hget
          refine one_guard 22 false 38 rfl (by kernel_rfl) ((hget 22 38 (by kernel_rfl)).trans (congrArg some (H 22 (by decide)))) ?_
          have e0 := (hget 25 41 (by kernel_rfl)).trans (congrArg some (H 25 (by decide)))
          have e1 := (hget 28 44 (by kernel_rfl)).trans (congrArg some (H 28 (by decide)))
          clear H hin hout hget
          dsimp only [bare]
          go_wp2
          exact ⟨_, rfl, shows hR (below1 w _) (slN_new w _ _ _ _ _ rfl)⟩
        · intro vs a w hR H hin hout hget
          refine one_guard 22 false 38 rfl (by kernel_rfl) ((hget 22 38 (by kernel_rfl)).trans (congrArg some (H 22 (by decide)))) ?_
          have e0 := hout 2 (by kernel_rfl)
          obtain ⟨c0, c1, c2, c3, _⟩ := (show Blk w _ #[_, _, _, _] 24 from b2.laterB hR).four
          clear H hin hout hget
          dsimp only [bare]
          go_wp2
          exact ⟨_, rfl, shows0 hR rfl⟩
        · intro vs a w hR H hin hout hget
          refine one_guard 22 false 38 rfl (by kernel_rfl) ((hget 22 38 (by kernel_rfl)).trans (congrArg some (H 22 (by decide)))) ?_
          have e0 := hout 1 (by kernel_rfl)
          clear H hin hout hget
          dsimp only [bare]
          go_wp2
          exact ⟨_, rfl, shows0 hR rfl⟩
        · intro vs a w hR H hin hout hget
          refine one_guard 22 false 38 rfl (by kernel_rfl) ((hget 22 38 (by kernel_rfl)).trans (congrArg some (H 22 (by decide)))) ?_
          have e0 := (hget 31 47 (by kernel_rfl)).trans (congrArg some (H 31 (by decide)))
          clear H hin hout hget
          dsimp only [bare]
          go_wp2
          exact ⟨_, rfl, shows0 hR rfl⟩
        · intro vs a w hR H hin hout hget
          refine one_guard 22 false 38 rfl (by kernel_rfl) ((hget 22 38 (by kernel_rfl)).trans (congrArg some (H 22 (by decide)))) ?_
          have e0 := (hget 32 48 (by kernel_rfl)).trans (congrArg some (H 32 (by decide)))
          clear H hin hout hget
          dsimp only [bare]
          go_wp2_with fail
          refine (range_any c 200 hlt (by decide) w).mono ?_
          rintro e w1 ⟨rfl, hb⟩
          go_wp2
          exact ⟨_, rfl, shows hR hb.below rfl⟩
        · intro vs a w hR H hin hout hget
          refine one_guard 22 false 38 rfl (by kernel_rfl) ((hget 22 38 (by kernel_rfl)).trans (congrArg some (H 22 (by decide)))) ?_
          have e0 := (hget 30 46 (by kernel_rfl)).trans (congrArg some (H 30 (by decide)))
          have e1 := (hget 33 49 (by kernel_rfl)).trans (congrArg some (H 33 (by decide)))
          unfold setV setA at e0 e1
          clear H hin hout hget
          dsimp only [bare]
          go_wp2
          exact ⟨_, rfl, shows hR (below1 w _) (slN_new w _ _ _ _ _ rfl)⟩
        · intro vs a w hR H hin hout hget
          refine one_guard 22 false 38 rfl (by kernel_rfl) ((hget 22 38 (by kernel_rfl)).trans (congrArg some (H 22 (by decide)))) ?_
          obtain ⟨b0, o0, cap0, h0, lt0, c0⟩ := H 29 (by decide)
          have e0 := (hget 29 45 (by kernel_rfl)).trans (congrArg some h0)
          obtain ⟨b1, o1, cap1, h1, lt1, c1⟩ := H 34 (by decide)
          have e1 := (hget 34 50 (by kernel_rfl)).trans (congrArg some h1)
          clear H hin hout hget
          dsimp only [bare]
          go_wp2_with fail
          refine (lists_any _ _ [(c, 64), (128, c)] [Sx.ofL [c], Sx.range c 200] hsp hse w ⟨rfl, .inr ⟨_, _, _, rfl, lt0, c0⟩⟩ ⟨rfl, .inr ⟨_, _, _, rfl, lt1, c1⟩⟩).mono ?_
          rintro e w1 ⟨rfl, hb⟩
          go_wp2
          exact ⟨_, rfl, shows hR hb rfl⟩
        · intro vs a w hR H hin hout hget
          refine one_guard 22 false 38 rfl (by kernel_rfl) ((hget 22 38 (by kernel_rfl)).trans (congrArg some (H 22 (by decide)))) ?_
          have e0 := (hget 35 51 (by kernel_rfl)).trans (congrArg some (H 35 (by decide)))
          clear H hin hout hget
          dsimp only [bare]
          go_wp2
          exact ⟨_, rfl, shows0 hR rfl⟩
        · intro vs a w hR H hin hout hget
          refine one_free rfl ?_
          have e0 := (hget 22 38 (by kernel_rfl)).trans (congrArg some (H 22 (by decide)))
          have e1 := (hget 36 52 (by kernel_rfl)).trans (congrArg some (H 36 (by decide)))
          clear H hin hout hget
          dsimp only [bare]
          go_wp2
          exact ⟨_, rfl, shows0 hR rfl⟩
      · intro vs w3 hR H
        have e37 : vs 37 = .bool false := H 37 (by decide)
        have hB3 := hB2.trans (hR.mono hB2.size)
        simp only [putAll, Act.put, List.setIfInBounds_toArray, List.set_cons_succ, List.set_cons_zero, Nat.zero_add, Nat.reduceAdd, e37]
        clear H hR e37 b2 hB2
        go_wp2
        go_roundw
        case rel => exact ⟨c + 1, by omega, by go_num, hB3⟩
        case measure => simp [intOf]; omega
    · obtain rfl : c = 256 := by omega
      clear hc hlt
      go_wp2_with fail
      obtain ⟨gE, hgE⟩ : ∃ gE, gE = wr.heap.size := ⟨_, rfl⟩
      obtain ⟨W3, hW3, bE, hB3⟩ : ∃ W3, W3 = wr.alloc (.cells #[.int .u8 0, .int .u8 63, .int .u8 64, .int .u8 255] 5) ∧ Blk W3 wr.heap.size #[.int .u8 0, .int .u8 63, .int .u8 64, .int .u8 255] 5 ∧ Below w.heap.size w W3 :=
        ⟨_, rfl, blkOf1 wr _ _, hB.alloc hB.size _⟩
      rw [← hgE] at bE ⊢
      rw [← hW3]
      clear hW3 hgE hB
      have hends : ∀ j, j < 4 → ∃ e, e < 256 ∧ ∀ w, Below W3.heap.size W3 w → w.cell? ⟨gE, j, none⟩ = some (.int .u8 (e : Nat)) := fun j hj => by
        have : j = 0 ∨ j = 1 ∨ j = 2 ∨ j = 3 := by omega
        rcases this with rfl | rfl | rfl | rfl
        · exact ⟨0, by decide, fun w hw => (bE.laterB hw).cell 0⟩
        · exact ⟨63, by decide, fun w hw => (bE.laterB hw).cell 1⟩
        · exact ⟨64, by decide, fun w hw => (bE.laterB hw).cell 2⟩
        · exact ⟨255, by decide, fun w hw => (bE.laterB hw).cell 3⟩
      replace hends := Lib.hid hends
      go_loopw [56] (fun i wx => ∃ n : Nat, n ≤ 256 ∧ i = .int .i64 n ∧ Below W3.heap.size W3 wx) (fun i _ => 256 - (intOf i).toNat)
      case atStart => exact ⟨0, by omega, rfl, Below.refl _ _⟩
      case round =>
        obtain ⟨n, hn, rfl, hBn⟩ := hrel
        by_cases hlt : n < 256
        · obtain ⟨wo, rfl⟩ : ∃ wo : World, wo = wr := ⟨_, rfl⟩
          go_wp2_with fail
          go_loopw [61] (fun i wx => ∃ j a b : Nat, j ≤ 4 ∧ i = .int .i64 j ∧ Hid (a < 2 ^ 256) ∧ Hid (b < 2 ^ 256) ∧ Blk wx wo.heap.size (setA a) 24 ∧ Blk wx (wo.heap.size + 1) (setA b) 24 ∧ Below wo.heap.size wo wx) (fun i _ => 4 - (intOf i).toNat)
          case atStart => exact ⟨0, 0, 0, by omega, rfl, (show 0 < 2 ^ 256 by decide), (show 0 < 2 ^ 256 by decide), by rw [setA_zero]; exact (blkOf1 wo _ _).alloc _, by rw [setA_zero]; exact blkOf2 wo _ _ _, below2 wo _ _⟩
          case round =>
            obtain ⟨j, a, b, hj, rfl, ha, hb, b5, b6, hBj⟩ := hrel
            by_cases hltj : j < 4
            · obtain ⟨e, he, hce⟩ := hends.out j hltj
              have ce := hce wr (hBn.trans (hBj.mono hBn.size))
              have hle : ∀ x ∈ [e], x < 256 := by simpa using he
              go_upto_if 70 with (fail)
              refine wp_cond_both rfl ?_ ?_
              · skip
                refine wp_region_last 147 5 [.eq (setV a), .eq (.int .u8 e), .sl 1 1 ([e].map byteV), .eq (setV (Sx.ofL [e])), .eq (setV (Sx.or a (Sx.ofL [e])))] mixed rfl (by kernel_rfl) rfl rfl (by kernel_rfl) ?_ ?_
                · refine ⟨?_, ?_, ?_, ?_, ?_, trivial⟩
                  · intro vs a w hR H hin hout hget
                    refine one_free rfl ?_
                    have e0 := hout 5 (by kernel_rfl)
                    obtain ⟨c0, c1, c2, c3, _⟩ := (show Blk w _ #[_, _, _, _] 24 from b5.laterB hR).four
                    clear H hin hout hget
                    dsimp only [bare]
                    go_wp2
                    exact ⟨_, rfl, shows0 hR rfl⟩
                  · intro vs a w hR H hin hout hget
                    refine one_free rfl ?_
                    have e0 := hout 8 (by kernel_rfl)
                    clear H hin hout hget
                    dsimp only [bare]
                    go_wp2
                    exact ⟨_, rfl, shows0 hR rfl⟩
                  · intro vs a w hR H hin hout hget
                    refine one_free rfl ?_
                    have e0 := (hget 1 72 (by kernel_rfl)).trans (congrArg some (H 1 (by decide)))
                    clear H hin hout hget
                    dsimp only [bare]
                    go_wp2
                    exact ⟨_, rfl, shows hR (below1 w _) (slN_new w _ _ _ _ _ rfl)⟩
                  · intro vs a w hR H hin hout hget
                    refine one_free rfl ?_
                    obtain ⟨b0, o0, cap0, h0, lt0, c0⟩ := H 2 (by decide)
                    have e0 := (hget 2 73 (by kernel_rfl)).trans (congrArg some h0)
                    clear H hin hout hget
                    dsimp only [bare]
                    go_wp2_with fail
                    refine (of_any _ [e] hle w ⟨rfl, .inr ⟨_, _, _, rfl, lt0, c0⟩⟩ (show 1 ≤ maxLen by decide)).mono ?_
                    rintro e w1 ⟨rfl, hb⟩
                    go_wp2
                    exact ⟨_, rfl, shows hR hb.below rfl⟩
                  · intro vs a w hR H hin hout hget
                    refine one_free rfl ?_
                    have e0 := (hget 0 71 (by kernel_rfl)).trans (congrArg some (H 0 (by decide)))
                    have e1 := (hget 3 74 (by kernel_rfl)).trans (congrArg some (H 3 (by decide)))
                    clear H hin hout hget
                    dsimp only [bare]
                    go_wp2_with fail
                    refine (or_any _ _ w).mono ?_
                    rintro e w1 ⟨rfl, hb⟩
                    go_wp2
                    exact ⟨_, rfl, shows hR hb.below rfl⟩
                · intro vs wa hR H
                  have e4 : vs 4 = setV (Sx.or a (Sx.ofL [e])) := H 4 (by decide)
                  simp only [putAll, Act.put, List.setIfInBounds_toArray, List.set_cons_succ, List.set_cons_zero, Nat.zero_add, Nat.reduceAdd, e4]
                  clear H e4
                  replace hBj := hBj.trans (hR.mono hBj.size)
                  replace b5 := b5.laterB hR
                  replace b6 := b6.laterB hR
                  clear hR
                  have hnb5 : Sx.or a (Sx.ofL [e]) < 2 ^ 256 := Sx.or_lt ha.out (Sx.ofL_lt _ hle)
                  replace hnb5 := Lib.hid hnb5
                  generalize Sx.or a (Sx.ofL [e]) = y at hnb5 ⊢
                  obtain ⟨d0, d1, d2, d3, k0, k1, k2, k3⟩ := (show Blk wa _ #[_, _, _, _] 24 from b5).four
                  unfold setV setA
                  have nb5 := Lib.hid (Blk.setFour (show Blk wa _ #[_, _, _, _] 24 from b5) (.int .u64 (Sx.wd y 0)) (.int .u64 (Sx.wd y 1)) (.int .u64 (Sx.wd y 2)) (.int .u64 (Sx.wd y 3)))
                  have nb6 := Lib.hid (b6.otherFour (b' := wo.heap.size) (by omega) (.int .u64 (Sx.wd y 0)) (.int .u64 (Sx.wd y 1)) (.int .u64 (Sx.wd y 2)) (.int .u64 (Sx.wd y 3)))
                  have nB := Lib.hid (bfour hBj (b := wo.heap.size) (by omega) (.int .u64 (Sx.wd y 0)) (.int .u64 (Sx.wd y 1)) (.int .u64 (Sx.wd y 2)) (.int .u64 (Sx.wd y 3)))
                  clear b5 b6 hBj
                  go_upto_if 81 with (fail)
                  clear d0 d1 d2 d3 k0 k1 k2 k3
                  obtain ⟨wc, hwc⟩ : ∃ wc, wc = ((((wa.setCell ⟨wo.heap.size, 0, none⟩ (.int .u64 (Sx.wd y 0))).setCell ⟨wo.heap.size, 1, none⟩ (.int .u64 (Sx.wd y 1))).setCell ⟨wo.heap.size, 2, none⟩ (.int .u64 (Sx.wd y 2))).setCell ⟨wo.heap.size, 3, none⟩ (.int .u64 (Sx.wd y 3))) := ⟨_, rfl⟩
                  rw [← hwc]
                  rw [← hwc] at nb5 nb6 nB
                  have b5 := nb5.out
                  have b6 := nb6.out
                  have hBj := nB.out
                  clear nb5 nb6 nB hwc
                  refine wp_cond_both rfl ?_ ?_
                  · skip
                    refine wp_region_last 147 5 [.eq (setV b), .eq (.int .u8 e), .sl 1 1 ([e].map byteV), .eq (setV (Sx.ofL [e])), .eq (setV (Sx.or b (Sx.ofL [e])))] mixed rfl (by kernel_rfl) rfl rfl (by kernel_rfl) ?_ ?_
                    · refine ⟨?_, ?_, ?_, ?_, ?_, trivial⟩
                      · intro vs a w hR H hin hout hget
                        refine one_free rfl ?_
                        have e0 := hout 6 (by kernel_rfl)
                        obtain ⟨c0, c1, c2, c3, _⟩ := (show Blk w _ #[_, _, _, _] 24 from b6.laterB hR).four
                        clear H hin hout hget
                        dsimp only [bare]
                        go_wp2
                        exact ⟨_, rfl, shows0 hR rfl⟩
                      · intro vs a w hR H hin hout hget
                        refine one_free rfl ?_
                        have e0 := hout 8 (by kernel_rfl)
                        clear H hin hout hget
                        dsimp only [bare]
                        go_wp2
                        exact ⟨_, rfl, shows0 hR rfl⟩
                      · intro vs a w hR H hin hout hget
                        refine one_free rfl ?_
                        have e0 := (hget 1 83 (by kernel_rfl)).trans (congrArg some (H 1 (by decide)))
                        clear H hin hout hget
                        dsimp only [bare]
                        go_wp2
                        exact ⟨_, rfl, shows hR (below1 w _) (slN_new w _ _ _ _ _ rfl)⟩
                      · intro vs a w hR H hin hout hget
                        refine one_free rfl ?_
                        obtain ⟨b0, o0, cap0, h0, lt0, c0⟩ := H 2 (by decide)
                        have e0 := (hget 2 84 (by kernel_rfl)).trans (congrArg some h0)
                        clear H hin hout hget
                        dsimp only [bare]
                        go_wp2_with fail
                        refine (of_any _ [e] hle w ⟨rfl, .inr ⟨_, _, _, rfl, lt0, c0⟩⟩ (show 1 ≤ maxLen by decide)).mono ?_
                        rintro e w1 ⟨rfl, hb⟩
                        go_wp2
                        exact ⟨_, rfl, shows hR hb.below rfl⟩
                      · intro vs a w hR H hin hout hget
                        refine one_free rfl ?_
                        have e0 := (hget 0 82 (by kernel_rfl)).trans (congrArg some (H 0 (by decide)))
                        have e1 := (hget 3 85 (by kernel_rfl)).trans (congrArg some (H 3 (by decide)))
                        clear H hin hout hget
                        dsimp only [bare]
                        go_wp2_with fail
                        refine (or_any _ _ w).mono ?_
                        rintro e w1 ⟨rfl, hb⟩
                        go_wp2
                        exact ⟨_, rfl, shows hR hb.below rfl⟩
                    · intro vs wb hR H
                      have e4 : vs 4 = setV (Sx.or b (Sx.ofL [e])) := H 4 (by decide)
                      simp only [putAll, Act.put, List.setIfInBounds_toArray, List.set_cons_succ, List.set_cons_zero, Nat.zero_add, Nat.reduceAdd, e4]
                      clear H e4
                      replace hBj := hBj.trans (hR.mono hBj.size)
                      replace b5 := b5.laterB hR
                      replace b6 := b6.laterB hR
                      clear hR
                      have hnb6 : Sx.or b (Sx.ofL [e]) < 2 ^ 256 := Sx.or_lt hb.out (Sx.ofL_lt _ hle)
                      replace hnb6 := Lib.hid hnb6
                      generalize Sx.or b (Sx.ofL [e]) = z at hnb6 ⊢
                      obtain ⟨d0, d1, d2, d3, k0, k1, k2, k3⟩ := (show Blk wb _ #[_, _, _, _] 24 from b6).four
                      unfold setV setA
                      have nb6 := Lib.hid (Blk.setFour (show Blk wb _ #[_, _, _, _] 24 from b6) (.int .u64 (Sx.wd z 0)) (.int .u64 (Sx.wd z 1)) (.int .u64 (Sx.wd z 2)) (.int .u64 (Sx.wd z 3)))
                      have nb5 := Lib.hid (b5.otherFour (b' := (wo.heap.size + 1)) (by omega) (.int .u64 (Sx.wd z 0)) (.int .u64 (Sx.wd z 1)) (.int .u64 (Sx.wd z 2)) (.int .u64 (Sx.wd z 3)))
                      have nB := Lib.hid (bfour hBj (b := (wo.heap.size + 1)) (by omega) (.int .u64 (Sx.wd z 0)) (.int .u64 (Sx.wd z 1)) (.int .u64 (Sx.wd z 2)) (.int .u64 (Sx.wd z 3)))
                      clear b5 b6 hBj
                      go_wp2
                      go_roundw
                      case rel => exact ⟨j + 1, y, z, by omega, by go_num, hnb5, hnb6, nb5.out, nb6.out, nB.out⟩
                      case measure => simp [intOf]; omega
                  · refine wp_skip ?_
                    go_wp2
                    go_roundw
                    case rel => exact ⟨j + 1, y, b, by omega, by go_num, hnb5, hb, b5, b6, hBj⟩
                    case measure => simp [intOf]; omega
              · refine wp_skip ?_
                go_upto_if 81 with (fail)
                refine wp_cond_both rfl ?_ ?_
                · skip
                  refine wp_region_last 147 5 [.eq (setV b), .eq (.int .u8 e), .sl 1 1 ([e].map byteV), .eq (setV (Sx.ofL [e])), .eq (setV (Sx.or b (Sx.ofL [e])))] mixed rfl (by kernel_rfl) rfl rfl (by kernel_rfl) ?_ ?_
                  · refine ⟨?_, ?_, ?_, ?_, ?_, trivial⟩
                    · intro vs a w hR H hin hout hget
                      refine one_free rfl ?_
                      have e0 := hout 6 (by kernel_rfl)
                      obtain ⟨c0, c1, c2, c3, _⟩ := (show Blk w _ #[_, _, _, _] 24 from b6.laterB hR).four
                      clear H hin hout hget
                      dsimp only [bare]
                      go_wp2
                      exact ⟨_, rfl, shows0 hR rfl⟩
                    · intro vs a w hR H hin hout hget
                      refine one_free rfl ?_
                      have e0 := hout 8 (by kernel_rfl)
                      clear H hin hout hget
                      dsimp only [bare]
                      go_wp2
                      exact ⟨_, rfl, shows0 hR rfl⟩
                    · intro vs a w hR H hin hout hget
                      refine one_free rfl ?_
                      have e0 := (hget 1 83 (by kernel_rfl)).trans (congrArg some (H 1 (by decide)))
                      clear H hin hout hget
                      dsimp only [bare]
                      go_wp2
                      exact ⟨_, rfl, shows hR (below1 w _) (slN_new w _ _ _ _ _ rfl)⟩
                    · intro vs a w hR H hin hout hget
                      refine one_free rfl ?_
                      obtain ⟨b0, o0, cap0, h0, lt0, c0⟩ := H 2 (by decide)
                      have e0 := (hget 2 84 (by kernel_rfl)).trans (congrArg some h0)
                      clear H hin hout hget
                      dsimp only [bare]
                      go_wp2_with fail
                      refine (of_any _ [e] hle w ⟨rfl, .inr ⟨_, _, _, rfl, lt0, c0⟩⟩ (show 1 ≤ maxLen by decide)).mono ?_
                      rintro e w1 ⟨rfl, hb⟩
                      go_wp2
                      exact ⟨_, rfl, shows hR hb.below rfl⟩
                    · intro vs a w hR H hin hout hget
                      refine one_free rfl ?_
                      have e0 := (hget 0 82 (by kernel_rfl)).trans (congrArg some (H 0 (by decide)))
                      have e1 := (hget 3 85 (by kernel_rfl)).trans (congrArg some (H 3 (by decide)))
                      clear H hin hout hget
                      dsimp only [bare]
                      go_wp2_with fail
                      refine (or_any _ _ w).mono ?_
                      rintro e w1 ⟨rfl, hb⟩
                      go_wp2
                      exact ⟨_, rfl, shows hR hb.below rfl⟩
                  · intro vs wb hR H
                    have e4 : vs 4 = setV (Sx.or b (Sx.ofL [e])) := H 4 (by decide)
                    simp only [putAll, Act.put, List.setIfInBounds_toArray, List.set_cons_succ, List.set_cons_zero, Nat.zero_add, Nat.reduceAdd, e4]
                    clear H e4
                    replace hBj := hBj.trans (hR.mono hBj.size)
                    replace b5 := b5.laterB hR
                    replace b6 := b6.laterB hR
                    clear hR
                    have hnb6 : Sx.or b (Sx.ofL [e]) < 2 ^ 256 := Sx.or_lt hb.out (Sx.ofL_lt _ hle)
                    replace hnb6 := Lib.hid hnb6
                    generalize Sx.or b (Sx.ofL [e]) = y at hnb6 ⊢
                    obtain ⟨d0, d1, d2, d3, k0, k1, k2, k3⟩ := (show Blk wb _ #[_, _, _, _] 24 from b6).four
                    unfold setV setA
                    have nb6 := Lib.hid (Blk.setFour (show Blk wb _ #[_, _, _, _] 24 from b6) (.int .u64 (Sx.wd y 0)) (.int .u64 (Sx.wd y 1)) (.int .u64 (Sx.wd y 2)) (.int .u64 (Sx.wd y 3)))
                    have nb5 := Lib.hid (b5.otherFour (b' := (wo.heap.size + 1)) (by omega) (.int .u64 (Sx.wd y 0)) (.int .u64 (Sx.wd y 1)) (.int .u64 (Sx.wd y 2)) (.int .u64 (Sx.wd y 3)))
                    have nB := Lib.hid (bfour hBj (b := (wo.heap.size + 1)) (by omega) (.int .u64 (Sx.wd y 0)) (.int .u64 (Sx.wd y 1)) (.int .u64 (Sx.wd y 2)) (.int .u64 (Sx.wd y 3)))
                    clear b5 b6 hBj
                    go_wp2
                    go_roundw
                    case rel => exact ⟨j + 1, a, y, by omega, by go_num, ha, hnb6, nb5.out, nb6.out, nB.out⟩
                    case measure => simp [intOf]; omega
                · refine wp_skip ?_
                  go_wp2
                  go_roundw
                  case rel => exact ⟨j + 1, a, b, by omega, by go_num, ha, hb, b5, b6, hBj⟩
                  case measure => simp [intOf]; omega
            · obtain rfl : j = 4 := by omega
              obtain ⟨x1, he1, hce1⟩ := hends.out (n % 4) (by omega)
              obtain ⟨x2, he2, hce2⟩ := hends.out (n / 4 % 4) (by omega)
              have hBo := hBn.trans (hBj.mono hBn.size)
              have hc1 : ∀ w, Below wr.heap.size wr w → w.cell? ⟨gE, n % 4, none⟩ = some (.int .u8 (x1 : Nat)) := fun w hw => hce1 w (hBo.trans (hw.mono hBo.size))
              have hc2 : ∀ w, Below wr.heap.size wr w → w.cell? ⟨gE, n / 4 % 4, none⟩ = some (.int .u8 (x2 : Nat)) := fun w hw => hce2 w (hBo.trans (hw.mono hBo.size))
              have hse : ∀ s ∈ [a, b, Sx.not a], s < 2 ^ 256 := by
                intro s hs
                simp only [List.mem_cons, List.not_mem_nil, or_false] at hs
                rcases hs with rfl | rfl | rfl
                · exact ha.out
                · exact hb.out
                · exact Sx.not_lt _
              have hm1 : n % 4 < 4 := Nat.mod_lt _ (by decide)
              have hm2 : n / 4 % 4 < 4 := Nat.mod_lt _ (by decide)
              clear hce1 hce2 hBj hj hltj
              go_wp2_with fail
              refine wp_region_facts 147 [.eq (setV a), .eq (setV b), .eq (.slice (some ⟨gE, 0, none⟩) 4 4), .eq (.int .i64 n), .eq (.int .i64 (n % 4 : Nat)), .eq (.pointer (some ⟨gE, n % 4, none⟩)), .eq (.int .u8 x1), .eq (.slice (some ⟨gE, 0, none⟩) 4 4), .eq (.int .i64 n), .eq (.int .i64 (n / 4 : Nat)), .eq (.int .i64 (n / 4 % 4 : Nat)), .eq (.pointer (some ⟨gE, n / 4 % 4, none⟩)), .eq (.int .u8 x2), .eq (.bool true), .eq (.bool false), .eq (.bool false), .eq (setV a), .eq (setV (Sx.not a)), .eq (setV b), .eq (.slice (some ⟨gE, 0, none⟩) 4 4), .eq (.int .i64 n), .eq (.int .i64 (n % 4 : Nat)), .eq (.pointer (some ⟨gE, n % 4, none⟩)), .eq (.int .u8 x1), .eq (.bool true), .eq (.bool false), .eq (.bool false), .eq (.bool false), .eq (setV a), .eq (setV b), .eq (setV a), .eq (setV (Sx.not a)), .sl 4 3 (setCells [a, b, Sx.not a]), .eq (.bool true), .eq (.bool false), .eq (.bool false)] mixed rfl (by kernel_rfl) ?_ ?_
              · refine ⟨?_, ?_, ?_, ?_, ?_, ?_, ?_, ?_, ?_, ?_, ?_, ?_, ?_, ?_, ?_, ?_, ?_, ?_, ?_, ?_, ?_, ?_, ?_, ?_, ?_, ?_, ?_, ?_, ?_, ?_, ?_, ?_, ?_, ?_, ?_, ?_, trivial⟩
                · intro vs a w hR H hin hout hget
                  refine one_free rfl ?_
                  have e0 := hout 5 (by kernel_rfl)
                  obtain ⟨c0, c1, c2, c3, _⟩ := (show Blk w _ #[_, _, _, _] 24 from b5.laterB hR).four
                  clear H hin hout hget
                  dsimp only [bare]
                  go_wp2
                  exact ⟨_, rfl, shows0 hR rfl⟩
                · intro vs a w hR H hin hout hget
                  refine one_free rfl ?_
                  have e0 := hout 6 (by kernel_rfl)
                  obtain ⟨c0, c1, c2, c3, _⟩ := (show Blk w _ #[_, _, _, _] 24 from b6.laterB hR).four
                  clear H hin hout hget
                  dsimp only [bare]
                  go_wp2
                  exact ⟨_, rfl, shows0 hR rfl⟩
                · intro vs a w hR H hin hout hget
                  refine one_free rfl ?_
                  have e0 := hout 3 (by kernel_rfl)
                  clear H hin hout hget
                  dsimp only [bare]
                  go_wp2
                  exact ⟨_, rfl, shows0 hR rfl⟩
                · intro vs a w hR H hin hout hget
                  refine one_free rfl ?_
                  have e0 := hout 4 (by kernel_rfl)
                  clear H hin hout hget
                  dsimp only [bare]
                  go_wp2
                  exact ⟨_, rfl, shows0 hR rfl⟩
                · intro vs a w hR H hin hout hget
                  refine one_free rfl ?_
                  have e0 := (hget 3 91 (by kernel_rfl)).trans (congrArg some (H 3 (by decide)))
                  have q := hlt
                  clear H hin hout hget
                  dsimp only [bare]
                  go_wp2
                  exact ⟨_, rfl, shows0 hR rfl⟩
                · intro vs a w hR H hin hout hget
                  refine one_free rfl ?_
                  have e0 := (hget 2 90 (by kernel_rfl)).trans (congrArg some (H 2 (by decide)))
                  have e1 := (hget 4 92 (by kernel_rfl)).trans (congrArg some (H 4 (by decide)))
                  have q := hlt
                  have q4 := hm1
                  clear H hin hout hget
                  dsimp only [bare]
                  go_wp2
                  exact ⟨_, rfl, shows0 hR rfl⟩
                · intro vs a w hR H hin hout hget
                  refine one_free rfl ?_
                  have e0 := (hget 5 93 (by kernel_rfl)).trans (congrArg some (H 5 (by decide)))
                  have d0 := hc1 w hR
                  clear H hin hout hget
                  dsimp only [bare]
                  go_wp2
                  exact ⟨_, rfl, shows0 hR rfl⟩
                · intro vs a w hR H hin hout hget
                  refine one_free rfl ?_
                  have e0 := hout 3 (by kernel_rfl)
                  clear H hin hout hget
                  dsimp only [bare]
                  go_wp2
                  exact ⟨_, rfl, shows0 hR rfl⟩
                · intro vs a w hR H hin hout hget
                  refine one_free rfl ?_
                  have e0 := hout 4 (by kernel_rfl)
                  clear H hin hout hget
                  dsimp only [bare]
                  go_wp2
                  exact ⟨_, rfl, shows0 hR rfl⟩
                · intro vs a w hR H hin hout hget
                  refine one_free rfl ?_
                  have e0 := (hget 8 96 (by kernel_rfl)).trans (congrArg some (H 8 (by decide)))
                  have q := hlt
                  clear H hin hout hget
                  dsimp only [bare]
                  go_wp2
                  exact ⟨_, rfl, shows0 hR rfl⟩
                · intro vs a w hR H hin hout hget
                  refine one_free rfl ?_
                  have e0 := (hget 9 97 (by kernel_rfl)).trans (congrArg some (H 9 (by decide)))
                  have q := hlt
                  clear H hin hout hget
                  dsimp only [bare]
                  go_wp2
                  exact ⟨_, rfl, shows0 hR rfl⟩
                · intro vs a w hR H hin hout hget
                  refine one_free rfl ?_
                  have e0 := (hget 7 95 (by kernel_rfl)).trans (congrArg some (H 7 (by decide)))
                  have e1 := (hget 10 98 (by kernel_rfl)).trans (congrArg some (H 10 (by decide)))
                  have q := hlt
                  have q4 := hm2
                  clear H hin hout hget
                  dsimp only [bare]
                  go_wp2
                  exact ⟨_, rfl, shows0 hR rfl⟩
                · intro vs a w hR H hin hout hget
                  refine one_free rfl ?_
                  have e0 := (hget 11 99 (by kernel_rfl)).trans (congrArg some (H 11 (by decide)))
                  have d0 := hc2 w hR
                  clear H hin hout hget
                  dsimp only [bare]
                  go_wp2
                  exact ⟨_, rfl, shows0 hR rfl⟩
                · intro vs a w hR H hin hout hget
                  refine one_free rfl ?_
                  have e0 := (hget 0 88 (by kernel_rfl)).trans (congrArg some (H 0 (by decide)))
                  have e1 := (hget 1 89 (by kernel_rfl)).trans (congrArg some (H 1 (by decide)))
                  have e2 := (hget 6 94 (by kernel_rfl)).trans (congrArg some (H 6 (by decide)))
                  have e3 := (hget 12 100 (by kernel_rfl)).trans (congrArg some (H 12 (by decide)))
                  clear H hin hout hget
                  dsimp only [bare]
                  go_wp2_with fail
                  refine (tells_any _ _ _ _ ha.out hb.out he1 he2 w).mono ?_
                  rintro e w1 ⟨rfl, hb⟩
                  go_wp2
                  exact ⟨_, rfl, shows hR hb rfl⟩
                · intro vs a w hR H hin hout hget
                  refine one_free rfl ?_
                  have e0 := (hget 13 101 (by kernel_rfl)).trans (congrArg some (H 13 (by decide)))
                  clear H hin hout hget
                  dsimp only [bare]
                  go_wp2
                  exact ⟨_, rfl, shows0 hR rfl⟩
                · intro vs a w hR H hin hout hget
                  refine one_free rfl ?_
                  have e0 := (hget 14 102 (by kernel_rfl)).trans (congrArg some (H 14 (by decide)))
                  clear H hin hout hget
                  dsimp only [bare]
                  go_wp2
                  exact ⟨_, rfl, shows0 hR rfl⟩
                · intro vs a w hR H hin hout hget
                  refine one_guard 15 false 103 rfl (by kernel_rfl) ((hget 15 103 (by kernel_rfl)).trans (congrArg some (H 15 (by decide)))) ?_
                  have e0 := hout 5 (by kernel_rfl)
                  obtain ⟨c0, c1, c2, c3, _⟩ := (show Blk w _ #[_, _, _, _] 24 from b5.laterB hR).four
                  clear H hin hout hget
                  dsimp only [bare]
                  go_wp2
                  exact ⟨_, rfl, shows0 hR rfl⟩
                · intro vs a w hR H hin hout hget
                  refine one_guard 15 false 103 rfl (by kernel_rfl) ((hget 15 103 (by kernel_rfl)).trans (congrArg some (H 15 (by decide)))) ?_
                  have e0 := (hget 16 104 (by kernel_rfl)).trans (congrArg some (H 16 (by decide)))
                  clear H hin hout hget
                  dsimp only [bare]
                  go_wp2_with fail
                  refine (not_any _ w).mono ?_
                  rintro e w1 ⟨rfl, hb⟩
                  go_wp2
                  exact ⟨_, rfl, shows hR hb.below rfl⟩
                · intro vs a w hR H hin hout hget
                  refine one_guard 15 false 103 rfl (by kernel_rfl) ((hget 15 103 (by kernel_rfl)).trans (congrArg some (H 15 (by decide)))) ?_
                  have e0 := hout 6 (by kernel_rfl)
                  obtain ⟨c0, c1, c2, c3, _⟩ := (show Blk w _ #[_, _, _, _] 24 from b6.laterB hR).four
                  clear H hin hout hget
                  dsimp only [bare]
                  go_wp2
                  exact ⟨_, rfl, shows0 hR rfl⟩
                · intro vs a w hR H hin hout hget
                  refine one_guard 15 false 103 rfl (by kernel_rfl) ((hget 15 103 (by kernel_rfl)).trans (congrArg some (H 15 (by decide)))) ?_
                  have e0 := hout 3 (by kernel_rfl)
                  clear H hin hout hget
                  dsimp only [bare]
                  go_wp2
                  exact ⟨_, rfl, shows0 hR rfl⟩
                · intro vs a w hR H hin hout hget
                  refine one_guard 15 false 103 rfl (by kernel_rfl) ((hget 15 103 (by kernel_rfl)).trans (congrArg some (H 15 (by decide)))) ?_
                  have e0 := hout 4 (by kernel_rfl)
                  clear H hin hout hget
                  dsimp only [bare]
                  go_wp2
                  exact ⟨_, rfl, shows0 hR rfl⟩
                · intro vs a w hR H hin hout hget
                  refine one_guard 15 false 103 rfl (by kernel_rfl) ((hget 15 103 (by kernel_rfl)).trans (congrArg some (H 15 (by decide)))) ?_
                  have e0 := (hget 20 108 (by kernel_rfl)).trans (congrArg some (H 20 (by decide)))
                  have q := hlt
                  clear H hin hout hget
                  dsimp only [bare]
                  go_wp2
                  exact ⟨_, rfl, shows0 hR rfl⟩
                · intro vs a w hR H hin hout hget
                  refine one_guard 15 false 103 rfl (by kernel_rfl) ((hget 15 103 (by kernel_rfl)).trans (congrArg some (H 15 (by decide)))) ?_
                  have e0 := (hget 19 107 (by kernel_rfl)).trans (congrArg some (H 19 (by decide)))
                  have e1 := (hget 21 109 (by kernel_rfl)).trans (congrArg some (H 21 (by decide)))
                  have q := hlt
                  have q4 := hm1
                  clear H hin hout hget
                  dsimp only [bare]
                  go_wp2
                  exact ⟨_, rfl, shows0 hR rfl⟩
                · intro vs a w hR H hin hout hget
                  refine one_guard 15 false 103 rfl (by kernel_rfl) ((hget 15 103 (by kernel_rfl)).trans (congrArg some (H 15 (by decide)))) ?_
                  have e0 := (hget 22 110 (by kernel_rfl)).trans (congrArg some (H 22 (by decide)))
                  have d0 := hc1 w hR
                  clear H hin hout hget
                  dsimp only [bare]
                  go_wp2
                  exact ⟨_, rfl, shows0 hR rfl⟩
                · intro vs a w hR H hin hout hget
                  refine one_guard 15 false 103 rfl (by kernel_rfl) ((hget 15 103 (by kernel_rfl)).trans (congrArg some (H 15 (by decide)))) ?_
                  have e0 := (hget 17 105 (by kernel_rfl)).trans (congrArg some (H 17 (by decide)))
                  have e1 := (hget 18 106 (by kernel_rfl)).trans (congrArg some (H 18 (by decide)))
                  have e2 := (hget 23 111 (by kernel_rfl)).trans (congrArg some (H 23 (by decide)))
                  clear H hin hout hget
                  dsimp only [bare]
                  go_wp2_with fail
                  refine (tells_any _ _ _ 127 (Sx.not_lt _) hb.out he1 (by decide) w).mono ?_
                  rintro e w1 ⟨rfl, hb⟩
                  go_wp2
                  exact ⟨_, rfl, shows hR hb rfl⟩
                · intro vs a w hR H hin hout hget
                  refine one_guard 15 false 103 rfl (by kernel_rfl) ((hget 15 103 (by kernel_rfl)).trans (congrArg some (H 15 (by decide)))) ?_
                  have e0 := (hget 24 112 (by kernel_rfl)).trans (congrArg some (H 24 (by decide)))
                  clear H hin hout hget
                  dsimp only [bare]
                  go_wp2
                  exact ⟨_, rfl, shows0 hR rfl⟩
                · intro vs a w hR H hin hout hget
                  refine one_free rfl ?_
                  have e0 := (hget 15 103 (by kernel_rfl)).trans (congrArg some (H 15 (by decide)))
                  have e1 := (hget 25 113 (by kernel_rfl)).trans (congrArg some (H 25 (by decide)))
                  clear H hin hout hget
                  dsimp only [bare]
                  go_wp2
                  exact ⟨_, rfl, shows0 hR rfl⟩
                · intro vs a w hR H hin hout hget
                  refine one_free rfl ?_
                  have e0 := (hget 26 114 (by kernel_rfl)).trans (congrArg some (H 26 (by decide)))
                  clear H hin hout hget
                  dsimp only [bare]
                  go_wp2
                  exact ⟨_, rfl, shows0 hR rfl⟩
                · intro vs a w hR H hin hout hget
                  refine one_guard 27 false 115 rfl (by kernel_rfl) ((hget 27 115 (by kernel_rfl)).trans (congrArg some (H 27 (by decide)))) ?_
                  have e0 := hout 5 (by kernel_rfl)
                  obtain ⟨c0, c1, c2, c3, _⟩ := (show Blk w _ #[_, _, _, _] 24 from b5.laterB hR).four
                  clear H hin hout hget
                  dsimp only [bare]
                  go_wp2
                  exact ⟨_, rfl, shows0 hR rfl⟩
                · intro vs a w hR H hin hout hget
                  refine one_guard 27 false 115 rfl (by kernel_rfl) ((hget 27 115 (by kernel_rfl)).trans (congrArg some (H 27 (by decide)))) ?_
                  have e0 := hout 6 (by kernel_rfl)
                  obtain ⟨c0, c1, c2, c3, _⟩ := (show Blk w _ #[_, _, _, _] 24 from b6.laterB hR).four
                  clear H hin hout hget
                  dsimp only [bare]
                  go_wp2
                  exact ⟨_, rfl, shows0 hR rfl⟩
                · intro vs a w hR H hin hout hget
                  refine one_guard 27 false 115 rfl (by kernel_rfl) ((hget 27 115 (by kernel_rfl)).trans (congrArg some (H 27 (by decide)))) ?_
                  have e0 := hout 5 (by kernel_rfl)
                  obtain ⟨c0, c1, c2, c3, _⟩ := (show Blk w _ #[_, _, _, _] 24 from b5.laterB hR).four
                  clear H hin hout hget
                  dsimp only [bare]
                  go_wp2
                  exact ⟨_, rfl, shows0 hR rfl⟩
                · intro vs a w hR H hin hout hget
                  refine one_guard 27 false 115 rfl (by kernel_rfl) ((hget 27 115 (by kernel_rfl)).trans (congrArg some (H 27 (by decide)))) ?_
                  have e0 := (hget 30 118 (by kernel_rfl)).trans (congrArg some (H 30 (by decide)))
                  clear H hin hout hget
                  dsimp only [bare]
                  go_wp2_with fail
                  refine (not_any _ w).mono ?_
                  rintro e w1 ⟨rfl, hb⟩
                  go_wp2
                  exact ⟨_, rfl, shows hR hb.below rfl⟩
                · intro vs a w hR H hin hout hget
                  refine one_guard 27 false 115 rfl (by kernel_rfl) ((hget 27 115 (by kernel_rfl)).trans (congrArg some (H 27 (by decide)))) ?_
                  have e0 := (hget 28 116 (by kernel_rfl)).trans (congrArg some (H 28 (by decide)))
                  have e1 := (hget 29 117 (by kernel_rfl)).trans (congrArg some (H 29 (by decide)))
                  have e2 := (hget 31 119 (by kernel_rfl)).trans (congrArg some (H 31 (by decide)))
                  unfold setV setA at e0 e1 e2
                  clear H hin hout hget
                  dsimp only [bare]
                  go_wp2
                  exact ⟨_, rfl, shows hR (below1 w _) (slN_new w _ _ _ _ _ rfl)⟩
                · intro vs a w hR H hin hout hget
                  refine one_guard 27 false 115 rfl (by kernel_rfl) ((hget 27 115 (by kernel_rfl)).trans (congrArg some (H 27 (by decide)))) ?_
                  obtain ⟨b0, o0, cap0, h0, lt0, c0⟩ := H 32 (by decide)
                  have e0 := (hget 32 120 (by kernel_rfl)).trans (congrArg some h0)
                  clear H hin hout hget
                  dsimp only [bare]
                  go_wp2_with fail
                  refine (lists_any _ _ [] _ (by simp) hse w ⟨rfl, .inl ⟨rfl, rfl⟩⟩ ⟨rfl, .inr ⟨_, _, _, rfl, lt0, c0⟩⟩).mono ?_
                  rintro e w1 ⟨rfl, hb⟩
                  go_wp2
                  exact ⟨_, rfl, shows hR hb rfl⟩
                · intro vs a w hR H hin hout hget
                  refine one_guard 27 false 115 rfl (by kernel_rfl) ((hget 27 115 (by kernel_rfl)).trans (congrArg some (H 27 (by decide)))) ?_
                  have e0 := (hget 33 121 (by kernel_rfl)).trans (congrArg some (H 33 (by decide)))
                  clear H hin hout hget
                  dsimp only [bare]
                  go_wp2
                  exact ⟨_, rfl, shows0 hR rfl⟩
                · intro vs a w hR H hin hout hget
                  refine one_free rfl ?_
                  have e0 := (hget 27 115 (by kernel_rfl)).trans (congrArg some (H 27 (by decide)))
                  have e1 := (hget 34 122 (by kernel_rfl)).trans (congrArg some (H 34 (by decide)))
                  clear H hin hout hget
                  dsimp only [bare]
                  go_wp2
                  exact ⟨_, rfl, shows0 hR rfl⟩
              · intro vs w9 hR H
                have e35 : vs 35 = .bool false := H 35 (by decide)
                have hB9 := hBo.trans (hR.mono hBo.size)
                simp only [putAll, Act.put, List.setIfInBounds_toArray, List.set_cons_succ, List.set_cons_zero, Nat.zero_add, Nat.reduceAdd, e35]
                clear H hR e35 b5 b6 hc1 hc2 hBo
                go_wp2
                go_roundw
                case rel => exact ⟨n + 1, by omega, by go_num, hB9⟩
                case measure => simp [intOf]; omega
        · obtain rfl : n = 256 := by omega
          have hB4 := hB3.trans (hBn.mono hB3.size)
          have HAll := fun w => all_any w
          have HT1 := fun w => tells_any 0 Sx.full 0 255 (by decide) Sx.full_lt (by decide) (by decide) w
          have HT2 := fun w => tells_any Sx.full 0 255 0 Sx.full_lt (by decide) (by decide) (by decide) w
          rw [setV_zero] at HT1 HT2
          unfold setV setA at HAll HT1 HT2
          clear hn hlt bE hends hB3 hBn
          go_wp2_with fail
          refine (HAll _).mono ?_
          rintro e wa ⟨rfl, h1⟩
          have hBa := hB4.trans (h1.below.mono hB4.size)
          clear h1
          go_wp2_with fail
          refine (HT1 _).mono ?_
          rintro e wb ⟨rfl, h2⟩
          have hBb := hBa.trans (h2.mono hBa.size)
          clear h2 HT1 hBa
          go_wp2_with fail
          refine (HAll _).mono ?_
          rintro e wc ⟨rfl, h3⟩
          have hBc := hBb.trans (h3.below.mono hBb.size)
          clear h3 hBb
          go_wp2_with fail
          refine (HT2 _).mono ?_
          rintro e wd ⟨rfl, h4⟩
          have hBd := hBc.trans (h4.mono hBc.size)
          clear h4 HT2 hBc
          go_wp2_with fail
          refine (lists_nn wd).mono ?_
          rintro e we ⟨rfl, h5⟩
          have hBe := hBd.trans (h5.mono hBd.size)
          clear h5 hBd
          go_wp2_with fail
          refine (HAll _).mono ?_
          rintro e wf ⟨rfl, h6⟩
          have bS := Blk.later (blkOf1 we #[.int .u8 5, .int .u8 4] 49) h6
          have hBf := (hBe.alloc hBe.size (.cells #[.int .u8 5, .int .u8 4] 49)).trans (h6.below.mono (by have := hBe.size; simp; omega))
          clear h6 hBe
          go_wp2_with fail
          have bP := blkOf1 wf #[.int .u64 0, .int .u64 0, .int .u64 0, .int .u64 0, .int .u64 (Sx.wd Sx.full 0), .int .u64 (Sx.wd Sx.full 1), .int .u64 (Sx.wd Sx.full 2), .int .u64 (Sx.wd Sx.full 3)] 24
          have bS' := bS.alloc (.cells #[.int .u64 0, .int .u64 0, .int .u64 0, .int .u64 0, .int .u64 (Sx.wd Sx.full 0), .int .u64 (Sx.wd Sx.full 1), .int .u64 (Sx.wd Sx.full 2), .int .u64 (Sx.wd Sx.full 3)] 24)
          have hcells : setCells [0, Sx.full] = [.int .u64 0, .int .u64 0, .int .u64 0, .int .u64 0, .int .u64 (Sx.wd Sx.full 0), .int .u64 (Sx.wd Sx.full 1), .int .u64 (Sx.wd Sx.full 2), .int .u64 (Sx.wd Sx.full 3)] := by
            show (setA 0).toList ++ ((setA Sx.full).toList ++ []) = _
            rw [setA_zero]; rfl
          have hse : ∀ s ∈ [0, Sx.full], s < 2 ^ 256 := by
            intro s hs
            simp only [List.mem_cons, List.not_mem_nil, or_false] at hs
            rcases hs with rfl | rfl
            · exact (show 0 < 2 ^ 256 by decide)
            · exact Sx.full_lt
          have HL := lists_any (.slice (some ⟨we.heap.size, 0, none⟩) 1 1) (.slice (some ⟨wf.heap.size, 0, none⟩) 2 2) [(5, 4)] [0, Sx.full] (by intro x hx; rw [List.mem_singleton.1 hx]; decide) hse _ ⟨rfl, .inr ⟨_, _, _, rfl, bS'.lt, fun i hi => by rw [Nat.zero_add, bS'.cell i, ← Array.getElem?_toList]; rfl⟩⟩ ⟨setCells_len _, .inr ⟨_, _, _, rfl, bP.lt, fun i hi => by rw [Nat.zero_add, bP.cell i, hcells, ← Array.getElem?_toList]⟩⟩
          clear hcells hse
          refine HL.mono ?_
          clear HL
          rintro e wg ⟨rfl, h7⟩
          have hBg := (hBf.alloc hBf.size _).trans (h7.mono (by have := hBf.size; simp; omega))
          clear h7 hBf bP bS bS'
          go_wp2_with fail
          refine (awake_any wg).mono ?_
          rintro e wh ⟨rfl, h8⟩
          have hBh := hBg.trans (h8.mono hBg.size)
          clear h8 hBg
          go_wp2
          go_ret
          exact ⟨rfl, hBh⟩
end Go.Proofs.Ytojmkgllbhbeiaa
