/-
  WALKS: awake of the alphabet's laws.
  WALKS: few.
  WALKS of the library: slices.Clone at ints, bytes and sets (printed by clone.py).
  WALKS of the library: slices.Index and slices.Contains at ints.
  WALKS of the library: slices.Equal at sets.
  WALKS of the library: cmp.Less and slices.IsSorted at ints.
-/
import Derived.Test.YtojmkgllbhbeiaaK7
namespace Go.Proofs.Ytojmkgllbhbeiaa
open Go.RowKit

set_option maxRecDepth 100000 in
set_option maxHeartbeats 4000000 in
theorem awakeA_any (w : World) : Calls Try.prog 38 #[] w fun e w' => e = .returned (.bool true) ∧ Below w.heap.size w w' := by
  have HR := fun w => range_any 97 99 (by decide) (by decide) w
  have HR2 := fun w => range_any 98 100 (by decide) (by decide) w
  unfold setV setA at HR HR2
  go_enter Try.func38, Try.ntmps38
  go_wp2_with fail
  refine (HR _).mono ?_
  rintro e w1 ⟨rfl, hb0⟩
  have hB1 := hb0.below
  clear hb0
  go_wp2_with fail
  refine (HR2 _).mono ?_
  rintro e w2 ⟨rfl, hb0⟩
  have hB2 := bthen hB1 hb0.below
  clear hb0 HR2 hB1
  have HO : ∀ v w, Sl w v 4 2 (setCells aw2) → Calls Try.prog 39 #[v] w (RetAlph aw2 w) := fun v w h => of_alph v aw2 (allLt_spec (by kernel_rfl)) w h (by decide)
  go_wp2_with fail
  refine (HO _ _ ((slN_new w2 _ 24 4 2 (setCells aw2) rfl).sl rfl)).mono ?_
  clear HO
  rintro e w3 ⟨b, ds, rfl, hok, _, _, hA, hb, hB3⟩
  obtain rfl := hok.unique' aw4_ok
  replace hB3 := bthen hB2 (bthen (below1 w2 _) (hB3.mono (by simp)))
  clear hok hB2
  have hcA := fun w (h : Alph w b aw4) => class_any h (by decide) (show 99 < 256 by decide) (by rw [aw_cls]; decide)
  rw [aw_cls] at hcA
  have HL := Lib.hid (len_any hA (by decide))
  go_wp2_with fail
  refine HL.out.mono ?_
  rintro e w' ⟨rfl, rfl⟩
  clear HL
  go_wp2_with fail
  refine (hcA _ hA).mono ?_
  rintro e w' ⟨rfl, rfl⟩
  clear hcA
  have kc := conv44 w3 #[.int .u8 97, .int .u8 98, .int .u8 100] 3 3
  go_wp2_with fail
  have HW := fun v w (h : Alph w b aw4) hs => word_any aw4_ok b v [97, 98, 100] (by decide) w h hs (by decide)
  unfold RetNats at HW
  rw [aw_word] at HW
  refine (HW _ _ (hA.later (below1 w3 _)) ((slN_frozen w3 #[.int .u8 97, .int .u8 98, .int .u8 100] 5 _ 1 3 ([97, 98, 100].map byteV) rfl).sl rfl)).mono ?_
  clear HW
  rintro e w4 ⟨v4, rfl, hf, hB4⟩
  replace hB4 := (below1 w3 (.cells #[.int .u8 97, .int .u8 98, .int .u8 100] 5 (3, 4))).trans (hB4.mono (by simp))
  have hs4 := sl_of_owns hf.1
  clear hf
  go_wp2_with fail
  have HE : ∀ v1 v2 w, Sl w v1 1 3 ([1, 2, 3].map intN) → Sl w v2 1 3 ([1, 2, 3].map intN) → Calls Try.prog 56 #[v1, v2] w fun e w' => e = .returned (.bool true) ∧ Below w.heap.size w w' := fun v1 v2 w h1 h2 => eqInts_any v1 v2 [1, 2, 3] [1, 2, 3] w h1 h2 (by decide)
  refine (HE _ _ _ (hs4.laterB (below1 w4 _)) ((slN_new w4 #[.int .i64 1, .int .i64 2, .int .i64 3] 3 1 3 ([1, 2, 3].map intN) rfl).sl rfl)).mono ?_
  clear HE
  rintro e w5 ⟨rfl, hB5⟩
  have hB := bthen hB3 (hB4.trans (((below1 w4 (.cells #[.int .i64 1, .int .i64 2, .int .i64 3] 3)).trans (hB5.mono (by simp))).mono hB4.size))
  replace hA := hA.later (hB4.trans (((below1 w4 (.cells #[.int .i64 1, .int .i64 2, .int .i64 3] 3)).trans (hB5.mono (by simp))).mono hB4.size))
  clear hB3 hB4 hB5 hs4 kc
  go_wp2_with fail
  refine (HR _).mono ?_
  clear HR
  rintro e w6 ⟨rfl, hb0⟩
  replace hA := hA.later hb0.below
  replace hB := bthen hB hb0.below
  clear hb0
  go_wp2_with fail
  have HC := fun w (h : Alph w b aw4) => aw_c1 b w h
  unfold setV setA at HC
  refine (HC _ hA).mono ?_
  clear HC
  rintro e w7 ⟨v2, rfl, hs2, hb0⟩
  replace hA := hA.later hb0
  replace hB := bthen hB hb0
  clear hb0
  go_wp2_with fail
  have HO : ∀ v w, Sl w v 1 2 ([97, 98].map byteV) → Calls Try.prog 21 #[v] w fun e w' => e = .returned (setV (Sx.ofL [97, 98])) ∧ Gr w.heap.size w w' := fun v w h => of_any v [97, 98] (by decide) w h (show 2 ≤ maxLen by decide)
  unfold setV setA at HO
  refine (HO _ _ ((slN_new w7 #[.int .u8 97, .int .u8 98] 5 1 2 ([97, 98].map byteV) rfl).sl rfl)).mono ?_
  clear HO
  rintro e w8 ⟨rfl, hb0⟩
  have hb1 := (below1 w7 (.cells #[.int .u8 97, .int .u8 98] 5)).trans (hb0.below.mono (by simp))
  replace hA := hA.later hb1
  replace hs2 := hs2.laterB hb1
  replace hB := bthen hB hb1
  clear hb0 hb1
  go_wp2_with fail
  have HC := fun w (h : Alph w b aw4) => aw_c2 b w h
  unfold setV setA at HC
  refine (HC _ hA).mono ?_
  clear HC
  rintro e w9 ⟨rfl, hb0⟩
  replace hA := hA.later hb0
  replace hs2 := hs2.laterB hb0
  replace hB := bthen hB hb0
  clear hb0
  go_wp2_with fail
  have hb1 := below1 w9 (.cells #[.int .i64 2, .int .i64 0] 3)
  refine (aw_b b _ _ (hA.later hb1) ((slN_new w9 #[.int .i64 2, .int .i64 0] 3 1 2 ([2, 0].map intZ) rfl).sl rfl)).mono ?_
  rintro e w10 ⟨v6, rfl, hs6, hb0⟩
  replace hb1 := hb1.trans (hb0.mono (by simp))
  replace hA := hA.later hb1
  replace hs2 := hs2.laterB hb1
  replace hB := bthen hB hb1
  clear hb0 hb1
  go_wp2_with fail
  have hb1 := below1 w10 (.cells #[.int .i64 1, .int .i64 3, .int .i64 1] 3)
  have HT := fun v w (h : Alph w b aw4) hv => aw_t b v w h hv
  unfold setV setA at HT
  refine (HT _ _ (hA.later hb1) ((slN_new w10 #[.int .i64 1, .int .i64 3, .int .i64 1] 3 1 3 ([1, 3, 1].map intZ) rfl).sl rfl)).mono ?_
  clear HT
  rintro e w11 ⟨rfl, hb0⟩
  replace hb1 := hb1.trans (hb0.mono (by simp))
  replace hA := hA.later hb1
  replace hs2 := hs2.laterB hb1
  replace hs6 := hs6.laterB hb1
  replace hB := bthen hB hb1
  clear hb0 hb1
  go_wp2_with fail
  obtain ⟨W8, hW8, b8, hB8⟩ : ∃ W8, W8 = w11.alloc (.cells #[.int .u64 (Sx.wd (Sx.ofL [97, 100]) 0), .int .u64 (Sx.wd (Sx.ofL [97, 100]) 1), .int .u64 (Sx.wd (Sx.ofL [97, 100]) 2), .int .u64 (Sx.wd (Sx.ofL [97, 100]) 3)] 24) ∧ Blk W8 w11.heap.size (setA (Sx.ofL [97, 100])) 24 ∧ Below w11.heap.size w11 W8 := ⟨_, rfl, blkOf1 w11 _ _, below1 w11 _⟩
  rw [← hW8]
  clear hW8
  replace hA := hA.later hB8
  replace hs2 := hs2.laterB hB8
  replace hs6 := hs6.laterB hB8
  replace hB := bthen hB hB8
  clear hB8
  generalize w11.heap.size = g8 at b8 ⊢
  refine (allA_any W8).mono ?_
  rintro e w12 ⟨b2, rfl, hA2, _, hb0⟩
  replace hA := hA.later hb0
  replace hs2 := hs2.laterB hb0
  replace hs6 := hs6.laterB hb0
  replace hB := bthen hB hb0
  replace b8 := b8.laterB hb0
  clear hb0
  have HE1 : ∀ v1 v2 w, Sl w v1 1 2 ([1, 2].map intZ) → Sl w v2 1 2 ([1, 2].map intZ) → Calls Try.prog 56 #[v1, v2] w fun e w' => e = .returned (.bool true) ∧ Below w.heap.size w w' := fun v1 v2 w h1 h2 => eqInts_any v1 v2 [1, 2] [1, 2] w h1 h2 (by simp)
  have HE2 : ∀ v1 v2 w, Sl w v1 1 2 ([98, 0].map byteV) → Sl w v2 1 2 ([98, 0].map byteV) → Calls Try.prog 48 #[v1, v2] w fun e w' => e = .returned (.bool true) ∧ Below w.heap.size w w' := fun v1 v2 w h1 h2 => eqBytes_any v1 v2 [98, 0] [98, 0] w h1 h2 (by decide) (by decide)
  have HO : ∀ w v, Sl w v 1 2 ([97, 100].map byteV) → Calls Try.prog 21 #[v] w fun e w' => e = .returned (setV (Sx.ofL [97, 100])) ∧ Gr w.heap.size w w' := fun w v h => of_any v [97, 100] (by decide) w h (show 2 ≤ maxLen by decide)
  have HF1 : ∀ w, Below w12.heap.size w12 w → Calls Try.prog 66 #[.pointer (some ⟨b2, 0, none⟩), .pointer (some ⟨b, 0, none⟩)] w fun e w' => e = .returned (.bool true) ∧ Below w.heap.size w w' := fun w hw => by
    have := finer_any ones_ok aw4_ok b2 b w (hA2.later hw) (hA.later hw)
    rwa [aw_finer1] at this
  have HF2 : ∀ w, Below w12.heap.size w12 w → Calls Try.prog 66 #[.pointer (some ⟨b, 0, none⟩), .pointer (some ⟨b2, 0, none⟩)] w fun e w' => e = .returned (.bool false) ∧ Below w.heap.size w w' := fun w hw => by
    have := finer_any aw4_ok ones_ok b b2 w (hA.later hw) (hA2.later hw)
    rwa [aw_finer2] at this
  have HQ : ∀ w, (binOp .eql 24 (setV (Sx.ofL [97, 100])) (setV (Sx.ofL [97, 100]))).run Try.prog w = .ok (.bool true) w := fun w => by
    have := eqlSet (s := Sx.ofL [97, 100]) (t := Sx.ofL [97, 100]) (Sx.ofL_lt _ (by decide)) (Sx.ofL_lt _ (by decide)) w
    rwa [decide_eq_true rfl] at this
  have HG := guardSetV
  replace HE1 := Lib.hid HE1
  go_wp2_with fail
  replace HE1 := HE1.out
  refine wp_region_facts 108 [.eq (.pointer (some ⟨b2, 0, none⟩)), .eq (.bool true), .eq (.bool true), .eq v2, .sl 1 2 ([1, 2].map intZ), .eq (.bool true), .eq (.bool true), .eq (.bool true), .eq (.int .i64 0), .eq (.int .i64 0), .eq (.int .i64 0), .eq (.int .i64 0), .eq (.int .i64 0), .eq (.bool true), .eq (.bool true), .eq (.bool true), .eq (.int .i64 160), .eq (.bool true), .eq (.bool true), .eq (.bool true), .eq v6, .sl 1 2 ([98, 0].map byteV), .eq (.bool true), .eq (.bool true), .eq (.bool true), .eq (setV (Sx.ofL [97, 100])), .sl 1 2 ([97, 100].map byteV), .eq (setV (Sx.ofL [97, 100])), .eq (.bool true), .eq (.bool true), .eq (.bool true), .eq (.pointer (some ⟨b2, 0, none⟩)), .eq (.int .i64 256), .eq (.bool true), .eq (.bool true), .eq (.bool true), .eq (.pointer (some ⟨b2, 0, none⟩)), .eq (.pointer (some ⟨b, 0, none⟩)), .eq (.bool true), .eq (.bool true), .eq (.bool true), .eq (.pointer (some ⟨b, 0, none⟩)), .eq (.pointer (some ⟨b2, 0, none⟩)), .eq (.bool false), .eq (.bool true), .eq (.bool true), .eq (.bool true)] mixed rfl (by kernel_rfl) ?_ ?_
  · refine ⟨?_, ?_, ?_, ?_, ?_, ?_, ?_, ?_, ?_, ?_, ?_, ?_, ?_, ?_, ?_, ?_, ?_, ?_, ?_, ?_, ?_, ?_, ?_, ?_, ?_, ?_, ?_, ?_, ?_, ?_, ?_, ?_, ?_, ?_, ?_, ?_, ?_, ?_, ?_, ?_, ?_, ?_, ?_, ?_, ?_, ?_, ?_, trivial⟩
    · intro vs a w hR H hin hout hget
      refine one_free rfl ?_
      have e0 := hout 10 (by kernel_rfl)
      clear H hin hout hget
      dsimp only [bare]
      go_wp2
      exact ⟨_, rfl, shows0 hR rfl⟩
    · intro vs a w hR H hin hout hget
      refine one_free rfl ?_
      have e0 := (hget 0 62 (by kernel_rfl)).trans (congrArg some (H 0 (by decide)))
      clear H hin hout hget
      dsimp only [bare]
      go_wp2
      exact ⟨_, rfl, shows0 hR rfl⟩
    · intro vs a w hR H hin hout hget
      refine one_free rfl ?_
      have e0 := (hget 1 63 (by kernel_rfl)).trans (congrArg some (H 1 (by decide)))
      clear H hin hout hget
      dsimp only [bare]
      go_wp2
      exact ⟨_, rfl, shows0 hR rfl⟩
    · intro vs a w hR H hin hout hget
      refine one_guard 2 true 64 rfl (by kernel_rfl) ((hget 2 64 (by kernel_rfl)).trans (congrArg some (H 2 (by decide)))) ?_
      have e0 := hout 2 (by kernel_rfl)
      clear H hin hout hget
      dsimp only [bare]
      go_wp2
      exact ⟨_, rfl, shows0 hR rfl⟩
    · intro vs a w hR H hin hout hget
      refine one_guard 2 true 64 rfl (by kernel_rfl) ((hget 2 64 (by kernel_rfl)).trans (congrArg some (H 2 (by decide)))) ?_
      clear H hin hout hget
      dsimp only [bare]
      go_wp2
      exact ⟨_, rfl, shows hR (below1 w _) (slN_new w _ _ _ _ _ rfl)⟩
    · intro vs a w hR H hin hout hget
      refine one_guard 2 true 64 rfl (by kernel_rfl) ((hget 2 64 (by kernel_rfl)).trans (congrArg some (H 2 (by decide)))) ?_
      have e0 := (hget 3 65 (by kernel_rfl)).trans (congrArg some (H 3 (by decide)))
      obtain ⟨b1, o1, cap1, h1, lt1, c1⟩ := H 4 (by decide)
      have e1 := (hget 4 66 (by kernel_rfl)).trans (congrArg some h1)
      clear H hin hout hget
      dsimp only [bare]
      go_wp2_with fail
      refine (HE1 _ _ w (hs2.laterB hR) ⟨rfl, .inr ⟨_, _, _, rfl, lt1, c1⟩⟩).mono ?_
      rintro e w1 ⟨rfl, hb⟩
      go_wp2
      exact ⟨_, rfl, shows hR hb rfl⟩
    · intro vs a w hR H hin hout hget
      refine one_free rfl ?_
      have e0 := (hget 2 64 (by kernel_rfl)).trans (congrArg some (H 2 (by decide)))
      have e1 := (hget 5 67 (by kernel_rfl)).trans (congrArg some (H 5 (by decide)))
      clear H hin hout hget
      dsimp only [bare]
      go_wp2
      exact ⟨_, rfl, shows0 hR rfl⟩
    · intro vs a w hR H hin hout hget
      refine one_free rfl ?_
      have e0 := (hget 6 68 (by kernel_rfl)).trans (congrArg some (H 6 (by decide)))
      clear H hin hout hget
      dsimp only [bare]
      go_wp2
      exact ⟨_, rfl, shows0 hR rfl⟩
    · intro vs a w hR H hin hout hget
      refine one_guard 7 true 69 rfl (by kernel_rfl) ((hget 7 69 (by kernel_rfl)).trans (congrArg some (H 7 (by decide)))) ?_
      have e0 := hout 3 (by kernel_rfl)
      clear H hin hout hget
      dsimp only [bare]
      go_wp2
      exact ⟨_, rfl, shows0 hR rfl⟩
    · intro vs a w hR H hin hout hget
      refine one_guard 7 true 69 rfl (by kernel_rfl) ((hget 7 69 (by kernel_rfl)).trans (congrArg some (H 7 (by decide)))) ?_
      have e0 := hout 7 (by kernel_rfl)
      clear H hin hout hget
      dsimp only [bare]
      go_wp2
      exact ⟨_, rfl, shows0 hR rfl⟩
    · intro vs a w hR H hin hout hget
      refine one_guard 7 true 69 rfl (by kernel_rfl) ((hget 7 69 (by kernel_rfl)).trans (congrArg some (H 7 (by decide)))) ?_
      have e0 := (hget 8 70 (by kernel_rfl)).trans (congrArg some (H 8 (by decide)))
      have e1 := (hget 9 71 (by kernel_rfl)).trans (congrArg some (H 9 (by decide)))
      clear H hin hout hget
      dsimp only [bare]
      go_wp2
      exact ⟨_, rfl, shows0 hR rfl⟩
    · intro vs a w hR H hin hout hget
      refine one_guard 7 true 69 rfl (by kernel_rfl) ((hget 7 69 (by kernel_rfl)).trans (congrArg some (H 7 (by decide)))) ?_
      have e0 := hout 9 (by kernel_rfl)
      clear H hin hout hget
      dsimp only [bare]
      go_wp2
      exact ⟨_, rfl, shows0 hR rfl⟩
    · intro vs a w hR H hin hout hget
      refine one_guard 7 true 69 rfl (by kernel_rfl) ((hget 7 69 (by kernel_rfl)).trans (congrArg some (H 7 (by decide)))) ?_
      have e0 := (hget 10 72 (by kernel_rfl)).trans (congrArg some (H 10 (by decide)))
      have e1 := (hget 11 73 (by kernel_rfl)).trans (congrArg some (H 11 (by decide)))
      clear H hin hout hget
      dsimp only [bare]
      go_wp2
      exact ⟨_, rfl, shows0 hR rfl⟩
    · intro vs a w hR H hin hout hget
      refine one_guard 7 true 69 rfl (by kernel_rfl) ((hget 7 69 (by kernel_rfl)).trans (congrArg some (H 7 (by decide)))) ?_
      have e0 := (hget 12 74 (by kernel_rfl)).trans (congrArg some (H 12 (by decide)))
      clear H hin hout hget
      dsimp only [bare]
      go_wp2
      exact ⟨_, rfl, shows0 hR rfl⟩
    · intro vs a w hR H hin hout hget
      refine one_free rfl ?_
      have e0 := (hget 7 69 (by kernel_rfl)).trans (congrArg some (H 7 (by decide)))
      have e1 := (hget 13 75 (by kernel_rfl)).trans (congrArg some (H 13 (by decide)))
      clear H hin hout hget
      dsimp only [bare]
      go_wp2
      exact ⟨_, rfl, shows0 hR rfl⟩
    · intro vs a w hR H hin hout hget
      refine one_free rfl ?_
      have e0 := (hget 14 76 (by kernel_rfl)).trans (congrArg some (H 14 (by decide)))
      clear H hin hout hget
      dsimp only [bare]
      go_wp2
      exact ⟨_, rfl, shows0 hR rfl⟩
    · intro vs a w hR H hin hout hget
      refine one_guard 15 true 77 rfl (by kernel_rfl) ((hget 15 77 (by kernel_rfl)).trans (congrArg some (H 15 (by decide)))) ?_
      have e0 := hout 5 (by kernel_rfl)
      clear H hin hout hget
      dsimp only [bare]
      go_wp2
      exact ⟨_, rfl, shows0 hR rfl⟩
    · intro vs a w hR H hin hout hget
      refine one_guard 15 true 77 rfl (by kernel_rfl) ((hget 15 77 (by kernel_rfl)).trans (congrArg some (H 15 (by decide)))) ?_
      have e0 := (hget 16 78 (by kernel_rfl)).trans (congrArg some (H 16 (by decide)))
      clear H hin hout hget
      dsimp only [bare]
      go_wp2
      exact ⟨_, rfl, shows0 hR rfl⟩
    · intro vs a w hR H hin hout hget
      refine one_free rfl ?_
      have e0 := (hget 15 77 (by kernel_rfl)).trans (congrArg some (H 15 (by decide)))
      have e1 := (hget 17 79 (by kernel_rfl)).trans (congrArg some (H 17 (by decide)))
      clear H hin hout hget
      dsimp only [bare]
      go_wp2
      exact ⟨_, rfl, shows0 hR rfl⟩
    · intro vs a w hR H hin hout hget
      refine one_free rfl ?_
      have e0 := (hget 18 80 (by kernel_rfl)).trans (congrArg some (H 18 (by decide)))
      clear H hin hout hget
      dsimp only [bare]
      go_wp2
      exact ⟨_, rfl, shows0 hR rfl⟩
    · intro vs a w hR H hin hout hget
      refine one_guard 19 true 81 rfl (by kernel_rfl) ((hget 19 81 (by kernel_rfl)).trans (congrArg some (H 19 (by decide)))) ?_
      have e0 := hout 6 (by kernel_rfl)
      clear H hin hout hget
      dsimp only [bare]
      go_wp2
      exact ⟨_, rfl, shows0 hR rfl⟩
    · intro vs a w hR H hin hout hget
      refine one_guard 19 true 81 rfl (by kernel_rfl) ((hget 19 81 (by kernel_rfl)).trans (congrArg some (H 19 (by decide)))) ?_
      clear H hin hout hget
      dsimp only [bare]
      go_wp2
      exact ⟨_, rfl, shows hR (below1 w _) (slN_new w _ _ _ _ _ rfl)⟩
    · intro vs a w hR H hin hout hget
      refine one_guard 19 true 81 rfl (by kernel_rfl) ((hget 19 81 (by kernel_rfl)).trans (congrArg some (H 19 (by decide)))) ?_
      have e0 := (hget 20 82 (by kernel_rfl)).trans (congrArg some (H 20 (by decide)))
      obtain ⟨b1, o1, cap1, h1, lt1, c1⟩ := H 21 (by decide)
      have e1 := (hget 21 83 (by kernel_rfl)).trans (congrArg some h1)
      clear H hin hout hget
      dsimp only [bare]
      go_wp2_with fail
      refine (HE2 _ _ w (hs6.laterB hR) ⟨rfl, .inr ⟨_, _, _, rfl, lt1, c1⟩⟩).mono ?_
      rintro e w1 ⟨rfl, hb⟩
      go_wp2
      exact ⟨_, rfl, shows hR hb rfl⟩
    · intro vs a w hR H hin hout hget
      refine one_free rfl ?_
      have e0 := (hget 19 81 (by kernel_rfl)).trans (congrArg some (H 19 (by decide)))
      have e1 := (hget 22 84 (by kernel_rfl)).trans (congrArg some (H 22 (by decide)))
      clear H hin hout hget
      dsimp only [bare]
      go_wp2
      exact ⟨_, rfl, shows0 hR rfl⟩
    · intro vs a w hR H hin hout hget
      refine one_free rfl ?_
      have e0 := (hget 23 85 (by kernel_rfl)).trans (congrArg some (H 23 (by decide)))
      clear H hin hout hget
      dsimp only [bare]
      go_wp2
      exact ⟨_, rfl, shows0 hR rfl⟩
    · intro vs a w hR H hin hout hget
      refine one_guard 24 true 86 rfl (by kernel_rfl) ((hget 24 86 (by kernel_rfl)).trans (congrArg some (H 24 (by decide)))) ?_
      have e0 := hout 8 (by kernel_rfl)
      obtain ⟨d0, d1, d2, d3, _⟩ := (show Blk w _ #[_, _, _, _] 24 from b8.laterB hR).four
      clear H hin hout hget
      dsimp only [bare]
      go_wp2
      exact ⟨_, rfl, shows0 hR rfl⟩
    · intro vs a w hR H hin hout hget
      refine one_guard 24 true 86 rfl (by kernel_rfl) ((hget 24 86 (by kernel_rfl)).trans (congrArg some (H 24 (by decide)))) ?_
      clear H hin hout hget
      dsimp only [bare]
      go_wp2
      exact ⟨_, rfl, shows hR (below1 w _) (slN_new w _ _ _ _ _ rfl)⟩
    · intro vs a w hR H hin hout hget
      refine one_guard 24 true 86 rfl (by kernel_rfl) ((hget 24 86 (by kernel_rfl)).trans (congrArg some (H 24 (by decide)))) ?_
      obtain ⟨b0, o0, cap0, h0, lt0, c0⟩ := H 26 (by decide)
      have e0 := (hget 26 88 (by kernel_rfl)).trans (congrArg some h0)
      clear H hin hout hget
      dsimp only [bare]
      go_wp2_with fail
      refine (HO w _ ⟨rfl, .inr ⟨_, _, _, rfl, lt0, c0⟩⟩).mono ?_
      rintro e w1 ⟨rfl, hb⟩
      go_wp2
      exact ⟨_, rfl, shows hR hb.below rfl⟩
    · intro vs a w hR H hin hout hget
      refine one_guard 24 true 86 rfl (by kernel_rfl) ((hget 24 86 (by kernel_rfl)).trans (congrArg some (H 24 (by decide)))) ?_
      have e0 := (hget 25 87 (by kernel_rfl)).trans (congrArg some (H 25 (by decide)))
      have e1 := (hget 27 89 (by kernel_rfl)).trans (congrArg some (H 27 (by decide)))
      have q1 := HG
      have q2 := HQ
      clear H hin hout hget
      dsimp only [bare]
      go_wp2
      exact ⟨_, rfl, shows0 hR rfl⟩
    · intro vs a w hR H hin hout hget
      refine one_free rfl ?_
      have e0 := (hget 24 86 (by kernel_rfl)).trans (congrArg some (H 24 (by decide)))
      have e1 := (hget 28 90 (by kernel_rfl)).trans (congrArg some (H 28 (by decide)))
      clear H hin hout hget
      dsimp only [bare]
      go_wp2
      exact ⟨_, rfl, shows0 hR rfl⟩
    · intro vs a w hR H hin hout hget
      refine one_free rfl ?_
      have e0 := (hget 29 91 (by kernel_rfl)).trans (congrArg some (H 29 (by decide)))
      clear H hin hout hget
      dsimp only [bare]
      go_wp2
      exact ⟨_, rfl, shows0 hR rfl⟩
    · intro vs a w hR H hin hout hget
      refine one_guard 30 true 92 rfl (by kernel_rfl) ((hget 30 92 (by kernel_rfl)).trans (congrArg some (H 30 (by decide)))) ?_
      have e0 := hout 10 (by kernel_rfl)
      clear H hin hout hget
      dsimp only [bare]
      go_wp2
      exact ⟨_, rfl, shows0 hR rfl⟩
    · intro vs a w hR H hin hout hget
      refine one_guard 30 true 92 rfl (by kernel_rfl) ((hget 30 92 (by kernel_rfl)).trans (congrArg some (H 30 (by decide)))) ?_
      have e0 := (hget 31 93 (by kernel_rfl)).trans (congrArg some (H 31 (by decide)))
      clear H hin hout hget
      dsimp only [bare]
      go_wp2_with fail
      refine (len_any (hA2.later hR) (by rw [ones_len]; decide)).mono ?_
      rintro e w1 ⟨rfl, rfl⟩
      go_wp2
      exact ⟨_, rfl, shows0 hR rfl⟩
    · intro vs a w hR H hin hout hget
      refine one_guard 30 true 92 rfl (by kernel_rfl) ((hget 30 92 (by kernel_rfl)).trans (congrArg some (H 30 (by decide)))) ?_
      have e0 := (hget 32 94 (by kernel_rfl)).trans (congrArg some (H 32 (by decide)))
      clear H hin hout hget
      dsimp only [bare]
      go_wp2
      exact ⟨_, rfl, shows0 hR rfl⟩
    · intro vs a w hR H hin hout hget
      refine one_free rfl ?_
      have e0 := (hget 30 92 (by kernel_rfl)).trans (congrArg some (H 30 (by decide)))
      have e1 := (hget 33 95 (by kernel_rfl)).trans (congrArg some (H 33 (by decide)))
      clear H hin hout hget
      dsimp only [bare]
      go_wp2
      exact ⟨_, rfl, shows0 hR rfl⟩
    · intro vs a w hR H hin hout hget
      refine one_free rfl ?_
      have e0 := (hget 34 96 (by kernel_rfl)).trans (congrArg some (H 34 (by decide)))
      clear H hin hout hget
      dsimp only [bare]
      go_wp2
      exact ⟨_, rfl, shows0 hR rfl⟩
    · intro vs a w hR H hin hout hget
      refine one_guard 35 true 97 rfl (by kernel_rfl) ((hget 35 97 (by kernel_rfl)).trans (congrArg some (H 35 (by decide)))) ?_
      have e0 := hout 10 (by kernel_rfl)
      clear H hin hout hget
      dsimp only [bare]
      go_wp2
      exact ⟨_, rfl, shows0 hR rfl⟩
    · intro vs a w hR H hin hout hget
      refine one_guard 35 true 97 rfl (by kernel_rfl) ((hget 35 97 (by kernel_rfl)).trans (congrArg some (H 35 (by decide)))) ?_
      have e0 := hout 1 (by kernel_rfl)
      clear H hin hout hget
      dsimp only [bare]
      go_wp2
      exact ⟨_, rfl, shows0 hR rfl⟩
    · intro vs a w hR H hin hout hget
      refine one_guard 35 true 97 rfl (by kernel_rfl) ((hget 35 97 (by kernel_rfl)).trans (congrArg some (H 35 (by decide)))) ?_
      have e0 := (hget 36 98 (by kernel_rfl)).trans (congrArg some (H 36 (by decide)))
      have e1 := (hget 37 99 (by kernel_rfl)).trans (congrArg some (H 37 (by decide)))
      clear H hin hout hget
      dsimp only [bare]
      go_wp2_with fail
      refine (HF1 w hR).mono ?_
      rintro e w1 ⟨rfl, hb⟩
      go_wp2
      exact ⟨_, rfl, shows hR hb rfl⟩
    · intro vs a w hR H hin hout hget
      refine one_free rfl ?_
      have e0 := (hget 35 97 (by kernel_rfl)).trans (congrArg some (H 35 (by decide)))
      have e1 := (hget 38 100 (by kernel_rfl)).trans (congrArg some (H 38 (by decide)))
      clear H hin hout hget
      dsimp only [bare]
      go_wp2
      exact ⟨_, rfl, shows0 hR rfl⟩
    · intro vs a w hR H hin hout hget
      refine one_free rfl ?_
      have e0 := (hget 39 101 (by kernel_rfl)).trans (congrArg some (H 39 (by decide)))
      clear H hin hout hget
      dsimp only [bare]
      go_wp2
      exact ⟨_, rfl, shows0 hR rfl⟩
    · intro vs a w hR H hin hout hget
      refine one_guard 40 true 102 rfl (by kernel_rfl) ((hget 40 102 (by kernel_rfl)).trans (congrArg some (H 40 (by decide)))) ?_
      have e0 := hout 1 (by kernel_rfl)
      clear H hin hout hget
      dsimp only [bare]
      go_wp2
      exact ⟨_, rfl, shows0 hR rfl⟩
    · intro vs a w hR H hin hout hget
      refine one_guard 40 true 102 rfl (by kernel_rfl) ((hget 40 102 (by kernel_rfl)).trans (congrArg some (H 40 (by decide)))) ?_
      have e0 := hout 10 (by kernel_rfl)
      clear H hin hout hget
      dsimp only [bare]
      go_wp2
      exact ⟨_, rfl, shows0 hR rfl⟩
    · intro vs a w hR H hin hout hget
      refine one_guard 40 true 102 rfl (by kernel_rfl) ((hget 40 102 (by kernel_rfl)).trans (congrArg some (H 40 (by decide)))) ?_
      have e0 := (hget 41 103 (by kernel_rfl)).trans (congrArg some (H 41 (by decide)))
      have e1 := (hget 42 104 (by kernel_rfl)).trans (congrArg some (H 42 (by decide)))
      clear H hin hout hget
      dsimp only [bare]
      go_wp2_with fail
      refine (HF2 w hR).mono ?_
      rintro e w1 ⟨rfl, hb⟩
      go_wp2
      exact ⟨_, rfl, shows hR hb rfl⟩
    · intro vs a w hR H hin hout hget
      refine one_guard 40 true 102 rfl (by kernel_rfl) ((hget 40 102 (by kernel_rfl)).trans (congrArg some (H 40 (by decide)))) ?_
      have e0 := (hget 43 105 (by kernel_rfl)).trans (congrArg some (H 43 (by decide)))
      clear H hin hout hget
      dsimp only [bare]
      go_wp2
      exact ⟨_, rfl, shows0 hR rfl⟩
    · intro vs a w hR H hin hout hget
      refine one_free rfl ?_
      have e0 := (hget 40 102 (by kernel_rfl)).trans (congrArg some (H 40 (by decide)))
      have e1 := (hget 44 106 (by kernel_rfl)).trans (congrArg some (H 44 (by decide)))
      clear H hin hout hget
      dsimp only [bare]
      go_wp2
      exact ⟨_, rfl, shows0 hR rfl⟩
    · intro vs a w hR H hin hout hget
      refine one_free rfl ?_
      have e0 := (hget 45 107 (by kernel_rfl)).trans (congrArg some (H 45 (by decide)))
      clear H hin hout hget
      dsimp only [bare]
      go_wp2
      exact ⟨_, rfl, shows0 hR rfl⟩
  · intro vs w13 hR H
    have e46 : vs 46 = .bool true := H 46 (by decide)
    simp only [putAll, Act.put, List.setIfInBounds_toArray, List.set_cons_succ, List.set_cons_zero, Nat.zero_add, Nat.reduceAdd, e46]
    clear H e46
    replace hB := bthen hB hR
    go_wp2
    go_ret
    exact ⟨rfl, hB⟩
end Go.Proofs.Ytojmkgllbhbeiaa
namespace Go.Proofs.Ytojmkgllbhbeiaa
open Go.RowKit

theorem sl_take {w : World} {A : Option Addr} {n cap k m : Nat} {cs ds : List Value} (h : Sl w (.slice A n cap) k n cs) (hm : m ≤ n) (hd : ds = cs.take (m * k)) (c' : Nat) (h0 : A = none → c' = 0) : Sl w (.slice A m c') k m ds := by
  obtain ⟨hl, ⟨he, hn⟩ | ⟨b, o, cap', he, hb, hc⟩⟩ := h
  · cases he
    obtain rfl : m = 0 := by omega
    refine ⟨by rw [hd]; simp, .inl ⟨by rw [h0 rfl], rfl⟩⟩
  · cases he
    have hmk : m * k ≤ n * k := Nat.mul_le_mul_right k hm
    refine ⟨by rw [hd, List.length_take, hl]; omega, .inr ⟨b, o, c', rfl, hb, fun i hi => ?_⟩⟩
    rw [hc i (by omega), hd, List.getElem?_take, if_pos hi]

theorem setCells_take : ∀ (ss : List Nat) (m : Nat), setCells (ss.take m) = (setCells ss).take (m * 4)
  | [], m => by simp [setCells]
  | s :: ss, 0 => by simp [setCells]
  | s :: ss, m + 1 => by
    have h := setCells_take ss m
    have e1 : setCells (s :: ss) = setCells [s] ++ setCells ss := setCells_append [s] ss
    have e2 : setCells (s :: ss.take m) = setCells [s] ++ setCells (ss.take m) := setCells_append [s] (ss.take m)
    have hl : (setCells [s]).length = 4 := setCells_len [s]
    rw [List.take_succ_cons, e1, e2, h, show (m + 1) * 4 = (setCells [s]).length + m * 4 by rw [hl]; omega, List.take_length_add_append]

set_option maxHeartbeats 1000000 in
theorem few_any (A : Option Addr) (cap : Nat) (ss : List Nat) (w : World) (h : Sl w (.slice A ss.length cap) 4 ss.length (setCells ss)) (hcap : ss.length ≤ cap) :
    Calls Try.prog 40 #[.slice A ss.length cap] w fun e w' => e = .returned (.slice A (ss.take 6).length cap) ∧ w = w' := by
  have hm : Hid ((min (ss.length : Int) 6).toNat = (ss.take 6).length) := by
    show _ = _
    rw [List.length_take]; omega
  obtain ⟨hl, ⟨he, h0⟩ | ⟨b, o, cap', he, hb, hc⟩⟩ := h
  · obtain rfl := List.eq_nil_of_length_eq_zero h0
    simp only [List.length_nil] at he ⊢
    cases he
    go_enter Try.func40, Try.ntmps40
    go_wp2
    go_ret
    exact ⟨rfl, rfl⟩
  · cases he
    generalize ss.length = n at *
    have hm0 : (0 : Int) ≤ min (n : Int) 6 := by omega
    have hm1 : min (n : Int) 6 ≤ (cap : Int) := by omega
    go_enter Try.func40, Try.ntmps40
    go_wp2_with fail
    go_ret
    exact ⟨by rw [← hm.out]; rfl, rfl⟩
end Go.Proofs.Ytojmkgllbhbeiaa
namespace Go.Proofs.Ytojmkgllbhbeiaa
open Go.RowKit
theorem nil55 (w : World) : (binOp .eql 55 (.slice none 0 0) (.slice none 0 0)).run Try.prog w = .ok (.bool true) w := by kernel_rfl
theorem nil44 (w : World) : (binOp .eql 44 (.slice none 0 0) (.slice none 0 0)).run Try.prog w = .ok (.bool true) w := by kernel_rfl
theorem nil37 (w : World) : (binOp .eql 37 (.slice none 0 0) (.slice none 0 0)).run Try.prog w = .ok (.bool true) w := by kernel_rfl
theorem som55 (a : Addr) (n c : Nat) (w : World) : (binOp .eql 55 (.slice (some a) n c) (.slice none 0 0)).run Try.prog w = .ok (.bool false) w := by kernel_rfl
theorem som44 (a : Addr) (n c : Nat) (w : World) : (binOp .eql 44 (.slice (some a) n c) (.slice none 0 0)).run Try.prog w = .ok (.bool false) w := by kernel_rfl
theorem som37 (a : Addr) (n c : Nat) (w : World) : (binOp .eql 37 (.slice (some a) n c) (.slice none 0 0)).run Try.prog w = .ok (.bool false) w := by kernel_rfl

set_option maxRecDepth 100000 in
set_option maxHeartbeats 1000000 in
theorem cloneInts_any (v : Value) (l : List Int) (w : World) (h : Sl w v 1 l.length (l.map intZ)) (hlen : l.length ≤ 1000000) : Calls Try.prog 43 #[v] w fun e w' => ∃ v', e = .returned v' ∧ w'.ownsRow w.heap.size 3 1 v' l.length (l.map intZ) ∧ Below w.heap.size w w' := by
  obtain ⟨i0, hi, hz0, hz1, hz2⟩ := info_parts info3'
  obtain ⟨hl, ⟨rfl, h0⟩ | ⟨b, o, cap, rfl, hb, hc⟩⟩ := h
  · obtain rfl := List.eq_nil_of_length_eq_zero h0
    have hq := nil55 w
    go_enter Try.func43, Try.ntmps43
    go_wp2
    go_ret
    exact ⟨_, rfl, World.ownsRow_nil _ _ _ _, Below.refl _ _⟩
  · have hone : ∀ u ∈ (l.map intZ), u.oneCell' = true := fun u hu => by obtain ⟨c, _, rfl⟩ := List.mem_map.1 hu; rfl
    have hcl : (l.map intZ).length = l.length * 1 := by simp
    generalize (l.map intZ) = cs at *
    generalize l.length = n at *
    have hnews := Lib.hid (fun j u (hu : cs[j]? = some u) => by
      have hj : j < n * 1 := by have := (List.getElem?_eq_some_iff.1 hu).1; rwa [hcl] at this
      have hadd : (⟨b, o, none⟩ : Addr).add j = ⟨b, o + j, none⟩ := by unfold Addr.add; split <;> simp_all
      rw [hadd, (below1 w (.cells #[] 3)).cell (p := ⟨b, o + j, none⟩) hb, hc j hj, hu] : ∀ j u, cs[j]? = some u → (w.alloc (.cells #[] 3)).cell? ((⟨b, o, none⟩ : Addr).add j) = some u)
    clear hc hl
    have hq := som55 ⟨b, o, none⟩ n cap w
    go_enter Try.func43, Try.ntmps43
    go_wp2_with (at_builtin; go_must (refine wpList_append_own _ rfl _ _ 55 rfl w.heap.size 3 i0 (.int .i64 0) 1 8 Try.underlying55 hi hz0 hz1 hz2 rfl (by decide) (.slice (some ⟨w.heap.size, 0, none⟩) 0 0) 0 [] rfl (own_zero w 3 1) ⟨b, o, none⟩ n cap cs rfl hcl hnews.out hone (by unfold maxLen; omega) (by omega) (by simp) ?_); intro v' w1 hown hgrow _)
    have hB := (below1 w (.cells #[] 3)).trans (below_grown (own_zero w 3 1) hgrow (by simp))
    rw [Nat.zero_add, List.nil_append] at hown
    go_ret
    exact ⟨_, rfl, hown, hB⟩

set_option maxRecDepth 100000 in
set_option maxHeartbeats 1000000 in
theorem cloneBytes_any (v : Value) (l : List Nat) (w : World) (h : Sl w v 1 l.length (l.map byteV)) (hlen : l.length ≤ 1000000) : Calls Try.prog 49 #[v] w fun e w' => ∃ v', e = .returned v' ∧ w'.ownsRow w.heap.size 5 1 v' l.length (l.map byteV) ∧ Below w.heap.size w w' := by
  obtain ⟨i0, hi, hz0, hz1, hz2⟩ := info_parts info5
  obtain ⟨hl, ⟨rfl, h0⟩ | ⟨b, o, cap, rfl, hb, hc⟩⟩ := h
  · obtain rfl := List.eq_nil_of_length_eq_zero h0
    have hq := nil44 w
    go_enter Try.func49, Try.ntmps49
    go_wp2
    go_ret
    exact ⟨_, rfl, World.ownsRow_nil _ _ _ _, Below.refl _ _⟩
  · have hone : ∀ u ∈ (l.map byteV), u.oneCell' = true := fun u hu => by obtain ⟨c, _, rfl⟩ := List.mem_map.1 hu; rfl
    have hcl : (l.map byteV).length = l.length * 1 := by simp
    generalize (l.map byteV) = cs at *
    generalize l.length = n at *
    have hnews := Lib.hid (fun j u (hu : cs[j]? = some u) => by
      have hj : j < n * 1 := by have := (List.getElem?_eq_some_iff.1 hu).1; rwa [hcl] at this
      have hadd : (⟨b, o, none⟩ : Addr).add j = ⟨b, o + j, none⟩ := by unfold Addr.add; split <;> simp_all
      rw [hadd, (below1 w (.cells #[] 5)).cell (p := ⟨b, o + j, none⟩) hb, hc j hj, hu] : ∀ j u, cs[j]? = some u → (w.alloc (.cells #[] 5)).cell? ((⟨b, o, none⟩ : Addr).add j) = some u)
    clear hc hl
    have hq := som44 ⟨b, o, none⟩ n cap w
    go_enter Try.func49, Try.ntmps49
    go_wp2_with (at_builtin; go_must (refine wpList_append_own _ rfl _ _ 44 rfl w.heap.size 5 i0 (.int .u8 0) 1 1 Try.underlying44 hi hz0 hz1 hz2 rfl (by decide) (.slice (some ⟨w.heap.size, 0, none⟩) 0 0) 0 [] rfl (own_zero w 5 1) ⟨b, o, none⟩ n cap cs rfl hcl hnews.out hone (by unfold maxLen; omega) (by omega) (by simp) ?_); intro v' w1 hown hgrow _)
    have hB := (below1 w (.cells #[] 5)).trans (below_grown (own_zero w 5 1) hgrow (by simp))
    rw [Nat.zero_add, List.nil_append] at hown
    go_ret
    exact ⟨_, rfl, hown, hB⟩

set_option maxRecDepth 100000 in
set_option maxHeartbeats 1000000 in
theorem cloneSets_any (v : Value) (l : List Nat) (w : World) (h : Sl w v 4 l.length (setCells l)) (hlen : l.length ≤ 1000000) : Calls Try.prog 68 #[v] w fun e w' => ∃ v', e = .returned v' ∧ w'.ownsRow w.heap.size 24 4 v' l.length (setCells l) ∧ Below w.heap.size w w' := by
  obtain ⟨i0, hi, hz0, hz1, hz2⟩ := info_parts info24
  obtain ⟨hl, ⟨rfl, h0⟩ | ⟨b, o, cap, rfl, hb, hc⟩⟩ := h
  · obtain rfl := List.eq_nil_of_length_eq_zero h0
    have hq := nil37 w
    go_enter Try.func68, Try.ntmps68
    go_wp2
    go_ret
    exact ⟨_, rfl, World.ownsRow_nil _ _ _ _, Below.refl _ _⟩
  · have hone : ∀ u ∈ (setCells l), u.oneCell' = true := setCells_one l
    have hcl : (setCells l).length = l.length * 4 := setCells_len l
    generalize (setCells l) = cs at *
    generalize l.length = n at *
    have hnews := Lib.hid (fun j u (hu : cs[j]? = some u) => by
      have hj : j < n * 4 := by have := (List.getElem?_eq_some_iff.1 hu).1; rwa [hcl] at this
      have hadd : (⟨b, o, none⟩ : Addr).add j = ⟨b, o + j, none⟩ := by unfold Addr.add; split <;> simp_all
      rw [hadd, (below1 w (.cells #[] 24)).cell (p := ⟨b, o + j, none⟩) hb, hc j hj, hu] : ∀ j u, cs[j]? = some u → (w.alloc (.cells #[] 24)).cell? ((⟨b, o, none⟩ : Addr).add j) = some u)
    clear hc hl
    have hq := som37 ⟨b, o, none⟩ n cap w
    go_enter Try.func68, Try.ntmps68
    go_wp2_with (at_builtin; go_must (refine wpList_append_own _ rfl _ _ 37 rfl w.heap.size 24 i0 (.agg #[.int .u64 0, .int .u64 0, .int .u64 0, .int .u64 0]) 4 32 Try.underlying37 hi hz0 hz1 hz2 rfl (by decide) (.slice (some ⟨w.heap.size, 0, none⟩) 0 0) 0 [] rfl (own_zero w 24 4) ⟨b, o, none⟩ n cap cs rfl hcl hnews.out hone (by unfold maxLen; omega) (by omega) (by simp) ?_); intro v' w1 hown hgrow _)
    have hB := (below1 w (.cells #[] 24)).trans (below_grown (own_zero w 24 4) hgrow (by simp))
    rw [Nat.zero_add, List.nil_append] at hown
    go_ret
    exact ⟨_, rfl, hown, hB⟩
end Go.Proofs.Ytojmkgllbhbeiaa
namespace Go.Proofs.Ytojmkgllbhbeiaa
open Go.RowKit

set_option maxRecDepth 100000 in
set_option maxHeartbeats 2000000 in
theorem indexInts_any (v : Value) (l : List Int) (x : Int) (w : World) (h : Sl w v 1 l.length (l.map intZ)) (hlen : l.length ≤ 140737488355328) :
    Calls Try.prog 106 #[v, .int .i64 x] w fun e w' => (∃ r : Int, e = .returned (.int .i64 r) ∧ (0 ≤ r ↔ x ∈ l)) ∧ Below w.heap.size w w' := by
  obtain ⟨A, cap, rfl, H⟩ := h.opened
  replace H := Lib.hid H
  clear h
  go_enter Try.func106, Try.ntmps106
  go_wp2_with fail
  go_loopw [8] (fun i wr => ∃ k : Nat, k ≤ l.length ∧ i = .int .i64 k ∧ Hid (x ∉ l.take k) ∧ Below w.heap.size w wr) (fun i _ => l.length - (intOf i).toNat)
  case atStart => exact ⟨0, by omega, rfl, (by show _ ∉ _; simp), Below.refl _ _⟩
  case round =>
    obtain ⟨k, hk, rfl, hno, hB⟩ := hrel
    by_cases hlt : k < l.length
    · obtain ⟨b, o, rfl, hb, hc⟩ := H.out k hlt
      have c1 : wr.cell? ⟨b, o + k, none⟩ = some (.int .i64 l[k]) := by
        rw [hB.cell (p := ⟨b, o + k, none⟩) hb, hc k (by omega), List.getElem?_map, List.getElem?_eq_getElem hlt]; rfl
      have hmem := Lib.hid (List.getElem_mem hlt)
      by_cases hx : x = l[k]
      · have hmem' : Hid (x ∈ l) := by show _ ∈ _; rw [hx]; exact hmem.out
        have hd : (x == l[k]) = true := beq_iff_eq.2 hx
        clear hx hmem hc
        generalize l[k] = y at c1 hd
        go_wp2
        go_ret
        exact ⟨⟨k, rfl, fun _ => hmem'.out, fun _ => by omega⟩, hB⟩
      · have hno' : Hid (x ∉ l.take (k + 1)) := by
          show _ ∉ _
          rw [List.take_succ_eq_append_getElem hlt, List.mem_append]
          rintro (h | h)
          · exact hno.out h
          · exact hx (by simpa using h)
        have hd : (x == l[k]) = false := by simpa using hx
        clear hx hmem hc
        generalize l[k] = y at c1 hd
        go_wp2
        go_roundw
        case rel => exact ⟨k + 1, by omega, by go_num, hno', hB⟩
        case measure => simp [intOf]; omega
    · obtain rfl : k = l.length := by omega
      rw [List.take_length] at hno
      go_wp2
      go_ret
      exact ⟨⟨-1, rfl, fun h => by omega, fun h => (hno.out h).elim⟩, hB⟩
theorem containsInts_any (v : Value) (l : List Int) (x : Int) (w : World) (h : Sl w v 1 l.length (l.map intZ)) (hlen : l.length ≤ 140737488355328) :
    Calls Try.prog 57 #[v, .int .i64 x] w fun e w' => e = .returned (.bool (decide (x ∈ l))) ∧ Below w.heap.size w w' := by
  have HI := Lib.hid (indexInts_any v l x w h hlen)
  clear h hlen
  go_enter Try.func57, Try.ntmps57
  go_wp2_with fail
  refine HI.out.mono ?_
  rintro e w1 ⟨⟨r, rfl, hr⟩, hB⟩
  clear HI
  go_wp2
  go_ret
  refine ⟨?_, hB⟩
  have : decide (0 ≤ r) = decide (x ∈ l) := by rw [Bool.eq_iff_iff, decide_eq_true_eq, decide_eq_true_eq]; exact hr
  rw [← this]; rfl
end Go.Proofs.Ytojmkgllbhbeiaa
namespace Go.Proofs.Ytojmkgllbhbeiaa
open Go.RowKit

set_option maxRecDepth 100000 in
set_option maxHeartbeats 2000000 in
theorem eqSets_any (v1 v2 : Value) (l1 l2 : List Nat) (w : World) (h1 : Sl w v1 4 l1.length (setCells l1)) (h2 : Sl w v2 4 l2.length (setCells l2)) (hs1 : ∀ s ∈ l1, s < 2 ^ 256) (hs2 : ∀ s ∈ l2, s < 2 ^ 256) (hlen : l1.length ≤ 1000000) :
    Calls Try.prog 109 #[v1, v2] w fun e w' => e = .returned (.bool (decide (l1 = l2))) ∧ Below w.heap.size w w' := by
  obtain ⟨A1, cap1, rfl, H1⟩ := h1.opened
  obtain ⟨A2, cap2, rfl, H2⟩ := h2.opened
  replace H1 := Lib.hid H1
  replace H2 := Lib.hid H2
  replace hs1 := Lib.hid hs1
  replace hs2 := Lib.hid hs2
  clear h1 h2
  by_cases hl : l1.length = l2.length
  · have hd : decide ((l1.length : Int) = l2.length) = true := by rw [decide_eq_true_eq]; omega
    go_enter Try.func109, Try.ntmps109
    go_wp2_with fail
    go_loopw [13] (fun i wr => ∃ k : Nat, k ≤ l1.length ∧ i = .int .i64 k ∧ Hid (l1.take k = l2.take k) ∧ Below w.heap.size w wr) (fun i _ => l1.length - (intOf i).toNat)
    case atStart => exact ⟨0, by omega, rfl, rfl, Below.refl _ _⟩
    case round =>
      obtain ⟨k, hk, rfl, htk, hB⟩ := hrel
      by_cases hlt : k < l1.length
      · have hlt2 : k < l2.length := by omega
        obtain ⟨b1, o1, rfl, hb1, hc1⟩ := H1.out k hlt
        obtain ⟨b2, o2, rfl, hb2, hc2⟩ := H2.out k hlt2
        obtain ⟨c0, c1, c2, c3⟩ := four_in hc1 hb1 hB hlt
        obtain ⟨d0, d1, d2, d3⟩ := four_in hc2 hb2 hB hlt2
        have hk0 : (0 : Int) ≤ (k : Int) := Int.natCast_nonneg _
        have hk1 : (k : Int) < (l1.length : Int) := by omega
        have hk2 : (k : Int) < (l2.length : Int) := by omega
        have t1 := Lib.hid (List.take_succ_eq_append_getElem hlt)
        have t2 := Lib.hid (List.take_succ_eq_append_getElem hlt2)
        have hq := fun w => neqSet (hs1.out _ (List.getElem_mem hlt)) (hs2.out _ (List.getElem_mem hlt2)) w
        have hg := guardSet
        by_cases hx : l1[k] = l2[k]
        · have htk' : Hid (l1.take (k + 1) = l2.take (k + 1)) := by
            show _ = _
            rw [t1.out, t2.out, htk.out, hx]
          rw [decide_eq_true hx] at hq
          clear hx t1 t2 hc1 hc2 H1 H2
          generalize l1[k] = x at c0 c1 c2 c3 hq
          generalize l2[k] = y at d0 d1 d2 d3 hq
          unfold setV setA at hq
          go_wp2_with fail
          go_quiet (fail)
          go_wp2
          first
            | exact ⟨⟨k + 1, by omega, by go_num, htk', bdrewN hB _⟩, by simp [intOf]; omega⟩
            | (go_roundw
               case rel => exact ⟨k + 1, by omega, by go_num, htk', bdrewN hB _⟩
               case measure => simp [intOf]; omega)
        · have hne : Hid (decide (l1 = l2) = false) := by
            show _ = _
            rw [decide_eq_false_iff_not]; rintro rfl; exact hx rfl
          rw [decide_eq_false hx] at hq
          clear hx t1 t2 hc1 hc2 H1 H2
          generalize l1[k] = x at c0 c1 c2 c3 hq
          generalize l2[k] = y at d0 d1 d2 d3 hq
          unfold setV setA at hq
          go_wp2_with fail
          go_quiet (fail)
          go_wp2
          go_ret
          exact ⟨by rw [hne.out]; rfl, bdrewN hB _⟩
      · obtain rfl : k = l1.length := by omega
        have he : Hid (decide (l1 = l2) = true) := by
          show _ = _
          have := htk.out
          rw [List.take_length, List.take_of_length_le (by omega)] at this
          exact decide_eq_true this
        go_wp2
        go_ret
        exact ⟨by rw [he.out]; rfl, hB⟩
  · have hd : decide ((l1.length : Int) = l2.length) = false := by rw [decide_eq_false_iff_not]; omega
    have hne : Hid (decide (l1 = l2) = false) := by
      show _ = _
      rw [decide_eq_false_iff_not]; rintro rfl; exact hl rfl
    go_enter Try.func109, Try.ntmps109
    go_wp2
    go_ret
    exact ⟨by rw [hne.out]; rfl, Below.refl _ _⟩
end Go.Proofs.Ytojmkgllbhbeiaa
namespace Go.Proofs.Ytojmkgllbhbeiaa
open Go.RowKit

theorem nan_any (x : Int) (w : World) : Calls Try.prog 133 #[.int .i64 x] w fun e w' => e = .returned (.bool false) ∧ w = w' := by
  have hd : (x != x) = false := by simp
  go_enter Try.func133, Try.ntmps133
  go_wp2
  go_ret
  exact ⟨by simp, rfl⟩
theorem lessInt_any (x y : Int) (w : World) : Calls Try.prog 113 #[.int .i64 x, .int .i64 y] w fun e w' => e = .returned (.bool (decide (x < y))) ∧ w = w' := by
  have HN := Lib.hid (nan_any x w)
  go_enter Try.func113, Try.ntmps113
  go_wp2_with fail
  refine HN.out.mono ?_
  rintro e w' ⟨rfl, rfl⟩
  clear HN
  go_wp2
  go_ret
  exact ⟨rfl, rfl⟩

theorem sorted_adj {l : List Int} (h : ∀ j, 0 < j → (hj : j < l.length) → l[j - 1]'(by omega) ≤ l[j]) : l.Pairwise (· ≤ ·) := by
  rw [List.pairwise_iff_getElem]
  intro i j hi hj hij
  induction j with
  | zero => omega
  | succ j ih =>
    have h1 := h (j + 1) (by omega) hj
    simp only [Nat.add_sub_cancel] at h1
    by_cases e : i = j
    · subst e; exact h1
    · exact Int.le_trans (ih (by omega) (by omega)) h1

set_option maxRecDepth 100000 in
set_option maxHeartbeats 2000000 in
theorem sortedInts_any (v : Value) (l : List Int) (w : World) (h : Sl w v 1 l.length (l.map intZ)) (hlen : l.length ≤ 140737488355328) :
    Calls Try.prog 74 #[v] w fun e w' => (∃ r, e = .returned (.bool r) ∧ (r = true ↔ l.Pairwise (· ≤ ·))) ∧ Below w.heap.size w w' := by
  obtain ⟨A, cap, rfl, H⟩ := h.opened
  replace H := Lib.hid H
  clear h
  by_cases hn0 : l.length = 0
  · obtain rfl := List.eq_nil_of_length_eq_zero hn0
    go_enter Try.func74, Try.ntmps74
    go_wp2_with fail
    go_loopw [3] (fun i wr => i = .int .i64 (-1) ∧ Below w.heap.size w wr) (fun _ _ => 0)
    case atStart => exact ⟨rfl, Below.refl _ _⟩
    case round =>
      obtain ⟨rfl, hB⟩ := hrel
      go_wp2
      go_ret
      exact ⟨⟨true, rfl, by simp⟩, hB⟩
  · have hn : 0 < l.length := by omega
    obtain ⟨b, o, rfl, hb, hc⟩ := H.out 0 hn
    replace hc := Lib.hid hc
    clear H
    go_enter Try.func74, Try.ntmps74
    go_wp2_with fail
    go_loopw [3] (fun i wr => ∃ q : Nat, q < l.length ∧ i = .int .i64 q ∧ Hid (∀ j, q < j → (hj : j < l.length) → l[j - 1]'(by omega) ≤ l[j]) ∧ Below w.heap.size w wr) (fun i _ => (intOf i).toNat)
    case atStart => exact ⟨l.length - 1, by omega, by go_num, (fun j h1 h2 => by omega), Below.refl _ _⟩
    case round =>
      obtain ⟨q, hq, rfl, hord, hB⟩ := hrel
      by_cases hq0 : 0 < q
      · obtain ⟨p, rfl⟩ : ∃ p, q = p + 1 := ⟨q - 1, by omega⟩
        have hp : p < l.length := by omega
        have c1 : wr.cell? ⟨b, o + (p + 1), none⟩ = some (.int .i64 l[p + 1]) := by
          rw [hB.cell (p := ⟨b, o + (p + 1), none⟩) hb, hc.out (p + 1) (by omega), List.getElem?_map, List.getElem?_eq_getElem hq]; rfl
        have c2 : wr.cell? ⟨b, o + p, none⟩ = some (.int .i64 l[p]) := by
          rw [hB.cell (p := ⟨b, o + p, none⟩) hb, hc.out p (by omega), List.getElem?_map, List.getElem?_eq_getElem hp]; rfl
        have hx : l[p + 1] < l[p] → ¬ l.Pairwise (· ≤ ·) := fun h hh => by
          have := List.pairwise_iff_getElem.1 hh p (p + 1) hp hq (by omega)
          omega
        have hy : ¬ l[p + 1] < l[p] → ∀ j, p < j → (hj : j < l.length) → l[j - 1]'(by omega) ≤ l[j] := fun h j hj hjl => by
          by_cases e : j = p + 1
          · subst e; simp only [Nat.add_sub_cancel]; omega
          · exact hord.out j (by omega) hjl
        obtain ⟨y, hyy⟩ : ∃ y, y = l[p + 1] := ⟨_, rfl⟩
        obtain ⟨x, hxx⟩ : ∃ x, x = l[p] := ⟨_, rfl⟩
        rw [← hyy] at c1
        rw [← hxx] at c2
        rw [← hyy, ← hxx] at hx hy
        clear hyy hxx
        clear hord
        obtain ⟨q, hqe⟩ : ∃ q, q = p + 1 := ⟨_, rfl⟩
        rw [← hqe] at c1 hq
        rw [← hqe]
        have hw : IntKind.i64.wrap ((q : Int) - 1) = (p : Int) := by
          have e : ((q : Int) - 1) = (p : Int) := by omega
          rw [e]; unfold IntKind.wrap; simp [IntKind.bits, IntKind.signed]; omega
        have hk0 : (0 : Int) ≤ (p : Int) := Int.natCast_nonneg _
        have hk1 : (p : Int) < (l.length : Int) := by omega
        have hk2 : (0 : Int) < (q : Int) := by omega
        have hk4 : (0 : Int) ≤ (q : Int) := by omega
        have hk3 : (q : Int) < (l.length : Int) := by omega
        replace hqe := Lib.hid hqe
        replace hx := Lib.hid hx
        replace hy := Lib.hid hy
        go_wp2_with fail
        go_quiet ((go_at_call 113; exact Calls.quiet_of_same ((lessInt_any _ _ _).mono fun _ _ h => ⟨h.1, h.2.symm⟩)))
        by_cases hlt : y < x
        · have hd : decide (y < x) = true := decide_eq_true hlt
          have hbad := Lib.hid (hx.out hlt)
          clear hx hy
          go_wp2
          all_goals first
            | (exfalso; omega)
            | (go_ret
               exact ⟨⟨false, rfl, ⟨(fun h => nomatch h), fun h => (hbad.out h).elim⟩⟩, bdrewN hB _⟩)
        · have hd : decide (y < x) = false := decide_eq_false hlt
          have hgood := Lib.hid (hy.out (by omega))
          have hpq := Lib.hid hqe.out
          clear hx hy
          go_wp2
          all_goals first
            | (exfalso; omega)
            | exact ⟨⟨p, by omega, rfl, hgood, bdrewN hB _⟩, by simp [intOf]; omega⟩
            | exact ⟨⟨p, by omega, rfl, hgood, bdrewN hB _⟩, by have := hpq.out; simp [intOf]; omega⟩
      · obtain rfl : q = 0 := by omega
        go_wp2
        go_ret
        exact ⟨⟨true, rfl, fun _ => sorted_adj fun j h1 h2 => hord.out j h1 h2, fun _ => rfl⟩, hB⟩
end Go.Proofs.Ytojmkgllbhbeiaa
