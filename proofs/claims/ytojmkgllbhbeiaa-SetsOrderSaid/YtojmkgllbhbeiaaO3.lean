/-
  WALKS: SetsOrder.
-/
import Derived.Test.YtojmkgllbhbeiaaAw
import Derived.Test.YtojmkgllbhbeiaaMp
import Derived.Test.YtojmkgllbhbeiaaTl
namespace Go.Proofs.Ytojmkgllbhbeiaa
open Go.RowKit

theorem cmpS_three (s t : Nat) : cmpS s t = 0 ∨ cmpS s t = -1 ∨ cmpS s t = 1 := by
  rcases cmpS_cases s t with ⟨h, _⟩ | ⟨h, _⟩ | ⟨h, _⟩
  · exact .inl h
  · exact .inr (.inl h)
  · exact .inr (.inr h)
theorem cmpS_less (s c : Nat) (hc : c < 256) : cmpS (Sx.less s (Sx.ofL [c])) s = if s.testBit c = true then 1 else 0 := by
  have hb : ∀ d, (Sx.less s (Sx.ofL [c])).testBit d = (s.testBit d && !decide (d = c)) := fun d => by
    rw [Sx.tb_less, Sx.tb_ofL]; simp
  by_cases h : s.testBit c = true
  · rw [if_pos h]
    have : cmpS s (Sx.less s (Sx.ofL [c])) < 0 := cmpS_lt.2 ⟨c, hc, h, by rw [hb]; simp, fun d hd => by rw [hb, decide_eq_false (by omega : ¬ d = c), Bool.not_false, Bool.and_true]⟩
    have h2 := cmpS_neg s (Sx.less s (Sx.ofL [c]))
    rcases cmpS_three s (Sx.less s (Sx.ofL [c])) with h | h | h <;> omega
  · rw [if_neg h]
    have hs : ∀ d, d < 256 → (Sx.less s (Sx.ofL [c])).testBit d = s.testBit d := fun d _ => by
      rw [hb]
      by_cases hd : d = c
      · subst hd; simp at h; simp [h]
      · simp [hd]
    rcases cmpS_cases (Sx.less s (Sx.ofL [c])) s with ⟨h, _⟩ | ⟨_, d, h⟩ | ⟨_, d, h⟩
    · exact h
    · exact (h.not_same hs).elim
    · exact (h.not_same fun d hd => (hs d hd).symm).elim
theorem less_cmp (s c : Nat) (hc : c < 256) (w : World) : Calls Try.prog 19 #[setV (Sx.less s (Sx.ofL [c])), setV s] w fun e w' => e = .returned (.int .i64 (if s.testBit c = true then 1 else 0)) ∧ Gr w.heap.size w w' := by
  rw [← cmpS_less s c hc]; exact compare_any _ _ w
theorem MapAt.both {n0 : Nat} {v : Value} {w : World} (h : MapAt n0 v w true false) (k : MapAt n0 v w false true) : MapAt n0 v w true true := by
  obtain ⟨b, s, h1, h2, h3, h4, _⟩ := h
  obtain ⟨b', s', k1, _, k3, _, k5⟩ := k
  rw [h1] at k1
  cases k1
  rw [h3] at k3
  have := MS.inj (Option.some.inj k3)
  subst this
  exact ⟨b, s, h1, h2, h3, h4, k5⟩
theorem shows_map {w0 w : World} {vs : Nat → Value} {i : Nat} {v : Value} {hf ht : Bool} (hR : Below w0.heap.size w0 w) (h : MapAt w0.heap.size v w hf ht) :
    Below w0.heap.size w0 w ∧ Tm w w ∧ (MFact.map i hf ht).says w0.heap.size i (upd vs i v) w := ⟨hR, .of_below (Below.refl _ _), by show MapAt _ (upd vs i v i) _ _ _; rw [upd_same]; exact h⟩

open Go.Lib Go.Sort Go.Shelf in
theorem cmpS_trans {s t u : Nat} (h1 : cmpS s t ≤ 0) (h2 : cmpS t u ≤ 0) : cmpS s u ≤ 0 := by
  have n1 := cmpS_neg s t
  have n2 := cmpS_neg t u
  have n3 := cmpS_neg s u
  have := swoS.ntrans u t s (by unfold ltOf; exact decide_eq_false (by omega)) (by unfold ltOf; exact decide_eq_false (by omega))
  unfold ltOf at this
  have := of_decide_eq_false this
  omega

set_option maxRecDepth 100000 in
set_option maxHeartbeats 4000000 in
theorem order_any (s t u c : Nat) (hs : s < 2 ^ 256) (ht : t < 2 ^ 256) (hc : c < 256) (w : World) : Calls Try.prog 3 #[setV s, setV t, setV u, .int .u8 c] w fun e w' => e = .returned (.bool true) ∧ Below w.heap.size w w' := by
  have HA := fun w => awake_any w
  unfold setV setA
  go_enter Try.func3, Try.ntmps3
  go_wp2_with fail
  refine (HA _).mono ?_
  rintro e w1 ⟨rfl, hb⟩
  have hB1 := bthen (below3 w _ _ _) hb
  have b4 := Blk.laterB (((blkOf1 w #[.int .u64 (Sx.wd s 0), .int .u64 (Sx.wd s 1), .int .u64 (Sx.wd s 2), .int .u64 (Sx.wd s 3)] 24).alloc (.cells #[.int .u64 (Sx.wd t 0), .int .u64 (Sx.wd t 1), .int .u64 (Sx.wd t 2), .int .u64 (Sx.wd t 3)] 24)).alloc (.cells #[.int .u64 (Sx.wd u 0), .int .u64 (Sx.wd u 1), .int .u64 (Sx.wd u 2), .int .u64 (Sx.wd u 3)] 24)) hb
  have b5 := Blk.laterB ((blkOf2 w (.cells #[.int .u64 (Sx.wd s 0), .int .u64 (Sx.wd s 1), .int .u64 (Sx.wd s 2), .int .u64 (Sx.wd s 3)] 24) #[.int .u64 (Sx.wd t 0), .int .u64 (Sx.wd t 1), .int .u64 (Sx.wd t 2), .int .u64 (Sx.wd t 3)] 24).alloc (.cells #[.int .u64 (Sx.wd u 0), .int .u64 (Sx.wd u 1), .int .u64 (Sx.wd u 2), .int .u64 (Sx.wd u 3)] 24)) hb
  have b6 := Blk.laterB (blkOf3 w (.cells #[.int .u64 (Sx.wd s 0), .int .u64 (Sx.wd s 1), .int .u64 (Sx.wd s 2), .int .u64 (Sx.wd s 3)] 24) (.cells #[.int .u64 (Sx.wd t 0), .int .u64 (Sx.wd t 1), .int .u64 (Sx.wd t 2), .int .u64 (Sx.wd t 3)] 24) #[.int .u64 (Sx.wd u 0), .int .u64 (Sx.wd u 1), .int .u64 (Sx.wd u 2), .int .u64 (Sx.wd u 3)] 24) hb
  clear hb HA
  go_wp2_with fail
  refine wp_region_facts 75 [.eq (setV s), .eq (setV t), .eq (.int .i64 (cmpS s t)), .eq (setV t), .eq (setV s), .eq (.int .i64 (cmpS t s)), .eq (setV t), .eq (setV u), .eq (.int .i64 (cmpS t u)), .eq (setV s), .eq (setV u), .eq (.int .i64 (cmpS s u)), .eq (.int .i64 (cmpS s t)), .eq (.int .i64 (cmpS t s)), .eq (.int .i64 (cmpS t u)), .eq (.int .i64 (cmpS s u))] mixed rfl (by kernel_rfl) ?_ ?_
  · refine ⟨?_, ?_, ?_, ?_, ?_, ?_, ?_, ?_, ?_, ?_, ?_, ?_, ?_, ?_, ?_, ?_, trivial⟩
    · intro vs a w hR H hin hout hget
      refine one_free rfl ?_
      have e0 := hout 4 (by kernel_rfl)
      obtain ⟨c0, c1, c2, c3, _⟩ := (b4.laterB hR).four
      clear H hin hout hget
      dsimp only [bare]
      go_wp2
      exact ⟨_, rfl, shows0 hR rfl⟩
    · intro vs a w hR H hin hout hget
      refine one_free rfl ?_
      have e0 := hout 5 (by kernel_rfl)
      obtain ⟨c0, c1, c2, c3, _⟩ := (b5.laterB hR).four
      clear H hin hout hget
      dsimp only [bare]
      go_wp2
      exact ⟨_, rfl, shows0 hR rfl⟩
    · intro vs a w hR H hin hout hget
      refine one_free rfl ?_
      have e0 := (hget 0 16 (by kernel_rfl)).trans (congrArg some (H 0 (by decide)))
      have e1 := (hget 1 17 (by kernel_rfl)).trans (congrArg some (H 1 (by decide)))
      clear H hin hout hget
      dsimp only [bare]
      go_wp2_with fail
      refine (compare_any _ _ w).mono ?_
      rintro e w1 ⟨rfl, hb⟩
      go_wp2
      exact ⟨_, rfl, shows hR hb.below rfl⟩
    · intro vs a w hR H hin hout hget
      refine one_free rfl ?_
      have e0 := hout 5 (by kernel_rfl)
      obtain ⟨c0, c1, c2, c3, _⟩ := (b5.laterB hR).four
      clear H hin hout hget
      dsimp only [bare]
      go_wp2
      exact ⟨_, rfl, shows0 hR rfl⟩
    · intro vs a w hR H hin hout hget
      refine one_free rfl ?_
      have e0 := hout 4 (by kernel_rfl)
      obtain ⟨c0, c1, c2, c3, _⟩ := (b4.laterB hR).four
      clear H hin hout hget
      dsimp only [bare]
      go_wp2
      exact ⟨_, rfl, shows0 hR rfl⟩
    · intro vs a w hR H hin hout hget
      refine one_free rfl ?_
      have e0 := (hget 3 19 (by kernel_rfl)).trans (congrArg some (H 3 (by decide)))
      have e1 := (hget 4 20 (by kernel_rfl)).trans (congrArg some (H 4 (by decide)))
      clear H hin hout hget
      dsimp only [bare]
      go_wp2_with fail
      refine (compare_any _ _ w).mono ?_
      rintro e w1 ⟨rfl, hb⟩
      go_wp2
      exact ⟨_, rfl, shows hR hb.below rfl⟩
    · intro vs a w hR H hin hout hget
      refine one_free rfl ?_
      have e0 := hout 5 (by kernel_rfl)
      obtain ⟨c0, c1, c2, c3, _⟩ := (b5.laterB hR).four
      clear H hin hout hget
      dsimp only [bare]
      go_wp2
      exact ⟨_, rfl, shows0 hR rfl⟩
    · intro vs a w hR H hin hout hget
      refine one_free rfl ?_
      have e0 := hout 6 (by kernel_rfl)
      obtain ⟨c0, c1, c2, c3, _⟩ := (b6.laterB hR).four
      clear H hin hout hget
      dsimp only [bare]
      go_wp2
      exact ⟨_, rfl, shows0 hR rfl⟩
    · intro vs a w hR H hin hout hget
      refine one_free rfl ?_
      have e0 := (hget 6 22 (by kernel_rfl)).trans (congrArg some (H 6 (by decide)))
      have e1 := (hget 7 23 (by kernel_rfl)).trans (congrArg some (H 7 (by decide)))
      clear H hin hout hget
      dsimp only [bare]
      go_wp2_with fail
      refine (compare_any _ _ w).mono ?_
      rintro e w1 ⟨rfl, hb⟩
      go_wp2
      exact ⟨_, rfl, shows hR hb.below rfl⟩
    · intro vs a w hR H hin hout hget
      refine one_free rfl ?_
      have e0 := hout 4 (by kernel_rfl)
      obtain ⟨c0, c1, c2, c3, _⟩ := (b4.laterB hR).four
      clear H hin hout hget
      dsimp only [bare]
      go_wp2
      exact ⟨_, rfl, shows0 hR rfl⟩
    · intro vs a w hR H hin hout hget
      refine one_free rfl ?_
      have e0 := hout 6 (by kernel_rfl)
      obtain ⟨c0, c1, c2, c3, _⟩ := (b6.laterB hR).four
      clear H hin hout hget
      dsimp only [bare]
      go_wp2
      exact ⟨_, rfl, shows0 hR rfl⟩
    · intro vs a w hR H hin hout hget
      refine one_free rfl ?_
      have e0 := (hget 9 25 (by kernel_rfl)).trans (congrArg some (H 9 (by decide)))
      have e1 := (hget 10 26 (by kernel_rfl)).trans (congrArg some (H 10 (by decide)))
      clear H hin hout hget
      dsimp only [bare]
      go_wp2_with fail
      refine (compare_any _ _ w).mono ?_
      rintro e w1 ⟨rfl, hb⟩
      go_wp2
      exact ⟨_, rfl, shows hR hb.below rfl⟩
    · intro vs a w hR H hin hout hget
      refine one_free rfl ?_
      have e0 := (hget 2 18 (by kernel_rfl)).trans (congrArg some (H 2 (by decide)))
      clear H hin hout hget
      dsimp only [bare]
      go_wp2
      exact ⟨_, rfl, shows0 hR rfl⟩
    · intro vs a w hR H hin hout hget
      refine one_free rfl ?_
      have e0 := (hget 5 21 (by kernel_rfl)).trans (congrArg some (H 5 (by decide)))
      clear H hin hout hget
      dsimp only [bare]
      go_wp2
      exact ⟨_, rfl, shows0 hR rfl⟩
    · intro vs a w hR H hin hout hget
      refine one_free rfl ?_
      have e0 := (hget 8 24 (by kernel_rfl)).trans (congrArg some (H 8 (by decide)))
      clear H hin hout hget
      dsimp only [bare]
      go_wp2
      exact ⟨_, rfl, shows0 hR rfl⟩
    · intro vs a w hR H hin hout hget
      refine one_free rfl ?_
      have e0 := (hget 11 27 (by kernel_rfl)).trans (congrArg some (H 11 (by decide)))
      clear H hin hout hget
      dsimp only [bare]
      go_wp2
      exact ⟨_, rfl, shows0 hR rfl⟩
  · intro vs w2 hR H
    have e0 : vs 12 = .int .i64 (cmpS s t) := H 12 (by decide)
    have e1 : vs 13 = .int .i64 (cmpS t s) := H 13 (by decide)
    have e2 : vs 14 = .int .i64 (cmpS t u) := H 14 (by decide)
    have e3 : vs 15 = .int .i64 (cmpS s u) := H 15 (by decide)
    simp only [putAll, Act.put, List.setIfInBounds_toArray, List.set_cons_succ, List.set_cons_zero, Nat.zero_add, Nat.reduceAdd, e0, e1, e2, e3]
    clear e0 e1 e2 e3 H
    rename_i K0 hK0
    refine hK0 _ _ ?_
    refine wp_seq ?_
    refine Code.wp_mono (Q := fun e a' w' => e = .normal ∧ w' = w2 ∧ a'.tmps.size = 75 ∧ a'.defers = [] ∧ a'.tmps.getD 3 undef = .int .u8 c ∧ a'.tmps.getD 4 undef = .pointer (some ⟨w.heap.size, 0, none⟩) ∧ a'.tmps.getD 59 undef = .bool false) ?_ ?_
    · rintro e A' w' ⟨rfl, rfl, k1, k4, k2, k3, k5⟩
      have b42 := b4.laterB hR
      have hB2 := hB1.trans (hR.mono hB1.size)
      clear hK0 hR b4 b5 b6 hB1
      go_wp2_with fail
      refine wp_region_last 75 6 [.eq (setV s), .eq (.int .u8 c), .sl 1 1 ([c].map byteV), .eq (setV (Sx.ofL [c])), .eq (setV (Sx.less s (Sx.ofL [c]))), .bk w'.heap.size (setA 0) 24] mixed k1 (by kernel_rfl) rfl rfl (by kernel_rfl) ?_ ?_
      · refine ⟨?_, ?_, ?_, ?_, ?_, ?_, trivial⟩
        · intro vs a w hR H hin hout hget
          refine one_free rfl ?_
          have e0 := hout 4 (by kernel_rfl)
          obtain ⟨c0, c1, c2, c3, _⟩ := (b42.laterB hR).four
          rw [k3] at e0
          clear H hin hout hget
          dsimp only [bare]
          go_wp2
          exact ⟨_, rfl, shows0 hR rfl⟩
        · intro vs a w hR H hin hout hget
          refine one_free rfl ?_
          have e0 := hout 3 (by kernel_rfl)
          rw [k2] at e0
          clear H hin hout hget
          dsimp only [bare]
          go_wp2
          exact ⟨_, rfl, shows0 hR rfl⟩
        · intro vs a w hR H hin hout hget
          refine one_free rfl ?_
          have e0 := (hget 1 61 (by kernel_rfl)).trans (congrArg some (H 1 (by decide)))
          clear H hin hout hget
          dsimp only [bare]
          go_wp2
          exact ⟨_, rfl, shows hR (below1 w _) (slN_new w _ _ _ _ _ rfl)⟩
        · intro vs a w hR H hin hout hget
          refine one_free rfl ?_
          obtain ⟨b0, o0, cap0, h0, lt0, c0⟩ := H 2 (by decide)
          have e0 := (hget 2 62 (by kernel_rfl)).trans (congrArg some h0)
          clear H hin hout hget
          dsimp only [bare]
          go_wp2_with fail
          refine (of_any _ [c] (by simpa using hc) w ⟨rfl, .inr ⟨_, _, _, rfl, lt0, c0⟩⟩ (show 1 ≤ maxLen by decide)).mono ?_
          rintro e w1 ⟨rfl, hb⟩
          go_wp2
          exact ⟨_, rfl, shows hR hb.below rfl⟩
        · intro vs a w hR H hin hout hget
          refine one_free rfl ?_
          have e0 := (hget 0 60 (by kernel_rfl)).trans (congrArg some (H 0 (by decide)))
          have e1 := (hget 3 63 (by kernel_rfl)).trans (congrArg some (H 3 (by decide)))
          clear H hin hout hget
          dsimp only [bare]
          go_wp2_with fail
          refine (less_any _ _ w).mono ?_
          rintro e w1 ⟨rfl, hb⟩
          go_wp2
          exact ⟨_, rfl, shows hR hb.below rfl⟩
        · intro vs a w hR H hin hout hget
          refine one_free rfl ?_
          clear H hin hout hget
          dsimp only [bare]
          go_wp2
          exact ⟨_, rfl, shows hR (below1 w _) ⟨w.heap.size, rfl, hR.size, by rw [setA_zero]; exact blkOf1 w _ _⟩⟩
      · intro vs w3 hR H
        have e4 : vs 4 = setV (Sx.less s (Sx.ofL [c])) := H 4 (by decide)
        obtain ⟨bp, e5, hbp, b13⟩ := H 5 (by decide)
        clear H
        generalize hA : putAll vs _ 0 _ = B
        have m3 : B.tmps.getD 3 undef = .int .u8 c := by rw [← hA]; exact (putAll_far _ 3 0 vs _ (by decide)).trans k2
        have m4 : B.tmps.getD 4 undef = .pointer (some ⟨w.heap.size, 0, none⟩) := by rw [← hA]; exact (putAll_far _ 4 0 vs _ (by decide)).trans k3
        have m13 : B.tmps.getD 13 undef = .pointer (some ⟨bp, 0, none⟩) := by rw [← hA]; exact (putAll_near (n := 75) _ 0 5 vs _ 13 (by kernel_rfl) k1 (by kernel_rfl)).trans e5
        have m64 : B.tmps.getD 64 undef = setV (Sx.less s (Sx.ofL [c])) := by rw [← hA]; exact (putAll_near (n := 75) _ 0 4 vs _ 64 (by kernel_rfl) k1 (by kernel_rfl)).trans e4
        have msz : B.tmps.size = 75 := by rw [← hA]; exact (putAll_size _ 0 vs _).1.trans k1
        have md : B.defers = [] := by rw [← hA]; exact (putAll_size _ 0 vs _).2.trans k4
        have b43 := b42.laterB hR
        have hB3 := hB2.trans (hR.mono hB2.size)
        have hwb : w.heap.size < w'.heap.size := b42.lt
        rw [setA_zero] at b13
        have hne : w.heap.size ≠ bp := by omega
        have n13 := Lib.hid (b13.setFour (.int .u64 (Sx.wd (Sx.less s (Sx.ofL [c])) 0)) (.int .u64 (Sx.wd (Sx.less s (Sx.ofL [c])) 1)) (.int .u64 (Sx.wd (Sx.less s (Sx.ofL [c])) 2)) (.int .u64 (Sx.wd (Sx.less s (Sx.ofL [c])) 3)))
        have n4 := Lib.hid (b43.otherFour hne (.int .u64 (Sx.wd (Sx.less s (Sx.ofL [c])) 0)) (.int .u64 (Sx.wd (Sx.less s (Sx.ofL [c])) 1)) (.int .u64 (Sx.wd (Sx.less s (Sx.ofL [c])) 2)) (.int .u64 (Sx.wd (Sx.less s (Sx.ofL [c])) 3)))
        have hBE := Lib.hid (bfour hB3 (b := bp) (by omega) (.int .u64 (Sx.wd (Sx.less s (Sx.ofL [c])) 0)) (.int .u64 (Sx.wd (Sx.less s (Sx.ofL [c])) 1)) (.int .u64 (Sx.wd (Sx.less s (Sx.ofL [c])) 2)) (.int .u64 (Sx.wd (Sx.less s (Sx.ofL [c])) 3)))
        obtain ⟨c0, c1, c2, c3, f0, f1, f2, f3⟩ := b13.four
        unfold setV setA at m64
        clear hA e4 e5 k1 k2 k3 k4 k5 b42 hB2 b43 hB3 hR b13
        go_wp2_with fail
        have q13 := n13.out
        have q4 := n4.out
        have hB4 := hBE.out
        clear n13 n4 hBE c0 c1 c2 c3 f0 f1 f2 f3
        generalize World.setCell _ _ _ = w4 at q13 q4 hB4 ⊢
        obtain ⟨q, hq⟩ : ∃ q : Int, q = if s.testBit c = true then 1 else 0 := ⟨_, rfl⟩
        obtain ⟨bb, hbb⟩ : ∃ bb, bb = s.testBit c := ⟨_, rfl⟩
        have HC : ∀ w, Calls Try.prog 19 #[setV (Sx.less s (Sx.ofL [c])), setV s] w fun e w' => e = .returned (.int .i64 q) ∧ Gr w.heap.size w w' := by rw [hq]; exact less_cmp s c hc
        have HH : ∀ w, Calls Try.prog 22 #[setV s, .int .u8 c] w fun e w' => e = .returned (.bool bb) ∧ Gr w.heap.size w w' := by rw [hbb]; exact has_any s c hc
        have HL : ∀ {w : World} {b : Nat} {s : MS}, w.heap[b]? = some s.obj → s.hasF = true → s.hasT = true → (Instr.lookup 29 (.map (some b)) (.bool bb) false).run Try.prog w = .ok (.int .i64 q) w := by
          intro w b s0 h1 h2 h3
          rw [hq, ← hbb]; exact run_look h1 h2 h3 bb
        clear hq hbb
        refine wp_region_maps 75 [.plain (.eq (setV (Sx.less s (Sx.ofL [c])))), .plain (.eq (setV s)), .plain (.eq (.int .i64 q)), .map 3 false false, .map 3 true false, .map 3 false true, .map 6 true true, .plain (.eq (setV s)), .plain (.eq (.int .u8 c)), .plain (.eq (.bool bb)), .plain (.eq (.int .i64 q)), .plain (.eq (.bool true)), .plain (.eq (.bool true))] mixed msz (by kernel_rfl) (by kernel_rfl) ?_ ?_
        · refine ⟨?_, ?_, ?_, ?_, ?_, ?_, ?_, ?_, ?_, ?_, ?_, ?_, ?_, trivial⟩
          · intro vs a w hR H hin hout hget
            refine one_free rfl ?_
            have e0 := hout 13 (by kernel_rfl)
            obtain ⟨c0, c1, c2, c3, _⟩ := (q13.laterB hR).four
            rw [m13] at e0
            clear H hin hout hget
            dsimp only [bare]
            go_wp2
            exact ⟨_, rfl, showsM0 hR rfl⟩
          · intro vs a w hR H hin hout hget
            refine one_free rfl ?_
            have e0 := hout 4 (by kernel_rfl)
            obtain ⟨c0, c1, c2, c3, _⟩ := (q4.laterB hR).four
            rw [m4] at e0
            clear H hin hout hget
            dsimp only [bare]
            go_wp2
            exact ⟨_, rfl, showsM0 hR rfl⟩
          · intro vs a w hR H hin hout hget
            refine one_free rfl ?_
            have e0 := (hget 0 65 (by kernel_rfl)).trans (congrArg some (H 0 (by decide)))
            have e1 := (hget 1 66 (by kernel_rfl)).trans (congrArg some (H 1 (by decide)))
            clear H hin hout hget
            dsimp only [bare]
            go_wp2_with fail
            refine (HC w).mono ?_
            rintro e w1 ⟨rfl, hb⟩
            go_wp2
            exact ⟨_, rfl, showsM hR hb.below rfl⟩
          · intro vs a w hR H hin hout hget
            refine one_free rfl ?_
            have hmm := @run_makeMap Try.prog
            clear H hin hout hget
            dsimp only [bare]
            go_wp2
            exact ⟨_, rfl, shows_made hR⟩
          · intro vs a w hR H hin hout hget
            refine one_free rfl ?_
            obtain ⟨b, s0, hb, hn, hh, _⟩ := H 3 (by decide)
            have e0 := (hget 3 68 (by kernel_rfl)).trans (congrArg some hb)
            have kk := run_insF hh
            clear H hin hout hget
            dsimp only [bare]
            go_wp2
            exact ⟨undef, rfl, shows_insF hR (by decide) hb hn hh⟩
          · intro vs a w hR H hin hout hget
            refine one_free rfl ?_
            obtain ⟨b, s0, hb, hn, hh, _⟩ := H 3 (by decide)
            have e0 := (hget 3 68 (by kernel_rfl)).trans (congrArg some hb)
            have kk := run_insT hh
            clear H hin hout hget
            dsimp only [bare]
            go_wp2
            exact ⟨undef, rfl, shows_insT hR (by decide) hb hn hh⟩
          · intro vs a w hR H hin hout hget
            refine one_free rfl ?_
            have hm2 := MapAt.both (H 4 (by decide)) (H 5 (by decide))
            obtain ⟨b, s0, hb, hn, hh, hf, ht⟩ := hm2
            replace hf := hf rfl
            replace ht := ht rfl
            have e0 := (hget 3 68 (by kernel_rfl)).trans (congrArg some hb)
            clear H hin hout hget
            dsimp only [bare]
            go_wp2
            exact ⟨_, rfl, shows_map hR ⟨b, s0, rfl, hn, hh, fun _ => hf, fun _ => ht⟩⟩
          · intro vs a w hR H hin hout hget
            refine one_free rfl ?_
            have e0 := hout 4 (by kernel_rfl)
            obtain ⟨c0, c1, c2, c3, _⟩ := (q4.laterB hR).four
            rw [m4] at e0
            clear H hin hout hget
            dsimp only [bare]
            go_wp2
            exact ⟨_, rfl, showsM0 hR rfl⟩
          · intro vs a w hR H hin hout hget
            refine one_free rfl ?_
            have e0 := hout 3 (by kernel_rfl)
            rw [m3] at e0
            clear H hin hout hget
            dsimp only [bare]
            go_wp2
            exact ⟨_, rfl, showsM0 hR rfl⟩
          · intro vs a w hR H hin hout hget
            refine one_free rfl ?_
            have e0 := (hget 7 70 (by kernel_rfl)).trans (congrArg some (H 7 (by decide)))
            have e1 := (hget 8 71 (by kernel_rfl)).trans (congrArg some (H 8 (by decide)))
            clear H hin hout hget
            dsimp only [bare]
            go_wp2_with fail
            refine (HH w).mono ?_
            rintro e w1 ⟨rfl, hb⟩
            go_wp2
            exact ⟨_, rfl, showsM hR hb.below rfl⟩
          · intro vs a w hR H hin hout hget
            refine one_free rfl ?_
            have e1 := (hget 9 72 (by kernel_rfl)).trans (congrArg some (H 9 (by decide)))
            obtain ⟨b, s0, hb, hn, hh, hf, ht⟩ := H 6 (by decide)
            have e1 := (hget 6 69 (by kernel_rfl)).trans (congrArg some hb)
            have kk := HL hh (hf rfl) (ht rfl)
            clear hf ht
            clear H hin hout hget
            dsimp only [bare]
            go_wp2
            exact ⟨_, rfl, showsM0 hR rfl⟩
          · intro vs a w hR H hin hout hget
            refine one_free rfl ?_
            have e0 := (hget 2 67 (by kernel_rfl)).trans (congrArg some (H 2 (by decide)))
            have e1 := (hget 10 73 (by kernel_rfl)).trans (congrArg some (H 10 (by decide)))
            clear H hin hout hget
            dsimp only [bare]
            go_wp2
            exact ⟨_, rfl, showsM0 hR rfl⟩
          · intro vs a w hR H hin hout hget
            refine one_free rfl ?_
            have e0 := (hget 11 74 (by kernel_rfl)).trans (congrArg some (H 11 (by decide)))
            clear H hin hout hget
            dsimp only [bare]
            go_wp2
            exact ⟨_, rfl, showsM0 hR rfl⟩
        · intro vs w5 hR H
          have e8 : vs 12 = .bool true := H 12 (by decide)
          clear H
          generalize hA : putAll vs _ 0 _ = D
          have r8 : D.tmps.getD 8 undef = .bool true := by rw [← hA]; exact (putAll_near (n := 75) _ 0 12 vs _ 8 (by kernel_rfl) msz (by kernel_rfl)).trans e8
          have rd : D.defers = [] := by rw [← hA]; exact (putAll_size _ 0 vs _).2.trans md
          have hB5 := hB4.trans (hR.mono hB4.size)
          clear hA e8 q13 q4 hB4 hR
          obtain ⟨T, Ds⟩ := D
          dsimp only at r8 rd
          subst rd
          go_wp2
          go_ret
          exact ⟨congrArg Ending.returned r8, hB5⟩
    · clear hK0
      obtain ⟨c0, c1, c2, c3, _⟩ := (b4.laterB hR).four
      obtain ⟨d0, d1, d2, d3, _⟩ := (b5.laterB hR).four
      have HE := fun w => eqlSet hs ht w
      have HG := guardSet
      unfold setV setA at HE
      have hz := cmpS_zero hs ht
      have hn := cmpS_neg s t
      have ht3 := cmpS_trans (s := s) (t := t) (u := u)
      have h3 := cmpS_three s t
      have q0 : cmpS s t = wrap64 (-(cmpS t s)) := by
        rw [hn, Int.neg_neg]
        rcases h3 with h | h | h <;> rw [h] <;> kernel_rfl
      have q1 : (cmpS s t == 0) = decide (s = t) := by
        rw [Bool.eq_iff_iff, beq_iff_eq, decide_eq_true_eq]; exact hz
      clear hn hz
      generalize cmpS s t = x1 at *
      generalize cmpS t s = x2 at *
      generalize cmpS t u = x3 at *
      generalize cmpS s u = x4 at *
      replace ht3 := Lib.hid ht3
      replace q0 := Lib.hid q0
      replace q1 := Lib.hid q1
      replace h3 := Lib.hid h3
      go_wp2
      all_goals have q0 := q0.out
      all_goals have q1 := q1.out
      all_goals have ht3 := ht3.out
      all_goals have h3 := h3.out
      all_goals clear HE HG c0 c1 c2 c3 d0 d1 d2 d3 b4 b5 b6 hR hB1
      all_goals first | omega | (rw [q0] at q1; contradiction)
end Go.Proofs.Ytojmkgllbhbeiaa
