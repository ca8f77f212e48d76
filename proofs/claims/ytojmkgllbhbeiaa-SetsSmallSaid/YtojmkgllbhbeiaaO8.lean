/-
  WALKS: SetsBack.
-/
import Derived.Test.YtojmkgllbhbeiaaO5
import Derived.Test.YtojmkgllbhbeiaaSp
namespace Go.Proofs.Ytojmkgllbhbeiaa
open Go.RowKit

theorem two_cells {w : World} {b : Nat} {x y : Value} {t : TypeId} (h : Blk w b #[x, y] t) : w.cell? ⟨b, 0, none⟩ = some x ∧ w.cell? ⟨b, 1, none⟩ = some y := ⟨h.cell 0, h.cell 1⟩

theorem spSum_take (l : List (Nat × Nat)) (k : Nat) : spSum (l.take k) ≤ spSum l := by
  have h : spSum l = spSum (l.take k) + spSum (l.drop k) := by
    unfold spSum; rw [← List.sum_append, ← List.map_append, List.take_append_drop]
  omega

set_option maxRecDepth 100000 in
set_option maxHeartbeats 4000000 in
theorem back_some (s : Nat) (hs : s < 2 ^ 256) (hpos : 0 < (elems s).length) (hpos2 : 0 < (spansOf (elems s)).length) (w : World) : Calls Try.prog 8 #[setV s] w fun e w' => e = .returned (.bool true) ∧ Below w.heap.size w w' := by
  have HA := fun w => awake_any w
  have HOf : ∀ v w, Sl w v 1 (elems s).length ((elems s).map byteV) → Calls Try.prog 21 #[v] w fun e w' => e = .returned (setV s) ∧ Gr w.heap.size w w' := fun v w h => by
    have := of_any v (elems s) (fun c hc => elems_lt hc) w h (Nat.le_trans (size_le s) (by decide))
    rwa [ofL_elems hs] at this
  have HFs : ∀ v w, Sl w v 2 (spansOf (elems s)).length (spanCells (spansOf (elems s))) → Calls Try.prog 36 #[v] w fun e w' => e = .returned (setV s) ∧ Gr w.heap.size w w' := fun v w h => by
    have := fromSpans_any v (spansOf (elems s)) (fun x hx => by have := (spans_ok s).1 x hx; omega) w h (by have := spansOf_len (elems s); have := size_le s; unfold size at this; omega)
    rwa [ofSpans_spans hs] at this
  unfold setV setA
  go_enter Try.func8, Try.ntmps8
  go_wp2_with fail
  refine (HA _).mono ?_
  rintro e w1 ⟨rfl, hb⟩
  have hB1 := bthen (below1 w _) hb
  have b1 := Blk.laterB (blkOf1 w #[.int .u64 (Sx.wd s 0), .int .u64 (Sx.wd s 1), .int .u64 (Sx.wd s 2), .int .u64 (Sx.wd s 3)] 24) hb
  clear hb HA
  go_wp2_with fail
  refine wp_region_facts 109 [.eq (setV s), .sl 1 (elems s).length ((elems s).map byteV), .eq (setV s), .sl 2 (spansOf (elems s)).length (spanCells (spansOf (elems s))), .sl 1 (elems s).length ((elems s).map byteV), .sl 2 (spansOf (elems s)).length (spanCells (spansOf (elems s)))] mixed rfl (by kernel_rfl) ?_ ?_
  · refine ⟨?_, ?_, ?_, ?_, ?_, ?_, trivial⟩
    · intro vs a w hR H hin hout hget
      refine one_free rfl ?_
      have e0 := hout 1 (by kernel_rfl)
      obtain ⟨c0, c1, c2, c3, _⟩ := (b1.laterB hR).four
      clear H hin hout hget
      dsimp only [bare]
      go_wp2
      exact ⟨_, rfl, shows0 hR rfl⟩
    · intro vs a w hR H hin hout hget
      refine one_free rfl ?_
      have e0 := (hget 0 14 (by kernel_rfl)).trans (congrArg some (H 0 (by decide)))
      clear H hin hout hget
      dsimp only [bare]
      go_wp2_with fail
      refine (bytes_any s w).mono ?_
      rintro e w1 ⟨v, rfl, hf, hb⟩
      go_wp2
      exact ⟨_, rfl, shows hR hb (SlN.of_sl (sl_of_owns hf.1) hpos)⟩
    · intro vs a w hR H hin hout hget
      refine one_free rfl ?_
      have e0 := hout 1 (by kernel_rfl)
      obtain ⟨c0, c1, c2, c3, _⟩ := (b1.laterB hR).four
      clear H hin hout hget
      dsimp only [bare]
      go_wp2
      exact ⟨_, rfl, shows0 hR rfl⟩
    · intro vs a w hR H hin hout hget
      refine one_free rfl ?_
      have e0 := (hget 2 16 (by kernel_rfl)).trans (congrArg some (H 2 (by decide)))
      clear H hin hout hget
      dsimp only [bare]
      go_wp2_with fail
      refine (spans_any s w).mono ?_
      rintro e w1 ⟨v, rfl, hf, hb⟩
      go_wp2
      exact ⟨_, rfl, shows hR hb (SlN.of_sl (sl_of_owns hf.1) hpos2)⟩
    · intro vs a w hR H hin hout hget
      refine one_free rfl ?_
      obtain ⟨b0, o0, cap0, h0, lt0, c0⟩ := H 1 (by decide)
      have e0 := (hget 1 15 (by kernel_rfl)).trans (congrArg some h0)
      clear H hin hout hget
      dsimp only [bare]
      go_wp2
      exact ⟨_, rfl, shows0 hR ⟨_, _, _, rfl, lt0, c0⟩⟩
    · intro vs a w hR H hin hout hget
      refine one_free rfl ?_
      obtain ⟨b0, o0, cap0, h0, lt0, c0⟩ := H 3 (by decide)
      have e0 := (hget 3 17 (by kernel_rfl)).trans (congrArg some h0)
      clear H hin hout hget
      dsimp only [bare]
      go_wp2
      exact ⟨_, rfl, shows0 hR ⟨_, _, _, rfl, lt0, c0⟩⟩
  · intro vs w2 hR H
    obtain ⟨b3, o3, cap3, e3, h3⟩ := H 4 (by decide)
    obtain ⟨b4, o4, cap4, e4, h4⟩ := H 5 (by decide)
    simp only [putAll, Act.put, List.setIfInBounds_toArray, List.set_cons_succ, List.set_cons_zero, Nat.zero_add, Nat.reduceAdd, e3, e4]
    have hby : SlN w2 (.slice (some ⟨b3, o3, none⟩) (elems s).length cap3) 1 (elems s).length ((elems s).map byteV) := ⟨b3, o3, cap3, rfl, h3⟩
    have hsp : SlN w2 (.slice (some ⟨b4, o4, none⟩) (spansOf (elems s)).length cap4) 2 (spansOf (elems s)).length (spanCells (spansOf (elems s))) := ⟨b4, o4, cap4, rfl, h4⟩
    replace b1 := b1.laterB hR
    have hB2 := hB1.trans (hR.mono hB1.size)
    clear H hR hB1 e3 e4
    generalize vs 0 = y0
    generalize vs 1 = y1
    generalize vs 2 = y2
    generalize vs 3 = y3
    go_wp2_with fail
    refine wp_region_facts 109 [.sl 1 (elems s).length ((elems s).map byteV), .eq (setV s), .eq (setV s), .eq (.bool false), .eq (.bool false), .sl 2 (spansOf (elems s)).length (spanCells (spansOf (elems s))), .eq (setV s), .eq (setV s), .eq (.bool false), .eq (.bool false), .eq (.bool false), .eq (setV s), .eq (.int .i64 (elems s).length), .sl 1 (elems s).length ((elems s).map byteV), .eq (.int .i64 (elems s).length), .eq (.bool false), .eq (.bool false)] mixed rfl (by kernel_rfl) ?_ ?_
    · refine ⟨?_, ?_, ?_, ?_, ?_, ?_, ?_, ?_, ?_, ?_, ?_, ?_, ?_, ?_, ?_, ?_, ?_, trivial⟩
      · intro vs a w hR H hin hout hget
        refine one_free rfl ?_
        have e0 := hout 3 (by kernel_rfl)
        clear H hin hout hget
        dsimp only [bare]
        go_wp2
        exact ⟨_, rfl, shows0 hR (hby.later hR)⟩
      · intro vs a w hR H hin hout hget
        refine one_free rfl ?_
        obtain ⟨b0, o0, cap0, h0, lt0, c0⟩ := H 0 (by decide)
        have e0 := (hget 0 18 (by kernel_rfl)).trans (congrArg some h0)
        clear H hin hout hget
        dsimp only [bare]
        go_wp2_with fail
        refine ((HOf _ w ⟨by simp, .inr ⟨_, _, _, rfl, lt0, c0⟩⟩)).mono ?_
        rintro e w1 ⟨rfl, hb⟩
        go_wp2
        exact ⟨_, rfl, shows hR hb.below rfl⟩
      · intro vs a w hR H hin hout hget
        refine one_free rfl ?_
        have e0 := hout 1 (by kernel_rfl)
        obtain ⟨c0, c1, c2, c3, _⟩ := (b1.laterB hR).four
        clear H hin hout hget
        dsimp only [bare]
        go_wp2
        exact ⟨_, rfl, shows0 hR rfl⟩
      · intro vs a w hR H hin hout hget
        refine one_free rfl ?_
        have e0 := (hget 1 19 (by kernel_rfl)).trans (congrArg some (H 1 (by decide)))
        have e1 := (hget 2 20 (by kernel_rfl)).trans (congrArg some (H 2 (by decide)))
        have HE := neqSame s s hs rfl
        have HG := guardSetV
        clear H hin hout hget
        dsimp only [bare]
        go_wp2
        exact ⟨_, rfl, shows0 hR rfl⟩
      · intro vs a w hR H hin hout hget
        refine one_free rfl ?_
        have e0 := (hget 3 21 (by kernel_rfl)).trans (congrArg some (H 3 (by decide)))
        clear H hin hout hget
        dsimp only [bare]
        go_wp2
        exact ⟨_, rfl, shows0 hR rfl⟩
      · intro vs a w hR H hin hout hget
        refine one_guard 4 false 22 rfl (by kernel_rfl) ((hget 4 22 (by kernel_rfl)).trans (congrArg some (H 4 (by decide)))) ?_
        have e0 := hout 4 (by kernel_rfl)
        clear H hin hout hget
        dsimp only [bare]
        go_wp2
        exact ⟨_, rfl, shows0 hR (hsp.later hR)⟩
      · intro vs a w hR H hin hout hget
        refine one_guard 4 false 22 rfl (by kernel_rfl) ((hget 4 22 (by kernel_rfl)).trans (congrArg some (H 4 (by decide)))) ?_
        obtain ⟨b0, o0, cap0, h0, lt0, c0⟩ := H 5 (by decide)
        have e0 := (hget 5 23 (by kernel_rfl)).trans (congrArg some h0)
        clear H hin hout hget
        dsimp only [bare]
        go_wp2_with fail
        refine ((HFs _ w ⟨spanCells_len _, .inr ⟨_, _, _, rfl, lt0, c0⟩⟩)).mono ?_
        rintro e w1 ⟨rfl, hb⟩
        go_wp2
        exact ⟨_, rfl, shows hR hb.below rfl⟩
      · intro vs a w hR H hin hout hget
        refine one_guard 4 false 22 rfl (by kernel_rfl) ((hget 4 22 (by kernel_rfl)).trans (congrArg some (H 4 (by decide)))) ?_
        have e0 := hout 1 (by kernel_rfl)
        obtain ⟨c0, c1, c2, c3, _⟩ := (b1.laterB hR).four
        clear H hin hout hget
        dsimp only [bare]
        go_wp2
        exact ⟨_, rfl, shows0 hR rfl⟩
      · intro vs a w hR H hin hout hget
        refine one_guard 4 false 22 rfl (by kernel_rfl) ((hget 4 22 (by kernel_rfl)).trans (congrArg some (H 4 (by decide)))) ?_
        have e0 := (hget 6 24 (by kernel_rfl)).trans (congrArg some (H 6 (by decide)))
        have e1 := (hget 7 25 (by kernel_rfl)).trans (congrArg some (H 7 (by decide)))
        have HE := neqSame s s hs rfl
        have HG := guardSetV
        clear H hin hout hget
        dsimp only [bare]
        go_wp2
        exact ⟨_, rfl, shows0 hR rfl⟩
      · intro vs a w hR H hin hout hget
        refine one_free rfl ?_
        have e0 := (hget 4 22 (by kernel_rfl)).trans (congrArg some (H 4 (by decide)))
        have e1 := (hget 8 26 (by kernel_rfl)).trans (congrArg some (H 8 (by decide)))
        clear H hin hout hget
        dsimp only [bare]
        go_wp2
        exact ⟨_, rfl, shows0 hR rfl⟩
      · intro vs a w hR H hin hout hget
        refine one_free rfl ?_
        have e0 := (hget 9 27 (by kernel_rfl)).trans (congrArg some (H 9 (by decide)))
        clear H hin hout hget
        dsimp only [bare]
        go_wp2
        exact ⟨_, rfl, shows0 hR rfl⟩
      · intro vs a w hR H hin hout hget
        refine one_guard 10 false 28 rfl (by kernel_rfl) ((hget 10 28 (by kernel_rfl)).trans (congrArg some (H 10 (by decide)))) ?_
        have e0 := hout 1 (by kernel_rfl)
        obtain ⟨c0, c1, c2, c3, _⟩ := (b1.laterB hR).four
        clear H hin hout hget
        dsimp only [bare]
        go_wp2
        exact ⟨_, rfl, shows0 hR rfl⟩
      · intro vs a w hR H hin hout hget
        refine one_guard 10 false 28 rfl (by kernel_rfl) ((hget 10 28 (by kernel_rfl)).trans (congrArg some (H 10 (by decide)))) ?_
        have e0 := (hget 11 29 (by kernel_rfl)).trans (congrArg some (H 11 (by decide)))
        clear H hin hout hget
        dsimp only [bare]
        go_wp2_with fail
        refine (size_any s w).mono ?_
        rintro e w1 ⟨rfl, hb⟩
        go_wp2
        exact ⟨_, rfl, shows hR hb.below rfl⟩
      · intro vs a w hR H hin hout hget
        refine one_guard 10 false 28 rfl (by kernel_rfl) ((hget 10 28 (by kernel_rfl)).trans (congrArg some (H 10 (by decide)))) ?_
        have e0 := hout 3 (by kernel_rfl)
        clear H hin hout hget
        dsimp only [bare]
        go_wp2
        exact ⟨_, rfl, shows0 hR (hby.later hR)⟩
      · intro vs a w hR H hin hout hget
        refine one_guard 10 false 28 rfl (by kernel_rfl) ((hget 10 28 (by kernel_rfl)).trans (congrArg some (H 10 (by decide)))) ?_
        obtain ⟨b0, o0, cap0, h0, lt0, c0⟩ := H 13 (by decide)
        have e0 := (hget 13 31 (by kernel_rfl)).trans (congrArg some h0)
        clear H hin hout hget
        dsimp only [bare]
        go_wp2
        exact ⟨_, rfl, shows0 hR rfl⟩
      · intro vs a w hR H hin hout hget
        refine one_guard 10 false 28 rfl (by kernel_rfl) ((hget 10 28 (by kernel_rfl)).trans (congrArg some (H 10 (by decide)))) ?_
        have e0 := (hget 12 30 (by kernel_rfl)).trans (congrArg some (H 12 (by decide)))
        have e1 := (hget 14 32 (by kernel_rfl)).trans (congrArg some (H 14 (by decide)))
        clear H hin hout hget
        dsimp only [bare]
        go_wp2
        exact ⟨_, rfl, shows0 hR rfl⟩
      · intro vs a w hR H hin hout hget
        refine one_free rfl ?_
        have e0 := (hget 10 28 (by kernel_rfl)).trans (congrArg some (H 10 (by decide)))
        have e1 := (hget 15 33 (by kernel_rfl)).trans (congrArg some (H 15 (by decide)))
        clear H hin hout hget
        dsimp only [bare]
        go_wp2
        exact ⟨_, rfl, shows0 hR rfl⟩
    · intro vs w3 hR H
      have e5 : vs 16 = .bool false := H 16 (by decide)
      clear H
      simp only [putAll, Act.put, List.setIfInBounds_toArray, List.set_cons_succ, List.set_cons_zero, Nat.zero_add, Nat.reduceAdd, e5]
      replace b1 := b1.laterB hR
      replace hby := hby.later hR
      replace hsp := hsp.later hR
      have hB3 := hB2.trans (hR.mono hB2.size)
      clear hR hB2 e5
      generalize vs 0 = z0
      generalize vs 1 = z1
      generalize vs 2 = z2
      generalize vs 3 = z3
      generalize vs 4 = z4
      generalize vs 5 = z5
      generalize vs 6 = z6
      generalize vs 7 = z7
      generalize vs 8 = z8
      generalize vs 9 = z9
      generalize vs 10 = z10
      generalize vs 11 = z11
      generalize vs 12 = z12
      generalize vs 13 = z13
      generalize vs 14 = z14
      generalize vs 15 = z15
      have hok := spans_ok s
      have hsum := spans_sum s
      obtain ⟨l, hl⟩ : ∃ l, spansOf (elems s) = l := ⟨_, rfl⟩
      have hll := spansOf_len (elems s)
      rw [hl] at hok hsum hpos2 hsp hll ⊢
      clear hl HFs HOf
      have hszl : (elems s).length ≤ 256 := size_le s
      have hl256 : l.length ≤ 256 := Nat.le_trans hll hszl
      replace hsum := Lib.hid hsum
      replace hok := Lib.hid hok
      obtain ⟨_, _, _, he4, lt4, c4⟩ := hsp
      cases he4
      replace c4 := Lib.hid c4
      replace hby := Lib.hid hby
      go_wp2_with fail
      go_loopw [37, 5] (fun i n wr => ∃ k : Nat, k ≤ l.length ∧ i = .int .i64 k ∧ n = .int .i64 (spSum (l.take k) : Nat) ∧ Below w3.heap.size w3 wr) (fun i _ _ => l.length - (intOf i).toNat)
      case atStart => exact ⟨0, by omega, rfl, rfl, Below.refl _ _⟩
      case round =>
        obtain ⟨k, hk, rfl, rfl, hBk⟩ := hrel
        by_cases hlt : k < l.length
        · obtain ⟨g1, g2⟩ := spanCells_get l k hlt
          have ca : wr.cell? ⟨b4, o4 + k * 2, none⟩ = some (.int .u8 (l[k].1 : Nat)) := by rw [hBk.cell (p := ⟨b4, o4 + k * 2, none⟩) lt4, c4.out (k * 2) (by omega), g1]; rfl
          have cb : wr.cell? ⟨b4, o4 + k * 2 + 1, none⟩ = some (.int .u8 (l[k].2 : Nat)) := by rw [hBk.cell (p := ⟨b4, o4 + k * 2 + 1, none⟩) lt4, Nat.add_assoc, c4.out (k * 2 + 1) (by omega), g2]; rfl
          have hxk := hok.out.1 _ (List.getElem_mem hlt)
          have hstep : Hid (spSum (l.take (k + 1)) = spSum (l.take k) + (l[k].2 + 1 - l[k].1)) := by rw [List.take_succ_eq_append_getElem hlt, spSum_snoc]; exact rfl
          have hgap : ∀ j, j < k → ∀ h : j < l.length, l[j].2 + 1 < l[k].1 := fun j hj h => List.pairwise_iff_getElem.1 hok.out.2 j k h hlt hj
          clear g1 g2
          generalize l[k].1 = lo at ca hxk hstep hgap
          generalize l[k].2 = hi at cb hxk hstep
          replace hgap := Lib.hid hgap
          have hwr := hBk.size
          have hsle : spSum (l.take (k + 1)) ≤ 256 := by have := spSum_take l (k + 1); have := hsum.out; omega
          rw [hstep.out] at hsle
          go_wp2_with fail
          obtain ⟨W7, hW7⟩ : ∃ W7, W7 = wr.alloc (.cells #[.int .u8 lo, .int .u8 hi] 49) := ⟨_, rfl⟩
          have b7 : Blk W7 wr.heap.size #[.int .u8 lo, .int .u8 hi] 49 := by rw [hW7]; exact blkOf1 wr _ _
          have hB7 : Below wr.heap.size wr W7 := by rw [hW7]; exact below1 wr _
          rw [← hW7]
          clear hW7 ca cb
          rcases Nat.eq_zero_or_pos k with rfl | hkp
          · skip
            refine wp_region_facts 109 [.eq (.pointer (some ⟨wr.heap.size, 0, none⟩)), .eq (.int .u8 lo), .eq (.pointer (some ⟨wr.heap.size, 1, none⟩)), .eq (.int .u8 hi), .eq (.bool false), .eq (.bool false), .eq (.int .i64 0), .eq (.bool false), .eq (.bool false), .any, .any, .any, .any, .any, .any, .any, .any, .any, .any, .any, .any, .eq (.bool false), .eq (.bool false)] mixed rfl (by kernel_rfl) ?_ ?_
            · refine ⟨?_, ?_, ?_, ?_, ?_, ?_, ?_, ?_, ?_, ?_, ?_, ?_, ?_, ?_, ?_, ?_, ?_, ?_, ?_, ?_, ?_, ?_, ?_, trivial⟩
              · intro vs a w hR H hin hout hget
                refine one_free rfl ?_
                have e0 := hout 7 (by kernel_rfl)
                clear H hin hout hget
                dsimp only [bare]
                go_wp2
                exact ⟨_, rfl, shows0 hR rfl⟩
              · intro vs a w hR H hin hout hget
                refine one_free rfl ?_
                have e0 := (hget 0 42 (by kernel_rfl)).trans (congrArg some (H 0 (by decide)))
                obtain ⟨d0, d1⟩ := two_cells (b7.laterB hR)
                clear H hin hout hget
                dsimp only [bare]
                go_wp2
                exact ⟨_, rfl, shows0 hR rfl⟩
              · intro vs a w hR H hin hout hget
                refine one_free rfl ?_
                have e0 := hout 7 (by kernel_rfl)
                clear H hin hout hget
                dsimp only [bare]
                go_wp2
                exact ⟨_, rfl, shows0 hR rfl⟩
              · intro vs a w hR H hin hout hget
                refine one_free rfl ?_
                have e0 := (hget 2 44 (by kernel_rfl)).trans (congrArg some (H 2 (by decide)))
                obtain ⟨d0, d1⟩ := two_cells (b7.laterB hR)
                clear H hin hout hget
                dsimp only [bare]
                go_wp2
                exact ⟨_, rfl, shows0 hR rfl⟩
              · intro vs a w hR H hin hout hget
                refine one_free rfl ?_
                have e0 := (hget 1 43 (by kernel_rfl)).trans (congrArg some (H 1 (by decide)))
                have e1 := (hget 3 45 (by kernel_rfl)).trans (congrArg some (H 3 (by decide)))
                clear H hin hout hget
                dsimp only [bare]
                go_wp2
                exact ⟨_, rfl, shows0 hR (congrArg Value.bool (decide_eq_false (by omega : ¬ hi < lo)))⟩
              · intro vs a w hR H hin hout hget
                refine one_free rfl ?_
                have e0 := (hget 4 46 (by kernel_rfl)).trans (congrArg some (H 4 (by decide)))
                clear H hin hout hget
                dsimp only [bare]
                go_wp2
                exact ⟨_, rfl, shows0 hR rfl⟩
              · intro vs a w hR H hin hout hget
                refine one_guard 5 false 47 rfl (by kernel_rfl) ((hget 5 47 (by kernel_rfl)).trans (congrArg some (H 5 (by decide)))) ?_
                have e0 := hout 6 (by kernel_rfl)
                clear H hin hout hget
                dsimp only [bare]
                go_wp2
                exact ⟨_, rfl, shows0 hR rfl⟩
              · intro vs a w hR H hin hout hget
                refine one_guard 5 false 47 rfl (by kernel_rfl) ((hget 5 47 (by kernel_rfl)).trans (congrArg some (H 5 (by decide)))) ?_
                have e0 := (hget 6 48 (by kernel_rfl)).trans (congrArg some (H 6 (by decide)))
                clear H hin hout hget
                dsimp only [bare]
                go_wp2
                exact ⟨_, rfl, shows0 hR rfl⟩
              · intro vs a w hR H hin hout hget
                refine one_guard 5 false 47 rfl (by kernel_rfl) ((hget 5 47 (by kernel_rfl)).trans (congrArg some (H 5 (by decide)))) ?_
                have e0 := (hget 7 49 (by kernel_rfl)).trans (congrArg some (H 7 (by decide)))
                clear H hin hout hget
                dsimp only [bare]
                go_wp2
                exact ⟨_, rfl, shows0 hR rfl⟩
              · intro vs a w hR H hin hout hget
                exact one_skip 8 true 50 rfl (by kernel_rfl) ((hget 8 50 (by kernel_rfl)).trans (congrArg some (H 8 (by decide)))) (shows0 hR trivial)
              · intro vs a w hR H hin hout hget
                exact one_skip 8 true 50 rfl (by kernel_rfl) ((hget 8 50 (by kernel_rfl)).trans (congrArg some (H 8 (by decide)))) (shows0 hR trivial)
              · intro vs a w hR H hin hout hget
                exact one_skip 8 true 50 rfl (by kernel_rfl) ((hget 8 50 (by kernel_rfl)).trans (congrArg some (H 8 (by decide)))) (shows0 hR trivial)
              · intro vs a w hR H hin hout hget
                exact one_skip 8 true 50 rfl (by kernel_rfl) ((hget 8 50 (by kernel_rfl)).trans (congrArg some (H 8 (by decide)))) (shows0 hR trivial)
              · intro vs a w hR H hin hout hget
                exact one_skip 8 true 50 rfl (by kernel_rfl) ((hget 8 50 (by kernel_rfl)).trans (congrArg some (H 8 (by decide)))) (shows0 hR trivial)
              · intro vs a w hR H hin hout hget
                exact one_skip 8 true 50 rfl (by kernel_rfl) ((hget 8 50 (by kernel_rfl)).trans (congrArg some (H 8 (by decide)))) (shows0 hR trivial)
              · intro vs a w hR H hin hout hget
                exact one_skip 8 true 50 rfl (by kernel_rfl) ((hget 8 50 (by kernel_rfl)).trans (congrArg some (H 8 (by decide)))) (shows0 hR trivial)
              · intro vs a w hR H hin hout hget
                exact one_skip 8 true 50 rfl (by kernel_rfl) ((hget 8 50 (by kernel_rfl)).trans (congrArg some (H 8 (by decide)))) (shows0 hR trivial)
              · intro vs a w hR H hin hout hget
                exact one_skip 8 true 50 rfl (by kernel_rfl) ((hget 8 50 (by kernel_rfl)).trans (congrArg some (H 8 (by decide)))) (shows0 hR trivial)
              · intro vs a w hR H hin hout hget
                exact one_skip 8 true 50 rfl (by kernel_rfl) ((hget 8 50 (by kernel_rfl)).trans (congrArg some (H 8 (by decide)))) (shows0 hR trivial)
              · intro vs a w hR H hin hout hget
                exact one_skip 8 true 50 rfl (by kernel_rfl) ((hget 8 50 (by kernel_rfl)).trans (congrArg some (H 8 (by decide)))) (shows0 hR trivial)
              · intro vs a w hR H hin hout hget
                exact one_skip 8 true 50 rfl (by kernel_rfl) ((hget 8 50 (by kernel_rfl)).trans (congrArg some (H 8 (by decide)))) (shows0 hR trivial)
              · intro vs a w hR H hin hout hget
                refine one_guard 5 false 47 rfl (by kernel_rfl) ((hget 5 47 (by kernel_rfl)).trans (congrArg some (H 5 (by decide)))) ?_
                have e0 := (hget 8 50 (by kernel_rfl)).trans (congrArg some (H 8 (by decide)))
                clear H hin hout hget
                dsimp only [bare]
                go_wp2
                exact ⟨_, rfl, shows0 hR rfl⟩
              · intro vs a w hR H hin hout hget
                refine one_free rfl ?_
                have e0 := (hget 5 47 (by kernel_rfl)).trans (congrArg some (H 5 (by decide)))
                have e1 := (hget 21 63 (by kernel_rfl)).trans (congrArg some (H 21 (by decide)))
                clear H hin hout hget
                dsimp only [bare]
                go_wp2
                exact ⟨_, rfl, shows0 hR rfl⟩
            · intro vs w8 hR H
              have e22 : vs 22 = .bool false := H 22 (by decide)
              have hB8 := hBk.trans ((hB7.trans (hR.mono hB7.size)).mono hBk.size)
              have d := two_cells (b7.laterB hR)
              clear H
              simp only [putAll, Act.put, List.setIfInBounds_toArray, List.set_cons_succ, List.set_cons_zero, Nat.zero_add, Nat.reduceAdd, e22]
              obtain ⟨d0, d1⟩ := d
              clear hR e22
              go_wp2
              go_roundw
              case rel => exact ⟨1, by omega, by go_num, by have h1 := hxk.1; rw [hstep.out]; rw [List.take_zero] at hsle ⊢; generalize spSum [] = z at hsle ⊢; rw [Go.IntWalk.wrap64_in _ (by omega)]; go_num, hB8⟩
              case measure => simp [intOf]; omega
          · obtain ⟨k1, rfl⟩ : ∃ k1, k = k1 + 1 := ⟨k - 1, by omega⟩
            have hk1 : k1 < l.length := by omega
            have hg := hgap.out k1 (by omega) hk1
            have hph : ∀ w, Below W7.heap.size W7 w → w.cell? ⟨b4, o4 + k1 * 2 + 1, none⟩ = some (.int .u8 (l[k1].2 : Nat)) := fun w hw => by
              have hlt4 : b4 < wr.heap.size := by omega
              rw [hw.cell (p := ⟨b4, o4 + k1 * 2 + 1, none⟩) (by have := hB7.size; show b4 < _; omega), hB7.cell (p := ⟨b4, o4 + k1 * 2 + 1, none⟩) hlt4, hBk.cell (p := ⟨b4, o4 + k1 * 2 + 1, none⟩) lt4, Nat.add_assoc, c4.out (k1 * 2 + 1) (by omega), (spanCells_get l k1 hk1).2]; rfl
            have hph0 := (hok.out.1 _ (List.getElem_mem hk1)).2
            generalize l[k1].2 = ph at hg hph hph0
            have hk256 : k1 < 256 := by omega
            refine wp_region_facts 109 [.eq (.pointer (some ⟨wr.heap.size, 0, none⟩)), .eq (.int .u8 lo), .eq (.pointer (some ⟨wr.heap.size, 1, none⟩)), .eq (.int .u8 hi), .eq (.bool false), .eq (.bool false), .eq (.int .i64 ((k1 + 1 : Nat) : Int)), .eq (.bool true), .eq (.bool true), .eq (.pointer (some ⟨wr.heap.size, 0, none⟩)), .eq (.int .u8 lo), .eq (.int .i64 lo), .eq (.slice (some ⟨b4, o4, none⟩) l.length cap4), .eq (.int .i64 ((k1 + 1 : Nat) : Int)), .eq (.int .i64 k1), .eq (.pointer (some ⟨b4, o4 + k1 * 2, none⟩)), .eq (.pointer (some ⟨b4, o4 + k1 * 2 + 1, none⟩)), .eq (.int .u8 ph), .eq (.int .i64 ph), .eq (.int .i64 (ph + 1)), .eq (.bool false), .eq (.bool false), .eq (.bool false)] mixed rfl (by kernel_rfl) ?_ ?_
            · refine ⟨?_, ?_, ?_, ?_, ?_, ?_, ?_, ?_, ?_, ?_, ?_, ?_, ?_, ?_, ?_, ?_, ?_, ?_, ?_, ?_, ?_, ?_, ?_, trivial⟩
              · intro vs a w hR H hin hout hget
                refine one_free rfl ?_
                have e0 := hout 7 (by kernel_rfl)
                clear H hin hout hget
                dsimp only [bare]
                go_wp2
                exact ⟨_, rfl, shows0 hR rfl⟩
              · intro vs a w hR H hin hout hget
                refine one_free rfl ?_
                have e0 := (hget 0 42 (by kernel_rfl)).trans (congrArg some (H 0 (by decide)))
                obtain ⟨d0, d1⟩ := two_cells (b7.laterB hR)
                clear H hin hout hget
                dsimp only [bare]
                go_wp2
                exact ⟨_, rfl, shows0 hR rfl⟩
              · intro vs a w hR H hin hout hget
                refine one_free rfl ?_
                have e0 := hout 7 (by kernel_rfl)
                clear H hin hout hget
                dsimp only [bare]
                go_wp2
                exact ⟨_, rfl, shows0 hR rfl⟩
              · intro vs a w hR H hin hout hget
                refine one_free rfl ?_
                have e0 := (hget 2 44 (by kernel_rfl)).trans (congrArg some (H 2 (by decide)))
                obtain ⟨d0, d1⟩ := two_cells (b7.laterB hR)
                clear H hin hout hget
                dsimp only [bare]
                go_wp2
                exact ⟨_, rfl, shows0 hR rfl⟩
              · intro vs a w hR H hin hout hget
                refine one_free rfl ?_
                have e0 := (hget 1 43 (by kernel_rfl)).trans (congrArg some (H 1 (by decide)))
                have e1 := (hget 3 45 (by kernel_rfl)).trans (congrArg some (H 3 (by decide)))
                clear H hin hout hget
                dsimp only [bare]
                go_wp2
                exact ⟨_, rfl, shows0 hR (congrArg Value.bool (decide_eq_false (by omega : ¬ hi < lo)))⟩
              · intro vs a w hR H hin hout hget
                refine one_free rfl ?_
                have e0 := (hget 4 46 (by kernel_rfl)).trans (congrArg some (H 4 (by decide)))
                clear H hin hout hget
                dsimp only [bare]
                go_wp2
                exact ⟨_, rfl, shows0 hR rfl⟩
              · intro vs a w hR H hin hout hget
                refine one_guard 5 false 47 rfl (by kernel_rfl) ((hget 5 47 (by kernel_rfl)).trans (congrArg some (H 5 (by decide)))) ?_
                have e0 := hout 6 (by kernel_rfl)
                clear H hin hout hget
                dsimp only [bare]
                go_wp2
                exact ⟨_, rfl, shows0 hR rfl⟩
              · intro vs a w hR H hin hout hget
                refine one_guard 5 false 47 rfl (by kernel_rfl) ((hget 5 47 (by kernel_rfl)).trans (congrArg some (H 5 (by decide)))) ?_
                have e0 := (hget 6 48 (by kernel_rfl)).trans (congrArg some (H 6 (by decide)))
                clear H hin hout hget
                dsimp only [bare]
                go_wp2
                exact ⟨_, rfl, shows0 hR rfl⟩
              · intro vs a w hR H hin hout hget
                refine one_guard 5 false 47 rfl (by kernel_rfl) ((hget 5 47 (by kernel_rfl)).trans (congrArg some (H 5 (by decide)))) ?_
                have e0 := (hget 7 49 (by kernel_rfl)).trans (congrArg some (H 7 (by decide)))
                clear H hin hout hget
                dsimp only [bare]
                go_wp2
                exact ⟨_, rfl, shows0 hR rfl⟩
              · intro vs a w hR H hin hout hget
                refine one_guard 8 true 50 rfl (by kernel_rfl) ((hget 8 50 (by kernel_rfl)).trans (congrArg some (H 8 (by decide)))) ?_
                have e0 := hout 7 (by kernel_rfl)
                clear H hin hout hget
                dsimp only [bare]
                go_wp2
                exact ⟨_, rfl, shows0 hR rfl⟩
              · intro vs a w hR H hin hout hget
                refine one_guard 8 true 50 rfl (by kernel_rfl) ((hget 8 50 (by kernel_rfl)).trans (congrArg some (H 8 (by decide)))) ?_
                have e0 := (hget 9 51 (by kernel_rfl)).trans (congrArg some (H 9 (by decide)))
                obtain ⟨d0, d1⟩ := two_cells (b7.laterB hR)
                clear H hin hout hget
                dsimp only [bare]
                go_wp2
                exact ⟨_, rfl, shows0 hR rfl⟩
              · intro vs a w hR H hin hout hget
                refine one_guard 8 true 50 rfl (by kernel_rfl) ((hget 8 50 (by kernel_rfl)).trans (congrArg some (H 8 (by decide)))) ?_
                have e0 := (hget 10 52 (by kernel_rfl)).trans (congrArg some (H 10 (by decide)))
                clear H hin hout hget
                dsimp only [bare]
                go_wp2
                exact ⟨_, rfl, shows0 hR rfl⟩
              · intro vs a w hR H hin hout hget
                refine one_guard 8 true 50 rfl (by kernel_rfl) ((hget 8 50 (by kernel_rfl)).trans (congrArg some (H 8 (by decide)))) ?_
                have e0 := hout 4 (by kernel_rfl)
                clear H hin hout hget
                dsimp only [bare]
                go_wp2
                exact ⟨_, rfl, shows0 hR rfl⟩
              · intro vs a w hR H hin hout hget
                refine one_guard 8 true 50 rfl (by kernel_rfl) ((hget 8 50 (by kernel_rfl)).trans (congrArg some (H 8 (by decide)))) ?_
                have e0 := hout 6 (by kernel_rfl)
                clear H hin hout hget
                dsimp only [bare]
                go_wp2
                exact ⟨_, rfl, shows0 hR rfl⟩
              · intro vs a w hR H hin hout hget
                refine one_guard 8 true 50 rfl (by kernel_rfl) ((hget 8 50 (by kernel_rfl)).trans (congrArg some (H 8 (by decide)))) ?_
                have e0 := (hget 13 55 (by kernel_rfl)).trans (congrArg some (H 13 (by decide)))
                clear H hin hout hget
                dsimp only [bare]
                go_wp2
                exact ⟨_, rfl, shows0 hR rfl⟩
              · intro vs a w hR H hin hout hget
                refine one_guard 8 true 50 rfl (by kernel_rfl) ((hget 8 50 (by kernel_rfl)).trans (congrArg some (H 8 (by decide)))) ?_
                have e0 := (hget 12 54 (by kernel_rfl)).trans (congrArg some (H 12 (by decide)))
                have e1 := (hget 14 56 (by kernel_rfl)).trans (congrArg some (H 14 (by decide)))
                clear H hin hout hget
                dsimp only [bare]
                go_wp2
                exact ⟨_, rfl, shows0 hR rfl⟩
              · intro vs a w hR H hin hout hget
                refine one_guard 8 true 50 rfl (by kernel_rfl) ((hget 8 50 (by kernel_rfl)).trans (congrArg some (H 8 (by decide)))) ?_
                have e0 := (hget 15 57 (by kernel_rfl)).trans (congrArg some (H 15 (by decide)))
                clear H hin hout hget
                dsimp only [bare]
                go_wp2
                exact ⟨_, rfl, shows0 hR rfl⟩
              · intro vs a w hR H hin hout hget
                refine one_guard 8 true 50 rfl (by kernel_rfl) ((hget 8 50 (by kernel_rfl)).trans (congrArg some (H 8 (by decide)))) ?_
                have e0 := (hget 16 58 (by kernel_rfl)).trans (congrArg some (H 16 (by decide)))
                have d0 := hph w hR
                clear H hin hout hget
                dsimp only [bare]
                go_wp2
                exact ⟨_, rfl, shows0 hR rfl⟩
              · intro vs a w hR H hin hout hget
                refine one_guard 8 true 50 rfl (by kernel_rfl) ((hget 8 50 (by kernel_rfl)).trans (congrArg some (H 8 (by decide)))) ?_
                have e0 := (hget 17 59 (by kernel_rfl)).trans (congrArg some (H 17 (by decide)))
                clear H hin hout hget
                dsimp only [bare]
                go_wp2
                exact ⟨_, rfl, shows0 hR rfl⟩
              · intro vs a w hR H hin hout hget
                refine one_guard 8 true 50 rfl (by kernel_rfl) ((hget 8 50 (by kernel_rfl)).trans (congrArg some (H 8 (by decide)))) ?_
                have e0 := (hget 18 60 (by kernel_rfl)).trans (congrArg some (H 18 (by decide)))
                clear H hin hout hget
                dsimp only [bare]
                go_wp2
                exact ⟨_, rfl, shows0 hR rfl⟩
              · intro vs a w hR H hin hout hget
                refine one_guard 8 true 50 rfl (by kernel_rfl) ((hget 8 50 (by kernel_rfl)).trans (congrArg some (H 8 (by decide)))) ?_
                have e0 := (hget 11 53 (by kernel_rfl)).trans (congrArg some (H 11 (by decide)))
                have e1 := (hget 19 61 (by kernel_rfl)).trans (congrArg some (H 19 (by decide)))
                clear H hin hout hget
                dsimp only [bare]
                go_wp2
                exact ⟨_, rfl, shows0 hR (congrArg Value.bool (decide_eq_false (by omega)))⟩
              · intro vs a w hR H hin hout hget
                refine one_guard 5 false 47 rfl (by kernel_rfl) ((hget 5 47 (by kernel_rfl)).trans (congrArg some (H 5 (by decide)))) ?_
                have e0 := (hget 8 50 (by kernel_rfl)).trans (congrArg some (H 8 (by decide)))
                have e1 := (hget 20 62 (by kernel_rfl)).trans (congrArg some (H 20 (by decide)))
                clear H hin hout hget
                dsimp only [bare]
                go_wp2
                exact ⟨_, rfl, shows0 hR rfl⟩
              · intro vs a w hR H hin hout hget
                refine one_free rfl ?_
                have e0 := (hget 5 47 (by kernel_rfl)).trans (congrArg some (H 5 (by decide)))
                have e1 := (hget 21 63 (by kernel_rfl)).trans (congrArg some (H 21 (by decide)))
                clear H hin hout hget
                dsimp only [bare]
                go_wp2
                exact ⟨_, rfl, shows0 hR rfl⟩
            · intro vs w8 hR H
              have e22 : vs 22 = .bool false := H 22 (by decide)
              have hB8 := hBk.trans ((hB7.trans (hR.mono hB7.size)).mono hBk.size)
              have d := two_cells (b7.laterB hR)
              clear H
              simp only [putAll, Act.put, List.setIfInBounds_toArray, List.set_cons_succ, List.set_cons_zero, Nat.zero_add, Nat.reduceAdd, e22]
              obtain ⟨d0, d1⟩ := d
              clear hR e22
              go_wp2
              go_roundw
              case rel => exact ⟨k1 + 1 + 1, by omega, by go_num, by rw [hstep.out]; go_num, hB8⟩
              case measure => simp [intOf]; omega
        · obtain rfl : k = l.length := by omega
          rw [List.take_length, hsum.out]
          obtain ⟨f0, f1, f2, f3, _⟩ := (b1.laterB hBk).four
          have HF := fun w => first_any s w
          rw [(first_at s).1, (first_at s).2, decide_eq_true hpos] at HF
          unfold setV setA byteV at HF
          obtain ⟨x0, hx0⟩ : ∃ x0, x0 = (elems s).getD 0 0 := ⟨_, rfl⟩
          rw [← hx0] at HF
          replace hx0 := Lib.hid hx0
          obtain ⟨_, _, _, he3, lt3, c3'⟩ := hby.out
          cases he3
          have hcb := Lib.hid c3'
          have bS := b1.laterB hBk
          have hBS := hB3.trans (hBk.mono hB3.size)
          clear c3' hby
          go_wp2_with fail
          refine (HF _).mono ?_
          rintro e w9 ⟨rfl, h9⟩
          have bS9 := bS.laterB h9.below
          have hBS9 := hBS.trans (h9.below.mono hBS.size)
          have hcb9 : Hid (∀ i, i < (elems s).length → w9.cell? ⟨b3, o3 + i, none⟩ = ((elems s).map byteV)[i]?) := fun i hi => by
            rw [h9.cell (p := ⟨b3, o3 + i, none⟩) (by have := hBk.size; show b3 < _; omega), hBk.cell (p := ⟨b3, o3 + i, none⟩) lt3]
            exact hcb.out i (by omega)
          have lt39 : b3 < w9.heap.size := by have := hBk.size; have := h9.size; omega
          clear bS hBS h9 hcb HF f0 f1 f2 f3
          go_wp2_with fail
          go_loopw [83, 8, 9] (fun i c ok wr => ∃ j : Nat, j ≤ (elems s).length ∧ i = .int .i64 j ∧ c = .int .u8 ((elems s).getD j 0 : Nat) ∧ ok = .bool (decide (j < (elems s).length)) ∧ Below w9.heap.size w9 wr) (fun i _ _ _ => (elems s).length - (intOf i).toNat)
          case atStart => exact ⟨0, by omega, rfl, by rw [← hx0.out], by rw [decide_eq_true hpos], Below.refl _ _⟩
          case round =>
            obtain ⟨j, hj, rfl, rfl, rfl, hBj⟩ := hrel
            by_cases hlt : j < (elems s).length
            · have hg : (elems s)[j]? = some (elems s)[j] := List.getElem?_eq_getElem hlt
              have hgd : (elems s).getD j 0 = (elems s)[j] := by rw [List.getD_eq_getElem?_getD, hg]; rfl
              have hxl : (elems s)[j] < 256 := elems_lt (List.getElem_mem hlt)
              have hnx := next_at s j _ hg
              have HN := fun w => next_any s (elems s)[j] hxl w
              rw [hnx] at HN
              have cx : wr.cell? ⟨b3, o3 + j, none⟩ = some (.int .u8 ((elems s)[j] : Nat)) := by
                rw [hBj.cell (p := ⟨b3, o3 + j, none⟩) lt39, hcb9.out j hlt, List.getElem?_map, hg]; rfl
              rw [hgd, decide_eq_true hlt]
              dsimp only at HN
              unfold setV setA byteV at HN
              obtain ⟨y, hy⟩ : ∃ y, y = (elems s).getD (j + 1) 0 := ⟨_, rfl⟩
              obtain ⟨q, hq⟩ : ∃ q, q = decide (j + 1 < (elems s).length) := ⟨_, rfl⟩
              rw [← hy, ← hq] at HN
              replace hy := Lib.hid hy
              replace hq := Lib.hid hq
              generalize (elems s)[j] = x at HN cx hxl
              clear hg hgd hnx
              obtain ⟨f0, f1, f2, f3, _⟩ := (bS9.laterB hBj).four
              go_wp2_with fail
              refine (HN _).mono ?_
              rintro e w10 ⟨rfl, h10⟩
              have hB10 := hBj.trans (h10.below.mono hBj.size)
              clear HN f0 f1 f2 f3
              go_wp2_with fail
              go_roundw
              case rel => exact ⟨j + 1, by omega, by go_num, by rw [← hy.out], by rw [← hq.out], hB10⟩
              case measure => simp [intOf]; omega
            · obtain rfl : j = (elems s).length := by omega
              rw [decide_eq_false (Nat.lt_irrefl _)]
              generalize (elems s).getD (elems s).length 0 = z
              go_wp2
              go_ret
              exact ⟨rfl, hBS9.trans (hBj.mono hBS9.size)⟩
end Go.Proofs.Ytojmkgllbhbeiaa
