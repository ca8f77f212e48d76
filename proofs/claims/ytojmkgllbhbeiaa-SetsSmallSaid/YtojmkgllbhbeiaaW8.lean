/-
  WALKS of package sets: Parts.
-/
import Derived.Test.YtojmkgllbhbeiaaSrt
namespace Go.Proofs.Ytojmkgllbhbeiaa
open Go.RowKit

theorem owns_cap {w : World} {base g n cap : Nat} {e : TypeId} {size : Nat} {xs : List Value} (h : w.ownsRow base e size (.slice (some ⟨g, 0, none⟩) n cap) n xs) : n ≤ cap ∧ cap ≤ maxLen := by
  obtain ⟨_, ⟨h, _⟩ | ⟨g', cap', cur, hv, _, _, h1, h2, _⟩⟩ := h
  · cases h
  · cases hv; exact ⟨h1, h2⟩
set_option maxRecDepth 100000 in
set_option maxHeartbeats 4000000 in
theorem parts_some (b o cap : Nat) (ss : List Nat) (hss : ∀ s ∈ ss, s < 2 ^ 256) (w : World) (hb : b < w.heap.size) (hc : ∀ i, i < ss.length * 4 → w.cell? ⟨b, o + i, none⟩ = (setCells ss)[i]?) (hlen : ss.length ≤ 1000000) :
    Calls Try.prog 31 #[.slice (some ⟨b, o, none⟩) ss.length cap] w fun e w' => ∃ g cap ds, e = .returned (.slice (some ⟨g, 0, none⟩) ds.length cap) ∧ Sl w' (.slice (some ⟨g, 0, none⟩) ds.length cap) 4 ds.length (setCells ds) ∧ ds.Perm (rawParts ss) ∧ (ds.Pairwise fun a b => ¬ cmpS b a < 0) ∧ Below w.heap.size w w' ∧ ds.length ≤ cap ∧ cap ≤ maxLen := by
  obtain ⟨i0, hi, hz0, hz1, hz2⟩ := info_parts info24
  go_enter Try.func31, Try.ntmps31
  have HC := fun w => all_any w
  unfold setV setA at HC
  go_wp2_with fail
  refine (HC _).mono ?_
  clear HC
  rintro e w0 ⟨rfl, hb0⟩
  have hB0 := hb0.below
  clear hb0
  go_wp2
  go_loopw [15, 3] (fun i v wr => ∃ k : Nat, k ≤ ss.length ∧ i = .int .i64 k ∧ wr.ownsRow w0.heap.size 24 4 v (rawParts (ss.take k)).length (setCells (rawParts (ss.take k))) ∧ Below w.heap.size w wr ∧ w0.heap.size ≤ wr.heap.size) (fun i _ _ => ss.length - (intOf i).toNat)
  case atStart =>
    refine ⟨0, by omega, rfl, ?_, hB0.alloc hB0.size _, by simp⟩
    refine ⟨by rw [setCells_len], .inr ⟨w0.heap.size, 1, _, rfl, Nat.le_refl _, blkOf1 w0 _ _, Nat.le_refl _, by decide, rfl, rfl⟩⟩
  case round =>
    obtain ⟨k, hk, rfl, hrow, hB, hsz⟩ := hrel
    by_cases hlt : k < ss.length
    · have hbB : b < w.heap.size := hb
      obtain ⟨c0, c1, c2, c3⟩ := setCells_four ss hc k hlt
      have d0 : wr.cell? ⟨b, o + k * 4, none⟩ = some (.int .u64 (Sx.wd ss[k] 0)) := by rw [hB.cell (p := ⟨b, o + k * 4, none⟩) hbB, c0]
      have d1 : wr.cell? ⟨b, o + k * 4 + 1, none⟩ = some (.int .u64 (Sx.wd ss[k] 1)) := by rw [hB.cell (p := ⟨b, o + k * 4 + 1, none⟩) hbB, c1]
      have d2 : wr.cell? ⟨b, o + k * 4 + 2, none⟩ = some (.int .u64 (Sx.wd ss[k] 2)) := by rw [hB.cell (p := ⟨b, o + k * 4 + 2, none⟩) hbB, c2]
      have d3 : wr.cell? ⟨b, o + k * 4 + 3, none⟩ = some (.int .u64 (Sx.wd ss[k] 3)) := by rw [hB.cell (p := ⟨b, o + k * 4 + 3, none⟩) hbB, c3]
      clear c0 c1 c2 c3
      have hx := hss _ (List.getElem_mem hlt)
      have hts : Hid (rawParts (ss.take (k + 1)) = partStep (rawParts (ss.take k)) ss[k]) := by rw [List.take_succ_eq_append_getElem hlt, raw_snoc]; exact rfl
      have hpt := part_raw (ss.take k)
      have hpt2 := part_raw (ss.take (k + 1))
      have hl2 := hpt2.len256
      have hne := raw_ne (ss.take k)
      generalize ss[k] = s at d0 d1 d2 d3 hx hts
      generalize rawParts (ss.take k) = ps at hrow hts hpt hne
      have hl1 := hpt.len256
      have hpos : 0 < ps.length := List.length_pos_iff.2 hne
      obtain ⟨g, cap3, rfl⟩ := owns_slice hpos hrow
      have hgb := hrow.lt g rfl
      have hcell : ∀ i, i < ps.length * 4 → wr.cell? ⟨g, 0 + i, none⟩ = (setCells ps)[i]? := fun i hi => by
        obtain ⟨u, hu⟩ : ∃ u, (setCells ps)[i]? = some u := ⟨_, List.getElem?_eq_getElem (by rw [setCells_len]; exact hi)⟩
        rw [Nat.zero_add, hu]; exact (owns_cell hrow i u hu).1
      replace hrow := Lib.hid hrow
      replace hcell := Lib.hid hcell
      go_wp2
      obtain ⟨W1, hW1⟩ : ∃ W1, W1 = wr.alloc (.cells #[.int .u64 (Sx.wd s 0), .int .u64 (Sx.wd s 1), .int .u64 (Sx.wd s 2), .int .u64 (Sx.wd s 3)] 24) := ⟨_, rfl⟩
      have bs : Blk W1 wr.heap.size #[.int .u64 (Sx.wd s 0), .int .u64 (Sx.wd s 1), .int .u64 (Sx.wd s 2), .int .u64 (Sx.wd s 3)] 24 := by rw [hW1]; exact blkOf1 wr _ _
      have hB1 : Below wr.heap.size wr W1 := by rw [hW1]; exact below1 wr _
      have hS1 : W1.heap.size = wr.heap.size + 1 := by rw [hW1]; simp
      rw [← hW1]
      clear hW1 d0 d1 d2 d3
      obtain ⟨w4, rfl⟩ : ∃ w4, w4 = wr := ⟨_, rfl⟩
      go_loopw [21, 6] (fun i v w6 => ∃ m : Nat, m ≤ ps.length ∧ i = .int .i64 m ∧ w6.ownsRow W1.heap.size 24 4 v (partStep (ps.take m) s).length (setCells (partStep (ps.take m) s)) ∧ Below W1.heap.size W1 w6) (fun i _ _ => ps.length - (intOf i).toNat)
      case atStart =>
        exact ⟨0, by omega, rfl, World.ownsRow_nil _ _ _ _, Below.refl _ _⟩
      case round =>
        obtain ⟨m, hm, rfl, hrow6, hB6⟩ := hrel
        by_cases hlt6 : m < ps.length
        · obtain ⟨c0, c1, c2, c3⟩ := setCells_four ps hcell.out m hlt6
          rw [Nat.zero_add] at c0 c1 c2 c3
          have hgl : g < w4.heap.size := hgb.2
          have d0 : wr.cell? ⟨g, m * 4, none⟩ = some (.int .u64 (Sx.wd ps[m] 0)) := by rw [hB6.cell (p := ⟨g, m * 4, none⟩) (by show g < _; omega), hB1.cell (p := ⟨g, m * 4, none⟩) hgl, c0]
          have d1 : wr.cell? ⟨g, m * 4 + 1, none⟩ = some (.int .u64 (Sx.wd ps[m] 1)) := by rw [hB6.cell (p := ⟨g, m * 4 + 1, none⟩) (by show g < _; omega), hB1.cell (p := ⟨g, m * 4 + 1, none⟩) hgl, c1]
          have d2 : wr.cell? ⟨g, m * 4 + 2, none⟩ = some (.int .u64 (Sx.wd ps[m] 2)) := by rw [hB6.cell (p := ⟨g, m * 4 + 2, none⟩) (by show g < _; omega), hB1.cell (p := ⟨g, m * 4 + 2, none⟩) hgl, c2]
          have d3 : wr.cell? ⟨g, m * 4 + 3, none⟩ = some (.int .u64 (Sx.wd ps[m] 3)) := by rw [hB6.cell (p := ⟨g, m * 4 + 3, none⟩) (by show g < _; omega), hB1.cell (p := ⟨g, m * 4 + 3, none⟩) hgl, c3]
          clear c0 c1 c2 c3
          have hmt : Hid (partStep (ps.take (m + 1)) s = partStep (ps.take m) s ++ split ps[m] s) := by rw [List.take_succ_eq_append_getElem hlt6, partStep_snoc]; exact rfl
          have hml : (partStep (ps.take m) s).length ≤ 512 := by
            have := partStep_len (ps.take m) s
            rw [List.length_take] at this; omega
          have hpx := hpt.1 _ (List.getElem_mem hlt6)
          generalize ps[m] = x at d0 d1 d2 d3 hmt hpx
          generalize partStep (ps.take m) s = qs at hrow6 hmt hml
          replace hrow6 := Lib.hid hrow6
          go_wp2
          obtain ⟨W7, hW7⟩ : ∃ W7, W7 = wr.alloc (.cells #[.int .u64 (Sx.wd x 0), .int .u64 (Sx.wd x 1), .int .u64 (Sx.wd x 2), .int .u64 (Sx.wd x 3)] 24) := ⟨_, rfl⟩
          have bx : Blk W7 wr.heap.size #[.int .u64 (Sx.wd x 0), .int .u64 (Sx.wd x 1), .int .u64 (Sx.wd x 2), .int .u64 (Sx.wd x 3)] 24 := by rw [hW7]; exact blkOf1 wr _ _
          have hB7 : Below wr.heap.size wr W7 := by rw [hW7]; exact below1 wr _
          have hS7 : Hid (W7.heap.size = wr.heap.size + 1) := Lib.hid (by rw [hW7]; simp)
          have bs7 : Blk W7 w4.heap.size #[.int .u64 (Sx.wd s 0), .int .u64 (Sx.wd s 1), .int .u64 (Sx.wd s 2), .int .u64 (Sx.wd s 3)] 24 := (bs.below hB6 (by omega)).laterB hB7
          rw [← hW7]
          clear hW7 d0 d1 d2 d3
          have H1 := fun w => and_any x s w
          have H2 := fun w => less_any x s w
          unfold setV setA at H1 H2
          refine wp_region_up 51 [fun v _ => v = .agg (setA x), fun v _ => v = .agg (setA s), fun v _ => v = .agg (setA (Sx.and x s)), fun v _ => v = .agg (setA x), fun v _ => v = .agg (setA s), fun v _ => v = .agg (setA (Sx.less x s)),
            fun v w => ∃ b1, W7.heap.size ≤ b1 ∧ v = .slice (some ⟨b1, 0, none⟩) 2 2 ∧ Blk w b1 (setA (Sx.and x s) ++ setA (Sx.less x s)) 24, fun v _ => v = .int .i64 2, fun v _ => v = .int .i64 0] mixed rfl (by kernel_rfl) ?_ ?_ ?_
          · intro w w' h1 h2 v f hf
            simp only [List.mem_cons, List.not_mem_nil, or_false] at hf
            rcases hf with rfl | rfl | rfl | rfl | rfl | rfl | rfl | rfl | rfl <;> first | exact fun h => h | exact fun ⟨b1, h1, h2, h3⟩ => ⟨b1, h1, h2, h3.laterB ‹_›⟩
          · refine ⟨?_, ?_, ?_, ?_, ?_, ?_, ?_, ?_, ?_, trivial⟩
            all_goals intro vs a w hR H hin hout hget
            · have e := hout 8 (by kernel_rfl)
              obtain ⟨c0, c1, c2, c3, _⟩ := (bx.laterB hR).four
              clear H hin hout hget
              go_wp2
              exact ⟨_, rfl, hR, Below.refl _ _, upd_same _ _ _⟩
            · have e := hout 5 (by kernel_rfl)
              obtain ⟨c0, c1, c2, c3, _⟩ := (bs7.laterB hR).four
              clear H hin hout hget
              go_wp2
              exact ⟨_, rfl, hR, Below.refl _ _, upd_same _ _ _⟩
            · have e0 := (hin 0 25 (by kernel_rfl)).trans (H 0 (by decide))
              have e1 := (hin 1 26 (by kernel_rfl)).trans (H 1 (by decide))
              unfold setA at e0 e1
              clear H hin hout hget
              go_wp2_with fail
              refine (H1 _).mono ?_
              rintro e w1 ⟨rfl, hb⟩
              go_wp2
              exact ⟨_, rfl, hR.trans (hb.below.mono hR.size), hb.below, upd_same _ _ _⟩
            · have e := hout 8 (by kernel_rfl)
              obtain ⟨c0, c1, c2, c3, _⟩ := (bx.laterB hR).four
              clear H hin hout hget
              go_wp2
              exact ⟨_, rfl, hR, Below.refl _ _, upd_same _ _ _⟩
            · have e := hout 5 (by kernel_rfl)
              obtain ⟨c0, c1, c2, c3, _⟩ := (bs7.laterB hR).four
              clear H hin hout hget
              go_wp2
              exact ⟨_, rfl, hR, Below.refl _ _, upd_same _ _ _⟩
            · have e0 := (hin 3 28 (by kernel_rfl)).trans (H 3 (by decide))
              have e1 := (hin 4 29 (by kernel_rfl)).trans (H 4 (by decide))
              unfold setA at e0 e1
              clear H hin hout hget
              go_wp2_with fail
              refine (H2 _).mono ?_
              rintro e w1 ⟨rfl, hb⟩
              go_wp2
              exact ⟨_, rfl, hR.trans (hb.below.mono hR.size), hb.below, upd_same _ _ _⟩
            · have e0 := (hget 2 27 (by kernel_rfl)).trans (congrArg some (H 2 (by decide)))
              have e1 := (hget 5 30 (by kernel_rfl)).trans (congrArg some (H 5 (by decide)))
              unfold setA at e0 e1
              clear H hin hout hget
              go_wp2
              exact ⟨_, rfl, hR.alloc hR.size _, below1 w _, w.heap.size, hR.size, upd_same _ _ _, blkOf1 w _ _⟩
            · obtain ⟨b1, h1, e0, h3⟩ := H 6 (by decide)
              have e6 := (hin 6 31 (by kernel_rfl)).trans e0
              clear H hin hout hget e0
              go_wp2
              exact ⟨_, rfl, hR, Below.refl _ _, upd_same _ _ _⟩
            · clear H hin hout hget
              go_wp2
              exact ⟨_, rfl, hR, Below.refl _ _, upd_same _ _ _⟩
          · intro vs w9 hR H
            obtain ⟨b1, hb1, e6, bb⟩ := H 6 (by decide)
            have e7 := H 7 (by decide)
            have e8 := H 8 (by decide)
            simp only [List.getD_cons_zero, List.getD_cons_succ] at e7 e8
            simp only [putAll, Act.put, List.setIfInBounds_toArray, List.set_cons_succ, List.set_cons_zero, Nat.zero_add, Nat.reduceAdd, e6, e7, e8]
            clear e6 e7 e8 H H1 H2 bx
            generalize vs 0 = y0
            generalize vs 1 = y1
            generalize vs 2 = y2
            generalize vs 3 = y3
            generalize vs 4 = y4
            generalize vs 5 = y5
            have hrow9 := owns_later (owns_later hrow6.out hB7) (hR.mono (by have := hS7.out; omega))
            have hS9 := hR.size
            have hob : u6.ownBlock ≠ some b1 := fun e => by have := (hrow6.out.lt b1 e).2; have := hS7.out; omega
            have hB9 : Below W1.heap.size W1 w9 := hB6.trans ((hB7.trans (hR.mono (by have := hS7.out; omega))).mono hB6.size)
            have hts2 : (setA (Sx.and x s) ++ setA (Sx.less x s)).toList = setCells [Sx.and x s, Sx.less x s] := setCells_two _ _
            have ht2 : ∀ y ∈ [Sx.and x s, Sx.less x s], y < 2 ^ 256 := by
              intro y hy
              simp only [List.mem_cons, List.not_mem_nil, or_false] at hy
              rcases hy with rfl | rfl
              · exact Sx.and_lt _ hpx.2
              · exact Sx.less_lt _ hpx.2
            have hsp : split x s = [Sx.and x s, Sx.less x s].filter (· ≠ 0) := rfl
            have htl : [Sx.and x s, Sx.less x s].length = 2 := rfl
            rw [hsp] at hmt
            generalize setA (Sx.and x s) ++ setA (Sx.less x s) = cs at bb hts2
            generalize [Sx.and x s, Sx.less x s] = two at hts2 ht2 hmt htl
            clear hsp hB7 hS7 hR bs7 hrow6 hB6 hpx
            replace hmt := Lib.hid hmt
            obtain ⟨w6, rfl⟩ : ∃ w6, w6 = wr := ⟨_, rfl⟩
            replace hrow9 := Lib.hid hrow9
            go_wp2
            go_loopw [33, 6] (fun i v wr => ∃ j : Nat, j ≤ 2 ∧ i = .int .i64 j ∧ wr.ownsRow W1.heap.size 24 4 v (qs ++ (two.take j).filter (· ≠ 0)).length (setCells (qs ++ (two.take j).filter (· ≠ 0))) ∧ (j = 0 → v.ownBlock ≠ some b1) ∧ (j < 2 → Blk wr b1 cs 24) ∧ Below W1.heap.size W1 wr) (fun i _ _ => 2 - (intOf i).toNat)
            case atStart =>
              refine ⟨0, by omega, rfl, ?_, fun _ => hob, fun _ => bb, hB9⟩
              simpa using hrow9.out
            case round =>
              obtain ⟨j, hj, rfl, hrow, hob, hbb, hBj⟩ := hrel
              by_cases hltj : j < 2
              · obtain ⟨c0, c1, c2, c3⟩ := setCells_four two (blk_cells (hbb hltj) hts2) j (by omega)
                rw [Nat.zero_add] at c0 c1 c2 c3
                have hy := ht2 _ (List.getElem_mem (show j < two.length by omega))
                have hmt2 : Hid (two.take (j + 1) = two.take j ++ [two[j]'(by omega)]) := Lib.hid (List.take_succ_eq_append_getElem (by omega))
                have htkl : ((two.take j).filter (· ≠ 0)).length ≤ 2 := by
                  have := List.length_filter_le (· ≠ 0) (two.take j)
                  rw [List.length_take] at this; omega
                have hlq : (qs ++ (two.take j).filter (· ≠ 0)).length ≤ 514 := by rw [List.length_append]; omega
                generalize two[j]'(by omega) = y at c0 c1 c2 c3 hy hmt2
                have HE := fun w => neqSet hy (show 0 < 2 ^ 256 by decide) w
                have HG := guardSet
                rw [setV_zero] at HE
                unfold setV setA at HE
                have hxs : Hid ((qs ++ (two.take (j + 1)).filter (· ≠ 0)) = (qs ++ (two.take j).filter (· ≠ 0)) ++ (if y = 0 then [] else [y])) := by
                  rw [hmt2.out, List.filter_append, List.append_assoc]
                  by_cases hy0 : y = 0
                  · simp only [hy0]; exact rfl
                  · rw [if_neg hy0, List.filter_cons_of_pos (by simpa using hy0)]; exact rfl
                clear hmt2
                generalize qs ++ (two.take j).filter (· ≠ 0) = rs at hrow hxs hlq
                replace hrow := Lib.hid hrow
                clear htkl
                by_cases hy0 : y = 0
                · rw [if_pos hy0, List.append_nil] at hxs
                  have hd : decide (y = 0) = true := decide_eq_true hy0
                  clear hy0
                  go_wp2
                  go_roundw
                  case rel => exact ⟨j + 1, by omega, by go_num, by rw [hxs.out]; exact hrow.out.alloc _, fun h => by omega, fun h => (hbb hltj).alloc _, hBj.alloc hBj.size _⟩
                  case measure => simp [intOf]; omega
                · rw [if_neg hy0] at hxs
                  have hd : decide (y = 0) = false := decide_eq_false hy0
                  clear hy0
                  go_wp2_with (at_builtin; go_must (refine wpList_append_own _ rfl _ _ 37 rfl W1.heap.size 24 i0 _ 4 32 Try.underlying37 hi hz0 hz1 hz2 rfl (by decide) _ _ _ rfl ((hrow.out.alloc _).alloc _) ⟨wr.heap.size + 1, 0, none⟩ 1 1 [.int .u64 (Sx.wd y 0 : Nat), .int .u64 (Sx.wd y 1 : Nat), .int .u64 (Sx.wd y 2 : Nat), .int .u64 (Sx.wd y 3 : Nat)] rfl rfl (cell_news2 _ _ _ _ _ rfl) (by simp [Value.oneCell']) (by unfold maxLen; omega) (by omega) (by have := hBj.size; simp; omega) ?_); intro v' w1 hown' hgrow _)
                  go_roundw
                  case rel => 
                    have hB2 : Below W1.heap.size wr w1 := ((below2 wr _ _).mono hBj.size).trans (below_grown ((hrow.out.alloc _).alloc _) hgrow (by have := hBj.size; simp; omega))
                    refine ⟨j + 1, by omega, by go_num, ?_, fun h => by omega, fun h => ?_, hBj.trans hB2⟩
                    · rw [hxs.out, setCells_app, List.length_append]; exact hown'
                    · have hbj := hbb hltj
                      have := hbj.lt
                      exact (hgrow.block b1 (by simp; omega) (fun e => hob (by omega) e.symm)).trans ((hbj.alloc _).alloc _)
                  case measure => simp [intOf]; omega
              · obtain rfl : j = 2 := by omega
                rw [List.take_of_length_le (by omega : two.length ≤ 2), ← hmt.out] at hrow
                go_wp2
                go_roundw
                case rel => exact ⟨m + 1, by omega, by go_num, hrow, hBj⟩
                case measure => simp [intOf]; omega
        · obtain rfl : m = ps.length := by omega
          rw [List.take_length, ← hts.out] at hrow6
          go_wp2
          go_roundw
          case rel => exact ⟨k + 1, by omega, by go_num, owns_mono hrow6 (by omega), hB.trans ((hB1.trans (hB6.mono (by omega))).mono hB.size), by have := hB6.size; omega⟩
          case measure => simp [intOf]; omega
    · obtain rfl : k = ss.length := by omega
      rw [List.take_length] at hrow
      have hpos : 0 < (rawParts ss).length := List.length_pos_iff.2 (raw_ne ss)
      have hl1 := (part_raw ss).len256
      obtain ⟨ps, hps⟩ : ∃ ps, rawParts ss = ps := ⟨_, rfl⟩
      rw [hps] at hrow hpos hl1
      replace hps := Lib.hid hps
      obtain ⟨g, cap3, rfl⟩ := owns_slice hpos hrow
      have hgb := hrow.lt g rfl
      have hcp := Lib.hid (owns_cap hrow)
      have hS := fun hc => sort_any g cap3 ps wr hgb.2 hc (by omega)
      replace hS := hS fun i hi => by
        obtain ⟨u, hu⟩ : ∃ u, (setCells ps)[i]? = some u := ⟨_, List.getElem?_eq_getElem (by rw [setCells_len]; exact hi)⟩
        rw [Nat.zero_add, hu]; exact owns_cell hrow i u hu
      clear hrow
      replace hS := Lib.hid hS
      go_wp2_with fail
      refine hS.out.mono ?_
      clear hS
      rintro e w9 ⟨rfl, ds, hp, hso, hsl, hb9⟩
      have hlen : ps.length = ds.length := hp.length_eq.symm
      have hBf := hB.trans (hb9 w.heap.size (by have := hB0.size; omega) hB.size)
      replace hsl := Lib.hid hsl
      replace hso := Lib.hid hso
      replace hlen := Lib.hid hlen
      go_wp2
      go_ret
      refine ⟨g, cap3, ds, by rw [← hlen.out]; rfl, ?_, by rw [hps.out]; exact hp, hso.out, hBf, by rw [← hlen.out]; exact hcp.out.1, hcp.out.2⟩
      have := hsl.out
      rw [hlen.out] at this
      exact this
end Go.Proofs.Ytojmkgllbhbeiaa
