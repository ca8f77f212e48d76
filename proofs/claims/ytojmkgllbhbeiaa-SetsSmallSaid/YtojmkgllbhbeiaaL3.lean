/-
  WALKS: lists, no sets.
-/
import Derived.Test.YtojmkgllbhbeiaaL1
namespace Go.Proofs.Ytojmkgllbhbeiaa
open Go.RowKit

set_option maxRecDepth 100000 in
set_option maxHeartbeats 4000000 in
theorem lists_sn (b1 o1 cap1 : Nat) (l1 : List (Nat × Nat)) (hl1 : ∀ x ∈ l1, x.1 < 256 ∧ x.2 < 256) (n1 : l1.length ≤ 40) (w : World)
    (hb1 : b1 < w.heap.size) (hc1 : ∀ i, i < l1.length * 2 → w.cell? ⟨b1, o1 + i, none⟩ = (spanCells l1)[i]?) :
    Calls Try.prog 33 #[.slice (some ⟨b1, o1, none⟩) l1.length cap1, .slice none 0 0] w fun e w' => e = .returned (.bool true) ∧ Below w.heap.size w w' := by
  have hz := zero94
  have hz3 := zero93
  have hT := ofSpans_lt (l := l1) fun x hx => (hl1 x hx).2
  replace hl1 := Lib.hid hl1
  replace hc1 := Lib.hid hc1
  replace hT := Lib.hid hT
  go_enter Try.func33, Try.ntmps33
  go_wp2_with fail
  go_loopw [29] (fun i wr => ∃ k : Nat, k ≤ l1.length ∧ i = .int .i64 k ∧ Blk wr w.heap.size (A256 (bitI (ofSpans (l1.take k)))) 94 ∧ Below w.heap.size w wr) (fun i _ => l1.length - (intOf i).toNat)
  case atStart => exact ⟨0, by omega, rfl, by rw [List.take_zero, ofSpans, bitI_zero]; exact blkOf1 w _ _, below1 w _⟩
  case round =>
    obtain ⟨k, hk, rfl, b5, hBk⟩ := hrel
    by_cases hlt : k < l1.length
    · obtain ⟨g1, g2⟩ := spanCells_get l1 k hlt
      have ca : wr.cell? ⟨b1, o1 + k * 2, none⟩ = some (.int .u8 (l1[k].1 : Nat)) := by rw [hBk.cell (p := ⟨b1, o1 + k * 2, none⟩) hb1, hc1.out (k * 2) (by omega), g1]; rfl
      have cb : wr.cell? ⟨b1, o1 + k * 2 + 1, none⟩ = some (.int .u8 (l1[k].2 : Nat)) := by rw [hBk.cell (p := ⟨b1, o1 + k * 2 + 1, none⟩) hb1, Nat.add_assoc, hc1.out (k * 2 + 1) (by omega), g2]; rfl
      have hxk := hl1.out _ (List.getElem_mem hlt)
      have hst := Lib.hid (ofSpans_take hlt)
      clear g1 g2
      generalize l1[k].1 = lo at ca hxk hst
      generalize l1[k].2 = hi at cb hxk hst
      generalize ofSpans (l1.take k) = T at b5 hst
      go_wp2_with fail
      obtain ⟨W7, hW7⟩ : ∃ W7, W7 = wr.alloc (.cells #[.int .u8 lo, .int .u8 hi] 49) := ⟨_, rfl⟩
      have b7 : Blk W7 wr.heap.size #[.int .u8 lo, .int .u8 hi] 49 := by rw [hW7]; exact blkOf1 wr _ _
      have hB7 : Below wr.heap.size wr W7 := by rw [hW7]; exact below1 wr _
      rw [← hW7]
      replace b5 := b5.laterB hB7
      have hB7' := hBk.trans (hB7.mono hBk.size)
      clear hW7 ca cb hB7 hBk
      refine wp_region_last 118 7 [.eq (refV T), .eq (.pointer (some ⟨wr.heap.size, 0, none⟩)), .eq (.int .u8 lo), .eq (.pointer (some ⟨wr.heap.size, 1, none⟩)), .eq (.int .u8 hi), .eq (refV (Sx.range lo hi)), .eq (refV (Sx.or T (Sx.range lo hi)))] mixed rfl (by kernel_rfl) rfl rfl (by kernel_rfl) ?_ ?_
      · refine ⟨?_, ?_, ?_, ?_, ?_, ?_, ?_, trivial⟩
        · intro vs a w hR H hin hout hget
          refine one_free rfl ?_
          have e0 := hout 5 (by kernel_rfl)
          clear H hin hout hget
          dsimp only [bare]
          refine wp_load94 rfl _ rfl _ (eval_far e0) _ (b5.laterB hR) ?_
          exact ⟨_, rfl, shows0 hR rfl⟩
        · intro vs a w hR H hin hout hget
          refine one_free rfl ?_
          have e0 := hout 7 (by kernel_rfl)
          clear H hin hout hget
          dsimp only [bare]
          go_wp2
          exact ⟨_, rfl, shows0 hR rfl⟩
        · intro vs a w hR H hin hout hget
          refine one_free rfl ?_
          have e0 := (hget 1 34 (by kernel_rfl)).trans (congrArg some (H 1 (by decide)))
          obtain ⟨d0, d1⟩ := two_cells (b7.laterB hR)
          clear H hin hout hget
          dsimp only [bare]
          go_wp2
          exact ⟨_, rfl, shows0 hR rfl⟩
        · intro vs a w hR H hin hout hget
          refine one_free rfl ?_
          have e0 := hout 7 (by kernel_rfl)
          clear H hin hout hget
          dsimp only [bare]
          go_wp2
          exact ⟨_, rfl, shows0 hR rfl⟩
        · intro vs a w hR H hin hout hget
          refine one_free rfl ?_
          have e0 := (hget 3 36 (by kernel_rfl)).trans (congrArg some (H 3 (by decide)))
          obtain ⟨d0, d1⟩ := two_cells (b7.laterB hR)
          clear H hin hout hget
          dsimp only [bare]
          go_wp2
          exact ⟨_, rfl, shows0 hR rfl⟩
        · intro vs a w hR H hin hout hget
          refine one_free rfl ?_
          have e0 := (hget 2 35 (by kernel_rfl)).trans (congrArg some (H 2 (by decide)))
          have e1 := (hget 4 37 (by kernel_rfl)).trans (congrArg some (H 4 (by decide)))
          clear H hin hout hget
          dsimp only [bare]
          go_wp2_with fail
          refine (refRange_any lo hi hxk.1 hxk.2 w).mono ?_
          rintro e w1 ⟨rfl, hb⟩
          go_wp2
          exact ⟨_, rfl, shows hR hb.below rfl⟩
        · intro vs a w hR H hin hout hget
          refine one_free rfl ?_
          have e0 := (hget 0 33 (by kernel_rfl)).trans (congrArg some (H 0 (by decide)))
          have e1 := (hget 5 38 (by kernel_rfl)).trans (congrArg some (H 5 (by decide)))
          clear H hin hout hget
          dsimp only [bare]
          go_wp2_with fail
          refine (both_any 0 (by decide) 0 rfl _ _ w).mono ?_
          rintro e w1 ⟨rfl, hb⟩
          go_wp2
          exact ⟨_, rfl, shows hR hb.below rfl⟩
      · intro vs w8 hR H
        have e6 : vs 6 = refV (Sx.or T (Sx.range lo hi)) := H 6 (by decide)
        replace b5 := b5.laterB hR
        have hB8 := hB7'.trans (hR.mono hB7'.size)
        simp only [putAll, Act.put, List.setIfInBounds_toArray, List.set_cons_succ, List.set_cons_zero, Nat.zero_add, Nat.reduceAdd, e6]
        clear H hR e6 b7 hB7'
        refine wp_store94 rfl _ _ rfl w.heap.size rfl (bitI (Sx.or T (Sx.range lo hi))) _ rfl b5 ?_
        go_wp2
        go_roundw
        case rel => exact ⟨k + 1, by omega, by go_num, by rw [hst.out]; exact b5.setRow _, below_setRow hB8 (Nat.le_refl _) _⟩
        case measure => simp [intOf]; omega
    · obtain rfl : k = l1.length := by omega
      rw [List.take_length] at b5
      obtain ⟨i24, hi, hz0, hz1, hz2⟩ := info_parts info24
      go_wp2_with (at_builtin; go_must (refine wpList_append_own_none rfl _ _ 37 rfl wr.heap.size 24 i24 4 Try.underlying37 hi (.slice none 0 0) 0 [] rfl (World.ownsRow_nil _ _ _ _) rfl ?_))
      obtain ⟨w2, rfl⟩ : ∃ w2 : World, w2 = wr := ⟨_, rfl⟩
      have hB2 := hBk
      have b52 := b5
      clear hBk b5 i24 hi hz0 hz1 hz2
      have hw5 := b52.lt
      go_loopw [45, 9] (fun i v wr => i = .int .i64 0 ∧ v = .slice none 0 0 ∧ Below w2.heap.size w2 wr) (fun _ _ _ => 0)
      case atStart => exact ⟨rfl, rfl, Below.refl _ _⟩
      case round =>
          obtain ⟨rfl, rfl, hBk⟩ := hrel
          have hB3 := hB2.trans (hBk.mono hB2.size)
          have b53 := b52.laterB hBk
          obtain ⟨w3, rfl⟩ : ∃ w3 : World, w3 = wr := ⟨_, rfl⟩
          clear hBk hB2 b52 hw5
          go_wp2_with fail
          refine (parts_none w3).mono ?_
          rintro e w4 ⟨gp, capp, ds, rfl, hsl, hperm, hsort, hB4, hcl, hcm⟩
          have hok := parts_ok hperm hsort
          have hdpos : 0 < ds.length := by
            rcases Nat.eq_zero_or_pos ds.length with h | h
            · have := hok.all
              rw [List.eq_nil_of_length_eq_zero h] at this
              exact absurd this (by decide)
            · exact h
          have hd256 : ds.length ≤ 256 := (show Part ds from ⟨hok.lt, hok.disj⟩).len256
          clear hperm hsort hcm
          obtain ⟨_, ⟨h, _⟩ | ⟨g', o', cap', hge, hgp, hcp⟩⟩ := hsl
          · cases h
          cases hge
          replace hcp := Lib.hid hcp
          replace hok := Lib.hid hok
          go_wp2_with fail
          refine (refParts_none w4).mono ?_
          rintro e w5 ⟨rfl, hB5⟩
          have hB45 := bthen hB4 (hB5.mono (Nat.le_refl _))
          go_wp2_with (with_reducible refine wp_store93 rfl _ _ rfl w5.heap.size rfl _ _ rfl (blkOf1 w5 _ _) ?_)
          obtain ⟨W6, hW6⟩ : ∃ W6, W6 = (w5.alloc (.cells (A256 fun _ => 0) 93)).setRow w5.heap.size (A256 fun c => (rep [] c : Nat)) := ⟨_, rfl⟩
          have b13 : Blk W6 w5.heap.size (A256 fun c => (rep [] c : Nat)) 93 := by rw [hW6]; exact (blkOf1 w5 _ _).setRow _
          have hB56 : Below w5.heap.size w5 W6 := by rw [hW6]; exact below_setRow (below1 w5 _) (Nat.le_refl _) _
          rw [← hW6]
          clear hW6
          have hB6 := bthen hB45 (hB56.mono (Nat.le_refl _))
          have b5 := b53.laterB hB6
          have hB46 := bthen hB5 (hB56.mono (Nat.le_refl _))
          have hs6 := hB6.size
          have hs46 := hB46.size
          have hBW : Below w.heap.size w W6 := hB3.trans (hB6.mono hB3.size)
          have hsW := hBW.size
          have hcp6 : ∀ i, i < ds.length * 4 → W6.cell? ⟨gp, 0 + i, none⟩ = (setCells ds)[i]? := fun i hi => (hB46.cell (p := ⟨gp, 0 + i, none⟩) hgp).trans (hcp.out i hi)
          have hgp6 : gp < W6.heap.size := by omega
          have HFs : ∀ w', Below W6.heap.size W6 w' → Calls Try.prog 36 #[.slice (some ⟨b1, o1, none⟩) l1.length cap1] w' fun e w'' => e = .returned (setV (ofSpans l1)) ∧ Gr w'.heap.size w' w'' := fun w' hw' =>
            fromSpans_any _ l1 hl1.out w' ⟨spanCells_len l1, .inr ⟨_, _, _, rfl, by have := hw'.size; omega, fun i hi => by
              rw [hw'.cell (p := ⟨b1, o1 + i, none⟩) (by show b1 < _; omega), hBW.cell (p := ⟨b1, o1 + i, none⟩) hb1, hc1.out i hi]⟩⟩ (by omega)
          replace hcp6 := Lib.hid hcp6
          have hT := hT.out
          clear hcp hB45 hB46 hB56 hB5 hB4 b53 hB6 hB3 hs6 hs46 hgp
          refine wp_region_facts 118 [.eq (.slice (some ⟨b1, o1, none⟩) l1.length cap1), .eq (setV (ofSpans l1)), .eq (refV (ofSpans l1)), .eq (.bool true), .eq (.bool false)] mixed rfl (by kernel_rfl) ?_ ?_
          · refine ⟨?_, ?_, ?_, ?_, ?_, trivial⟩
            · intro vs a w hR H hin hout hget
              refine one_free rfl ?_
              have e0 := hout 0 (by kernel_rfl)
              clear H hin hout hget
              dsimp only [bare]
              go_wp2
              exact ⟨_, rfl, shows0 hR rfl⟩
            · intro vs a w hR H hin hout hget
              refine one_free rfl ?_
              have e0 := (hget 0 59 (by kernel_rfl)).trans (congrArg some (H 0 (by decide)))
              clear H hin hout hget
              dsimp only [bare]
              go_wp2_with fail
              refine (HFs w hR).mono ?_
              rintro e w1 ⟨rfl, hb⟩
              go_wp2
              exact ⟨_, rfl, shows hR hb.below rfl⟩
            · intro vs a w hR H hin hout hget
              refine one_free rfl ?_
              have e0 := hout 5 (by kernel_rfl)
              clear H hin hout hget
              dsimp only [bare]
              refine wp_load94 rfl _ rfl _ (eval_far e0) _ (b5.laterB hR) ?_
              exact ⟨_, rfl, shows0 hR rfl⟩
            · intro vs a w hR H hin hout hget
              refine one_free rfl ?_
              have e0 := (hget 1 60 (by kernel_rfl)).trans (congrArg some (H 1 (by decide)))
              have e1 := (hget 2 61 (by kernel_rfl)).trans (congrArg some (H 2 (by decide)))
              clear H hin hout hget
              dsimp only [bare]
              go_wp2_with fail
              refine (is_same rfl hT w).mono ?_
              rintro e w1 ⟨rfl, hb⟩
              go_wp2
              exact ⟨_, rfl, shows hR hb rfl⟩
            · intro vs a w hR H hin hout hget
              refine one_free rfl ?_
              have e0 := (hget 3 62 (by kernel_rfl)).trans (congrArg some (H 3 (by decide)))
              clear H hin hout hget
              dsimp only [bare]
              go_wp2
              exact ⟨_, rfl, shows0 hR rfl⟩
          · intro vs w7 hR H
            have e4 : vs 4 = .bool false := H 4 (by decide)
            simp only [putAll, Act.put, List.setIfInBounds_toArray, List.set_cons_succ, List.set_cons_zero, Nat.zero_add, Nat.reduceAdd, e4]
            replace b13 := b13.laterB hR
            have hBW7 := hBW.trans (hR.mono hBW.size)
            have hR7 := hR.size
            have hcp7 : ∀ i, i < ds.length * 4 → w7.cell? ⟨gp, 0 + i, none⟩ = (setCells ds)[i]? := fun i hi => (hR.cell (p := ⟨gp, 0 + i, none⟩) hgp6).trans (hcp6.out i hi)
            have hgp7 : gp < w7.heap.size := by omega
            replace hcp7 := Lib.hid hcp7
            clear H hR e4 HFs b5 hT hcp6 hgp6 hBW hR7
            generalize vs 0 = y0
            generalize vs 1 = y1
            generalize vs 2 = y2
            generalize vs 3 = y3
            go_wp2_with fail
            go_loopw [66] (fun i wx => i = .int .i64 0 ∧ Below w7.heap.size w7 wx) (fun _ _ => 0)
            case atStart => exact ⟨rfl, Below.refl _ _⟩
            case round =>
                obtain ⟨rfl, hBk⟩ := hrel
                replace b13 := b13.laterB hBk
                have hB8 := hBW7.trans (hBk.mono hBW7.size)
                have hcp8 : ∀ i, i < ds.length * 4 → wr.cell? ⟨gp, 0 + i, none⟩ = (setCells ds)[i]? := fun i hi => (hBk.cell (p := ⟨gp, 0 + i, none⟩) hgp7).trans (hcp7.out i hi)
                have hgp8 : gp < wr.heap.size := by have := hBk.size; omega
                replace hcp8 := Lib.hid hcp8
                have hcount := Lib.hid hok.out.count
                clear hBk hBW7 hcp7 hgp7
                obtain ⟨w8, rfl⟩ : ∃ w8 : World, w8 = wr := ⟨_, rfl⟩
                have h13 := b13.lt
                go_wp2_with fail
                go_loopw [79, 15] (fun i n wx => ∃ c : Nat, c ≤ 256 ∧ i = .int .i64 c ∧ n = .int .i64 (leads [] c).length ∧ Below w8.heap.size w8 wx) (fun i _ _ => 256 - (intOf i).toNat)
                case atStart => exact ⟨0, by omega, rfl, rfl, Below.refl _ _⟩
                case round =>
                  obtain ⟨c, hc, rfl, rfl, hBc⟩ := hrel
                  by_cases hlt : c < 256
                  · have b13c := b13.laterB hBc
                    have c0 := (b13c.cell c).trans (A256_get _ hlt)
                    have hln := leads_len [] c
                    by_cases hr : rep [] c = c
                    · rw [hr] at c0
                      obtain ⟨hn, hbits⟩ := hok.out.next hlt hr
                      have hyes := Lib.hid (leads_yes hr)
                      have hp2 := (hok.out.lt _ (List.getElem_mem hn)).2
                      obtain ⟨wo, rfl⟩ : ∃ wo : World, wo = wr := ⟨_, rfl⟩
                      have cp : ∀ w, Below wo.heap.size wo w → _ := fun w hw => four_at hcp8.out hgp8 (hBc.trans (hw.mono hBc.size)) hn
                      simp only [Nat.zero_add] at cp
                      have hpart : Hid (A256 (fun d => if rep [] d = c then 1 else 0) = A256 (bitI ds[(leads [] c).length])) := A256_congr fun d hd => by
                        unfold bitI; rw [hbits d hd]; by_cases e : rep [] d = c <;> simp [e]
                      generalize ds[(leads [] c).length] = p at cp hp2 hpart
                      generalize hln' : (leads [] c).length = n at cp hn hyes hln
                      clear hbits hr
                      replace hln' := Lib.hid hln'
                      replace cp := Lib.hid cp
                      have h13o : w5.heap.size < wo.heap.size := by have := hBc.size; omega
                      go_wp2_with fail
                      go_loopw [87] (fun i wx => ∃ d : Nat, d ≤ 256 ∧ i = .int .i64 d ∧ Blk wx wo.heap.size (part (fun d => if rep [] d = c then 1 else 0) d) 94 ∧ Below wo.heap.size wo wx) (fun i _ => 256 - (intOf i).toNat)
                      case atStart => exact ⟨0, by omega, rfl, by rw [part_zero]; exact blkOf1 wo _ _, below1 wo _⟩
                      case round =>
                        obtain ⟨d, hd, rfl, b17, hBd⟩ := hrel
                        by_cases hltd : d < 256
                        · have cd := ((b13c.laterB hBd).cell d).trans (A256_get _ hltd)
                          have c17 := (b17.cell d).trans (part_get _ d hltd)
                          have f17 := b17.frozen d
                          by_cases he : rep [] d = c
                          · have hset := Lib.hid (b17.set d (.int .i64 (if rep [] d = c then 1 else 0)))
                            rw [part_set (fun d => if rep [] d = c then 1 else 0) hltd, if_pos he] at hset
                            rw [he] at cd
                            clear he b17
                            go_wp2
                            go_roundw
                            case rel => exact ⟨d + 1, by omega, by go_num, hset.out, hBd.setCell (Nat.le_refl _) _⟩
                            case measure => simp [intOf]; omega
                          · have hsk := part_skip (fun d => if rep [] d = c then (1 : Int) else 0) (k := d) (by rw [if_neg he])
                            rw [← hsk] at b17
                            have hne : (((rep [] d : Nat) : Int) == (c : Int)) = false := by rw [beq_eq_false_iff_ne]; omega
                            generalize rep [] d = x at cd he hne
                            clear he c17 f17 hsk
                            replace b17 := Lib.hid b17
                            go_wp2
                            go_roundw
                            case rel => exact ⟨d + 1, by omega, by go_num, b17.out, hBd⟩
                            case measure => simp [intOf]; omega
                        · obtain rfl : d = 256 := by omega
                          rw [part_full, hpart.out] at b17
                          have hBx := hBc.trans (hBd.mono hBc.size)
                          have cp : ∀ w, Below wr.heap.size wr w → _ := fun w hw => cp.out w (hBd.trans (hw.mono hBd.size))
                          go_wp2_with fail
                          refine wp_region_facts 118 [.eq (.int .i64 n), .eq (.slice (some ⟨gp, 0, none⟩) ds.length capp), .eq (.int .i64 ds.length), .eq (.bool false), .eq (.bool false), .eq (.slice (some ⟨gp, 0, none⟩) ds.length capp), .eq (.int .i64 n), .eq (.pointer (some ⟨gp, n * 4, none⟩)), .eq (setV p), .eq (refV p), .eq (.bool true), .eq (.bool false), .eq (.bool false)] mixed rfl (by kernel_rfl) ?_ ?_
                          · refine ⟨?_, ?_, ?_, ?_, ?_, ?_, ?_, ?_, ?_, ?_, ?_, ?_, ?_, trivial⟩
                            · intro vs a w hR H hin hout hget
                              refine one_free rfl ?_
                              have e0 := hout 15 (by kernel_rfl)
                              clear H hin hout hget
                              dsimp only [bare]
                              go_wp2
                              exact ⟨_, rfl, shows0 hR rfl⟩
                            · intro vs a w hR H hin hout hget
                              refine one_free rfl ?_
                              have e0 := hout 12 (by kernel_rfl)
                              clear H hin hout hget
                              dsimp only [bare]
                              go_wp2
                              exact ⟨_, rfl, shows0 hR rfl⟩
                            · intro vs a w hR H hin hout hget
                              refine one_free rfl ?_
                              have e0 := (hget 1 99 (by kernel_rfl)).trans (congrArg some (H 1 (by decide)))
                              clear H hin hout hget
                              dsimp only [bare]
                              go_wp2
                              exact ⟨_, rfl, shows0 hR rfl⟩
                            · intro vs a w hR H hin hout hget
                              refine one_free rfl ?_
                              have e0 := (hget 0 98 (by kernel_rfl)).trans (congrArg some (H 0 (by decide)))
                              have e1 := (hget 2 100 (by kernel_rfl)).trans (congrArg some (H 2 (by decide)))
                              clear H hin hout hget
                              dsimp only [bare]
                              go_wp2
                              exact ⟨_, rfl, shows0 hR (congrArg Value.bool (decide_eq_false (by omega)))⟩
                            · intro vs a w hR H hin hout hget
                              refine one_free rfl ?_
                              have e0 := (hget 3 101 (by kernel_rfl)).trans (congrArg some (H 3 (by decide)))
                              clear H hin hout hget
                              dsimp only [bare]
                              go_wp2
                              exact ⟨_, rfl, shows0 hR rfl⟩
                            · intro vs a w hR H hin hout hget
                              refine one_guard 4 false 102 rfl (by kernel_rfl) ((hget 4 102 (by kernel_rfl)).trans (congrArg some (H 4 (by decide)))) ?_
                              have e0 := hout 12 (by kernel_rfl)
                              clear H hin hout hget
                              dsimp only [bare]
                              go_wp2
                              exact ⟨_, rfl, shows0 hR rfl⟩
                            · intro vs a w hR H hin hout hget
                              refine one_guard 4 false 102 rfl (by kernel_rfl) ((hget 4 102 (by kernel_rfl)).trans (congrArg some (H 4 (by decide)))) ?_
                              have e0 := hout 15 (by kernel_rfl)
                              clear H hin hout hget
                              dsimp only [bare]
                              go_wp2
                              exact ⟨_, rfl, shows0 hR rfl⟩
                            · intro vs a w hR H hin hout hget
                              refine one_guard 4 false 102 rfl (by kernel_rfl) ((hget 4 102 (by kernel_rfl)).trans (congrArg some (H 4 (by decide)))) ?_
                              have e0 := (hget 5 103 (by kernel_rfl)).trans (congrArg some (H 5 (by decide)))
                              have e1 := (hget 6 104 (by kernel_rfl)).trans (congrArg some (H 6 (by decide)))
                              clear H hin hout hget
                              dsimp only [bare]
                              go_wp2
                              exact ⟨_, rfl, shows0 hR rfl⟩
                            · intro vs a w hR H hin hout hget
                              refine one_guard 4 false 102 rfl (by kernel_rfl) ((hget 4 102 (by kernel_rfl)).trans (congrArg some (H 4 (by decide)))) ?_
                              have e0 := (hget 7 105 (by kernel_rfl)).trans (congrArg some (H 7 (by decide)))
                              obtain ⟨c0, c1, c2, c3⟩ := cp w hR
                              clear H hin hout hget
                              dsimp only [bare]
                              go_wp2
                              exact ⟨_, rfl, shows0 hR rfl⟩
                            · intro vs a w hR H hin hout hget
                              refine one_guard 4 false 102 rfl (by kernel_rfl) ((hget 4 102 (by kernel_rfl)).trans (congrArg some (H 4 (by decide)))) ?_
                              have e0 := hout 17 (by kernel_rfl)
                              clear H hin hout hget
                              dsimp only [bare]
                              refine wp_load94 rfl _ rfl _ (eval_far e0) _ (b17.laterB hR) ?_
                              exact ⟨_, rfl, shows0 hR rfl⟩
                            · intro vs a w hR H hin hout hget
                              refine one_guard 4 false 102 rfl (by kernel_rfl) ((hget 4 102 (by kernel_rfl)).trans (congrArg some (H 4 (by decide)))) ?_
                              have e0 := (hget 8 106 (by kernel_rfl)).trans (congrArg some (H 8 (by decide)))
                              have e1 := (hget 9 107 (by kernel_rfl)).trans (congrArg some (H 9 (by decide)))
                              clear H hin hout hget
                              dsimp only [bare]
                              go_wp2_with fail
                              refine (is_same rfl hp2 w).mono ?_
                              rintro e w1 ⟨rfl, hb⟩
                              go_wp2
                              exact ⟨_, rfl, shows hR hb rfl⟩
                            · intro vs a w hR H hin hout hget
                              refine one_guard 4 false 102 rfl (by kernel_rfl) ((hget 4 102 (by kernel_rfl)).trans (congrArg some (H 4 (by decide)))) ?_
                              have e0 := (hget 10 108 (by kernel_rfl)).trans (congrArg some (H 10 (by decide)))
                              clear H hin hout hget
                              dsimp only [bare]
                              go_wp2
                              exact ⟨_, rfl, shows0 hR rfl⟩
                            · intro vs a w hR H hin hout hget
                              refine one_free rfl ?_
                              have e0 := (hget 4 102 (by kernel_rfl)).trans (congrArg some (H 4 (by decide)))
                              have e1 := (hget 11 109 (by kernel_rfl)).trans (congrArg some (H 11 (by decide)))
                              clear H hin hout hget
                              dsimp only [bare]
                              go_wp2
                              exact ⟨_, rfl, shows0 hR rfl⟩
                          · intro vs w9 hR H
                            have e12 : vs 12 = .bool false := H 12 (by decide)
                            have hB9 := hBx.trans (hR.mono hBx.size)
                            simp only [putAll, Act.put, List.setIfInBounds_toArray, List.set_cons_succ, List.set_cons_zero, Nat.zero_add, Nat.reduceAdd, e12]
                            clear H hR e12 cp b17
                            go_wp2
                            go_roundw
                            case rel => exact ⟨c + 1, by omega, by go_num, by rw [hyes.out, List.length_append, hln'.out]; go_num, hB9⟩
                            case measure => simp [intOf]; omega
                    · have hno := Lib.hid (leads_no hr)
                      have hne : (((rep [] c : Nat) : Int) != (c : Int)) = true := by simp; omega
                      generalize rep [] c = x at c0 hr hne
                      clear hr
                      go_wp2
                      go_roundw
                      case rel => exact ⟨c + 1, by omega, by go_num, by rw [hno.out], hBc⟩
                      case measure => simp [intOf]; omega
                  · obtain rfl : c = 256 := by omega
                    rw [hcount.out]
                    have hBf := hB8.trans (hBc.mono hB8.size)
                    go_wp2
                    go_ret
                    exact ⟨rfl, hBf⟩
set_option maxRecDepth 100000 in
set_option maxHeartbeats 4000000 in
theorem lists_nn (w : World)
    :
    Calls Try.prog 33 #[.slice none 0 0, .slice none 0 0] w fun e w' => e = .returned (.bool true) ∧ Below w.heap.size w w' := by
  have hz := zero94
  have hz3 := zero93
  have hT : 0 < 2 ^ 256 := by decide
  replace hT := Lib.hid hT
  go_enter Try.func33, Try.ntmps33
  go_wp2_with fail
  go_loopw [29] (fun i wr => i = .int .i64 0 ∧ Blk wr w.heap.size (A256 fun _ => 0) 94 ∧ Below w.heap.size w wr) (fun _ _ => 0)
  case atStart => exact ⟨rfl, blkOf1 w _ _, below1 w _⟩
  case round =>
      obtain ⟨rfl, b5, hBk⟩ := hrel
      rw [← bitI_zero] at b5
      obtain ⟨i24, hi, hz0, hz1, hz2⟩ := info_parts info24
      go_wp2_with (at_builtin; go_must (refine wpList_append_own_none rfl _ _ 37 rfl wr.heap.size 24 i24 4 Try.underlying37 hi (.slice none 0 0) 0 [] rfl (World.ownsRow_nil _ _ _ _) rfl ?_))
      obtain ⟨w2, rfl⟩ : ∃ w2 : World, w2 = wr := ⟨_, rfl⟩
      have hB2 := hBk
      have b52 := b5
      clear hBk b5 i24 hi hz0 hz1 hz2
      have hw5 := b52.lt
      go_loopw [45, 9] (fun i v wr => i = .int .i64 0 ∧ v = .slice none 0 0 ∧ Below w2.heap.size w2 wr) (fun _ _ _ => 0)
      case atStart => exact ⟨rfl, rfl, Below.refl _ _⟩
      case round =>
          obtain ⟨rfl, rfl, hBk⟩ := hrel
          have hB3 := hB2.trans (hBk.mono hB2.size)
          have b53 := b52.laterB hBk
          obtain ⟨w3, rfl⟩ : ∃ w3 : World, w3 = wr := ⟨_, rfl⟩
          clear hBk hB2 b52 hw5
          go_wp2_with fail
          refine (parts_none w3).mono ?_
          rintro e w4 ⟨gp, capp, ds, rfl, hsl, hperm, hsort, hB4, hcl, hcm⟩
          have hok := parts_ok hperm hsort
          have hdpos : 0 < ds.length := by
            rcases Nat.eq_zero_or_pos ds.length with h | h
            · have := hok.all
              rw [List.eq_nil_of_length_eq_zero h] at this
              exact absurd this (by decide)
            · exact h
          have hd256 : ds.length ≤ 256 := (show Part ds from ⟨hok.lt, hok.disj⟩).len256
          clear hperm hsort hcm
          obtain ⟨_, ⟨h, _⟩ | ⟨g', o', cap', hge, hgp, hcp⟩⟩ := hsl
          · cases h
          cases hge
          replace hcp := Lib.hid hcp
          replace hok := Lib.hid hok
          go_wp2_with fail
          refine (refParts_none w4).mono ?_
          rintro e w5 ⟨rfl, hB5⟩
          have hB45 := bthen hB4 (hB5.mono (Nat.le_refl _))
          go_wp2_with (with_reducible refine wp_store93 rfl _ _ rfl w5.heap.size rfl _ _ rfl (blkOf1 w5 _ _) ?_)
          obtain ⟨W6, hW6⟩ : ∃ W6, W6 = (w5.alloc (.cells (A256 fun _ => 0) 93)).setRow w5.heap.size (A256 fun c => (rep [] c : Nat)) := ⟨_, rfl⟩
          have b13 : Blk W6 w5.heap.size (A256 fun c => (rep [] c : Nat)) 93 := by rw [hW6]; exact (blkOf1 w5 _ _).setRow _
          have hB56 : Below w5.heap.size w5 W6 := by rw [hW6]; exact below_setRow (below1 w5 _) (Nat.le_refl _) _
          rw [← hW6]
          clear hW6
          have hB6 := bthen hB45 (hB56.mono (Nat.le_refl _))
          have b5 := b53.laterB hB6
          have hB46 := bthen hB5 (hB56.mono (Nat.le_refl _))
          have hs6 := hB6.size
          have hs46 := hB46.size
          have hBW : Below w.heap.size w W6 := hB3.trans (hB6.mono hB3.size)
          have hsW := hBW.size
          have hcp6 : ∀ i, i < ds.length * 4 → W6.cell? ⟨gp, 0 + i, none⟩ = (setCells ds)[i]? := fun i hi => (hB46.cell (p := ⟨gp, 0 + i, none⟩) hgp).trans (hcp.out i hi)
          have hgp6 : gp < W6.heap.size := by omega
          have HFs : ∀ w', Below W6.heap.size W6 w' → Calls Try.prog 36 #[.slice none 0 0] w' fun e w'' => e = .returned (setV 0) ∧ Gr w'.heap.size w' w'' := fun w' _ => fromSpans_none w'
          replace hcp6 := Lib.hid hcp6
          have hT := hT.out
          clear hcp hB45 hB46 hB56 hB5 hB4 b53 hB6 hB3 hs6 hs46 hgp
          refine wp_region_facts 118 [.eq (.slice none 0 0), .eq (setV (0)), .eq (refV (0)), .eq (.bool true), .eq (.bool false)] mixed rfl (by kernel_rfl) ?_ ?_
          · refine ⟨?_, ?_, ?_, ?_, ?_, trivial⟩
            · intro vs a w hR H hin hout hget
              refine one_free rfl ?_
              have e0 := hout 0 (by kernel_rfl)
              clear H hin hout hget
              dsimp only [bare]
              go_wp2
              exact ⟨_, rfl, shows0 hR rfl⟩
            · intro vs a w hR H hin hout hget
              refine one_free rfl ?_
              have e0 := (hget 0 59 (by kernel_rfl)).trans (congrArg some (H 0 (by decide)))
              clear H hin hout hget
              dsimp only [bare]
              go_wp2_with fail
              refine (HFs w hR).mono ?_
              rintro e w1 ⟨rfl, hb⟩
              go_wp2
              exact ⟨_, rfl, shows hR hb.below rfl⟩
            · intro vs a w hR H hin hout hget
              refine one_free rfl ?_
              have e0 := hout 5 (by kernel_rfl)
              clear H hin hout hget
              dsimp only [bare]
              refine wp_load94 rfl _ rfl _ (eval_far e0) _ (b5.laterB hR) ?_
              exact ⟨_, rfl, shows0 hR rfl⟩
            · intro vs a w hR H hin hout hget
              refine one_free rfl ?_
              have e0 := (hget 1 60 (by kernel_rfl)).trans (congrArg some (H 1 (by decide)))
              have e1 := (hget 2 61 (by kernel_rfl)).trans (congrArg some (H 2 (by decide)))
              clear H hin hout hget
              dsimp only [bare]
              go_wp2_with fail
              refine (is_same rfl hT w).mono ?_
              rintro e w1 ⟨rfl, hb⟩
              go_wp2
              exact ⟨_, rfl, shows hR hb rfl⟩
            · intro vs a w hR H hin hout hget
              refine one_free rfl ?_
              have e0 := (hget 3 62 (by kernel_rfl)).trans (congrArg some (H 3 (by decide)))
              clear H hin hout hget
              dsimp only [bare]
              go_wp2
              exact ⟨_, rfl, shows0 hR rfl⟩
          · intro vs w7 hR H
            have e4 : vs 4 = .bool false := H 4 (by decide)
            simp only [putAll, Act.put, List.setIfInBounds_toArray, List.set_cons_succ, List.set_cons_zero, Nat.zero_add, Nat.reduceAdd, e4]
            replace b13 := b13.laterB hR
            have hBW7 := hBW.trans (hR.mono hBW.size)
            have hR7 := hR.size
            have hcp7 : ∀ i, i < ds.length * 4 → w7.cell? ⟨gp, 0 + i, none⟩ = (setCells ds)[i]? := fun i hi => (hR.cell (p := ⟨gp, 0 + i, none⟩) hgp6).trans (hcp6.out i hi)
            have hgp7 : gp < w7.heap.size := by omega
            replace hcp7 := Lib.hid hcp7
            clear H hR e4 HFs b5 hT hcp6 hgp6 hBW hR7
            generalize vs 0 = y0
            generalize vs 1 = y1
            generalize vs 2 = y2
            generalize vs 3 = y3
            go_wp2_with fail
            go_loopw [66] (fun i wx => i = .int .i64 0 ∧ Below w7.heap.size w7 wx) (fun _ _ => 0)
            case atStart => exact ⟨rfl, Below.refl _ _⟩
            case round =>
                obtain ⟨rfl, hBk⟩ := hrel
                replace b13 := b13.laterB hBk
                have hB8 := hBW7.trans (hBk.mono hBW7.size)
                have hcp8 : ∀ i, i < ds.length * 4 → wr.cell? ⟨gp, 0 + i, none⟩ = (setCells ds)[i]? := fun i hi => (hBk.cell (p := ⟨gp, 0 + i, none⟩) hgp7).trans (hcp7.out i hi)
                have hgp8 : gp < wr.heap.size := by have := hBk.size; omega
                replace hcp8 := Lib.hid hcp8
                have hcount := Lib.hid hok.out.count
                clear hBk hBW7 hcp7 hgp7
                obtain ⟨w8, rfl⟩ : ∃ w8 : World, w8 = wr := ⟨_, rfl⟩
                have h13 := b13.lt
                go_wp2_with fail
                go_loopw [79, 15] (fun i n wx => ∃ c : Nat, c ≤ 256 ∧ i = .int .i64 c ∧ n = .int .i64 (leads [] c).length ∧ Below w8.heap.size w8 wx) (fun i _ _ => 256 - (intOf i).toNat)
                case atStart => exact ⟨0, by omega, rfl, rfl, Below.refl _ _⟩
                case round =>
                  obtain ⟨c, hc, rfl, rfl, hBc⟩ := hrel
                  by_cases hlt : c < 256
                  · have b13c := b13.laterB hBc
                    have c0 := (b13c.cell c).trans (A256_get _ hlt)
                    have hln := leads_len [] c
                    by_cases hr : rep [] c = c
                    · rw [hr] at c0
                      obtain ⟨hn, hbits⟩ := hok.out.next hlt hr
                      have hyes := Lib.hid (leads_yes hr)
                      have hp2 := (hok.out.lt _ (List.getElem_mem hn)).2
                      obtain ⟨wo, rfl⟩ : ∃ wo : World, wo = wr := ⟨_, rfl⟩
                      have cp : ∀ w, Below wo.heap.size wo w → _ := fun w hw => four_at hcp8.out hgp8 (hBc.trans (hw.mono hBc.size)) hn
                      simp only [Nat.zero_add] at cp
                      have hpart : Hid (A256 (fun d => if rep [] d = c then 1 else 0) = A256 (bitI ds[(leads [] c).length])) := A256_congr fun d hd => by
                        unfold bitI; rw [hbits d hd]; by_cases e : rep [] d = c <;> simp [e]
                      generalize ds[(leads [] c).length] = p at cp hp2 hpart
                      generalize hln' : (leads [] c).length = n at cp hn hyes hln
                      clear hbits hr
                      replace hln' := Lib.hid hln'
                      replace cp := Lib.hid cp
                      have h13o : w5.heap.size < wo.heap.size := by have := hBc.size; omega
                      go_wp2_with fail
                      go_loopw [87] (fun i wx => ∃ d : Nat, d ≤ 256 ∧ i = .int .i64 d ∧ Blk wx wo.heap.size (part (fun d => if rep [] d = c then 1 else 0) d) 94 ∧ Below wo.heap.size wo wx) (fun i _ => 256 - (intOf i).toNat)
                      case atStart => exact ⟨0, by omega, rfl, by rw [part_zero]; exact blkOf1 wo _ _, below1 wo _⟩
                      case round =>
                        obtain ⟨d, hd, rfl, b17, hBd⟩ := hrel
                        by_cases hltd : d < 256
                        · have cd := ((b13c.laterB hBd).cell d).trans (A256_get _ hltd)
                          have c17 := (b17.cell d).trans (part_get _ d hltd)
                          have f17 := b17.frozen d
                          by_cases he : rep [] d = c
                          · have hset := Lib.hid (b17.set d (.int .i64 (if rep [] d = c then 1 else 0)))
                            rw [part_set (fun d => if rep [] d = c then 1 else 0) hltd, if_pos he] at hset
                            rw [he] at cd
                            clear he b17
                            go_wp2
                            go_roundw
                            case rel => exact ⟨d + 1, by omega, by go_num, hset.out, hBd.setCell (Nat.le_refl _) _⟩
                            case measure => simp [intOf]; omega
                          · have hsk := part_skip (fun d => if rep [] d = c then (1 : Int) else 0) (k := d) (by rw [if_neg he])
                            rw [← hsk] at b17
                            have hne : (((rep [] d : Nat) : Int) == (c : Int)) = false := by rw [beq_eq_false_iff_ne]; omega
                            generalize rep [] d = x at cd he hne
                            clear he c17 f17 hsk
                            replace b17 := Lib.hid b17
                            go_wp2
                            go_roundw
                            case rel => exact ⟨d + 1, by omega, by go_num, b17.out, hBd⟩
                            case measure => simp [intOf]; omega
                        · obtain rfl : d = 256 := by omega
                          rw [part_full, hpart.out] at b17
                          have hBx := hBc.trans (hBd.mono hBc.size)
                          have cp : ∀ w, Below wr.heap.size wr w → _ := fun w hw => cp.out w (hBd.trans (hw.mono hBd.size))
                          go_wp2_with fail
                          refine wp_region_facts 118 [.eq (.int .i64 n), .eq (.slice (some ⟨gp, 0, none⟩) ds.length capp), .eq (.int .i64 ds.length), .eq (.bool false), .eq (.bool false), .eq (.slice (some ⟨gp, 0, none⟩) ds.length capp), .eq (.int .i64 n), .eq (.pointer (some ⟨gp, n * 4, none⟩)), .eq (setV p), .eq (refV p), .eq (.bool true), .eq (.bool false), .eq (.bool false)] mixed rfl (by kernel_rfl) ?_ ?_
                          · refine ⟨?_, ?_, ?_, ?_, ?_, ?_, ?_, ?_, ?_, ?_, ?_, ?_, ?_, trivial⟩
                            · intro vs a w hR H hin hout hget
                              refine one_free rfl ?_
                              have e0 := hout 15 (by kernel_rfl)
                              clear H hin hout hget
                              dsimp only [bare]
                              go_wp2
                              exact ⟨_, rfl, shows0 hR rfl⟩
                            · intro vs a w hR H hin hout hget
                              refine one_free rfl ?_
                              have e0 := hout 12 (by kernel_rfl)
                              clear H hin hout hget
                              dsimp only [bare]
                              go_wp2
                              exact ⟨_, rfl, shows0 hR rfl⟩
                            · intro vs a w hR H hin hout hget
                              refine one_free rfl ?_
                              have e0 := (hget 1 99 (by kernel_rfl)).trans (congrArg some (H 1 (by decide)))
                              clear H hin hout hget
                              dsimp only [bare]
                              go_wp2
                              exact ⟨_, rfl, shows0 hR rfl⟩
                            · intro vs a w hR H hin hout hget
                              refine one_free rfl ?_
                              have e0 := (hget 0 98 (by kernel_rfl)).trans (congrArg some (H 0 (by decide)))
                              have e1 := (hget 2 100 (by kernel_rfl)).trans (congrArg some (H 2 (by decide)))
                              clear H hin hout hget
                              dsimp only [bare]
                              go_wp2
                              exact ⟨_, rfl, shows0 hR (congrArg Value.bool (decide_eq_false (by omega)))⟩
                            · intro vs a w hR H hin hout hget
                              refine one_free rfl ?_
                              have e0 := (hget 3 101 (by kernel_rfl)).trans (congrArg some (H 3 (by decide)))
                              clear H hin hout hget
                              dsimp only [bare]
                              go_wp2
                              exact ⟨_, rfl, shows0 hR rfl⟩
                            · intro vs a w hR H hin hout hget
                              refine one_guard 4 false 102 rfl (by kernel_rfl) ((hget 4 102 (by kernel_rfl)).trans (congrArg some (H 4 (by decide)))) ?_
                              have e0 := hout 12 (by kernel_rfl)
                              clear H hin hout hget
                              dsimp only [bare]
                              go_wp2
                              exact ⟨_, rfl, shows0 hR rfl⟩
                            · intro vs a w hR H hin hout hget
                              refine one_guard 4 false 102 rfl (by kernel_rfl) ((hget 4 102 (by kernel_rfl)).trans (congrArg some (H 4 (by decide)))) ?_
                              have e0 := hout 15 (by kernel_rfl)
                              clear H hin hout hget
                              dsimp only [bare]
                              go_wp2
                              exact ⟨_, rfl, shows0 hR rfl⟩
                            · intro vs a w hR H hin hout hget
                              refine one_guard 4 false 102 rfl (by kernel_rfl) ((hget 4 102 (by kernel_rfl)).trans (congrArg some (H 4 (by decide)))) ?_
                              have e0 := (hget 5 103 (by kernel_rfl)).trans (congrArg some (H 5 (by decide)))
                              have e1 := (hget 6 104 (by kernel_rfl)).trans (congrArg some (H 6 (by decide)))
                              clear H hin hout hget
                              dsimp only [bare]
                              go_wp2
                              exact ⟨_, rfl, shows0 hR rfl⟩
                            · intro vs a w hR H hin hout hget
                              refine one_guard 4 false 102 rfl (by kernel_rfl) ((hget 4 102 (by kernel_rfl)).trans (congrArg some (H 4 (by decide)))) ?_
                              have e0 := (hget 7 105 (by kernel_rfl)).trans (congrArg some (H 7 (by decide)))
                              obtain ⟨c0, c1, c2, c3⟩ := cp w hR
                              clear H hin hout hget
                              dsimp only [bare]
                              go_wp2
                              exact ⟨_, rfl, shows0 hR rfl⟩
                            · intro vs a w hR H hin hout hget
                              refine one_guard 4 false 102 rfl (by kernel_rfl) ((hget 4 102 (by kernel_rfl)).trans (congrArg some (H 4 (by decide)))) ?_
                              have e0 := hout 17 (by kernel_rfl)
                              clear H hin hout hget
                              dsimp only [bare]
                              refine wp_load94 rfl _ rfl _ (eval_far e0) _ (b17.laterB hR) ?_
                              exact ⟨_, rfl, shows0 hR rfl⟩
                            · intro vs a w hR H hin hout hget
                              refine one_guard 4 false 102 rfl (by kernel_rfl) ((hget 4 102 (by kernel_rfl)).trans (congrArg some (H 4 (by decide)))) ?_
                              have e0 := (hget 8 106 (by kernel_rfl)).trans (congrArg some (H 8 (by decide)))
                              have e1 := (hget 9 107 (by kernel_rfl)).trans (congrArg some (H 9 (by decide)))
                              clear H hin hout hget
                              dsimp only [bare]
                              go_wp2_with fail
                              refine (is_same rfl hp2 w).mono ?_
                              rintro e w1 ⟨rfl, hb⟩
                              go_wp2
                              exact ⟨_, rfl, shows hR hb rfl⟩
                            · intro vs a w hR H hin hout hget
                              refine one_guard 4 false 102 rfl (by kernel_rfl) ((hget 4 102 (by kernel_rfl)).trans (congrArg some (H 4 (by decide)))) ?_
                              have e0 := (hget 10 108 (by kernel_rfl)).trans (congrArg some (H 10 (by decide)))
                              clear H hin hout hget
                              dsimp only [bare]
                              go_wp2
                              exact ⟨_, rfl, shows0 hR rfl⟩
                            · intro vs a w hR H hin hout hget
                              refine one_free rfl ?_
                              have e0 := (hget 4 102 (by kernel_rfl)).trans (congrArg some (H 4 (by decide)))
                              have e1 := (hget 11 109 (by kernel_rfl)).trans (congrArg some (H 11 (by decide)))
                              clear H hin hout hget
                              dsimp only [bare]
                              go_wp2
                              exact ⟨_, rfl, shows0 hR rfl⟩
                          · intro vs w9 hR H
                            have e12 : vs 12 = .bool false := H 12 (by decide)
                            have hB9 := hBx.trans (hR.mono hBx.size)
                            simp only [putAll, Act.put, List.setIfInBounds_toArray, List.set_cons_succ, List.set_cons_zero, Nat.zero_add, Nat.reduceAdd, e12]
                            clear H hR e12 cp b17
                            go_wp2
                            go_roundw
                            case rel => exact ⟨c + 1, by omega, by go_num, by rw [hyes.out, List.length_append, hln'.out]; go_num, hB9⟩
                            case measure => simp [intOf]; omega
                    · have hno := Lib.hid (leads_no hr)
                      have hne : (((rep [] c : Nat) : Int) != (c : Int)) = true := by simp; omega
                      generalize rep [] c = x at c0 hr hne
                      clear hr
                      go_wp2
                      go_roundw
                      case rel => exact ⟨c + 1, by omega, by go_num, by rw [hno.out], hBc⟩
                      case measure => simp [intOf]; omega
                  · obtain rfl : c = 256 := by omega
                    rw [hcount.out]
                    have hBf := hB8.trans (hBc.mono hB8.size)
                    go_wp2
                    go_ret
                    exact ⟨rfl, hBf⟩
end Go.Proofs.Ytojmkgllbhbeiaa
