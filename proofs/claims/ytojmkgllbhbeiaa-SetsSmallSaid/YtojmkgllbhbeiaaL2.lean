/-
  WALKS: lists, no spans.
-/
import Derived.Test.YtojmkgllbhbeiaaL1
namespace Go.Proofs.Ytojmkgllbhbeiaa
open Go.RowKit

set_option maxRecDepth 100000 in
set_option maxHeartbeats 4000000 in
theorem lists_ns (b2 o2 cap2 : Nat) (ss : List Nat) (hss : ∀ s ∈ ss, s < 2 ^ 256) (n2 : ss.length ≤ 12) (hpos : 0 < ss.length) (w : World)
    (hb2 : b2 < w.heap.size) (hc2 : ∀ i, i < ss.length * 4 → w.cell? ⟨b2, o2 + i, none⟩ = (setCells ss)[i]?) :
    Calls Try.prog 33 #[.slice none 0 0, .slice (some ⟨b2, o2, none⟩) ss.length cap2] w fun e w' => e = .returned (.bool true) ∧ Below w.heap.size w w' := by
  have hz := zero94
  have hz3 := zero93
  have hT : 0 < 2 ^ 256 := by decide
  replace hc2 := Lib.hid hc2
  replace hss := Lib.hid hss
  replace hT := Lib.hid hT
  go_enter Try.func33, Try.ntmps33
  go_wp2_with fail
  go_loopw [29] (fun i wr => i = .int .i64 0 ∧ Blk wr w.heap.size (A256 fun _ => 0) 94 ∧ Below w.heap.size w wr) (fun _ _ => 0)
  case atStart => exact ⟨rfl, blkOf1 w _ _, below1 w _⟩
  case round =>
      obtain ⟨rfl, b5, hBk⟩ := hrel
      rw [← bitI_zero] at b5
      obtain ⟨i24, hi, hz0, hz1, hz2⟩ := info_parts info24
      have hnews : ∀ j u, (setCells ss)[j]? = some u → wr.cell? ((⟨b2, o2, none⟩ : Addr).add j) = some u := fun j u hj => by
        have hjl : j < ss.length * 4 := by have := (List.getElem?_eq_some_iff.1 hj).1; rwa [setCells_len] at this
        rw [add_at', hBk.cell (p := ⟨b2, o2 + j, none⟩) hb2, hc2.out j hjl, hj]
      replace hnews := Lib.hid hnews
      go_wp2_with (at_builtin; go_must (refine wpList_append_own _ rfl _ _ 37 rfl wr.heap.size 24 i24 (.agg #[.int .u64 0, .int .u64 0, .int .u64 0, .int .u64 0]) 4 32 Try.underlying37 hi hz0 hz1 hz2 rfl (by decide) (.slice none 0 0) 0 [] rfl (World.ownsRow_nil _ _ _ _) ⟨b2, o2, none⟩ ss.length cap2 (setCells ss) rfl (setCells_len ss) hnews.out (setCells_one ss) (by unfold maxLen; omega) (by omega) (Nat.le_refl _) ?_); intro v' w2 hown hgrow hnil)
      simp only [Nat.zero_add, List.nil_append] at hown
      have hB2 := hBk.trans ((below_none hgrow).mono hBk.size)
      have b52 := b5.laterB (below_none hgrow)
      obtain ⟨g, capo, rfl⟩ := owns_slice hpos hown
      have hgl := hown.lt g rfl
      have hbs2 := hBk.size
      have hgo : ∀ i, i < ss.length * 4 → w2.cell? ⟨g, 0 + i, none⟩ = (setCells ss)[i]? := fun i hi => by
        obtain ⟨u, hu⟩ : ∃ u, (setCells ss)[i]? = some u := ⟨_, List.getElem?_eq_getElem (by rw [setCells_len]; exact hi)⟩
        rw [Nat.zero_add, hu]; exact (owns_cell hown i u hu).1
      have hlo : ∀ i, i < ss.length * 4 → w2.cell? ⟨b2, o2 + i, none⟩ = (setCells ss)[i]? := fun i hi => by
        rw [hB2.cell (p := ⟨b2, o2 + i, none⟩) hb2, hc2.out i hi]
      have hb22 : b2 < w2.heap.size := by have := hB2.size; omega
      replace hgo := Lib.hid hgo
      replace hlo := Lib.hid hlo
      clear hown hgrow hnil hnews hBk b5 i24 hi hz0 hz1 hz2
      obtain ⟨i94, hi, hz0, hz1, hz2⟩ := info_parts info94
      have hw5 := b52.lt
      go_loopw [45, 9] (fun i v wr => ∃ k : Nat, k ≤ ss.length ∧ i = .int .i64 k ∧ wr.ownsRow w2.heap.size 94 256 v (ss.take k).length (refCells (ss.take k)) ∧ Below w2.heap.size w2 wr) (fun i _ _ => ss.length - (intOf i).toNat)
      case atStart => exact ⟨0, by omega, rfl, World.ownsRow_nil _ _ _ _, Below.refl _ _⟩
      case round =>
        obtain ⟨k, hk, rfl, hrow, hBk⟩ := hrel
        by_cases hlt : k < ss.length
        · obtain ⟨c0, c1, c2, c3⟩ := four_at hlo.out hb22 hBk hlt
          have htk := Lib.hid (List.take_succ_eq_append_getElem hlt)
          have htl : (ss.take k).length ≤ 12 := by rw [List.length_take]; omega
          generalize ss[k] = s at c0 c1 c2 c3 htk
          generalize ss.take k = qs at hrow htk htl
          have HW := fun w => words_any s w
          unfold setV setA refV at HW
          have hz2' := hBk.size
          go_wp2_with fail
          refine (HW _).mono ?_
          rintro e w3 ⟨rfl, h3⟩
          have hB3 := bthen (below1 wr _) h3.below
          have hrow3 := owns_later (owns_later hrow (below1 wr (.cells #[.int .u64 (Sx.wd s 0), .int .u64 (Sx.wd s 1), .int .u64 (Sx.wd s 2), .int .u64 (Sx.wd s 3)] 24))) h3.below
          have hBx := hBk.trans (hB3.mono hBk.size)
          have hsx := hBx.size
          clear HW h3 hB3 hrow c0 c1 c2 c3 hBk hz2'
          go_wp2_with (first | with_reducible refine wp_build115 rfl _ rfl (bitI s) rfl ?_ | (at_builtin; go_must (refine wpList_append_own _ rfl _ _ 115 rfl w2.heap.size 94 i94 (.agg (A256 fun _ => 0)) 256 2048 Try.underlying115 hi hz0 hz1 hz2 zsize94 (by decide) _ _ _ rfl (hrow3.alloc _) ⟨w3.heap.size, 0, none⟩ 1 1 (A256 (bitI s)).toList rfl (by rw [Array.length_toList, A256_size]) (cell_news _ _ _ _ rfl) (ref_one _) (by unfold maxLen; omega) (by omega) (by simp; omega) ?_); intro v' w4 hown hgrow hnil))
          have hb4 := grown_one hrow3 hgrow (by omega)
          go_roundw
          case rel => exact ⟨k + 1, by omega, by go_num, by rw [htk.out, refCells_snoc, List.length_append]; exact hown, hBx.trans (hb4.mono (Nat.le_refl _))⟩
          case measure => simp [intOf]; omega
        · obtain rfl : k = ss.length := by omega
          rw [List.take_length] at hrow
          obtain ⟨ga, capa, rfl⟩ := owns_slice hpos hrow
          have hRC := refCells_of hrow
          have hga := (hrow.lt ga rfl).2
          have hB3 := hB2.trans (hBk.mono hB2.size)
          have b53 := b52.laterB hBk
          have hg3 : g < wr.heap.size := by have := hBk.size; omega
          have hgo3 : ∀ i, i < ss.length * 4 → wr.cell? ⟨g, 0 + i, none⟩ = (setCells ss)[i]? := fun i hi => (hBk.cell (p := ⟨g, 0 + i, none⟩) hgl.2).trans (hgo.out i hi)
          have hlo3 : ∀ i, i < ss.length * 4 → wr.cell? ⟨b2, o2 + i, none⟩ = (setCells ss)[i]? := fun i hi => (hBk.cell (p := ⟨b2, o2 + i, none⟩) hb22).trans (hlo.out i hi)
          have HP := parts_any (.slice (some ⟨g, 0, none⟩) ss.length capo) ss hss.out wr ⟨setCells_len ss, .inr ⟨_, _, _, rfl, hg3, hgo3⟩⟩ (by omega)
          replace HP := Lib.hid HP
          obtain ⟨w3, rfl⟩ : ∃ w3 : World, w3 = wr := ⟨_, rfl⟩
          replace hRC := Lib.hid hRC
          clear hrow hBk hgo hlo hB2 b52 hgl hbs2 hb22 hw5
          go_wp2_with fail
          refine HP.out.mono ?_
          clear HP
          rintro e w4 ⟨gp, capp, ds, rfl, hsl, hperm, hsort, hB4, hcl, hcm⟩
          have hok := parts_ok hperm hsort
          have hdpos : 0 < ds.length := by
            rcases Nat.eq_zero_or_pos ds.length with h | h
            · have := hok.all
              rw [List.eq_nil_of_length_eq_zero h] at this
              exact absurd this (by decide)
            · exact h
          have hd256 : ds.length ≤ 256 := (show Part ds from ⟨hok.lt, hok.disj⟩).len256
          clear hperm hsort hcm
          obtain ⟨_, ⟨h, _⟩ | ⟨g', o', cap', hge, hgp, hcp⟩⟩ := hsl
          · cases h
          cases hge
          have hRC4 : RefCells w4 ga 0 ss := fun i hi c hc => (hB4.cell (p := ⟨ga, 0 + i * 256 + c, none⟩) hga).trans (hRC.out i hi c hc)
          have hga4 : ga < w4.heap.size := by have := hB4.size; omega
          have HQ := refParts_some ga 0 capa ss w4 hga4 hRC4 (by omega)
          replace HQ := Lib.hid HQ
          replace hcp := Lib.hid hcp
          replace hok := Lib.hid hok
          clear hRC hRC4
          go_wp2_with fail
          refine HQ.out.mono ?_
          clear HQ
          rintro e w5 ⟨rfl, hB5⟩
          have hB45 := bthen hB4 (hB5.mono (Nat.le_refl _))
          go_wp2_with (with_reducible refine wp_store93 rfl _ _ rfl w5.heap.size rfl _ _ rfl (blkOf1 w5 _ _) ?_)
          obtain ⟨W6, hW6⟩ : ∃ W6, W6 = (w5.alloc (.cells (A256 fun _ => 0) 93)).setRow w5.heap.size (A256 fun c => (rep ss c : Nat)) := ⟨_, rfl⟩
          have b13 : Blk W6 w5.heap.size (A256 fun c => (rep ss c : Nat)) 93 := by rw [hW6]; exact (blkOf1 w5 _ _).setRow _
          have hB56 : Below w5.heap.size w5 W6 := by rw [hW6]; exact below_setRow (below1 w5 _) (Nat.le_refl _) _
          rw [← hW6]
          clear hW6
          have hB6 := bthen hB45 (hB56.mono (Nat.le_refl _))
          have b5 := b53.laterB hB6
          have hB46 := bthen hB5 (hB56.mono (Nat.le_refl _))
          have hs6 := hB6.size
          have hs46 := hB46.size
          have hBW : Below w.heap.size w W6 := hB3.trans (hB6.mono hB3.size)
          have hsW := hBW.size
          have hgo6 : ∀ i, i < ss.length * 4 → W6.cell? ⟨g, 0 + i, none⟩ = (setCells ss)[i]? := fun i hi => (hB6.cell (p := ⟨g, 0 + i, none⟩) hg3).trans (hgo3 i hi)
          have hlo6 : ∀ i, i < ss.length * 4 → W6.cell? ⟨b2, o2 + i, none⟩ = (setCells ss)[i]? := fun i hi => (hBW.cell (p := ⟨b2, o2 + i, none⟩) hb2).trans (hc2.out i hi)
          have hcp6 : ∀ i, i < ds.length * 4 → W6.cell? ⟨gp, 0 + i, none⟩ = (setCells ds)[i]? := fun i hi => (hB46.cell (p := ⟨gp, 0 + i, none⟩) hgp).trans (hcp.out i hi)
          have hg6 : g < W6.heap.size := by omega
          have hgp6 : gp < W6.heap.size := by omega
          have hb26 : b2 < W6.heap.size := by omega
          have HFs : ∀ w', Below W6.heap.size W6 w' → Calls Try.prog 36 #[.slice none 0 0] w' fun e w'' => e = .returned (setV 0) ∧ Gr w'.heap.size w' w'' := fun w' _ => fromSpans_none w'
          replace hgo6 := Lib.hid hgo6
          replace hlo6 := Lib.hid hlo6
          replace hcp6 := Lib.hid hcp6
          have hT := hT.out
          clear hgo3 hlo3 hcp hB45 hB46 hB56 hB5 hB4 b53 hB6 hB3 hs6 hs46 hg3 hgp hga hga4
          refine wp_region_facts 118 [.eq (.slice none 0 0), .eq (setV (0)), .eq (refV (0)), .eq (.bool true), .eq (.bool false)] mixed rfl (by kernel_rfl) ?_ ?_
          · refine ⟨?_, ?_, ?_, ?_, ?_, trivial⟩
            · intro vs a w hR H hin hout hget
              refine one_free rfl ?_
              have e0 := hout 0 (by kernel_rfl)
              clear H hin hout hget
              dsimp only [bare]
              go_wp2
              exact ⟨_, rfl, shows0 hR rfl⟩
            · intro vs a w hR H hin hout hget
              refine one_free rfl ?_
              have e0 := (hget 0 59 (by kernel_rfl)).trans (congrArg some (H 0 (by decide)))
              clear H hin hout hget
              dsimp only [bare]
              go_wp2_with fail
              refine (HFs w hR).mono ?_
              rintro e w1 ⟨rfl, hb⟩
              go_wp2
              exact ⟨_, rfl, shows hR hb.below rfl⟩
            · intro vs a w hR H hin hout hget
              refine one_free rfl ?_
              have e0 := hout 5 (by kernel_rfl)
              clear H hin hout hget
              dsimp only [bare]
              refine wp_load94 rfl _ rfl _ (eval_far e0) _ (b5.laterB hR) ?_
              exact ⟨_, rfl, shows0 hR rfl⟩
            · intro vs a w hR H hin hout hget
              refine one_free rfl ?_
              have e0 := (hget 1 60 (by kernel_rfl)).trans (congrArg some (H 1 (by decide)))
              have e1 := (hget 2 61 (by kernel_rfl)).trans (congrArg some (H 2 (by decide)))
              clear H hin hout hget
              dsimp only [bare]
              go_wp2_with fail
              refine (is_same rfl hT w).mono ?_
              rintro e w1 ⟨rfl, hb⟩
              go_wp2
              exact ⟨_, rfl, shows hR hb rfl⟩
            · intro vs a w hR H hin hout hget
              refine one_free rfl ?_
              have e0 := (hget 3 62 (by kernel_rfl)).trans (congrArg some (H 3 (by decide)))
              clear H hin hout hget
              dsimp only [bare]
              go_wp2
              exact ⟨_, rfl, shows0 hR rfl⟩
          · intro vs w7 hR H
            have e4 : vs 4 = .bool false := H 4 (by decide)
            simp only [putAll, Act.put, List.setIfInBounds_toArray, List.set_cons_succ, List.set_cons_zero, Nat.zero_add, Nat.reduceAdd, e4]
            replace b13 := b13.laterB hR
            have hBW7 := hBW.trans (hR.mono hBW.size)
            have hR7 := hR.size
            have hgo7 : ∀ i, i < ss.length * 4 → w7.cell? ⟨g, 0 + i, none⟩ = (setCells ss)[i]? := fun i hi => (hR.cell (p := ⟨g, 0 + i, none⟩) hg6).trans (hgo6.out i hi)
            have hlo7 : ∀ i, i < ss.length * 4 → w7.cell? ⟨b2, o2 + i, none⟩ = (setCells ss)[i]? := fun i hi => (hR.cell (p := ⟨b2, o2 + i, none⟩) hb26).trans (hlo6.out i hi)
            have hcp7 : ∀ i, i < ds.length * 4 → w7.cell? ⟨gp, 0 + i, none⟩ = (setCells ds)[i]? := fun i hi => (hR.cell (p := ⟨gp, 0 + i, none⟩) hgp6).trans (hcp6.out i hi)
            have hg7 : g < w7.heap.size := by omega
            have hgp7 : gp < w7.heap.size := by omega
            have hb27 : b2 < w7.heap.size := by omega
            replace hgo7 := Lib.hid hgo7
            replace hlo7 := Lib.hid hlo7
            replace hcp7 := Lib.hid hcp7
            clear H hR e4 HFs b5 hT hgo6 hlo6 hcp6 hg6 hgp6 hb26 hBW hR7
            generalize vs 0 = y0
            generalize vs 1 = y1
            generalize vs 2 = y2
            generalize vs 3 = y3
            go_wp2_with fail
            go_loopw [66] (fun i wx => ∃ k : Nat, k ≤ ss.length ∧ i = .int .i64 k ∧ Below w7.heap.size w7 wx) (fun i _ => ss.length - (intOf i).toNat)
            case atStart => exact ⟨0, by omega, rfl, Below.refl _ _⟩
            case round =>
              obtain ⟨k, hk, rfl, hBk⟩ := hrel
              by_cases hlt : k < ss.length
              · have hs := hss.out _ (List.getElem_mem hlt)
                have cg : ∀ w, Below wr.heap.size wr w → _ := fun w hw => four_at hgo7.out hg7 (hBk.trans (hw.mono hBk.size)) hlt
                have cl : ∀ w, Below wr.heap.size wr w → _ := fun w hw => four_at hlo7.out hb27 (hBk.trans (hw.mono hBk.size)) hlt
                simp only [Nat.zero_add] at cg
                generalize ss[k] = s at cg cl hs
                go_wp2_with fail
                refine wp_region_facts 118 [.eq (.slice (some ⟨g, 0, none⟩) ss.length capo), .eq (.int .i64 k), .eq (.pointer (some ⟨g, k * 4, none⟩)), .eq (setV s), .eq (.slice (some ⟨b2, o2, none⟩) ss.length cap2), .eq (.int .i64 k), .eq (.pointer (some ⟨b2, o2 + k * 4, none⟩)), .eq (setV s), .eq (.bool false)] mixed rfl (by kernel_rfl) ?_ ?_
                · refine ⟨?_, ?_, ?_, ?_, ?_, ?_, ?_, ?_, ?_, trivial⟩
                  · intro vs a w hR H hin hout hget
                    refine one_free rfl ?_
                    have e0 := hout 8 (by kernel_rfl)
                    clear H hin hout hget
                    dsimp only [bare]
                    go_wp2
                    exact ⟨_, rfl, shows0 hR rfl⟩
                  · intro vs a w hR H hin hout hget
                    refine one_free rfl ?_
                    have e0 := hout 14 (by kernel_rfl)
                    clear H hin hout hget
                    dsimp only [bare]
                    go_wp2
                    exact ⟨_, rfl, shows0 hR rfl⟩
                  · intro vs a w hR H hin hout hget
                    refine one_free rfl ?_
                    have e0 := (hget 0 69 (by kernel_rfl)).trans (congrArg some (H 0 (by decide)))
                    have e1 := (hget 1 70 (by kernel_rfl)).trans (congrArg some (H 1 (by decide)))
                    clear H hin hout hget
                    dsimp only [bare]
                    go_wp2
                    exact ⟨_, rfl, shows0 hR rfl⟩
                  · intro vs a w hR H hin hout hget
                    refine one_free rfl ?_
                    have e0 := (hget 2 71 (by kernel_rfl)).trans (congrArg some (H 2 (by decide)))
                    obtain ⟨c0, c1, c2, c3⟩ := cg w hR
                    clear H hin hout hget
                    dsimp only [bare]
                    go_wp2
                    exact ⟨_, rfl, shows0 hR rfl⟩
                  · intro vs a w hR H hin hout hget
                    refine one_free rfl ?_
                    have e0 := hout 1 (by kernel_rfl)
                    clear H hin hout hget
                    dsimp only [bare]
                    go_wp2
                    exact ⟨_, rfl, shows0 hR rfl⟩
                  · intro vs a w hR H hin hout hget
                    refine one_free rfl ?_
                    have e0 := hout 14 (by kernel_rfl)
                    clear H hin hout hget
                    dsimp only [bare]
                    go_wp2
                    exact ⟨_, rfl, shows0 hR rfl⟩
                  · intro vs a w hR H hin hout hget
                    refine one_free rfl ?_
                    have e0 := (hget 4 73 (by kernel_rfl)).trans (congrArg some (H 4 (by decide)))
                    have e1 := (hget 5 74 (by kernel_rfl)).trans (congrArg some (H 5 (by decide)))
                    clear H hin hout hget
                    dsimp only [bare]
                    go_wp2
                    exact ⟨_, rfl, shows0 hR rfl⟩
                  · intro vs a w hR H hin hout hget
                    refine one_free rfl ?_
                    have e0 := (hget 6 75 (by kernel_rfl)).trans (congrArg some (H 6 (by decide)))
                    obtain ⟨c0, c1, c2, c3⟩ := cl w hR
                    clear H hin hout hget
                    dsimp only [bare]
                    go_wp2
                    exact ⟨_, rfl, shows0 hR rfl⟩
                  · intro vs a w hR H hin hout hget
                    refine one_free rfl ?_
                    have e0 := (hget 3 72 (by kernel_rfl)).trans (congrArg some (H 3 (by decide)))
                    have e1 := (hget 7 76 (by kernel_rfl)).trans (congrArg some (H 7 (by decide)))
                    have HE := neqSame s s hs rfl
                    have HG := guardSetV
                    clear H hin hout hget
                    dsimp only [bare]
                    go_wp2
                    exact ⟨_, rfl, shows0 hR rfl⟩
                · intro vs w8 hR H
                  have e8 : vs 8 = .bool false := H 8 (by decide)
                  have hB8 := hBk.trans (hR.mono hBk.size)
                  simp only [putAll, Act.put, List.setIfInBounds_toArray, List.set_cons_succ, List.set_cons_zero, Nat.zero_add, Nat.reduceAdd, e8]
                  clear H hR e8 cg cl
                  go_wp2
                  go_roundw
                  case rel => exact ⟨k + 1, by omega, by go_num, hB8⟩
                  case measure => simp [intOf]; omega
              · obtain rfl : k = ss.length := by omega
                replace b13 := b13.laterB hBk
                have hB8 := hBW7.trans (hBk.mono hBW7.size)
                have hcp8 : ∀ i, i < ds.length * 4 → wr.cell? ⟨gp, 0 + i, none⟩ = (setCells ds)[i]? := fun i hi => (hBk.cell (p := ⟨gp, 0 + i, none⟩) hgp7).trans (hcp7.out i hi)
                have hgp8 : gp < wr.heap.size := by have := hBk.size; omega
                replace hcp8 := Lib.hid hcp8
                have hcount := Lib.hid hok.out.count
                clear hBk hBW7 hgo7 hlo7 hcp7 hg7 hgp7 hb27
                obtain ⟨w8, rfl⟩ : ∃ w8 : World, w8 = wr := ⟨_, rfl⟩
                have h13 := b13.lt
                go_wp2_with fail
                go_loopw [79, 15] (fun i n wx => ∃ c : Nat, c ≤ 256 ∧ i = .int .i64 c ∧ n = .int .i64 (leads ss c).length ∧ Below w8.heap.size w8 wx) (fun i _ _ => 256 - (intOf i).toNat)
                case atStart => exact ⟨0, by omega, rfl, rfl, Below.refl _ _⟩
                case round =>
                  obtain ⟨c, hc, rfl, rfl, hBc⟩ := hrel
                  by_cases hlt : c < 256
                  · have b13c := b13.laterB hBc
                    have c0 := (b13c.cell c).trans (A256_get _ hlt)
                    have hln := leads_len ss c
                    by_cases hr : rep ss c = c
                    · rw [hr] at c0
                      obtain ⟨hn, hbits⟩ := hok.out.next hlt hr
                      have hyes := Lib.hid (leads_yes hr)
                      have hp2 := (hok.out.lt _ (List.getElem_mem hn)).2
                      obtain ⟨wo, rfl⟩ : ∃ wo : World, wo = wr := ⟨_, rfl⟩
                      have cp : ∀ w, Below wo.heap.size wo w → _ := fun w hw => four_at hcp8.out hgp8 (hBc.trans (hw.mono hBc.size)) hn
                      simp only [Nat.zero_add] at cp
                      have hpart : Hid (A256 (fun d => if rep ss d = c then 1 else 0) = A256 (bitI ds[(leads ss c).length])) := A256_congr fun d hd => by
                        unfold bitI; rw [hbits d hd]; by_cases e : rep ss d = c <;> simp [e]
                      generalize ds[(leads ss c).length] = p at cp hp2 hpart
                      generalize hln' : (leads ss c).length = n at cp hn hyes hln
                      clear hbits hr
                      replace hln' := Lib.hid hln'
                      replace cp := Lib.hid cp
                      have h13o : w5.heap.size < wo.heap.size := by have := hBc.size; omega
                      go_wp2_with fail
                      go_loopw [87] (fun i wx => ∃ d : Nat, d ≤ 256 ∧ i = .int .i64 d ∧ Blk wx wo.heap.size (part (fun d => if rep ss d = c then 1 else 0) d) 94 ∧ Below wo.heap.size wo wx) (fun i _ => 256 - (intOf i).toNat)
                      case atStart => exact ⟨0, by omega, rfl, by rw [part_zero]; exact blkOf1 wo _ _, below1 wo _⟩
                      case round =>
                        obtain ⟨d, hd, rfl, b17, hBd⟩ := hrel
                        by_cases hltd : d < 256
                        · have cd := ((b13c.laterB hBd).cell d).trans (A256_get _ hltd)
                          have c17 := (b17.cell d).trans (part_get _ d hltd)
                          have f17 := b17.frozen d
                          by_cases he : rep ss d = c
                          · have hset := Lib.hid (b17.set d (.int .i64 (if rep ss d = c then 1 else 0)))
                            rw [part_set (fun d => if rep ss d = c then 1 else 0) hltd, if_pos he] at hset
                            rw [he] at cd
                            clear he b17
                            go_wp2
                            go_roundw
                            case rel => exact ⟨d + 1, by omega, by go_num, hset.out, hBd.setCell (Nat.le_refl _) _⟩
                            case measure => simp [intOf]; omega
                          · have hsk := part_skip (fun d => if rep ss d = c then (1 : Int) else 0) (k := d) (by rw [if_neg he])
                            rw [← hsk] at b17
                            have hne : (((rep ss d : Nat) : Int) == (c : Int)) = false := by rw [beq_eq_false_iff_ne]; omega
                            generalize rep ss d = x at cd he hne
                            clear he c17 f17 hsk
                            replace b17 := Lib.hid b17
                            go_wp2
                            go_roundw
                            case rel => exact ⟨d + 1, by omega, by go_num, b17.out, hBd⟩
                            case measure => simp [intOf]; omega
                        · obtain rfl : d = 256 := by omega
                          rw [part_full, hpart.out] at b17
                          have hBx := hBc.trans (hBd.mono hBc.size)
                          have cp : ∀ w, Below wr.heap.size wr w → _ := fun w hw => cp.out w (hBd.trans (hw.mono hBd.size))
                          go_wp2_with fail
                          refine wp_region_facts 118 [.eq (.int .i64 n), .eq (.slice (some ⟨gp, 0, none⟩) ds.length capp), .eq (.int .i64 ds.length), .eq (.bool false), .eq (.bool false), .eq (.slice (some ⟨gp, 0, none⟩) ds.length capp), .eq (.int .i64 n), .eq (.pointer (some ⟨gp, n * 4, none⟩)), .eq (setV p), .eq (refV p), .eq (.bool true), .eq (.bool false), .eq (.bool false)] mixed rfl (by kernel_rfl) ?_ ?_
                          · refine ⟨?_, ?_, ?_, ?_, ?_, ?_, ?_, ?_, ?_, ?_, ?_, ?_, ?_, trivial⟩
                            · intro vs a w hR H hin hout hget
                              refine one_free rfl ?_
                              have e0 := hout 15 (by kernel_rfl)
                              clear H hin hout hget
                              dsimp only [bare]
                              go_wp2
                              exact ⟨_, rfl, shows0 hR rfl⟩
                            · intro vs a w hR H hin hout hget
                              refine one_free rfl ?_
                              have e0 := hout 12 (by kernel_rfl)
                              clear H hin hout hget
                              dsimp only [bare]
                              go_wp2
                              exact ⟨_, rfl, shows0 hR rfl⟩
                            · intro vs a w hR H hin hout hget
                              refine one_free rfl ?_
                              have e0 := (hget 1 99 (by kernel_rfl)).trans (congrArg some (H 1 (by decide)))
                              clear H hin hout hget
                              dsimp only [bare]
                              go_wp2
                              exact ⟨_, rfl, shows0 hR rfl⟩
                            · intro vs a w hR H hin hout hget
                              refine one_free rfl ?_
                              have e0 := (hget 0 98 (by kernel_rfl)).trans (congrArg some (H 0 (by decide)))
                              have e1 := (hget 2 100 (by kernel_rfl)).trans (congrArg some (H 2 (by decide)))
                              clear H hin hout hget
                              dsimp only [bare]
                              go_wp2
                              exact ⟨_, rfl, shows0 hR (congrArg Value.bool (decide_eq_false (by omega)))⟩
                            · intro vs a w hR H hin hout hget
                              refine one_free rfl ?_
                              have e0 := (hget 3 101 (by kernel_rfl)).trans (congrArg some (H 3 (by decide)))
                              clear H hin hout hget
                              dsimp only [bare]
                              go_wp2
                              exact ⟨_, rfl, shows0 hR rfl⟩
                            · intro vs a w hR H hin hout hget
                              refine one_guard 4 false 102 rfl (by kernel_rfl) ((hget 4 102 (by kernel_rfl)).trans (congrArg some (H 4 (by decide)))) ?_
                              have e0 := hout 12 (by kernel_rfl)
                              clear H hin hout hget
                              dsimp only [bare]
                              go_wp2
                              exact ⟨_, rfl, shows0 hR rfl⟩
                            · intro vs a w hR H hin hout hget
                              refine one_guard 4 false 102 rfl (by kernel_rfl) ((hget 4 102 (by kernel_rfl)).trans (congrArg some (H 4 (by decide)))) ?_
                              have e0 := hout 15 (by kernel_rfl)
                              clear H hin hout hget
                              dsimp only [bare]
                              go_wp2
                              exact ⟨_, rfl, shows0 hR rfl⟩
                            · intro vs a w hR H hin hout hget
                              refine one_guard 4 false 102 rfl (by kernel_rfl) ((hget 4 102 (by kernel_rfl)).trans (congrArg some (H 4 (by decide)))) ?_
                              have e0 := (hget 5 103 (by kernel_rfl)).trans (congrArg some (H 5 (by decide)))
                              have e1 := (hget 6 104 (by kernel_rfl)).trans (congrArg some (H 6 (by decide)))
                              clear H hin hout hget
                              dsimp only [bare]
                              go_wp2
                              exact ⟨_, rfl, shows0 hR rfl⟩
                            · intro vs a w hR H hin hout hget
                              refine one_guard 4 false 102 rfl (by kernel_rfl) ((hget 4 102 (by kernel_rfl)).trans (congrArg some (H 4 (by decide)))) ?_
                              have e0 := (hget 7 105 (by kernel_rfl)).trans (congrArg some (H 7 (by decide)))
                              obtain ⟨c0, c1, c2, c3⟩ := cp w hR
                              clear H hin hout hget
                              dsimp only [bare]
                              go_wp2
                              exact ⟨_, rfl, shows0 hR rfl⟩
                            · intro vs a w hR H hin hout hget
                              refine one_guard 4 false 102 rfl (by kernel_rfl) ((hget 4 102 (by kernel_rfl)).trans (congrArg some (H 4 (by decide)))) ?_
                              have e0 := hout 17 (by kernel_rfl)
                              clear H hin hout hget
                              dsimp only [bare]
                              refine wp_load94 rfl _ rfl _ (eval_far e0) _ (b17.laterB hR) ?_
                              exact ⟨_, rfl, shows0 hR rfl⟩
                            · intro vs a w hR H hin hout hget
                              refine one_guard 4 false 102 rfl (by kernel_rfl) ((hget 4 102 (by kernel_rfl)).trans (congrArg some (H 4 (by decide)))) ?_
                              have e0 := (hget 8 106 (by kernel_rfl)).trans (congrArg some (H 8 (by decide)))
                              have e1 := (hget 9 107 (by kernel_rfl)).trans (congrArg some (H 9 (by decide)))
                              clear H hin hout hget
                              dsimp only [bare]
                              go_wp2_with fail
                              refine (is_same rfl hp2 w).mono ?_
                              rintro e w1 ⟨rfl, hb⟩
                              go_wp2
                              exact ⟨_, rfl, shows hR hb rfl⟩
                            · intro vs a w hR H hin hout hget
                              refine one_guard 4 false 102 rfl (by kernel_rfl) ((hget 4 102 (by kernel_rfl)).trans (congrArg some (H 4 (by decide)))) ?_
                              have e0 := (hget 10 108 (by kernel_rfl)).trans (congrArg some (H 10 (by decide)))
                              clear H hin hout hget
                              dsimp only [bare]
                              go_wp2
                              exact ⟨_, rfl, shows0 hR rfl⟩
                            · intro vs a w hR H hin hout hget
                              refine one_free rfl ?_
                              have e0 := (hget 4 102 (by kernel_rfl)).trans (congrArg some (H 4 (by decide)))
                              have e1 := (hget 11 109 (by kernel_rfl)).trans (congrArg some (H 11 (by decide)))
                              clear H hin hout hget
                              dsimp only [bare]
                              go_wp2
                              exact ⟨_, rfl, shows0 hR rfl⟩
                          · intro vs w9 hR H
                            have e12 : vs 12 = .bool false := H 12 (by decide)
                            have hB9 := hBx.trans (hR.mono hBx.size)
                            simp only [putAll, Act.put, List.setIfInBounds_toArray, List.set_cons_succ, List.set_cons_zero, Nat.zero_add, Nat.reduceAdd, e12]
                            clear H hR e12 cp b17
                            go_wp2
                            go_roundw
                            case rel => exact ⟨c + 1, by omega, by go_num, by rw [hyes.out, List.length_append, hln'.out]; go_num, hB9⟩
                            case measure => simp [intOf]; omega
                    · have hno := Lib.hid (leads_no hr)
                      have hne : (((rep ss c : Nat) : Int) != (c : Int)) = true := by simp; omega
                      generalize rep ss c = x at c0 hr hne
                      clear hr
                      go_wp2
                      go_roundw
                      case rel => exact ⟨c + 1, by omega, by go_num, by rw [hno.out], hBc⟩
                      case measure => simp [intOf]; omega
                  · obtain rfl : c = 256 := by omega
                    rw [hcount.out]
                    have hBf := hB8.trans (hBc.mono hB8.size)
                    go_wp2
                    go_ret
                    exact ⟨rfl, hBf⟩
end Go.Proofs.Ytojmkgllbhbeiaa
