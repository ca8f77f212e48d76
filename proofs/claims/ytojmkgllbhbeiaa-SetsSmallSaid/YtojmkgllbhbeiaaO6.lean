/-
  WALKS: SetsParts.
-/
import Derived.Test.YtojmkgllbhbeiaaPn
import Derived.Test.YtojmkgllbhbeiaaO8
import Derived.Test.YtojmkgllbhbeiaaIv
namespace Go.Proofs.Ytojmkgllbhbeiaa
open Go.RowKit

/-- The least byte of the class before the k-th one. -/
def lastI (ds : List Nat) (k : Nat) : Int := if k = 0 then -1 else (least (ds.getD (k - 1) 0) : Nat)
theorem lastI_lt {ds : List Nat} (h : ds.Pairwise fun p q => least p < least q) {k : Nat} (hk : k < ds.length) : lastI ds k < (least ds[k] : Nat) := by
  unfold lastI
  by_cases h0 : k = 0
  · rw [if_pos h0]; omega
  · rw [if_neg h0]
    have := List.pairwise_iff_getElem.1 h (k - 1) k (by omega) hk (by omega)
    rw [List.getD_eq_getElem?_getD, List.getElem?_eq_getElem (by omega : k - 1 < ds.length)]
    simp only [Option.getD_some]
    omega
theorem lastI_succ {ds : List Nat} {k : Nat} (hk : k < ds.length) : lastI ds (k + 1) = (least ds[k] : Nat) := by
  unfold lastI
  rw [if_neg (by omega), Nat.add_sub_cancel, List.getD_eq_getElem?_getD, List.getElem?_eq_getElem hk]
  rfl
def apartB (ss : List Nat) (p q : Nat) : Bool := ss.any fun s => decide (Sx.less p s = 0) != decide (Sx.less q s = 0)
theorem apartB_of {ss : List Nat} {p q : Nat} (h : Apart ss p q) : apartB ss p q = true := by
  obtain ⟨s, hs, hne⟩ := h
  exact List.any_eq_true.2 ⟨s, hs, by simpa using hne⟩
theorem apartB_snoc (ss : List Nat) (s p q : Nat) : apartB (ss ++ [s]) p q = (apartB ss p q || (decide (Sx.less p s = 0) != decide (Sx.less q s = 0))) := by simp [apartB]
theorem four_at {W W' : World} {b o : Nat} {l : List Nat} (hc : ∀ i, i < l.length * 4 → W.cell? ⟨b, o + i, none⟩ = (setCells l)[i]?) (hb : b < W.heap.size) (h : Below W.heap.size W W') {k : Nat} (hk : k < l.length) :
    W'.cell? ⟨b, o + k * 4, none⟩ = some (.int .u64 (Sx.wd l[k] 0)) ∧ W'.cell? ⟨b, o + k * 4 + 1, none⟩ = some (.int .u64 (Sx.wd l[k] 1)) ∧ W'.cell? ⟨b, o + k * 4 + 2, none⟩ = some (.int .u64 (Sx.wd l[k] 2)) ∧ W'.cell? ⟨b, o + k * 4 + 3, none⟩ = some (.int .u64 (Sx.wd l[k] 3)) := by
  obtain ⟨c0, c1, c2, c3⟩ := setCells_four l hc k hk
  exact ⟨(h.cell (p := ⟨b, o + k * 4, none⟩) hb).trans c0, (h.cell (p := ⟨b, o + k * 4 + 1, none⟩) hb).trans c1, (h.cell (p := ⟨b, o + k * 4 + 2, none⟩) hb).trans c2, (h.cell (p := ⟨b, o + k * 4 + 3, none⟩) hb).trans c3⟩
theorem first_least {p : Nat} (hp : p < 2 ^ 256) (h : p ≠ 0) (w : World) : Calls Try.prog 32 #[setV p] w fun e w' => e = .returned (.tuple #[.int .u8 (least p : Nat), .bool true]) ∧ Gr w.heap.size w w' := by
  have := first_any p w
  rw [(least_at hp h).1] at this
  exact this

set_option maxRecDepth 100000 in
set_option maxHeartbeats 4000000 in
theorem setsParts_some (b o cap m : Nat) (ss : List Nat) (hss : ∀ s ∈ ss, s < 2 ^ 256) (w : World) (hb : b < w.heap.size) (hc : ∀ i, i < ss.length * 4 → w.cell? ⟨b, o + i, none⟩ = (setCells ss)[i]?) (h0 : (ss.length < 8 ∧ m = ss.length) ∨ (ss.length = 8 ∧ 8 ≤ m)) (hcap : m ≤ cap) :
    Calls Try.prog 6 #[.slice (some ⟨b, o, none⟩) m cap] w fun e w' => e = .returned (.bool true) ∧ Below w.heap.size w w' := by
  have HA := fun w => awake_any w
  have hmin : min (m : Int) 8 = (ss.length : Int) := by omega
  go_enter Try.func6, Try.ntmps6
  go_wp2_with fail
  refine (HA _).mono ?_
  rintro e w1 ⟨rfl, hB⟩
  clear HA
  go_wp2_with fail
  have hn8 : ss.length ≤ 8 := by omega
  have hncap : ss.length ≤ cap := by omega
  clear hmin h0 hcap
  have hcs := fun i (hi : i < ss.length * 4) => (hB.cell (p := ⟨b, o + i, none⟩) hb).trans (hc i hi)
  have hb1 : b < w1.heap.size := by have := hB.size; omega
  refine (parts_any _ ss hss w1 ⟨setCells_len ss, .inr ⟨_, _, _, rfl, hb1, hcs⟩⟩ (by omega)).mono ?_
  rintro e w2 ⟨g, cap3, ds, rfl, ⟨_, hsl⟩, hperm, hsort, hB2, hcl, hcm⟩
  unfold maxLen at hcm
  have hok := parts_ok hperm hsort
  clear hperm hsort
  have hd256 : ds.length ≤ 256 := by
    have := (show Part ds from ⟨hok.lt, hok.disj⟩).len256
    exact this
  have hdpos : 0 < ds.length := by
    rcases Nat.eq_zero_or_pos ds.length with h | h
    · have := hok.all
      rw [List.eq_nil_of_length_eq_zero h] at this
      exact absurd this (by decide)
    · exact h
  obtain ⟨h, _⟩ | ⟨g', o', cap', hge, hg, hcd⟩ := hsl
  · cases h
  cases hge
  have hcs2 := fun i (hi : i < ss.length * 4) => (hB2.cell (p := ⟨b, o + i, none⟩) hb1).trans (hcs i hi)
  have hb2 : b < w2.heap.size := by have := hB2.size; omega
  replace hB := hB.trans (hB2.mono hB.size)
  clear hc hcs hB2 hb1
  replace hcs2 := Lib.hid hcs2
  replace hcd := Lib.hid hcd
  replace hss := Lib.hid hss
  replace hok := Lib.hid hok
  go_wp2_with fail
  go_loopw [28, 5] (fun i la wr => ∃ k : Nat, k ≤ ds.length ∧ i = .int .i64 k ∧ la = .int .i64 (lastI ds k) ∧ Blk wr w2.heap.size (setA (orAll (ds.take k))) 24 ∧ Below w2.heap.size w2 wr) (fun i _ _ => ds.length - (intOf i).toNat)
  case atStart =>
    refine ⟨0, by omega, rfl, rfl, ?_, below1 w2 _⟩
    rw [List.take_zero, orAll, setA_zero]; exact blkOf1 w2 _ _
  case round =>
    obtain ⟨k, hk, rfl, rfl, b4, hBk⟩ := hrel
    by_cases hlt : k < ds.length
    · obtain ⟨c0, c1, c2, c3⟩ := four_at hcd.out hg hBk hlt
      rw [Nat.zero_add] at c0 c1 c2 c3
      have hp := hok.out.lt _ (List.getElem_mem hlt)
      have hla := lastI_lt hok.out.order hlt
      have hmt := meets_take hok.out.disj hlt
      have hwh := hok.out.whole _ (List.getElem_mem hlt)
      have hls := Lib.hid (lastI_succ hlt)
      have hor := Lib.hid (orAll_snoc (ds.take k) ds[k])
      have hap : ∀ j, (hj : j < k) → Apart ss ds[j] ds[k] := fun j hj => List.pairwise_iff_getElem.1 hok.out.apart j k (by omega) hlt hj
      have htk := Lib.hid (List.take_succ_eq_append_getElem hlt)
      have hal := orAll_lt (ds.take k) fun q hq => (hok.out.lt q (List.mem_of_mem_take hq)).2
      generalize hpd : ds[k] = p at c0 c1 c2 c3 hp hla hmt hwh hls hor hap htk
      clear hpd
      generalize hao : orAll (ds.take k) = ao at b4 hmt hor hal
      generalize lastI ds k = la at hla
      have HF := fun w => first_least hp.2 hp.1 w
      have hl256 := (least_at hp.2 hp.1).2.1
      have HM := fun w => meets_any ao p hal w
      rw [decide_eq_true hmt] at HM
      have HO := fun w => or_any ao p w
      unfold setV setA at HF HM HO
      replace hwh := Lib.hid hwh
      replace hap := Lib.hid hap
      replace hao := Lib.hid hao
      replace hmt := Lib.hid hmt
      replace hp := Lib.hid hp
      go_wp2_with fail
      refine (HF _).mono ?_
      rintro e w4 ⟨rfl, h4⟩
      have hB4 := bthen (below1 wr _) h4.below
      have b7 := (blkOf1 wr #[.int .u64 (Sx.wd p 0), .int .u64 (Sx.wd p 1), .int .u64 (Sx.wd p 2), .int .u64 (Sx.wd p 3)] 24).later h4
      have bA := b4.laterB hB4
      have hwr := hBk.size
      have hltA := b4.lt
      have hs4 := hB4.size
      have hz7 := b7.lt
      clear h4 HF c0 c1 c2 c3
      obtain ⟨a0, a1, a2, a3, _⟩ := (show Blk w4 _ #[_, _, _, _] 24 from bA).four
      obtain ⟨p0, p1, p2, p3, _⟩ := b7.four
      go_wp2_with fail
      refine (HM _).mono ?_
      rintro e w5 ⟨rfl, h5⟩
      replace bA := bA.later h5
      replace b7 := b7.later h5
      have hB5 := bthen hB4 (h5.below.mono (Nat.le_refl _))
      clear a0 a1 a2 a3 p0 p1 p2 p3 h5 HM
      obtain ⟨a0, a1, a2, a3, _⟩ := (show Blk w5 _ #[_, _, _, _] 24 from bA).four
      obtain ⟨p0, p1, p2, p3, _⟩ := b7.four
      go_wp2_with fail
      refine (HO _).mono ?_
      rintro e w6 ⟨rfl, h6⟩
      replace bA := bA.later h6
      replace b7 := b7.later h6
      have hB6 := bthen hB5 (h6.below.mono (Nat.le_refl _))
      clear a0 a1 a2 a3 p0 p1 p2 p3 h6 HO
      obtain ⟨a0, a1, a2, a3, f0, f1, f2, f3⟩ := (show Blk w6 _ #[_, _, _, _] 24 from bA).four
      go_wp2_with fail
      obtain ⟨W7, hW7⟩ : ∃ W7, W7 = ((((w6.setCell ⟨w2.heap.size, 0, none⟩ (.int .u64 (Sx.wd (Sx.or ao p) 0))).setCell ⟨w2.heap.size, 1, none⟩ (.int .u64 (Sx.wd (Sx.or ao p) 1))).setCell ⟨w2.heap.size, 2, none⟩ (.int .u64 (Sx.wd (Sx.or ao p) 2))).setCell ⟨w2.heap.size, 3, none⟩ (.int .u64 (Sx.wd (Sx.or ao p) 3))) := ⟨_, rfl⟩
      have bA7 : Blk W7 w2.heap.size (setA (Sx.or ao p)) 24 := by rw [hW7]; exact Blk.setFour (show Blk w6 _ #[_, _, _, _] 24 from bA) _ _ _ _
      have b77 : Blk W7 wr.heap.size (setA p) 24 := by rw [hW7]; exact b7.otherFour (by omega) _ _ _ _
      have hB7 : Below w2.heap.size w2 W7 := by rw [hW7]; exact bfour (hBk.trans (hB6.mono hBk.size)) (Nat.le_refl _) _ _ _ _
      rw [← hW7]
      clear hW7 a0 a1 a2 a3 f0 f1 f2 f3 bA b7 hB4 hB5 hB6 b4 hs4 hltA hz7 hla
      obtain ⟨wo, rfl⟩ : ∃ wo : World, wo = wr := ⟨_, rfl⟩
      go_loopw [58] (fun i wx => ∃ j : Nat, j ≤ ss.length ∧ i = .int .i64 j ∧ Below W7.heap.size W7 wx) (fun i _ => ss.length - (intOf i).toNat)
      case atStart => exact ⟨0, by omega, rfl, Below.refl _ _⟩
      case round =>
        obtain ⟨j, hj, rfl, hBj⟩ := hrel
        by_cases hltj : j < ss.length
        · obtain ⟨c0, c1, c2, c3⟩ := four_at hcs2.out hb2 (hB7.trans (hBj.mono hB7.size)) hltj
          have hs := hss.out _ (List.getElem_mem hltj)
          have hw := hwh.out _ (List.getElem_mem hltj)
          generalize ss[j] = s at c0 c1 c2 c3 hs hw
          obtain ⟨a0, a1, a2, a3, _⟩ := (show Blk wr _ #[_, _, _, _] 24 from b77.laterB hBj).four
          have b7j := (b77.laterB hBj).alloc (.cells #[.int .u64 (Sx.wd s 0), .int .u64 (Sx.wd s 1), .int .u64 (Sx.wd s 2), .int .u64 (Sx.wd s 3)] 24)
          have b11 := blkOf1 wr #[.int .u64 (Sx.wd s 0), .int .u64 (Sx.wd s 1), .int .u64 (Sx.wd s 2), .int .u64 (Sx.wd s 3)] 24
          have hB11 := below1 wr (.cells #[.int .u64 (Sx.wd s 0), .int .u64 (Sx.wd s 1), .int .u64 (Sx.wd s 2), .int .u64 (Sx.wd s 3)] 24)
          have hzj := b77.lt
          have hzs := hBj.size
          have hzw : wo.heap.size < wr.heap.size := by omega
          have HM := fun w => meets_any s p hs w
          have HW := fun w => within_any p s hp.out.2 w
          have hwd : (Sx.and s p = 0) ∨ (Sx.less p s = 0 ∧ ¬ Sx.and s p = 0) := by
            rcases hw with h | h
            · exact .inl (and_symm h)
            · exact .inr ⟨h, fun e => not_within hp.out.1 (and_symm e) h⟩
          rcases hwd with h | ⟨h, h'⟩
          · rw [decide_eq_true h] at HM
            unfold setV setA at HM
            clear h hw HW
            go_wp2_with fail
            refine (HM _).mono ?_
            rintro e wy ⟨rfl, hy⟩
            have hBy := hBj.trans ((hB11.trans (hy.below.mono (by simp))).mono hBj.size)
            clear HM hy b7j b11 hB11 c0 c1 c2 c3 a0 a1 a2 a3
            go_wp2
            go_roundw
            case rel => exact ⟨j + 1, by omega, by go_num, hBy⟩
            case measure => simp [intOf]; omega
          · rw [decide_eq_false h'] at HM
            rw [decide_eq_true h] at HW
            unfold setV setA at HM HW
            clear h h' hw
            go_wp2_with fail
            refine (HM _).mono ?_
            rintro e wy ⟨rfl, hy⟩
            replace b7j := b7j.later hy
            replace b11 := b11.later hy
            replace hB11 := hB11.trans (hy.below.mono (by simp))
            clear a0 a1 a2 a3
            obtain ⟨a0, a1, a2, a3, _⟩ := (show Blk wy _ #[_, _, _, _] 24 from b7j).four
            obtain ⟨d0, d1, d2, d3, _⟩ := b11.four
            clear HM hy c0 c1 c2 c3
            go_wp2_with fail
            refine (HW _).mono ?_
            rintro e wz ⟨rfl, hz⟩
            have hBz := hBj.trans ((bthen hB11 (hz.below.mono (Nat.le_refl _))).mono hBj.size)
            clear HW hz b7j b11 hB11 a0 a1 a2 a3 d0 d1 d2 d3
            go_wp2
            go_roundw
            case rel => exact ⟨j + 1, by omega, by go_num, hBz⟩
            case measure => simp [intOf]; omega
        · obtain rfl : j = ss.length := by omega
          have b78 := b77.laterB hBj
          have bA8 := bA7.laterB hBj
          have hB8 := hB7.trans (hBj.mono hB7.size)
          obtain ⟨w8, rfl⟩ : ∃ w8 : World, w8 = wr := ⟨_, rfl⟩
          clear hBj hB7 bA7 b77
          go_wp2_with fail
          go_loopw [76] (fun i wx => ∃ j : Nat, j ≤ k ∧ i = .int .i64 j ∧ Below w8.heap.size w8 wx) (fun i _ => k - (intOf i).toNat)
          case atStart => exact ⟨0, by omega, rfl, Below.refl _ _⟩
          case round =>
            obtain ⟨j, hj, rfl, hBj⟩ := hrel
            by_cases hltj : j < k
            · obtain ⟨c0, c1, c2, c3⟩ := four_at hcd.out hg (hB8.trans (hBj.mono hB8.size)) (show j < ds.length by omega)
              rw [Nat.zero_add] at c0 c1 c2 c3
              have hq := hok.out.lt _ (List.getElem_mem (show j < ds.length by omega))
              have hapj := apartB_of (hap.out j hltj).symm
              generalize ds[j] = q at c0 c1 c2 c3 hq hapj
              replace hapj := Lib.hid hapj
              have hq2 := hq.2
              clear hq
              have b13 := blkOf1 wr #[.int .u64 (Sx.wd q 0), .int .u64 (Sx.wd q 1), .int .u64 (Sx.wd q 2), .int .u64 (Sx.wd q 3)] 24
              have hB13 := below1 wr (.cells #[.int .u64 (Sx.wd q 0), .int .u64 (Sx.wd q 1), .int .u64 (Sx.wd q 2), .int .u64 (Sx.wd q 3)] 24)
              go_wp2_with fail
              obtain ⟨W9, hW9⟩ : ∃ W9, W9 = wr.alloc (.cells #[.int .u64 (Sx.wd q 0), .int .u64 (Sx.wd q 1), .int .u64 (Sx.wd q 2), .int .u64 (Sx.wd q 3)] 24) := ⟨_, rfl⟩
              rw [← hW9] at b13 hB13 ⊢
              clear hW9 c0 c1 c2 c3
              have b79 := (b78.laterB hBj).laterB hB13
              have hB9 := hBj.trans (hB13.mono hBj.size)
              obtain ⟨wj, rfl⟩ : ∃ wj : World, wj = wr := ⟨_, rfl⟩
              go_loopw [82, 14] (fun i ap wx => ∃ r : Nat, r ≤ ss.length ∧ i = .int .i64 r ∧ ap = .bool (apartB (ss.take r) p q) ∧ Below W9.heap.size W9 wx) (fun i _ _ => ss.length - (intOf i).toNat)
              case atStart => exact ⟨0, by omega, rfl, rfl, Below.refl _ _⟩
              case round =>
                obtain ⟨r, hr, rfl, rfl, hBc⟩ := hrel
                by_cases hltr : r < ss.length
                · obtain ⟨c0, c1, c2, c3⟩ := four_at hcs2.out hb2 (hB8.trans ((hB9.trans (hBc.mono hB9.size)).mono hB8.size)) hltr
                  have hsn := Lib.hid (show apartB (ss.take (r + 1)) p q = _ by rw [List.take_succ_eq_append_getElem hltr, apartB_snoc])
                  generalize ss[r] = s at c0 c1 c2 c3 hsn
                  have HW1 := fun w => within_any p s hp.out.2 w
                  have HW2 := fun w => within_any q s hq2 w
                  have b7c := (b79.laterB hBc)
                  have b13c := (b13.laterB hBc)
                  have b16 := blkOf1 wr #[.int .u64 (Sx.wd s 0), .int .u64 (Sx.wd s 1), .int .u64 (Sx.wd s 2), .int .u64 (Sx.wd s 3)] 24
                  have hB16 := below1 wr (.cells #[.int .u64 (Sx.wd s 0), .int .u64 (Sx.wd s 1), .int .u64 (Sx.wd s 2), .int .u64 (Sx.wd s 3)] 24)
                  cases hab : apartB (ss.take r) p q <;> rw [hab] at hsn <;> clear hab
                  · rw [Bool.false_or] at hsn
                    go_wp2_with fail
                    obtain ⟨W10, hW10⟩ : ∃ W10, W10 = wr.alloc (.cells #[.int .u64 (Sx.wd s 0), .int .u64 (Sx.wd s 1), .int .u64 (Sx.wd s 2), .int .u64 (Sx.wd s 3)] 24) := ⟨_, rfl⟩
                    rw [← hW10] at b16 hB16 ⊢
                    replace b7c := b7c.laterB hB16
                    have b13 := b13c.laterB hB16
                    clear hW10 c0 c1 c2 c3
                    refine wp_region_old 104 [.eq (.bool false), .eq (.bool false), .eq (setV p), .eq (setV s), .eq (.bool (decide (Sx.less p s = 0))), .eq (setV q), .eq (setV s), .eq (.bool (decide (Sx.less q s = 0))), .eq (.bool (decide (Sx.less p s = 0) != decide (Sx.less q s = 0))), .eq (.bool (decide (Sx.less p s = 0) != decide (Sx.less q s = 0))), .eq (.bool (decide (Sx.less p s = 0) != decide (Sx.less q s = 0)))] mixed rfl (by kernel_rfl) ?_ ?_
                    · refine ⟨?_, ?_, ?_, ?_, ?_, ?_, ?_, ?_, ?_, ?_, ?_, trivial⟩
                      · intro vs a w hR H hout hget hold
                        refine one_free rfl ?_
                        have e0 := hold 10 14 (by kernel_rfl) (by kernel_rfl)
                        clear H hout hget hold
                        dsimp only [bare]
                        go_wp2
                        exact ⟨_, rfl, shows0 hR rfl⟩
                      · intro vs a w hR H hout hget hold
                        refine one_free rfl ?_
                        have e0 := (hget 0 86 (by kernel_rfl)).trans (congrArg some (H 0 (by decide)))
                        clear H hout hget hold
                        dsimp only [bare]
                        go_wp2
                        exact ⟨_, rfl, shows0 hR rfl⟩
                      · intro vs a w hR H hout hget hold
                        refine one_guard 1 false 87 rfl (by kernel_rfl) ((hget 1 87 (by kernel_rfl)).trans (congrArg some (H 1 (by decide)))) ?_
                        have e0 := hout 7 (by kernel_rfl)
                        obtain ⟨c0, c1, c2, c3, _⟩ := (show Blk w _ #[_, _, _, _] 24 from b7c.laterB hR).four
                        clear H hout hget hold
                        dsimp only [bare]
                        go_wp2
                        exact ⟨_, rfl, shows0 hR rfl⟩
                      · intro vs a w hR H hout hget hold
                        refine one_guard 1 false 87 rfl (by kernel_rfl) ((hget 1 87 (by kernel_rfl)).trans (congrArg some (H 1 (by decide)))) ?_
                        have e0 := hout 16 (by kernel_rfl)
                        obtain ⟨c0, c1, c2, c3, _⟩ := (show Blk w _ #[_, _, _, _] 24 from b16.laterB hR).four
                        clear H hout hget hold
                        dsimp only [bare]
                        go_wp2
                        exact ⟨_, rfl, shows0 hR rfl⟩
                      · intro vs a w hR H hout hget hold
                        refine one_guard 1 false 87 rfl (by kernel_rfl) ((hget 1 87 (by kernel_rfl)).trans (congrArg some (H 1 (by decide)))) ?_
                        have e0 := (hget 2 88 (by kernel_rfl)).trans (congrArg some (H 2 (by decide)))
                        have e1 := (hget 3 89 (by kernel_rfl)).trans (congrArg some (H 3 (by decide)))
                        clear H hout hget hold
                        dsimp only [bare]
                        go_wp2_with fail
                        refine (HW1 w).mono ?_
                        rintro e w1 ⟨rfl, hb⟩
                        go_wp2
                        exact ⟨_, rfl, shows hR hb.below rfl⟩
                      · intro vs a w hR H hout hget hold
                        refine one_guard 1 false 87 rfl (by kernel_rfl) ((hget 1 87 (by kernel_rfl)).trans (congrArg some (H 1 (by decide)))) ?_
                        have e0 := hout 13 (by kernel_rfl)
                        obtain ⟨c0, c1, c2, c3, _⟩ := (show Blk w _ #[_, _, _, _] 24 from b13.laterB hR).four
                        clear H hout hget hold
                        dsimp only [bare]
                        go_wp2
                        exact ⟨_, rfl, shows0 hR rfl⟩
                      · intro vs a w hR H hout hget hold
                        refine one_guard 1 false 87 rfl (by kernel_rfl) ((hget 1 87 (by kernel_rfl)).trans (congrArg some (H 1 (by decide)))) ?_
                        have e0 := hout 16 (by kernel_rfl)
                        obtain ⟨c0, c1, c2, c3, _⟩ := (show Blk w _ #[_, _, _, _] 24 from b16.laterB hR).four
                        clear H hout hget hold
                        dsimp only [bare]
                        go_wp2
                        exact ⟨_, rfl, shows0 hR rfl⟩
                      · intro vs a w hR H hout hget hold
                        refine one_guard 1 false 87 rfl (by kernel_rfl) ((hget 1 87 (by kernel_rfl)).trans (congrArg some (H 1 (by decide)))) ?_
                        have e0 := (hget 5 91 (by kernel_rfl)).trans (congrArg some (H 5 (by decide)))
                        have e1 := (hget 6 92 (by kernel_rfl)).trans (congrArg some (H 6 (by decide)))
                        clear H hout hget hold
                        dsimp only [bare]
                        go_wp2_with fail
                        refine (HW2 w).mono ?_
                        rintro e w1 ⟨rfl, hb⟩
                        go_wp2
                        exact ⟨_, rfl, shows hR hb.below rfl⟩
                      · intro vs a w hR H hout hget hold
                        refine one_guard 1 false 87 rfl (by kernel_rfl) ((hget 1 87 (by kernel_rfl)).trans (congrArg some (H 1 (by decide)))) ?_
                        have e0 := (hget 4 90 (by kernel_rfl)).trans (congrArg some (H 4 (by decide)))
                        have e1 := (hget 7 93 (by kernel_rfl)).trans (congrArg some (H 7 (by decide)))
                        clear H hout hget hold
                        dsimp only [bare]
                        go_wp2
                        exact ⟨_, rfl, shows0 hR rfl⟩
                      · intro vs a w hR H hout hget hold
                        refine one_free rfl ?_
                        have e0 := (hget 1 87 (by kernel_rfl)).trans (congrArg some (H 1 (by decide)))
                        have e1 := (hget 8 94 (by kernel_rfl)).trans (congrArg some (H 8 (by decide)))
                        clear H hout hget hold
                        dsimp only [bare]
                        go_wp2
                        exact ⟨_, rfl, shows0 hR rfl⟩
                      · intro vs a w hR H hout hget hold
                        refine one_free rfl ?_
                        have e0 := (hget 9 95 (by kernel_rfl)).trans (congrArg some (H 9 (by decide)))
                        clear H hout hget hold
                        dsimp only [bare]
                        go_wp2
                        exact ⟨_, rfl, shows0 hR rfl⟩
                    · intro vs wz hR H
                      have e10 : vs 10 = .bool (decide (Sx.less p s = 0) != decide (Sx.less q s = 0)) := H 10 (by decide)
                      have hBz := hBc.trans ((hB16.trans (hR.mono hB16.size)).mono hBc.size)
                      simp only [putAll, Act.put, List.setIfInBounds_toArray, List.set_cons_succ, List.set_cons_zero, Nat.zero_add, Nat.reduceAdd, e10]
                      clear H hR e10 b16 hB16
                      go_wp2
                      go_roundw
                      case rel => exact ⟨r + 1, by omega, by go_num, by rw [hsn.out], hBz⟩
                      case measure => simp [intOf]; omega
                  · rw [Bool.true_or] at hsn
                    go_wp2_with fail
                    obtain ⟨W10, hW10⟩ : ∃ W10, W10 = wr.alloc (.cells #[.int .u64 (Sx.wd s 0), .int .u64 (Sx.wd s 1), .int .u64 (Sx.wd s 2), .int .u64 (Sx.wd s 3)] 24) := ⟨_, rfl⟩
                    rw [← hW10] at b16 hB16 ⊢
                    clear hW10 c0 c1 c2 c3
                    refine wp_region_old 104 [.eq (.bool true), .eq (.bool true), .any, .any, .any, .any, .any, .any, .any, .eq (.bool true), .eq (.bool true)] mixed rfl (by kernel_rfl) ?_ ?_
                    · refine ⟨?_, ?_, ?_, ?_, ?_, ?_, ?_, ?_, ?_, ?_, ?_, trivial⟩
                      · intro vs a w hR H hout hget hold
                        refine one_free rfl ?_
                        have e0 := hold 10 14 (by kernel_rfl) (by kernel_rfl)
                        clear H hout hget hold
                        dsimp only [bare]
                        go_wp2
                        exact ⟨_, rfl, shows0 hR rfl⟩
                      · intro vs a w hR H hout hget hold
                        refine one_free rfl ?_
                        have e0 := (hget 0 86 (by kernel_rfl)).trans (congrArg some (H 0 (by decide)))
                        clear H hout hget hold
                        dsimp only [bare]
                        go_wp2
                        exact ⟨_, rfl, shows0 hR rfl⟩
                      · intro vs a w hR H hout hget hold
                        exact one_skip 1 false 87 rfl (by kernel_rfl) ((hget 1 87 (by kernel_rfl)).trans (congrArg some (H 1 (by decide)))) (shows0 hR trivial)
                      · intro vs a w hR H hout hget hold
                        exact one_skip 1 false 87 rfl (by kernel_rfl) ((hget 1 87 (by kernel_rfl)).trans (congrArg some (H 1 (by decide)))) (shows0 hR trivial)
                      · intro vs a w hR H hout hget hold
                        exact one_skip 1 false 87 rfl (by kernel_rfl) ((hget 1 87 (by kernel_rfl)).trans (congrArg some (H 1 (by decide)))) (shows0 hR trivial)
                      · intro vs a w hR H hout hget hold
                        exact one_skip 1 false 87 rfl (by kernel_rfl) ((hget 1 87 (by kernel_rfl)).trans (congrArg some (H 1 (by decide)))) (shows0 hR trivial)
                      · intro vs a w hR H hout hget hold
                        exact one_skip 1 false 87 rfl (by kernel_rfl) ((hget 1 87 (by kernel_rfl)).trans (congrArg some (H 1 (by decide)))) (shows0 hR trivial)
                      · intro vs a w hR H hout hget hold
                        exact one_skip 1 false 87 rfl (by kernel_rfl) ((hget 1 87 (by kernel_rfl)).trans (congrArg some (H 1 (by decide)))) (shows0 hR trivial)
                      · intro vs a w hR H hout hget hold
                        exact one_skip 1 false 87 rfl (by kernel_rfl) ((hget 1 87 (by kernel_rfl)).trans (congrArg some (H 1 (by decide)))) (shows0 hR trivial)
                      · intro vs a w hR H hout hget hold
                        refine one_free rfl ?_
                        have e0 := (hget 1 87 (by kernel_rfl)).trans (congrArg some (H 1 (by decide)))
                        clear H hout hget hold
                        dsimp only [bare]
                        go_wp2
                        exact ⟨_, rfl, shows0 hR rfl⟩
                      · intro vs a w hR H hout hget hold
                        refine one_free rfl ?_
                        have e0 := (hget 9 95 (by kernel_rfl)).trans (congrArg some (H 9 (by decide)))
                        clear H hout hget hold
                        dsimp only [bare]
                        go_wp2
                        exact ⟨_, rfl, shows0 hR rfl⟩
                    · intro vs wz hR H
                      have e10 : vs 10 = .bool true := H 10 (by decide)
                      have hBz := hBc.trans ((hB16.trans (hR.mono hB16.size)).mono hBc.size)
                      simp only [putAll, Act.put, List.setIfInBounds_toArray, List.set_cons_succ, List.set_cons_zero, Nat.zero_add, Nat.reduceAdd, e10]
                      clear H hR e10 b16 hB16
                      go_wp2
                      go_roundw
                      case rel => exact ⟨r + 1, by omega, by go_num, by rw [hsn.out], hBz⟩
                      case measure => simp [intOf]; omega
                · obtain rfl : r = ss.length := by omega
                  rw [List.take_length, hapj.out]
                  have hBf := hB9.trans (hBc.mono hB9.size)
                  clear hBc hB9 b79 b13
                  go_wp2
                  go_roundw
                  case rel => exact ⟨j + 1, by omega, by go_num, hBf⟩
                  case measure => simp [intOf]; omega
            · obtain rfl : j = k := by omega
              have bA9 := bA8.laterB hBj
              have hB9 := hB8.trans (hBj.mono hB8.size)
              go_wp2
              go_roundw
              case rel =>
                refine ⟨j + 1, by omega, by go_num, by rw [hls.out], ?_, hB9⟩
                rw [htk.out, hor.out]; exact bA9
              case measure => simp [intOf]; omega
    · obtain rfl : k = ds.length := by omega
      rw [List.take_length, hok.out.all] at b4
      have HE := fun w => eqlSet Sx.full_lt Sx.full_lt w
      rw [decide_eq_true rfl] at HE
      replace HE := Lib.hid HE
      go_wp2_with fail
      refine wp_region_facts 104 [.eq (setV Sx.full), .eq (setV Sx.full), .eq (.bool true), .eq (.bool true)] mixed rfl (by kernel_rfl) ?_ ?_
      · refine ⟨?_, ?_, ?_, ?_, trivial⟩
        · intro vs a w hR H hin hout hget
          refine one_free rfl ?_
          have e0 := hout 4 (by kernel_rfl)
          obtain ⟨c0, c1, c2, c3, _⟩ := (show Blk w _ #[_, _, _, _] 24 from b4.laterB hR).four
          clear H hin hout hget
          dsimp only [bare]
          go_wp2
          exact ⟨_, rfl, shows0 hR rfl⟩
        · intro vs a w hR H hin hout hget
          refine one_free rfl ?_
          clear H hin hout hget
          dsimp only [bare]
          go_wp2_with fail
          refine (all_any w).mono ?_
          rintro e w1 ⟨rfl, hb⟩
          go_wp2
          exact ⟨_, rfl, shows hR hb.below rfl⟩
        · intro vs a w hR H hin hout hget
          refine one_free rfl ?_
          have e0 := (hget 0 101 (by kernel_rfl)).trans (congrArg some (H 0 (by decide)))
          have e1 := (hget 1 102 (by kernel_rfl)).trans (congrArg some (H 1 (by decide)))
          have HE := HE.out
          have HG := guardSetV
          clear H hin hout hget
          dsimp only [bare]
          go_wp2
          exact ⟨_, rfl, shows0 hR rfl⟩
        · intro vs a w hR H hin hout hget
          refine one_free rfl ?_
          have e0 := (hget 2 103 (by kernel_rfl)).trans (congrArg some (H 2 (by decide)))
          clear H hin hout hget
          dsimp only [bare]
          go_wp2
          exact ⟨_, rfl, shows0 hR rfl⟩
      · intro vs wz hR H
        have e3 : vs 3 = .bool true := H 3 (by decide)
        simp only [putAll, Act.put, List.setIfInBounds_toArray, List.set_cons_succ, List.set_cons_zero, Nat.zero_add, Nat.reduceAdd, e3]
        have hBz := hB.trans ((hBk.trans (hR.mono hBk.size)).mono hB.size)
        clear H hR e3 HE
        go_wp2
        go_ret
        exact ⟨rfl, hBz⟩

set_option maxRecDepth 100000 in
set_option maxHeartbeats 4000000 in
theorem setsParts_none (w : World) : Calls Try.prog 6 #[.slice none 0 0] w fun e w' => e = .returned (.bool true) ∧ Below w.heap.size w w' := by
  have HA := fun w => awake_any w
  go_enter Try.func6, Try.ntmps6
  go_wp2_with fail
  refine (HA _).mono ?_
  rintro e w1 ⟨rfl, hB⟩
  clear HA
  go_wp2_with fail
  refine (parts_none w1).mono ?_
  rintro e w2 ⟨g, cap3, ds, rfl, ⟨_, hsl⟩, hperm, hsort, hB2, hcl, hcm⟩
  unfold maxLen at hcm
  have hok := parts_ok hperm hsort
  have hone : ds.length = 1 := hperm.length_eq
  clear hperm hsort
  obtain ⟨h, _⟩ | ⟨g', o', cap', hge, hg, hcd⟩ := hsl
  · cases h
  cases hge
  replace hB := hB.trans (hB2.mono hB.size)
  clear hB2
  have hdpos : 0 < ds.length := by omega
  have hd1 : ds.length ≤ 1 := by omega
  clear hone
  replace hcd := Lib.hid hcd
  replace hok := Lib.hid hok
  go_wp2_with fail
  go_loopw [28, 5] (fun i la wr => ∃ k : Nat, k ≤ ds.length ∧ i = .int .i64 k ∧ la = .int .i64 (lastI ds k) ∧ Blk wr w2.heap.size (setA (orAll (ds.take k))) 24 ∧ Below w2.heap.size w2 wr) (fun i _ _ => ds.length - (intOf i).toNat)
  case atStart =>
    refine ⟨0, by omega, rfl, rfl, ?_, below1 w2 _⟩
    rw [List.take_zero, orAll, setA_zero]; exact blkOf1 w2 _ _
  case round =>
    obtain ⟨k, hk, rfl, rfl, b4, hBk⟩ := hrel
    by_cases hlt : k < ds.length
    · obtain ⟨c0, c1, c2, c3⟩ := four_at hcd.out hg hBk hlt
      rw [Nat.zero_add] at c0 c1 c2 c3
      have hp := hok.out.lt _ (List.getElem_mem hlt)
      have hla := lastI_lt hok.out.order hlt
      have hmt := meets_take hok.out.disj hlt
      have hls := Lib.hid (lastI_succ hlt)
      have hor := Lib.hid (orAll_snoc (ds.take k) ds[k])
      have htk := Lib.hid (List.take_succ_eq_append_getElem hlt)
      have hal := orAll_lt (ds.take k) fun q hq => (hok.out.lt q (List.mem_of_mem_take hq)).2
      generalize hpd : ds[k] = p at c0 c1 c2 c3 hp hla hmt hls hor htk
      clear hpd
      generalize hao : orAll (ds.take k) = ao at b4 hmt hor hal
      generalize lastI ds k = la at hla
      have HF := fun w => first_least hp.2 hp.1 w
      have hl256 := (least_at hp.2 hp.1).2.1
      have HM := fun w => meets_any ao p hal w
      rw [decide_eq_true hmt] at HM
      have HO := fun w => or_any ao p w
      unfold setV setA at HF HM HO
      replace hao := Lib.hid hao
      replace hmt := Lib.hid hmt
      replace hp := Lib.hid hp
      go_wp2_with fail
      refine (HF _).mono ?_
      rintro e w4 ⟨rfl, h4⟩
      have hB4 := bthen (below1 wr _) h4.below
      have b7 := (blkOf1 wr #[.int .u64 (Sx.wd p 0), .int .u64 (Sx.wd p 1), .int .u64 (Sx.wd p 2), .int .u64 (Sx.wd p 3)] 24).later h4
      have bA := b4.laterB hB4
      have hwr := hBk.size
      have hltA := b4.lt
      have hs4 := hB4.size
      have hz7 := b7.lt
      clear h4 HF c0 c1 c2 c3
      obtain ⟨a0, a1, a2, a3, _⟩ := (show Blk w4 _ #[_, _, _, _] 24 from bA).four
      obtain ⟨p0, p1, p2, p3, _⟩ := b7.four
      go_wp2_with fail
      refine (HM _).mono ?_
      rintro e w5 ⟨rfl, h5⟩
      replace bA := bA.later h5
      replace b7 := b7.later h5
      have hB5 := bthen hB4 (h5.below.mono (Nat.le_refl _))
      clear a0 a1 a2 a3 p0 p1 p2 p3 h5 HM
      obtain ⟨a0, a1, a2, a3, _⟩ := (show Blk w5 _ #[_, _, _, _] 24 from bA).four
      obtain ⟨p0, p1, p2, p3, _⟩ := b7.four
      go_wp2_with fail
      refine (HO _).mono ?_
      rintro e w6 ⟨rfl, h6⟩
      replace bA := bA.later h6
      replace b7 := b7.later h6
      have hB6 := bthen hB5 (h6.below.mono (Nat.le_refl _))
      clear a0 a1 a2 a3 p0 p1 p2 p3 h6 HO
      obtain ⟨a0, a1, a2, a3, f0, f1, f2, f3⟩ := (show Blk w6 _ #[_, _, _, _] 24 from bA).four
      go_wp2_with fail
      obtain ⟨W7, hW7⟩ : ∃ W7, W7 = ((((w6.setCell ⟨w2.heap.size, 0, none⟩ (.int .u64 (Sx.wd (Sx.or ao p) 0))).setCell ⟨w2.heap.size, 1, none⟩ (.int .u64 (Sx.wd (Sx.or ao p) 1))).setCell ⟨w2.heap.size, 2, none⟩ (.int .u64 (Sx.wd (Sx.or ao p) 2))).setCell ⟨w2.heap.size, 3, none⟩ (.int .u64 (Sx.wd (Sx.or ao p) 3))) := ⟨_, rfl⟩
      have bA7 : Blk W7 w2.heap.size (setA (Sx.or ao p)) 24 := by rw [hW7]; exact Blk.setFour (show Blk w6 _ #[_, _, _, _] 24 from bA) _ _ _ _
      have b77 : Blk W7 wr.heap.size (setA p) 24 := by rw [hW7]; exact b7.otherFour (by omega) _ _ _ _
      have hB7 : Below w2.heap.size w2 W7 := by rw [hW7]; exact bfour (hBk.trans (hB6.mono hBk.size)) (Nat.le_refl _) _ _ _ _
      rw [← hW7]
      clear hW7 a0 a1 a2 a3 f0 f1 f2 f3 bA b7 hB4 hB5 hB6 b4 hs4 hltA hz7 hla
      obtain ⟨wo, rfl⟩ : ∃ wo : World, wo = wr := ⟨_, rfl⟩
      go_loopw [58] (fun i wx => i = .int .i64 0 ∧ Below W7.heap.size W7 wx) (fun _ _ => 0)
      case atStart => exact ⟨rfl, Below.refl _ _⟩
      case round =>
        obtain ⟨rfl, hBj⟩ := hrel
        have bA8 := bA7.laterB hBj
        have hB8 := hB7.trans (hBj.mono hB7.size)
        obtain ⟨w8, rfl⟩ : ∃ w8 : World, w8 = wr := ⟨_, rfl⟩
        obtain rfl : k = 0 := by omega
        clear hBj hB7 bA7 b77
        go_wp2_with fail
        go_loopw [76] (fun i wx => i = .int .i64 0 ∧ Below w8.heap.size w8 wx) (fun _ _ => 0)
        case atStart => exact ⟨rfl, Below.refl _ _⟩
        case round =>
          obtain ⟨rfl, hBj⟩ := hrel
          have bA9 := bA8.laterB hBj
          have hB9 := hB8.trans (hBj.mono hB8.size)
          go_wp2
          go_roundw
          case rel =>
            refine ⟨1, by omega, by go_num, by rw [hls.out], ?_, hB9⟩
            rw [htk.out, hor.out]; exact bA9
          case measure => first | (simp [intOf]; done) | (simp [intOf]; omega)
    · obtain rfl : k = ds.length := by omega
      rw [List.take_length, hok.out.all] at b4
      have HE := fun w => eqlSet Sx.full_lt Sx.full_lt w
      rw [decide_eq_true rfl] at HE
      replace HE := Lib.hid HE
      go_wp2_with fail
      refine wp_region_facts 104 [.eq (setV Sx.full), .eq (setV Sx.full), .eq (.bool true), .eq (.bool true)] mixed rfl (by kernel_rfl) ?_ ?_
      · refine ⟨?_, ?_, ?_, ?_, trivial⟩
        · intro vs a w hR H hin hout hget
          refine one_free rfl ?_
          have e0 := hout 4 (by kernel_rfl)
          obtain ⟨c0, c1, c2, c3, _⟩ := (show Blk w _ #[_, _, _, _] 24 from b4.laterB hR).four
          clear H hin hout hget
          dsimp only [bare]
          go_wp2
          exact ⟨_, rfl, shows0 hR rfl⟩
        · intro vs a w hR H hin hout hget
          refine one_free rfl ?_
          clear H hin hout hget
          dsimp only [bare]
          go_wp2_with fail
          refine (all_any w).mono ?_
          rintro e w1 ⟨rfl, hb⟩
          go_wp2
          exact ⟨_, rfl, shows hR hb.below rfl⟩
        · intro vs a w hR H hin hout hget
          refine one_free rfl ?_
          have e0 := (hget 0 101 (by kernel_rfl)).trans (congrArg some (H 0 (by decide)))
          have e1 := (hget 1 102 (by kernel_rfl)).trans (congrArg some (H 1 (by decide)))
          have HE := HE.out
          have HG := guardSetV
          clear H hin hout hget
          dsimp only [bare]
          go_wp2
          exact ⟨_, rfl, shows0 hR rfl⟩
        · intro vs a w hR H hin hout hget
          refine one_free rfl ?_
          have e0 := (hget 2 103 (by kernel_rfl)).trans (congrArg some (H 2 (by decide)))
          clear H hin hout hget
          dsimp only [bare]
          go_wp2
          exact ⟨_, rfl, shows0 hR rfl⟩
      · intro vs wz hR H
        have e3 : vs 3 = .bool true := H 3 (by decide)
        simp only [putAll, Act.put, List.setIfInBounds_toArray, List.set_cons_succ, List.set_cons_zero, Nat.zero_add, Nat.reduceAdd, e3]
        have hBz := hB.trans ((hBk.trans (hR.mono hBk.size)).mono hB.size)
        clear H hR e3 HE
        go_wp2
        go_ret
        exact ⟨rfl, hBz⟩

theorem setsParts_any (v : Value) (b o cap : Nat) (ss : List Nat) (hv : v = .slice (some ⟨b, o, none⟩) ss.length cap) (hss : ∀ s ∈ ss, s < 2 ^ 256) (w : World) (hb : b < w.heap.size) (hc : ∀ i, i < ss.length * 4 → w.cell? ⟨b, o + i, none⟩ = (setCells ss)[i]?) (hcap : ss.length ≤ cap) :
    Calls Try.prog 6 #[v] w fun e w' => e = .returned (.bool true) ∧ Below w.heap.size w w' := by
  subst hv
  refine setsParts_some b o cap ss.length (ss.take 8) (fun s hs => hss s (List.mem_of_mem_take hs)) w hb (fun i hi => ?_) ?_ hcap
  · have hi' : i < (ss.take 8).length * 4 := hi
    have hl : (ss.take 8).length ≤ ss.length := by rw [List.length_take]; omega
    rw [hc i (by omega)]
    have e : setCells ss = setCells (ss.take 8) ++ setCells (ss.drop 8) := by rw [← setCells_app, List.take_append_drop]
    rw [e, List.getElem?_append_left (by rw [setCells_len]; exact hi')]
  · rw [List.length_take]; omega
end Go.Proofs.Ytojmkgllbhbeiaa
