/-
  WALKS: the closure of AlphabetSets.
-/
import Derived.Test.YtojmkgllbhbeiaaE9
import Derived.Test.YtojmkgllbhbeiaaE7
import Derived.Test.YtojmkgllbhbeiaaTs
namespace Go.Proofs.Ytojmkgllbhbeiaa
open Go.RowKit

theorem together_good {ss ds : List Nat} (hok : PartsOk ss ds) (b : Nat) (v : Value) (l : List Int) (w : World) (hA : Alph w b ds) (h : Sl w v 1 l.length (l.map intZ)) (hlen : l.length ≤ 140737488355328) (hall : l.all (isAt ds) = true) :
    Calls Try.prog 44 #[.pointer (some ⟨b, 0, none⟩), v] w fun e w' => e = .returned (.tuple #[setV (orAt ds l), .int .i64 0]) ∧ Below w.heap.size w w' := by
  refine (together_any hok b v l w hA h hlen).mono ?_
  rintro e w' ⟨hB, hr⟩
  rw [if_pos hall] at hr
  exact ⟨hr, hB⟩
/-- What the closure hands back. -/
def RetPick (L : Nat) (a : Nat → Bool) (S : Nat) (w : World) (e : Ending) (w' : World) : Prop :=
  ∃ A c, e = .returned (.tuple #[.slice A (pick L a).length c, setV S, .bool true]) ∧ Sl w' (.slice A (pick L a).length c) 1 (pick L a).length ((pick L a).map intZ) ∧ Below w.heap.size w w'

set_option maxRecDepth 100000 in
set_option maxHeartbeats 4000000 in
theorem sets_fn (A2 : Option Addr) (c2 n2 b b9 : Nat) (ss ds bs : List Nat) (hok : PartsOk ss ds) (hbs : ∀ c ∈ bs, c < 256) (u : World) (hA : Alph u b ds) (hk9 : Blk u b9 #[.pointer (some ⟨b, 0, none⟩)] 52)
    (hsl : ∀ u, (Instr.slice 44 (.slice A2 n2 c2) none (some (.int .i64 (min (n2 : Int) 50))) none).run Try.prog u = .ok (.slice A2 bs.length c2) u)
    (h2 : Sl u (.slice A2 bs.length c2) 1 bs.length (bs.map byteV)) (hn2 : bs.length ≤ 50) :
    Calls Try.prog 52 #[.slice A2 n2 c2, .pointer (some ⟨b9, 0, none⟩)] u (RetPick ds.length (fun n => (goods ds.length bs).contains (n : Int)) (orAt ds (goods ds.length bs)) u) := by
  obtain ⟨i0, hi, hz0, hz1, hz2⟩ := info_parts info3'
  have hpos := hok.pos
  have hle := hok.le256
  have hgall := goods_all hpos bs
  have hmade := Made.of_or hok (goods ds.length bs) hgall
  have hcp := compact_pick (goods ds.length bs) hgall
  have hiz := insideZ_made hok hmade
  have hL1 : (0 : Int) < ds.length := by omega
  have hL0 : (ds.length : Int) ≠ 0 := by omega
  have hL2 : (ds.length : Int) ≤ 256 := by omega
  replace h2 := Lib.hid h2
  replace hgall := Lib.hid hgall
  replace hmade := Lib.hid hmade
  replace hcp := Lib.hid hcp
  replace hiz := Lib.hid hiz
  go_enter Try.func52, Try.ntmps52
  obtain ⟨W1, hW1, k4, hB1⟩ : ∃ W1, W1 = u.alloc (.cells #[.int .u64 0, .int .u64 0, .int .u64 0, .int .u64 0] 24) ∧ Blk W1 u.heap.size #[.int .u64 0, .int .u64 0, .int .u64 0, .int .u64 0] 24 ∧ Below u.heap.size u W1 := ⟨_, rfl, blkOf1 u _ _, below1 u _⟩
  go_wp2_with fail
  rw [← hW1]
  clear hW1
  replace hA := hA.later hB1
  replace hk9 := hk9.laterB hB1
  replace h2 := Lib.hid (h2.out.laterB hB1)
  have hw1 : u.heap.size + 1 ≤ W1.heap.size := by have := k4.lt; omega
  have HL := Lib.hid fun w' (h : Below W1.heap.size W1 w') => len_any (hA.later h) hpos
  go_loopw [19, 6] (fun i v wr => ∃ k : Nat, k ≤ bs.length ∧ i = .int .i64 k ∧ wr.ownsRow W1.heap.size 3 1 v (goods ds.length (bs.take k)).length ((goods ds.length (bs.take k)).map intZ) ∧ Below W1.heap.size W1 wr) (fun i _ _ => bs.length - (intOf i).toNat)
  case atStart => exact ⟨0, by omega, rfl, World.ownsRow_nil _ _ _ _, Below.refl _ _⟩
  case round =>
    obtain ⟨k, hk, rfl, hrow, hB⟩ := hrel
    by_cases hlt : k < bs.length
    · obtain ⟨q2, o2, rfl, l2, r2⟩ := h2.out.at hlt
      replace r2 := (hB.cell (p := ⟨q2, o2 + k, none⟩) l2).trans (r2 k (by omega))
      rw [List.getElem?_map, List.getElem?_eq_getElem hlt] at r2
      replace r2 : wr.cell? ⟨q2, o2 + k, none⟩ = some (.int .u8 (bs[k] : Nat)) := r2
      have hc := hbs _ (List.getElem_mem hlt)
      have hgs := Lib.hid (goods_snoc ds.length hlt)
      have hgl : (goods ds.length (bs.take k)).length = k := by rw [goods_len, List.length_take]; omega
      have p9 := (hk9.laterB hB).cell 0
      generalize bs[k] = c at r2 hc hgs
      generalize goods ds.length (bs.take k) = qs at hrow hgs hgl
      subst hgl
      have hk0 : (0 : Int) ≤ (qs.length : Int) := Int.natCast_nonneg _
      have hk1 : (qs.length : Int) < (bs.length : Int) := by omega
      have hsz := hB.size
      clear h2
      go_wp2_with fail
      refine (HL.out _ hB).mono ?_
      rintro e w' ⟨rfl, rfl⟩
      clear HL p9
      go_wp2_with (at_builtin; go_must (refine wpList_append_own _ rfl _ _ 55 rfl W1.heap.size 3 i0 (.int .i64 0) 1 8 Try.underlying55 hi hz0 hz1 hz2 rfl (by decide) _ _ _ rfl (hrow.alloc _) ⟨wr.heap.size, 0, none⟩ 1 1 [intZ ((c : Int) % (ds.length : Int))] rfl rfl (cell_news _ _ _ _ rfl) (by simp [Value.oneCell', intZ]) (by unfold maxLen; omega) (by omega) (by simp; omega) ?_); intro v1 w5 hown1 hgrow1 hn1)
      have hb1' := grown_one' hrow hgrow1 (by omega)
      go_roundw
      case rel => exact ⟨qs.length + 1, by omega, by go_num, by rw [hgs.out]; simpa using hown1, hB.trans hb1'⟩
      case measure => simp [intOf]; omega
    · obtain rfl : k = bs.length := by omega
      rw [List.take_length] at hrow
      have hgl := goods_len ds.length bs
      obtain ⟨A3, c3, rfl, _⟩ := (sl_of_owns hrow).opened
      generalize hS : orAt ds (goods ds.length bs) = S at hmade hiz
      have hPl := Nat.le_trans (pick_len ds.length (fun n => (goods ds.length bs).contains (n : Int))) hle
      generalize hP : pick ds.length (fun n => (goods ds.length bs).contains (n : Int)) = P at hcp hiz hPl
      replace hP := Lib.hid hP
      replace hS := Lib.hid hS
      generalize hQ : goods ds.length bs = qs at hrow hgl hgall hcp hS hP hmade
      replace hQ := Lib.hid hQ
      have hAx := hA.later hB
      have p9 := (hk9.laterB hB).cell 0
      clear h2 HL
      replace k4 := k4.laterB hB
      replace hgl := Lib.hid hgl
      go_wp2_with fail
      have HT := together_good hok b (.slice A3 qs.length c3) qs wr hAx (sl_of_owns hrow) (by rw [hgl.out]; omega) hgall.out
      rw [hS.out] at HT
      unfold setV setA at HT
      refine HT.mono ?_
      clear HT p9
      rintro e w2 ⟨rfl, hb0⟩
      replace hrow := owns_later hrow hb0
      replace hAx := hAx.later hb0
      replace hB := hB.trans (hb0.mono hB.size)
      replace k4 := k4.laterB hb0
      clear hb0
      go_wp2_with fail
      have hrow0 := hrow.lt
      obtain ⟨W3, hW3, b9', hb0⟩ : ∃ W3, W3 = w2.alloc (.cells #[.int .u64 (Sx.wd S 0), .int .u64 (Sx.wd S 1), .int .u64 (Sx.wd S 2), .int .u64 (Sx.wd S 3)] 24) ∧ Blk W3 w2.heap.size (setA S) 24 ∧ Below w2.heap.size w2 W3 := ⟨_, rfl, blkOf1 w2 _ _, below1 w2 _⟩
      rw [← hW3]
      replace hrow := owns_later hrow hb0
      replace hAx := hAx.later hb0
      replace hB := hB.trans (hb0.mono hB.size)
      replace k4 := k4.laterB hb0
      clear hb0 hW3
      generalize w2.heap.size = g9 at b9' hrow0 ⊢
      have hgne : (Value.slice A3 qs.length c3).ownBlock ≠ some g9 := fun e => by
        have := (hrow0 g9 e).2; omega
      have hbg := fun (q : Nat) (h : (Value.slice A3 qs.length c3).ownBlock = some q) => (hrow.lt q h).1
      have hql : qs.length ≤ 50 := by rw [hgl.out]; exact hn2
      refine (sortInts_own _ qs W1.heap.size W3 hrow (by omega)).mono ?_
      rintro e w4 ⟨rfl, hrow4, hgr⟩
      have hb0 := below_grown hrow hgr hB.size
      replace hB := hB.trans hb0
      replace b9' := b9'.grown hgr hgne
      replace k4 := k4.below hb0 hw1
      clear hb0 hrow hgr
      go_wp2_with fail
      have HC := compactInts_own (.slice A3 qs.length c3) (sortZ qs) W1.heap.size w4 (by rw [sortZ_len]; exact hrow4) (by rw [sortZ_len]; omega)
      rw [hcp.out] at HC
      refine HC.mono ?_
      clear HC
      rintro e w5 ⟨v5, rfl, hown6, hob, hgr⟩
      have hb0 := below_grown hrow4 hgr hB.size
      replace hB := hB.trans hb0
      replace b9' := b9'.grown hgr hgne
      replace k4 := k4.below hb0 hw1
      clear hb0 hrow4 hgr hgne hbg hrow0 hob
      obtain ⟨A6, c6, rfl, _⟩ := (sl_of_owns hown6).opened
      generalize hm : P.length = m at hown6
      replace hm := Lib.hid hm
      replace hAx := hA.later hB
      have p9 := (hk9.laterB hB).cell 0
      obtain ⟨a0, a1, a2, a3, _⟩ := (show Blk w5 _ #[_, _, _, _] 24 from b9').four
      have HT := classes_fit hok b S w5 hAx hmade.out.fits
      rw [hiz.out, hm.out] at HT
      unfold setV setA at HT
      go_wp2_with fail
      refine HT.mono ?_
      clear HT p9 a0 a1 a2 a3
      rintro e w6 ⟨A11, c11, rfl, h11, hb0⟩
      replace hown6 := owns_later hown6 hb0
      replace hB := hB.trans (hb0.mono hB.size)
      replace b9' := b9'.laterB hb0
      replace k4 := k4.laterB hb0
      clear hb0
      have HE : Hid (∀ y, Sl y (.slice A11 m c11) 1 m (P.map intZ) → Sl y (.slice A6 m c6) 1 m (P.map intZ) → Calls Try.prog 56 #[.slice A11 m c11, .slice A6 m c6] y fun e w' => e = .returned (.bool true) ∧ Below y.heap.size y w') := fun y h1 h2 => by
        have := eqInts_any (.slice A11 m c11) (.slice A6 m c6) P P y (by rw [hm.out]; exact h1) (by rw [hm.out]; exact h2) (by omega)
        rwa [decide_eq_true rfl] at this
      have hml : m ≤ 256 := by rw [← hm.out]; exact hPl
      have h6 := sl_of_owns hown6
      have hB0 := hB1.trans (hB.mono hB1.size)
      have hws : W1.heap.size ≤ w6.heap.size := hB.size
      have hg4 : u.heap.size < W1.heap.size := by omega
      replace hown6 := owns_mono hown6 hw1
      clear hAx hk9 hA hB hcp hiz hmade hgall
      go_wp2_with fail
      refine wp_region_store 59 12 [.pre, .pre, .pre, .pre, .pre, .pre, .pre, .pre, .pre, .pre, .fl, .pre, .st, .fl] [.eq (.slice A6 m c6), .eq (setV S), .eq (.int .i64 0), .eq (.int .i64 0), .eq (.int .i64 0), .eq (.bool true), .eq (.bool true), .eq (.slice A11 m c11), .eq (.slice A6 m c6), .eq (.bool true), .eq (.bool true), .eq (.slice A6 m c6), .any, .eq (.bool true)] (fun _ y => Below u.heap.size u y ∧ Blk y u.heap.size (setA S) 24 ∧ y.ownsRow (u.heap.size + 1) 3 1 (.slice A6 m c6) m (P.map intZ)) mixed rfl (by kernel_rfl) (by decide) rfl rfl (by kernel_rfl) (by kernel_rfl) (fun _ _ => trivial) (fun _ _ _ _ _ _ h => h) ?_ ?_
      · refine ⟨?_, ?_, ?_, ?_, ?_, ?_, ?_, ?_, ?_, ?_, ?_, ?_, ?_, ?_, trivial⟩
        · intro vs a w hR H hout hget
          refine one_free rfl ?_
          have e0 := hout 6 (by kernel_rfl)
          clear H hout hget
          dsimp only [bare]
          go_wp2
          exact ⟨_, rfl, showsX0 hR rfl⟩
        · intro vs a w hR H hout hget
          refine one_free rfl ?_
          have e0 := hout 9 (by kernel_rfl)
          obtain ⟨c0, c1, c2, c3, _⟩ := (show Blk w _ #[_, _, _, _] 24 from b9'.laterB hR).four
          clear H hout hget
          dsimp only [bare]
          go_wp2
          exact ⟨_, rfl, showsX0 hR rfl⟩
        · intro vs a w hR H hout hget
          refine one_free rfl ?_
          have e0 := hout 10 (by kernel_rfl)
          clear H hout hget
          dsimp only [bare]
          go_wp2
          exact ⟨_, rfl, showsX0 hR rfl⟩
        · intro vs a w hR H hout hget
          refine one_free rfl ?_
          have e0 := hout 12 (by kernel_rfl)
          clear H hout hget
          dsimp only [bare]
          go_wp2
          exact ⟨_, rfl, showsX0 hR rfl⟩
        · intro vs a w hR H hout hget
          refine one_free rfl ?_
          have e0 := (hget 2 50 (by kernel_rfl)).trans (congrArg some (H 2 (by decide)))
          have e1 := (hget 3 51 (by kernel_rfl)).trans (congrArg some (H 3 (by decide)))
          clear H hout hget
          dsimp only [bare]
          go_wp2
          exact ⟨_, rfl, showsX0 hR rfl⟩
        · intro vs a w hR H hout hget
          refine one_free rfl ?_
          have e0 := (hget 4 52 (by kernel_rfl)).trans (congrArg some (H 4 (by decide)))
          clear H hout hget
          dsimp only [bare]
          go_wp2
          exact ⟨_, rfl, showsX0 hR rfl⟩
        · intro vs a w hR H hout hget
          refine one_free rfl ?_
          have e0 := (hget 5 53 (by kernel_rfl)).trans (congrArg some (H 5 (by decide)))
          clear H hout hget
          dsimp only [bare]
          go_wp2
          exact ⟨_, rfl, showsX0 hR rfl⟩
        · intro vs a w hR H hout hget
          refine one_guard 6 true 54 rfl (by kernel_rfl) ((hget 6 54 (by kernel_rfl)).trans (congrArg some (H 6 (by decide)))) ?_
          have e0 := hout 11 (by kernel_rfl)
          clear H hout hget
          dsimp only [bare]
          go_wp2
          exact ⟨_, rfl, showsX0 hR rfl⟩
        · intro vs a w hR H hout hget
          refine one_guard 6 true 54 rfl (by kernel_rfl) ((hget 6 54 (by kernel_rfl)).trans (congrArg some (H 6 (by decide)))) ?_
          have e0 := hout 6 (by kernel_rfl)
          clear H hout hget
          dsimp only [bare]
          go_wp2
          exact ⟨_, rfl, showsX0 hR rfl⟩
        · intro vs a w hR H hout hget
          refine one_guard 6 true 54 rfl (by kernel_rfl) ((hget 6 54 (by kernel_rfl)).trans (congrArg some (H 6 (by decide)))) ?_
          have e0 := (hget 7 55 (by kernel_rfl)).trans (congrArg some (H 7 (by decide)))
          have e1 := (hget 8 56 (by kernel_rfl)).trans (congrArg some (H 8 (by decide)))
          clear H hout hget
          dsimp only [bare]
          go_wp2_with fail
          refine (HE.out w (h11.laterB hR) (h6.laterB hR)).mono ?_
          rintro e w1 ⟨rfl, hb⟩
          go_wp2
          exact ⟨_, rfl, showsX hR hb rfl⟩
        · intro vs a w H hout hget
          refine one_free rfl ?_
          have e0 := (hget 6 54 (by kernel_rfl)).trans (congrArg some ((H 6 (by decide)).elim fun _ h => h))
          have e1 := (hget 9 57 (by kernel_rfl)).trans (congrArg some ((H 9 (by decide)).elim fun _ h => h))
          clear H hout hget
          dsimp only [bare]
          go_wp2
          exact ⟨_, rfl, rfl, fun _ => rfl⟩
        · intro vs a w hR H hout hget
          refine one_free rfl ?_
          have e0 := (hget 0 48 (by kernel_rfl)).trans (congrArg some (H 0 (by decide)))
          clear H hout hget
          dsimp only [bare]
          go_wp2
          exact ⟨_, rfl, showsX0 hR rfl⟩
        · intro vs a w hR H hout hget
          refine one_free rfl ?_
          have e0 := hout 4 (by kernel_rfl)
          have e1 := (hget 1 49 (by kernel_rfl)).trans (congrArg some (H 1 (by decide)))
          obtain ⟨d0, d1, d2, d3, f0, f1, f2, f3⟩ := (k4.laterB hR).four
          clear H hout hget
          dsimp only [bare]
          have hown := owns_later hown6 hR
          have hBw := hB0.trans (hR.mono hB0.size)
          have k4w := k4.laterB hR
          clear HE
          unfold setV setA at e1
          go_wp2
          exact ⟨undef, rfl, bfour hBw (Nat.le_refl _) _ _ _ _, k4w.setFour _ _ _ _, owns_off4 hown (Nat.lt_succ_self _) _ _ _ _⟩
        · intro vs a w H hout hget
          refine one_free rfl ?_
          have e0 := (hget 10 58 (by kernel_rfl)).trans (congrArg some ((H 10 (by decide)).elim fun _ h => h))
          clear H hout hget
          dsimp only [bare]
          go_wp2
          exact ⟨_, rfl, rfl, fun _ => rfl⟩
      · intro vs w9 H hH
        obtain ⟨hBf, hbf, hrf⟩ := hH
        have e11 : vs 11 = .slice A6 m c6 := (H 11 (by decide) (by decide)).elim fun _ h => h
        have e13 : vs 13 = .bool true := (H 13 (by decide) (by decide)).elim fun _ h => h
        simp only [putAll, Act.put, List.setIfInBounds_toArray, List.set_cons_succ, List.set_cons_zero, Nat.zero_add, Nat.reduceAdd, e11, e13]
        clear H e11 e13
        generalize vs 0 = z0
        generalize vs 1 = z1
        generalize vs 2 = z2
        generalize vs 3 = z3
        generalize vs 4 = z4
        generalize vs 5 = z5
        generalize vs 6 = z6
        generalize vs 7 = z7
        generalize vs 8 = z8
        generalize vs 9 = z9
        generalize vs 10 = z10
        generalize vs 12 = z12
        obtain ⟨a0, a1, a2, a3, _⟩ := (show Blk w9 _ #[_, _, _, _] 24 from hbf).four
        go_wp2
        refine bodyPost_ret (v := .tuple #[.slice A6 m c6, .agg #[_, _, _, _], .bool true]) (by simp [results, Try.results52, go_sem, a0, a1, a2, a3]; exact ⟨rfl, rfl, rfl, rfl⟩) rfl ?_
        unfold RetPick
        rw [hQ.out, hS.out, hP.out, hm.out]
        exact ⟨A6, c6, rfl, sl_of_owns hrf, hBf⟩
end Go.Proofs.Ytojmkgllbhbeiaa
