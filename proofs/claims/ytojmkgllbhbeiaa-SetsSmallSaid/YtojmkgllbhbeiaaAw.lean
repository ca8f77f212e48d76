/-
  WALKS: awake of the laws of package sets.
-/
import Derived.Test.YtojmkgllbhbeiaaW8
import Derived.Test.YtojmkgllbhbeiaaFct
namespace Go.Proofs.Ytojmkgllbhbeiaa
open Go.RowKit

theorem slN_new (w : World) (cs : Array Value) (t : TypeId) (k n : Nat) (l : List Value) (h : cs.toList = l) : SlN (w.alloc (.cells cs t)) (.slice (some ⟨w.heap.size, 0, none⟩) n n) k n l :=
  ⟨w.heap.size, 0, n, rfl, by rw [World.size_alloc]; omega, fun i _ => by rw [Nat.zero_add, (Blk.new w cs t).cell i, ← h, Array.getElem?_toList]⟩

theorem ptAt {w : World} {b o n k : Nat} {cs l : List Value} (j : Nat) (c : ∀ i, i < n * k → w.cell? ⟨b, o + i, none⟩ = cs[i]?) (hj : j < n) (hl : (cs.drop (j * k)).take k = l) : ∀ i, i < k → w.cell? ⟨b, o + j * k + i, none⟩ = l[i]? := by
  intro i hi
  have h1 : j * k + i < n * k := by
    have : (j + 1) * k ≤ n * k := Nat.mul_le_mul_right k hj
    rw [Nat.add_mul] at this; omega
  rw [← hl, List.getElem?_take, if_pos hi, List.getElem?_drop, Nat.add_assoc, c _ h1]
theorem eqlSame (s t : Nat) (hs : Nat.blt s (2 ^ 256) = true) (h : Nat.beq s t = true) (w : World) : (binOp .eql 24 (setV s) (setV t)).run Try.prog w = .ok (.bool true) w := by
  have e := Nat.eq_of_beq_eq_true h
  subst e
  have hs' : s < 2 ^ 256 := by simpa using hs
  rw [eqlSet hs' hs' w, decide_eq_true rfl]
theorem guardSetV (op : BinOp) (a b : Operand) (s t : Nat) (w : World) : (eqGuard op 24 a b (setV s) (setV t)).run Try.prog w = .ok () w := guardSet op a b (setA s) (setA t) w
theorem cmp_is (s t : Nat) (c : Int) (h : cmpS s t = c) (w : World) : Calls Try.prog 19 #[setV s, setV t] w fun e w' => e = .returned (.int .i64 c) ∧ Gr w.heap.size w w' := by
  rw [← h]; exact compare_any s t w

theorem sorted_unique {ds ps : List Nat} (hp : ds.Perm ps) (h1 : ds.Pairwise fun a b => ¬ cmpS b a < 0) (h2 : ps.Pairwise fun a b => ¬ cmpS b a < 0) (hb : ∀ p ∈ ps, p < 2 ^ 256) : ds = ps := by
  refine List.Perm.eq_of_pairwise (le := fun a b => ¬ cmpS b a < 0) (fun a b ha hb' k1 k2 => ?_) h1 h2 hp
  have := cmpS_neg a b
  exact (cmpS_zero (hb a (hp.mem_iff.1 ha)) (hb b hb')).1 (by omega)
def allLt : List Nat → Bool
  | [] => true
  | p :: ps => Nat.blt p (2 ^ 256) && allLt ps
theorem allLt_spec : ∀ {ps : List Nat}, allLt ps = true → ∀ p ∈ ps, p < 2 ^ 256
  | [], _, _, h => by cases h
  | q :: qs, h, p, hp => by
    simp only [allLt, Bool.and_eq_true] at h
    rcases List.mem_cons.1 hp with rfl | hp
    · simpa using h.1
    · exact allLt_spec h.2 p hp
def sortedB : List Nat → Bool
  | [] => true
  | p :: ps => (ps.all fun q => !decide (cmpS q p < 0)) && sortedB ps
theorem sortedB_spec : ∀ {ps : List Nat}, sortedB ps = true → ps.Pairwise fun a b => ¬ cmpS b a < 0
  | [], _ => List.Pairwise.nil
  | q :: qs, h => by
    simp only [sortedB, Bool.and_eq_true, List.all_eq_true, Bool.not_eq_true', decide_eq_false_iff_not] at h
    exact List.pairwise_cons.2 ⟨h.1, sortedB_spec h.2⟩
theorem awake_parts (ds : List Nat) (hp : ds.Perm (rawParts [Sx.range 97 99, Sx.range 98 100])) (hs : ds.Pairwise fun a b => ¬ cmpS b a < 0) : ds = [Sx.or (Sx.range 0 96) (Sx.range 101 255), Sx.ofL [97], Sx.ofL [98, 99], Sx.ofL [100]] := by
  have h : [Sx.or (Sx.range 0 96) (Sx.range 101 255), Sx.ofL [97], Sx.ofL [98, 99], Sx.ofL [100]].Perm (rawParts [Sx.range 97 99, Sx.range 98 100]) := List.isPerm_iff.1 (by kernel_rfl)
  exact sorted_unique (hp.trans h.symm) hs (sortedB_spec (by kernel_rfl)) (allLt_spec (by kernel_rfl))
theorem awake_size : (elems (Sx.range 97 99)).length = 3 := by kernel_rfl
theorem awake_spans1 : spansOf (elems (Sx.range 97 99)) = [(97, 99)] := by kernel_rfl
theorem awake_bytes : elems (Sx.ofL [99, 97, 99]) = [97, 99] := by kernel_rfl
theorem awake_spans : spansOf (elems (Sx.less (Sx.range 97 99) (Sx.ofL [98]))) = [(97, 97), (99, 99)] := by kernel_rfl

set_option maxRecDepth 100000 in
set_option maxHeartbeats 4000000 in
theorem awake_any (w : World) : Calls Try.prog 18 #[] w fun e w' => e = .returned (.bool true) ∧ Below w.heap.size w w' := by
  have HR := fun w => range_any 97 99 (by decide) (by decide) w
  have HL := fun w => less_any (Sx.range 97 99) (Sx.ofL [98]) w
  have HS := fun w => spans_any (Sx.less (Sx.range 97 99) (Sx.ofL [98])) w
  have HZ := fun w => size_any (Sx.range 97 99) w
  have HS1 := fun w => spans_any (Sx.range 97 99) w
  have HY := fun w => bytes_any (Sx.ofL [99, 97, 99]) w
  unfold RetBytes at HY
  unfold RetSpans at HS HS1
  rw [awake_spans] at HS
  rw [awake_spans1] at HS1
  rw [awake_size] at HZ
  rw [awake_bytes] at HY
  unfold setV setA at HR
  go_enter Try.func18, Try.ntmps18
  go_wp2_with fail
  refine (HR _).mono ?_
  clear HR
  rintro e w1 ⟨rfl, hb0⟩
  have hB1 := hb0.below
  clear hb0
  go_wp2_with fail
  obtain ⟨W0, hW0⟩ : ∃ W0, W0 = w1.alloc (.cells #[.int .u64 (Sx.wd (Sx.range 97 99) 0), .int .u64 (Sx.wd (Sx.range 97 99) 1), .int .u64 (Sx.wd (Sx.range 97 99) 2), .int .u64 (Sx.wd (Sx.range 97 99) 3)] 24) := ⟨_, rfl⟩
  have bx : Blk W0 w1.heap.size #[.int .u64 (Sx.wd (Sx.range 97 99) 0), .int .u64 (Sx.wd (Sx.range 97 99) 1), .int .u64 (Sx.wd (Sx.range 97 99) 2), .int .u64 (Sx.wd (Sx.range 97 99) 3)] 24 := by rw [hW0]; exact blkOf1 w1 _ _
  have hB0 : Below w.heap.size w W0 := by rw [hW0]; exact hB1.alloc hB1.size _
  rw [← hW0]
  clear hW0 hB1
  refine wp_region_facts 151 [.eq (setV (Sx.range 97 99)), .sl 1 1 [byteV 98], .eq (setV (Sx.ofL [98])), .eq (setV (Sx.less (Sx.range 97 99) (Sx.ofL [98]))), .sl 2 2 (spanCells [(97, 97), (99, 99)]), .sl 2 2 (spanCells [(97, 97), (99, 99)])] mixed rfl (by kernel_rfl) ?_ ?_
  · refine ⟨?_, ?_, ?_, ?_, ?_, ?_, trivial⟩
    · intro vs a w hR H hin hout hget
      refine one_free rfl ?_
      have e0 := hout 1 (by kernel_rfl)
      obtain ⟨c0, c1, c2, c3, _⟩ := (bx.laterB hR).four
      clear H hin hout hget
      dsimp only [bare]
      go_wp2
      exact ⟨_, rfl, shows0 hR rfl⟩
    · intro vs a w hR H hin hout hget
      refine one_free rfl ?_
      clear H hin hout hget
      dsimp only [bare]
      go_wp2
      exact ⟨_, rfl, shows hR (below1 w _) (slN_new w _ _ _ _ _ rfl)⟩
    · intro vs a w hR H hin hout hget
      refine one_free rfl ?_
      obtain ⟨b0, o0, cap0, h0, lt0, c0⟩ := H 1 (by decide)
      have e0 := (hget 1 10 (by kernel_rfl)).trans (congrArg some h0)
      clear H hin hout hget
      dsimp only [bare]
      go_wp2_with fail
      refine (of_any _ [98] (by decide) w ⟨rfl, .inr ⟨_, _, _, rfl, lt0, c0⟩⟩ (by decide)).mono ?_
      rintro e w1 ⟨rfl, hb⟩
      go_wp2
      exact ⟨_, rfl, shows hR hb.below rfl⟩
    · intro vs a w hR H hin hout hget
      refine one_free rfl ?_
      have e0 := (hget 0 9 (by kernel_rfl)).trans (congrArg some (H 0 (by decide)))
      have e1 := (hget 2 11 (by kernel_rfl)).trans (congrArg some (H 2 (by decide)))
      clear H hin hout hget
      dsimp only [bare]
      go_wp2_with fail
      refine (HL w).mono ?_
      rintro e w1 ⟨rfl, hb⟩
      go_wp2
      exact ⟨_, rfl, shows hR hb.below rfl⟩
    · intro vs a w hR H hin hout hget
      refine one_free rfl ?_
      have e0 := (hget 3 12 (by kernel_rfl)).trans (congrArg some (H 3 (by decide)))
      clear H hin hout hget
      dsimp only [bare]
      go_wp2_with fail
      refine (HS w).mono ?_
      rintro e w1 ⟨v, rfl, hf, hb⟩
      go_wp2
      exact ⟨_, rfl, shows hR hb (SlN.of_sl (sl_of_owns hf.1) (by decide))⟩
    · intro vs a w hR H hin hout hget
      refine one_free rfl ?_
      obtain ⟨b0, o0, cap0, h0, lt0, c0⟩ := H 4 (by decide)
      have e0 := (hget 4 13 (by kernel_rfl)).trans (congrArg some h0)
      clear H hin hout hget
      dsimp only [bare]
      go_wp2
      exact ⟨_, rfl, shows0 hR ⟨_, _, _, rfl, lt0, c0⟩⟩
  · intro vs w2 hR H
    obtain ⟨b2, o2, cap2, e5, lt2, c2⟩ := H 5 (by decide)
    clear H
    simp only [putAll, Act.put, List.setIfInBounds_toArray, List.set_cons_succ, List.set_cons_zero, Nat.zero_add, Nat.reduceAdd, e5]
    generalize vs 0 = y0
    generalize vs 1 = y1
    generalize vs 2 = y2
    generalize vs 3 = y3
    generalize vs 4 = y4
    clear e5
    have hs2 : SlN w2 (.slice (some ⟨b2, o2, none⟩) 2 cap2) 2 2 (spanCells [(97, 97), (99, 99)]) := ⟨b2, o2, cap2, rfl, lt2, c2⟩
    have bx2 := bx.laterB hR
    have hB2 := hB0.trans (hR.mono hB0.size)
    clear hR lt2 c2 bx hB0
    have HO := fun w => of_any _ [99, 97, 99] (by decide) _ ((slN_new w #[.int .u8 99, .int .u8 97, .int .u8 99] 5 1 3 ([99, 97, 99].map byteV) rfl).sl rfl) (by decide)
    have N1 : nextB (Sx.ofL [99, 97, 99]) 97 = (99, true) := by kernel_rfl
    have N2 : nextB (Sx.ofL [99, 97, 99]) 99 = (0, false) := by kernel_rfl
    have HN1 := fun w => next_any (Sx.ofL [99, 97, 99]) 97 (by decide) w
    have HN2 := fun w => next_any (Sx.ofL [99, 97, 99]) 99 (by decide) w
    rw [N1] at HN1
    rw [N2] at HN2
    clear N1 N2
    go_wp2_with fail
    refine (HO _).mono ?_
    rintro e w3 ⟨rfl, h3⟩
    go_wp2_with fail
    refine (HN1 _).mono ?_
    rintro e w4 ⟨rfl, h4⟩
    have g4 := gthen (gthen (gr1 w2 _) h3) h4
    clear h3 h4
    unfold byteV
    go_wp2_with fail
    refine (HO _).mono ?_
    rintro e w5 ⟨rfl, h5⟩
    go_wp2_with fail
    refine (HN2 _).mono ?_
    rintro e w6 ⟨rfl, h6⟩
    have g6 := gthen g4 (gthen (gthen (gr1 w4 _) h5) h6)
    clear h5 h6 g4
    unfold byteV
    go_wp2_with fail
    have bx6 := bx2.laterB g6.below
    have hs6 := hs2.later g6.below
    have hB6 := hB2.trans (g6.below.mono hB2.size)
    clear bx2 hs2 hB2 g6 HO HN1 HN2
    refine wp_region_facts 151 [.eq (setV (Sx.range 97 99)), .eq (setV (Sx.range 98 100)), .sl 4 2 (setCells [Sx.range 97 99, Sx.range 98 100]), .sl 4 4 (setCells [Sx.or (Sx.range 0 96) (Sx.range 101 255), Sx.ofL [97], Sx.ofL [98, 99], Sx.ofL [100]]), .sl 4 4 (setCells [Sx.or (Sx.range 0 96) (Sx.range 101 255), Sx.ofL [97], Sx.ofL [98, 99], Sx.ofL [100]])] mixed rfl (by kernel_rfl) ?_ ?_
    · have bx := bx6
      refine ⟨?_, ?_, ?_, ?_, ?_, trivial⟩
      · intro vs a w hR H hin hout hget
        refine one_free rfl ?_
        have e0 := hout 1 (by kernel_rfl)
        obtain ⟨c0, c1, c2, c3, _⟩ := (bx.laterB hR).four
        clear H hin hout hget
        dsimp only [bare]
        go_wp2
        exact ⟨_, rfl, shows0 hR rfl⟩
      · intro vs a w hR H hin hout hget
        refine one_free rfl ?_
        clear H hin hout hget
        dsimp only [bare]
        go_wp2_with fail
        refine (range_any 98 100 (by decide) (by decide) w).mono ?_
        rintro e w1 ⟨rfl, hb⟩
        go_wp2
        exact ⟨_, rfl, shows hR hb.below rfl⟩
      · intro vs a w hR H hin hout hget
        refine one_free rfl ?_
        have e0 := (hget 0 26 (by kernel_rfl)).trans (congrArg some (H 0 (by decide)))
        have e1 := (hget 1 27 (by kernel_rfl)).trans (congrArg some (H 1 (by decide)))
        clear H hin hout hget
        dsimp only [bare]
        unfold setV at e0 e1
        unfold setA at e0 e1
        go_wp2
        exact ⟨_, rfl, shows hR (below1 w _) (slN_new w _ _ _ _ _ rfl)⟩
      · intro vs a w hR H hin hout hget
        refine one_free rfl ?_
        obtain ⟨b0, o0, cap0, h0, lt0, c0⟩ := H 2 (by decide)
        have e0 := (hget 2 28 (by kernel_rfl)).trans (congrArg some h0)
        clear H hin hout hget
        dsimp only [bare]
        go_wp2_with fail
        refine (parts_some b0 o0 cap0 [Sx.range 97 99, Sx.range 98 100] (by decide) w lt0 c0 (by decide)).mono ?_
        rintro e w1 ⟨g, cap, ds, rfl, hsl, hpm, hso, hb, _⟩
        obtain rfl := awake_parts ds hpm hso
        go_wp2
        exact ⟨_, rfl, shows hR hb (SlN.of_sl hsl (by decide))⟩
      · intro vs a w hR H hin hout hget
        refine one_free rfl ?_
        obtain ⟨b0, o0, cap0, h0, lt0, c0⟩ := H 3 (by decide)
        have e0 := (hget 3 29 (by kernel_rfl)).trans (congrArg some h0)
        clear H hin hout hget
        dsimp only [bare]
        go_wp2
        exact ⟨_, rfl, shows0 hR ⟨_, _, _, rfl, lt0, c0⟩⟩
    · intro vs w7 hR H
      obtain ⟨b7, o7, cap7, e7, hp7⟩ := H 4 (by decide)
      clear H
      simp only [putAll, Act.put, List.setIfInBounds_toArray, List.set_cons_succ, List.set_cons_zero, Nat.zero_add, Nat.reduceAdd, e7]
      have hp : SlN w7 (.slice (some ⟨b7, o7, none⟩) 4 cap7) 4 4 (setCells [Sx.or (Sx.range 0 96) (Sx.range 101 255), Sx.ofL [97], Sx.ofL [98, 99], Sx.ofL [100]]) := ⟨b7, o7, cap7, rfl, hp7⟩
      have bx := bx6.laterB hR
      have hs := hs6.later hR
      have hB7 := hB6.trans (hR.mono hB6.size)
      clear bx6 hs6 hB6 hR e7
      generalize vs 0 = z0
      generalize vs 1 = z1
      generalize vs 2 = z2
      generalize vs 3 = z3
      go_wp2_with fail
      refine wp_region_facts 151 [.eq (setV (Sx.range 97 99)), .eq (.int .i64 3), .eq (.bool true), .eq (.bool true), .eq (setV (Sx.range 97 99)), .sl 2 1 (spanCells [(97, 99)]), .eq (.int .i64 1), .eq (.bool true), .eq (.bool true), .eq (.bool true), .eq (setV (Sx.range 97 99)), .sl 2 1 (spanCells [(97, 99)]), .pt 2 [byteV 97, byteV 99], .eq (.agg #[.int .u8 97, .int .u8 99]), .eq (.agg #[.int .u8 97, .int .u8 99]), .eq (.bool true), .eq (.bool true), .eq (.bool true), .sl 2 2 (spanCells [(97, 97), (99, 99)]), .eq (.int .i64 2), .eq (.bool true), .eq (.bool true), .eq (.bool true), .sl 2 2 (spanCells [(97, 97), (99, 99)]), .pt 2 [byteV 97, byteV 97], .eq (.agg #[.int .u8 97, .int .u8 97]), .eq (.agg #[.int .u8 97, .int .u8 97]), .eq (.bool true), .eq (.bool true), .eq (.bool true), .sl 2 2 (spanCells [(97, 97), (99, 99)]), .pt 2 [byteV 99, byteV 99], .eq (.agg #[.int .u8 99, .int .u8 99]), .eq (.agg #[.int .u8 99, .int .u8 99]), .eq (.bool true), .eq (.bool true), .eq (.bool true), .eq (setV Sx.full), .eq (setV (Sx.not Sx.full)), .eq (setV 0), .eq (.bool true), .eq (.bool true), .eq (.bool true), .sl 1 3 ([99, 97, 99].map byteV), .eq (setV (Sx.ofL [99, 97, 99])), .sl 1 2 ([97, 99].map byteV), .eq (.string ⟨#[97, 99]⟩), .eq (.bool true), .eq (.bool true), .eq (.bool true), .eq (.int .u8 99), .eq (.bool true), .eq (.bool true), .eq (.bool true), .eq (.bool true), .eq (.bool true), .eq (.bool true), .eq (.bool false), .eq (.bool true), .eq (.bool true), .eq (.bool true), .sl 1 1 ([97].map byteV), .eq (setV (Sx.ofL [97])), .sl 1 1 ([98].map byteV), .eq (setV (Sx.ofL [98])), .eq (.int .i64 (-1)), .eq (.bool true), .eq (.bool true), .eq (.bool true), .sl 1 2 ([97, 98].map byteV), .eq (setV (Sx.ofL [97, 98])), .sl 1 1 ([97].map byteV), .eq (setV (Sx.ofL [97])), .eq (.int .i64 (-1)), .eq (.bool true), .eq (.bool true), .eq (.bool true), .eq (setV 0), .sl 1 1 ([97].map byteV), .eq (setV (Sx.ofL [97])), .eq (.int .i64 (1)), .eq (.bool true), .eq (.bool true), .eq (.bool true), .sl 4 4 (setCells [Sx.or (Sx.range 0 96) (Sx.range 101 255), Sx.ofL [97], Sx.ofL [98, 99], Sx.ofL [100]]), .eq (.int .i64 4), .eq (.bool true), .eq (.bool true), .eq (.bool true), .sl 4 4 (setCells [Sx.or (Sx.range 0 96) (Sx.range 101 255), Sx.ofL [97], Sx.ofL [98, 99], Sx.ofL [100]]), .pt 4 (setA (Sx.or (Sx.range 0 96) (Sx.range 101 255))).toList, .eq (setV (Sx.or (Sx.range 0 96) (Sx.range 101 255))), .eq (setV (Sx.range 0 96)), .eq (setV (Sx.range 101 255)), .eq (setV (Sx.or (Sx.range 0 96) (Sx.range 101 255))), .eq (.bool true), .eq (.bool true), .eq (.bool true), .sl 4 4 (setCells [Sx.or (Sx.range 0 96) (Sx.range 101 255), Sx.ofL [97], Sx.ofL [98, 99], Sx.ofL [100]]), .pt 4 (setA (Sx.ofL [97])).toList, .eq (setV (Sx.ofL [97])), .sl 1 1 ([97].map byteV), .eq (setV (Sx.ofL [97])), .eq (.bool true), .eq (.bool true), .eq (.bool true), .sl 4 4 (setCells [Sx.or (Sx.range 0 96) (Sx.range 101 255), Sx.ofL [97], Sx.ofL [98, 99], Sx.ofL [100]]), .pt 4 (setA (Sx.ofL [98, 99])).toList, .eq (setV (Sx.ofL [98, 99])), .sl 1 2 ([98, 99].map byteV), .eq (setV (Sx.ofL [98, 99])), .eq (.bool true), .eq (.bool true), .eq (.bool true), .sl 4 4 (setCells [Sx.or (Sx.range 0 96) (Sx.range 101 255), Sx.ofL [97], Sx.ofL [98, 99], Sx.ofL [100]]), .pt 4 (setA (Sx.ofL [100])).toList, .eq (setV (Sx.ofL [100])), .sl 1 1 ([100].map byteV), .eq (setV (Sx.ofL [100])), .eq (.bool true), .eq (.bool true), .eq (.bool true)] mixed rfl (by kernel_rfl) ?_ ?_
      · refine ⟨?_, ?_, ?_, ?_, ?_, ?_, ?_, ?_, ?_, ?_, ?_, ?_, ?_, ?_, ?_, ?_, ?_, ?_, ?_, ?_, ?_, ?_, ?_, ?_, ?_, ?_, ?_, ?_, ?_, ?_, ?_, ?_, ?_, ?_, ?_, ?_, ?_, ?_, ?_, ?_, ?_, ?_, ?_, ?_, ?_, ?_, ?_, ?_, ?_, ?_, ?_, ?_, ?_, ?_, ?_, ?_, ?_, ?_, ?_, ?_, ?_, ?_, ?_, ?_, ?_, ?_, ?_, ?_, ?_, ?_, ?_, ?_, ?_, ?_, ?_, ?_, ?_, ?_, ?_, ?_, ?_, ?_, ?_, ?_, ?_, ?_, ?_, ?_, ?_, ?_, ?_, ?_, ?_, ?_, ?_, ?_, ?_, ?_, ?_, ?_, ?_, ?_, ?_, ?_, ?_, ?_, ?_, ?_, ?_, ?_, ?_, ?_, ?_, ?_, ?_, ?_, ?_, ?_, ?_, ?_, ?_, ?_, trivial⟩
        · intro vs a w hR H hin hout hget
          refine one_free rfl ?_
          have e0 := hout 1 (by kernel_rfl)
          obtain ⟨c0, c1, c2, c3, _⟩ := (bx.laterB hR).four
          clear H hin hout hget
          dsimp only [bare]
          go_wp2
          exact ⟨_, rfl, shows0 hR rfl⟩
        · intro vs a w hR H hin hout hget
          refine one_free rfl ?_
          have e0 := (hget 0 30 (by kernel_rfl)).trans (congrArg some (H 0 (by decide)))
          clear H hin hout hget
          dsimp only [bare]
          go_wp2_with fail
          refine (HZ w).mono ?_
          rintro e w1 ⟨rfl, hb⟩
          go_wp2
          exact ⟨_, rfl, shows hR hb.below rfl⟩
        · intro vs a w hR H hin hout hget
          refine one_free rfl ?_
          have e0 := (hget 1 31 (by kernel_rfl)).trans (congrArg some (H 1 (by decide)))
          clear H hin hout hget
          dsimp only [bare]
          go_wp2
          exact ⟨_, rfl, shows0 hR rfl⟩
        · intro vs a w hR H hin hout hget
          refine one_free rfl ?_
          have e0 := (hget 2 32 (by kernel_rfl)).trans (congrArg some (H 2 (by decide)))
          clear H hin hout hget
          dsimp only [bare]
          go_wp2
          exact ⟨_, rfl, shows0 hR rfl⟩
        · intro vs a w hR H hin hout hget
          refine one_guard 3 true 33 rfl (by kernel_rfl) ((hget 3 33 (by kernel_rfl)).trans (congrArg some (H 3 (by decide)))) ?_
          have e0 := hout 1 (by kernel_rfl)
          obtain ⟨c0, c1, c2, c3, _⟩ := (bx.laterB hR).four
          clear H hin hout hget
          dsimp only [bare]
          go_wp2
          exact ⟨_, rfl, shows0 hR rfl⟩
        · intro vs a w hR H hin hout hget
          refine one_guard 3 true 33 rfl (by kernel_rfl) ((hget 3 33 (by kernel_rfl)).trans (congrArg some (H 3 (by decide)))) ?_
          have e0 := (hget 4 34 (by kernel_rfl)).trans (congrArg some (H 4 (by decide)))
          clear H hin hout hget
          dsimp only [bare]
          go_wp2_with fail
          refine (HS1 w).mono ?_
          rintro e w1 ⟨v, rfl, hf, hb⟩
          go_wp2
          exact ⟨_, rfl, shows hR hb (SlN.of_sl (sl_of_owns hf.1) (by decide))⟩
        · intro vs a w hR H hin hout hget
          refine one_guard 3 true 33 rfl (by kernel_rfl) ((hget 3 33 (by kernel_rfl)).trans (congrArg some (H 3 (by decide)))) ?_
          obtain ⟨b0, o0, cap0, h0, lt0, c0⟩ := H 5 (by decide)
          have e0 := (hget 5 35 (by kernel_rfl)).trans (congrArg some h0)
          clear H hin hout hget
          dsimp only [bare]
          go_wp2
          exact ⟨_, rfl, shows0 hR rfl⟩
        · intro vs a w hR H hin hout hget
          refine one_guard 3 true 33 rfl (by kernel_rfl) ((hget 3 33 (by kernel_rfl)).trans (congrArg some (H 3 (by decide)))) ?_
          have e0 := (hget 6 36 (by kernel_rfl)).trans (congrArg some (H 6 (by decide)))
          clear H hin hout hget
          dsimp only [bare]
          go_wp2
          exact ⟨_, rfl, shows0 hR rfl⟩
        · intro vs a w hR H hin hout hget
          refine one_free rfl ?_
          have e0 := (hget 3 33 (by kernel_rfl)).trans (congrArg some (H 3 (by decide)))
          have e1 := (hget 7 37 (by kernel_rfl)).trans (congrArg some (H 7 (by decide)))
          clear H hin hout hget
          dsimp only [bare]
          go_wp2
          exact ⟨_, rfl, shows0 hR rfl⟩
        · intro vs a w hR H hin hout hget
          refine one_free rfl ?_
          have e0 := (hget 8 38 (by kernel_rfl)).trans (congrArg some (H 8 (by decide)))
          clear H hin hout hget
          dsimp only [bare]
          go_wp2
          exact ⟨_, rfl, shows0 hR rfl⟩
        · intro vs a w hR H hin hout hget
          refine one_guard 9 true 39 rfl (by kernel_rfl) ((hget 9 39 (by kernel_rfl)).trans (congrArg some (H 9 (by decide)))) ?_
          have e0 := hout 1 (by kernel_rfl)
          obtain ⟨c0, c1, c2, c3, _⟩ := (bx.laterB hR).four
          clear H hin hout hget
          dsimp only [bare]
          go_wp2
          exact ⟨_, rfl, shows0 hR rfl⟩
        · intro vs a w hR H hin hout hget
          refine one_guard 9 true 39 rfl (by kernel_rfl) ((hget 9 39 (by kernel_rfl)).trans (congrArg some (H 9 (by decide)))) ?_
          have e0 := (hget 10 40 (by kernel_rfl)).trans (congrArg some (H 10 (by decide)))
          clear H hin hout hget
          dsimp only [bare]
          go_wp2_with fail
          refine (HS1 w).mono ?_
          rintro e w1 ⟨v, rfl, hf, hb⟩
          go_wp2
          exact ⟨_, rfl, shows hR hb (SlN.of_sl (sl_of_owns hf.1) (by decide))⟩
        · intro vs a w hR H hin hout hget
          refine one_guard 9 true 39 rfl (by kernel_rfl) ((hget 9 39 (by kernel_rfl)).trans (congrArg some (H 9 (by decide)))) ?_
          obtain ⟨b0, o0, cap0, h0, lt0, c0⟩ := H 11 (by decide)
          have e0 := (hget 11 41 (by kernel_rfl)).trans (congrArg some h0)
          clear H hin hout hget
          dsimp only [bare]
          go_wp2
          exact ⟨_, rfl, shows0 hR ⟨b0, _, rfl, lt0, ptAt 0 c0 (by decide) rfl⟩⟩
        · intro vs a w hR H hin hout hget
          refine one_guard 9 true 39 rfl (by kernel_rfl) ((hget 9 39 (by kernel_rfl)).trans (congrArg some (H 9 (by decide)))) ?_
          obtain ⟨b0, o0, h0, lt0, c0⟩ := H 12 (by decide)
          have e0 := (hget 12 42 (by kernel_rfl)).trans (congrArg some h0)
          have d0 : w.cell? ⟨b0, o0, none⟩ = some (.int .u8 97) := c0 0 (by decide)
          have d1 : w.cell? ⟨b0, o0 + 1, none⟩ = some (.int .u8 99) := c0 1 (by decide)
          clear c0
          clear H hin hout hget
          dsimp only [bare]
          go_wp2
          exact ⟨_, rfl, shows0 hR rfl⟩
        · intro vs a w hR H hin hout hget
          refine one_guard 9 true 39 rfl (by kernel_rfl) ((hget 9 39 (by kernel_rfl)).trans (congrArg some (H 9 (by decide)))) ?_
          clear H hin hout hget
          dsimp only [bare]
          go_wp2
          exact ⟨_, rfl, shows0 hR rfl⟩
        · intro vs a w hR H hin hout hget
          refine one_guard 9 true 39 rfl (by kernel_rfl) ((hget 9 39 (by kernel_rfl)).trans (congrArg some (H 9 (by decide)))) ?_
          have e0 := (hget 13 43 (by kernel_rfl)).trans (congrArg some (H 13 (by decide)))
          have e1 := (hget 14 44 (by kernel_rfl)).trans (congrArg some (H 14 (by decide)))
          clear H hin hout hget
          dsimp only [bare]
          go_wp2
          exact ⟨_, rfl, shows0 hR rfl⟩
        · intro vs a w hR H hin hout hget
          refine one_free rfl ?_
          have e0 := (hget 9 39 (by kernel_rfl)).trans (congrArg some (H 9 (by decide)))
          have e1 := (hget 15 45 (by kernel_rfl)).trans (congrArg some (H 15 (by decide)))
          clear H hin hout hget
          dsimp only [bare]
          go_wp2
          exact ⟨_, rfl, shows0 hR rfl⟩
        · intro vs a w hR H hin hout hget
          refine one_free rfl ?_
          have e0 := (hget 16 46 (by kernel_rfl)).trans (congrArg some (H 16 (by decide)))
          clear H hin hout hget
          dsimp only [bare]
          go_wp2
          exact ⟨_, rfl, shows0 hR rfl⟩
        · intro vs a w hR H hin hout hget
          refine one_guard 17 true 47 rfl (by kernel_rfl) ((hget 17 47 (by kernel_rfl)).trans (congrArg some (H 17 (by decide)))) ?_
          have e0 := hout 2 (by kernel_rfl)
          clear H hin hout hget
          dsimp only [bare]
          go_wp2
          exact ⟨_, rfl, shows0 hR (hs.later hR)⟩
        · intro vs a w hR H hin hout hget
          refine one_guard 17 true 47 rfl (by kernel_rfl) ((hget 17 47 (by kernel_rfl)).trans (congrArg some (H 17 (by decide)))) ?_
          obtain ⟨b0, o0, cap0, h0, lt0, c0⟩ := H 18 (by decide)
          have e0 := (hget 18 48 (by kernel_rfl)).trans (congrArg some h0)
          clear H hin hout hget
          dsimp only [bare]
          go_wp2
          exact ⟨_, rfl, shows0 hR rfl⟩
        · intro vs a w hR H hin hout hget
          refine one_guard 17 true 47 rfl (by kernel_rfl) ((hget 17 47 (by kernel_rfl)).trans (congrArg some (H 17 (by decide)))) ?_
          have e0 := (hget 19 49 (by kernel_rfl)).trans (congrArg some (H 19 (by decide)))
          clear H hin hout hget
          dsimp only [bare]
          go_wp2
          exact ⟨_, rfl, shows0 hR rfl⟩
        · intro vs a w hR H hin hout hget
          refine one_free rfl ?_
          have e0 := (hget 17 47 (by kernel_rfl)).trans (congrArg some (H 17 (by decide)))
          have e1 := (hget 20 50 (by kernel_rfl)).trans (congrArg some (H 20 (by decide)))
          clear H hin hout hget
          dsimp only [bare]
          go_wp2
          exact ⟨_, rfl, shows0 hR rfl⟩
        · intro vs a w hR H hin hout hget
          refine one_free rfl ?_
          have e0 := (hget 21 51 (by kernel_rfl)).trans (congrArg some (H 21 (by decide)))
          clear H hin hout hget
          dsimp only [bare]
          go_wp2
          exact ⟨_, rfl, shows0 hR rfl⟩
        · intro vs a w hR H hin hout hget
          refine one_guard 22 true 52 rfl (by kernel_rfl) ((hget 22 52 (by kernel_rfl)).trans (congrArg some (H 22 (by decide)))) ?_
          have e0 := hout 2 (by kernel_rfl)
          clear H hin hout hget
          dsimp only [bare]
          go_wp2
          exact ⟨_, rfl, shows0 hR (hs.later hR)⟩
        · intro vs a w hR H hin hout hget
          refine one_guard 22 true 52 rfl (by kernel_rfl) ((hget 22 52 (by kernel_rfl)).trans (congrArg some (H 22 (by decide)))) ?_
          obtain ⟨b0, o0, cap0, h0, lt0, c0⟩ := H 23 (by decide)
          have e0 := (hget 23 53 (by kernel_rfl)).trans (congrArg some h0)
          clear H hin hout hget
          dsimp only [bare]
          go_wp2
          exact ⟨_, rfl, shows0 hR ⟨b0, _, rfl, lt0, ptAt 0 c0 (by decide) rfl⟩⟩
        · intro vs a w hR H hin hout hget
          refine one_guard 22 true 52 rfl (by kernel_rfl) ((hget 22 52 (by kernel_rfl)).trans (congrArg some (H 22 (by decide)))) ?_
          obtain ⟨b0, o0, h0, lt0, c0⟩ := H 24 (by decide)
          have e0 := (hget 24 54 (by kernel_rfl)).trans (congrArg some h0)
          have d0 : w.cell? ⟨b0, o0, none⟩ = some (.int .u8 97) := c0 0 (by decide)
          have d1 : w.cell? ⟨b0, o0 + 1, none⟩ = some (.int .u8 97) := c0 1 (by decide)
          clear c0
          clear H hin hout hget
          dsimp only [bare]
          go_wp2
          exact ⟨_, rfl, shows0 hR rfl⟩
        · intro vs a w hR H hin hout hget
          refine one_guard 22 true 52 rfl (by kernel_rfl) ((hget 22 52 (by kernel_rfl)).trans (congrArg some (H 22 (by decide)))) ?_
          clear H hin hout hget
          dsimp only [bare]
          go_wp2
          exact ⟨_, rfl, shows0 hR rfl⟩
        · intro vs a w hR H hin hout hget
          refine one_guard 22 true 52 rfl (by kernel_rfl) ((hget 22 52 (by kernel_rfl)).trans (congrArg some (H 22 (by decide)))) ?_
          have e0 := (hget 25 55 (by kernel_rfl)).trans (congrArg some (H 25 (by decide)))
          have e1 := (hget 26 56 (by kernel_rfl)).trans (congrArg some (H 26 (by decide)))
          clear H hin hout hget
          dsimp only [bare]
          go_wp2
          exact ⟨_, rfl, shows0 hR rfl⟩
        · intro vs a w hR H hin hout hget
          refine one_free rfl ?_
          have e0 := (hget 22 52 (by kernel_rfl)).trans (congrArg some (H 22 (by decide)))
          have e1 := (hget 27 57 (by kernel_rfl)).trans (congrArg some (H 27 (by decide)))
          clear H hin hout hget
          dsimp only [bare]
          go_wp2
          exact ⟨_, rfl, shows0 hR rfl⟩
        · intro vs a w hR H hin hout hget
          refine one_free rfl ?_
          have e0 := (hget 28 58 (by kernel_rfl)).trans (congrArg some (H 28 (by decide)))
          clear H hin hout hget
          dsimp only [bare]
          go_wp2
          exact ⟨_, rfl, shows0 hR rfl⟩
        · intro vs a w hR H hin hout hget
          refine one_guard 29 true 59 rfl (by kernel_rfl) ((hget 29 59 (by kernel_rfl)).trans (congrArg some (H 29 (by decide)))) ?_
          have e0 := hout 2 (by kernel_rfl)
          clear H hin hout hget
          dsimp only [bare]
          go_wp2
          exact ⟨_, rfl, shows0 hR (hs.later hR)⟩
        · intro vs a w hR H hin hout hget
          refine one_guard 29 true 59 rfl (by kernel_rfl) ((hget 29 59 (by kernel_rfl)).trans (congrArg some (H 29 (by decide)))) ?_
          obtain ⟨b0, o0, cap0, h0, lt0, c0⟩ := H 30 (by decide)
          have e0 := (hget 30 60 (by kernel_rfl)).trans (congrArg some h0)
          clear H hin hout hget
          dsimp only [bare]
          go_wp2
          exact ⟨_, rfl, shows0 hR ⟨b0, _, rfl, lt0, ptAt 1 c0 (by decide) rfl⟩⟩
        · intro vs a w hR H hin hout hget
          refine one_guard 29 true 59 rfl (by kernel_rfl) ((hget 29 59 (by kernel_rfl)).trans (congrArg some (H 29 (by decide)))) ?_
          obtain ⟨b0, o0, h0, lt0, c0⟩ := H 31 (by decide)
          have e0 := (hget 31 61 (by kernel_rfl)).trans (congrArg some h0)
          have d0 : w.cell? ⟨b0, o0, none⟩ = some (.int .u8 99) := c0 0 (by decide)
          have d1 : w.cell? ⟨b0, o0 + 1, none⟩ = some (.int .u8 99) := c0 1 (by decide)
          clear c0
          clear H hin hout hget
          dsimp only [bare]
          go_wp2
          exact ⟨_, rfl, shows0 hR rfl⟩
        · intro vs a w hR H hin hout hget
          refine one_guard 29 true 59 rfl (by kernel_rfl) ((hget 29 59 (by kernel_rfl)).trans (congrArg some (H 29 (by decide)))) ?_
          clear H hin hout hget
          dsimp only [bare]
          go_wp2
          exact ⟨_, rfl, shows0 hR rfl⟩
        · intro vs a w hR H hin hout hget
          refine one_guard 29 true 59 rfl (by kernel_rfl) ((hget 29 59 (by kernel_rfl)).trans (congrArg some (H 29 (by decide)))) ?_
          have e0 := (hget 32 62 (by kernel_rfl)).trans (congrArg some (H 32 (by decide)))
          have e1 := (hget 33 63 (by kernel_rfl)).trans (congrArg some (H 33 (by decide)))
          clear H hin hout hget
          dsimp only [bare]
          go_wp2
          exact ⟨_, rfl, shows0 hR rfl⟩
        · intro vs a w hR H hin hout hget
          refine one_free rfl ?_
          have e0 := (hget 29 59 (by kernel_rfl)).trans (congrArg some (H 29 (by decide)))
          have e1 := (hget 34 64 (by kernel_rfl)).trans (congrArg some (H 34 (by decide)))
          clear H hin hout hget
          dsimp only [bare]
          go_wp2
          exact ⟨_, rfl, shows0 hR rfl⟩
        · intro vs a w hR H hin hout hget
          refine one_free rfl ?_
          have e0 := (hget 35 65 (by kernel_rfl)).trans (congrArg some (H 35 (by decide)))
          clear H hin hout hget
          dsimp only [bare]
          go_wp2
          exact ⟨_, rfl, shows0 hR rfl⟩
        · intro vs a w hR H hin hout hget
          refine one_guard 36 true 66 rfl (by kernel_rfl) ((hget 36 66 (by kernel_rfl)).trans (congrArg some (H 36 (by decide)))) ?_
          clear H hin hout hget
          dsimp only [bare]
          go_wp2_with fail
          refine (all_any w).mono ?_
          rintro e w1 ⟨rfl, hb⟩
          go_wp2
          exact ⟨_, rfl, shows hR hb.below rfl⟩
        · intro vs a w hR H hin hout hget
          refine one_guard 36 true 66 rfl (by kernel_rfl) ((hget 36 66 (by kernel_rfl)).trans (congrArg some (H 36 (by decide)))) ?_
          have e0 := (hget 37 67 (by kernel_rfl)).trans (congrArg some (H 37 (by decide)))
          clear H hin hout hget
          dsimp only [bare]
          go_wp2_with fail
          refine (not_any _ w).mono ?_
          rintro e w1 ⟨rfl, hb⟩
          go_wp2
          exact ⟨_, rfl, shows hR hb.below rfl⟩
        · intro vs a w hR H hin hout hget
          refine one_guard 36 true 66 rfl (by kernel_rfl) ((hget 36 66 (by kernel_rfl)).trans (congrArg some (H 36 (by decide)))) ?_
          clear H hin hout hget
          dsimp only [bare]
          go_wp2
          exact ⟨_, rfl, shows0 hR setV_zero.symm⟩
        · intro vs a w hR H hin hout hget
          refine one_guard 36 true 66 rfl (by kernel_rfl) ((hget 36 66 (by kernel_rfl)).trans (congrArg some (H 36 (by decide)))) ?_
          have e0 := (hget 38 68 (by kernel_rfl)).trans (congrArg some (H 38 (by decide)))
          have e1 := (hget 39 69 (by kernel_rfl)).trans (congrArg some (H 39 (by decide)))
          have HE := eqlSame (Sx.not Sx.full) 0 (by kernel_rfl) (by kernel_rfl)
          have HG := guardSetV
          clear H hin hout hget
          dsimp only [bare]
          go_wp2
          exact ⟨_, rfl, shows0 hR rfl⟩
        · intro vs a w hR H hin hout hget
          refine one_free rfl ?_
          have e0 := (hget 36 66 (by kernel_rfl)).trans (congrArg some (H 36 (by decide)))
          have e1 := (hget 40 70 (by kernel_rfl)).trans (congrArg some (H 40 (by decide)))
          clear H hin hout hget
          dsimp only [bare]
          go_wp2
          exact ⟨_, rfl, shows0 hR rfl⟩
        · intro vs a w hR H hin hout hget
          refine one_free rfl ?_
          have e0 := (hget 41 71 (by kernel_rfl)).trans (congrArg some (H 41 (by decide)))
          clear H hin hout hget
          dsimp only [bare]
          go_wp2
          exact ⟨_, rfl, shows0 hR rfl⟩
        · intro vs a w hR H hin hout hget
          refine one_guard 42 true 72 rfl (by kernel_rfl) ((hget 42 72 (by kernel_rfl)).trans (congrArg some (H 42 (by decide)))) ?_
          clear H hin hout hget
          dsimp only [bare]
          go_wp2
          exact ⟨_, rfl, shows hR (below1 w _) (slN_new w _ _ _ _ _ rfl)⟩
        · intro vs a w hR H hin hout hget
          refine one_guard 42 true 72 rfl (by kernel_rfl) ((hget 42 72 (by kernel_rfl)).trans (congrArg some (H 42 (by decide)))) ?_
          obtain ⟨b0, o0, cap0, h0, lt0, c0⟩ := H 43 (by decide)
          have e0 := (hget 43 73 (by kernel_rfl)).trans (congrArg some h0)
          clear H hin hout hget
          dsimp only [bare]
          go_wp2_with fail
          refine (of_any _ [99, 97, 99] (by decide) w ⟨rfl, .inr ⟨_, _, _, rfl, lt0, c0⟩⟩ (by decide)).mono ?_
          rintro e w1 ⟨rfl, hb⟩
          go_wp2
          exact ⟨_, rfl, shows hR hb.below rfl⟩
        · intro vs a w hR H hin hout hget
          refine one_guard 42 true 72 rfl (by kernel_rfl) ((hget 42 72 (by kernel_rfl)).trans (congrArg some (H 42 (by decide)))) ?_
          have e0 := (hget 44 74 (by kernel_rfl)).trans (congrArg some (H 44 (by decide)))
          clear H hin hout hget
          dsimp only [bare]
          go_wp2_with fail
          refine (HY w).mono ?_
          rintro e w1 ⟨v, rfl, hf, hb⟩
          go_wp2
          exact ⟨_, rfl, shows hR hb (SlN.of_sl (sl_of_owns hf.1) (by decide))⟩
        · intro vs a w hR H hin hout hget
          refine one_guard 42 true 72 rfl (by kernel_rfl) ((hget 42 72 (by kernel_rfl)).trans (congrArg some (H 42 (by decide)))) ?_
          obtain ⟨b0, o0, cap0, h0, lt0, c0⟩ := H 45 (by decide)
          have e0 := (hget 45 75 (by kernel_rfl)).trans (congrArg some h0)
          have kc := run_convert_bytes_arg (P := Try.prog) (w := w) 44 5 Try.underlying44 Try.underlying5 b0 o0 2 cap0 [97, 99] rfl (fun i hi => by rw [c0 i (by omega)]; rcases i with _ | _ | i <;> first | rfl | omega) 9 Try.underlying9
          clear H hin hout hget
          dsimp only [bare]
          go_wp2
          exact ⟨_, rfl, shows0 hR rfl⟩
        · intro vs a w hR H hin hout hget
          refine one_guard 42 true 72 rfl (by kernel_rfl) ((hget 42 72 (by kernel_rfl)).trans (congrArg some (H 42 (by decide)))) ?_
          have e0 := (hget 46 76 (by kernel_rfl)).trans (congrArg some (H 46 (by decide)))
          clear H hin hout hget
          dsimp only [bare]
          go_wp2
          exact ⟨_, rfl, shows0 hR rfl⟩
        · intro vs a w hR H hin hout hget
          refine one_free rfl ?_
          have e0 := (hget 42 72 (by kernel_rfl)).trans (congrArg some (H 42 (by decide)))
          have e1 := (hget 47 77 (by kernel_rfl)).trans (congrArg some (H 47 (by decide)))
          clear H hin hout hget
          dsimp only [bare]
          go_wp2
          exact ⟨_, rfl, shows0 hR rfl⟩
        · intro vs a w hR H hin hout hget
          refine one_free rfl ?_
          have e0 := (hget 48 78 (by kernel_rfl)).trans (congrArg some (H 48 (by decide)))
          clear H hin hout hget
          dsimp only [bare]
          go_wp2
          exact ⟨_, rfl, shows0 hR rfl⟩
        · intro vs a w hR H hin hout hget
          refine one_guard 49 true 79 rfl (by kernel_rfl) ((hget 49 79 (by kernel_rfl)).trans (congrArg some (H 49 (by decide)))) ?_
          have e0 := hout 3 (by kernel_rfl)
          clear H hin hout hget
          dsimp only [bare]
          go_wp2
          exact ⟨_, rfl, shows0 hR rfl⟩
        · intro vs a w hR H hin hout hget
          refine one_guard 49 true 79 rfl (by kernel_rfl) ((hget 49 79 (by kernel_rfl)).trans (congrArg some (H 49 (by decide)))) ?_
          have e0 := (hget 50 80 (by kernel_rfl)).trans (congrArg some (H 50 (by decide)))
          clear H hin hout hget
          dsimp only [bare]
          go_wp2
          exact ⟨_, rfl, shows0 hR rfl⟩
        · intro vs a w hR H hin hout hget
          refine one_free rfl ?_
          have e0 := (hget 49 79 (by kernel_rfl)).trans (congrArg some (H 49 (by decide)))
          have e1 := (hget 51 81 (by kernel_rfl)).trans (congrArg some (H 51 (by decide)))
          clear H hin hout hget
          dsimp only [bare]
          go_wp2
          exact ⟨_, rfl, shows0 hR rfl⟩
        · intro vs a w hR H hin hout hget
          refine one_free rfl ?_
          have e0 := (hget 52 82 (by kernel_rfl)).trans (congrArg some (H 52 (by decide)))
          clear H hin hout hget
          dsimp only [bare]
          go_wp2
          exact ⟨_, rfl, shows0 hR rfl⟩
        · intro vs a w hR H hin hout hget
          refine one_guard 53 true 83 rfl (by kernel_rfl) ((hget 53 83 (by kernel_rfl)).trans (congrArg some (H 53 (by decide)))) ?_
          have e0 := hout 4 (by kernel_rfl)
          clear H hin hout hget
          dsimp only [bare]
          go_wp2
          exact ⟨_, rfl, shows0 hR rfl⟩
        · intro vs a w hR H hin hout hget
          refine one_free rfl ?_
          have e0 := (hget 53 83 (by kernel_rfl)).trans (congrArg some (H 53 (by decide)))
          have e1 := (hget 54 84 (by kernel_rfl)).trans (congrArg some (H 54 (by decide)))
          clear H hin hout hget
          dsimp only [bare]
          go_wp2
          exact ⟨_, rfl, shows0 hR rfl⟩
        · intro vs a w hR H hin hout hget
          refine one_free rfl ?_
          have e0 := (hget 55 85 (by kernel_rfl)).trans (congrArg some (H 55 (by decide)))
          clear H hin hout hget
          dsimp only [bare]
          go_wp2
          exact ⟨_, rfl, shows0 hR rfl⟩
        · intro vs a w hR H hin hout hget
          refine one_guard 56 true 86 rfl (by kernel_rfl) ((hget 56 86 (by kernel_rfl)).trans (congrArg some (H 56 (by decide)))) ?_
          have e0 := hout 6 (by kernel_rfl)
          clear H hin hout hget
          dsimp only [bare]
          go_wp2
          exact ⟨_, rfl, shows0 hR rfl⟩
        · intro vs a w hR H hin hout hget
          refine one_guard 56 true 86 rfl (by kernel_rfl) ((hget 56 86 (by kernel_rfl)).trans (congrArg some (H 56 (by decide)))) ?_
          have e0 := (hget 57 87 (by kernel_rfl)).trans (congrArg some (H 57 (by decide)))
          clear H hin hout hget
          dsimp only [bare]
          go_wp2
          exact ⟨_, rfl, shows0 hR rfl⟩
        · intro vs a w hR H hin hout hget
          refine one_free rfl ?_
          have e0 := (hget 56 86 (by kernel_rfl)).trans (congrArg some (H 56 (by decide)))
          have e1 := (hget 58 88 (by kernel_rfl)).trans (congrArg some (H 58 (by decide)))
          clear H hin hout hget
          dsimp only [bare]
          go_wp2
          exact ⟨_, rfl, shows0 hR rfl⟩
        · intro vs a w hR H hin hout hget
          refine one_free rfl ?_
          have e0 := (hget 59 89 (by kernel_rfl)).trans (congrArg some (H 59 (by decide)))
          clear H hin hout hget
          dsimp only [bare]
          go_wp2
          exact ⟨_, rfl, shows0 hR rfl⟩
        · intro vs a w hR H hin hout hget
          refine one_guard 60 true 90 rfl (by kernel_rfl) ((hget 60 90 (by kernel_rfl)).trans (congrArg some (H 60 (by decide)))) ?_
          clear H hin hout hget
          dsimp only [bare]
          go_wp2
          exact ⟨_, rfl, shows hR (below1 w _) (slN_new w _ _ _ _ _ rfl)⟩
        · intro vs a w hR H hin hout hget
          refine one_guard 60 true 90 rfl (by kernel_rfl) ((hget 60 90 (by kernel_rfl)).trans (congrArg some (H 60 (by decide)))) ?_
          obtain ⟨b0, o0, cap0, h0, lt0, c0⟩ := H 61 (by decide)
          have e0 := (hget 61 91 (by kernel_rfl)).trans (congrArg some h0)
          clear H hin hout hget
          dsimp only [bare]
          go_wp2_with fail
          refine (of_any _ [97] (by decide) w ⟨rfl, .inr ⟨_, _, _, rfl, lt0, c0⟩⟩ (by decide)).mono ?_
          rintro e w1 ⟨rfl, hb⟩
          go_wp2
          exact ⟨_, rfl, shows hR hb.below rfl⟩
        · intro vs a w hR H hin hout hget
          refine one_guard 60 true 90 rfl (by kernel_rfl) ((hget 60 90 (by kernel_rfl)).trans (congrArg some (H 60 (by decide)))) ?_
          clear H hin hout hget
          dsimp only [bare]
          go_wp2
          exact ⟨_, rfl, shows hR (below1 w _) (slN_new w _ _ _ _ _ rfl)⟩
        · intro vs a w hR H hin hout hget
          refine one_guard 60 true 90 rfl (by kernel_rfl) ((hget 60 90 (by kernel_rfl)).trans (congrArg some (H 60 (by decide)))) ?_
          obtain ⟨b0, o0, cap0, h0, lt0, c0⟩ := H 63 (by decide)
          have e0 := (hget 63 93 (by kernel_rfl)).trans (congrArg some h0)
          clear H hin hout hget
          dsimp only [bare]
          go_wp2_with fail
          refine (of_any _ [98] (by decide) w ⟨rfl, .inr ⟨_, _, _, rfl, lt0, c0⟩⟩ (by decide)).mono ?_
          rintro e w1 ⟨rfl, hb⟩
          go_wp2
          exact ⟨_, rfl, shows hR hb.below rfl⟩
        · intro vs a w hR H hin hout hget
          refine one_guard 60 true 90 rfl (by kernel_rfl) ((hget 60 90 (by kernel_rfl)).trans (congrArg some (H 60 (by decide)))) ?_
          have e0 := (hget 62 92 (by kernel_rfl)).trans (congrArg some (H 62 (by decide)))
          have e1 := (hget 64 94 (by kernel_rfl)).trans (congrArg some (H 64 (by decide)))
          clear H hin hout hget
          dsimp only [bare]
          go_wp2_with fail
          refine (cmp_is (Sx.ofL [97]) (Sx.ofL [98]) (-1) (by kernel_rfl) w).mono ?_
          rintro e w1 ⟨rfl, hb⟩
          go_wp2
          exact ⟨_, rfl, shows hR hb.below rfl⟩
        · intro vs a w hR H hin hout hget
          refine one_guard 60 true 90 rfl (by kernel_rfl) ((hget 60 90 (by kernel_rfl)).trans (congrArg some (H 60 (by decide)))) ?_
          have e0 := (hget 65 95 (by kernel_rfl)).trans (congrArg some (H 65 (by decide)))
          clear H hin hout hget
          dsimp only [bare]
          go_wp2
          exact ⟨_, rfl, shows0 hR rfl⟩
        · intro vs a w hR H hin hout hget
          refine one_free rfl ?_
          have e0 := (hget 60 90 (by kernel_rfl)).trans (congrArg some (H 60 (by decide)))
          have e1 := (hget 66 96 (by kernel_rfl)).trans (congrArg some (H 66 (by decide)))
          clear H hin hout hget
          dsimp only [bare]
          go_wp2
          exact ⟨_, rfl, shows0 hR rfl⟩
        · intro vs a w hR H hin hout hget
          refine one_free rfl ?_
          have e0 := (hget 67 97 (by kernel_rfl)).trans (congrArg some (H 67 (by decide)))
          clear H hin hout hget
          dsimp only [bare]
          go_wp2
          exact ⟨_, rfl, shows0 hR rfl⟩
        · intro vs a w hR H hin hout hget
          refine one_guard 68 true 98 rfl (by kernel_rfl) ((hget 68 98 (by kernel_rfl)).trans (congrArg some (H 68 (by decide)))) ?_
          clear H hin hout hget
          dsimp only [bare]
          go_wp2
          exact ⟨_, rfl, shows hR (below1 w _) (slN_new w _ _ _ _ _ rfl)⟩
        · intro vs a w hR H hin hout hget
          refine one_guard 68 true 98 rfl (by kernel_rfl) ((hget 68 98 (by kernel_rfl)).trans (congrArg some (H 68 (by decide)))) ?_
          obtain ⟨b0, o0, cap0, h0, lt0, c0⟩ := H 69 (by decide)
          have e0 := (hget 69 99 (by kernel_rfl)).trans (congrArg some h0)
          clear H hin hout hget
          dsimp only [bare]
          go_wp2_with fail
          refine (of_any _ [97, 98] (by decide) w ⟨rfl, .inr ⟨_, _, _, rfl, lt0, c0⟩⟩ (by decide)).mono ?_
          rintro e w1 ⟨rfl, hb⟩
          go_wp2
          exact ⟨_, rfl, shows hR hb.below rfl⟩
        · intro vs a w hR H hin hout hget
          refine one_guard 68 true 98 rfl (by kernel_rfl) ((hget 68 98 (by kernel_rfl)).trans (congrArg some (H 68 (by decide)))) ?_
          clear H hin hout hget
          dsimp only [bare]
          go_wp2
          exact ⟨_, rfl, shows hR (below1 w _) (slN_new w _ _ _ _ _ rfl)⟩
        · intro vs a w hR H hin hout hget
          refine one_guard 68 true 98 rfl (by kernel_rfl) ((hget 68 98 (by kernel_rfl)).trans (congrArg some (H 68 (by decide)))) ?_
          obtain ⟨b0, o0, cap0, h0, lt0, c0⟩ := H 71 (by decide)
          have e0 := (hget 71 101 (by kernel_rfl)).trans (congrArg some h0)
          clear H hin hout hget
          dsimp only [bare]
          go_wp2_with fail
          refine (of_any _ [97] (by decide) w ⟨rfl, .inr ⟨_, _, _, rfl, lt0, c0⟩⟩ (by decide)).mono ?_
          rintro e w1 ⟨rfl, hb⟩
          go_wp2
          exact ⟨_, rfl, shows hR hb.below rfl⟩
        · intro vs a w hR H hin hout hget
          refine one_guard 68 true 98 rfl (by kernel_rfl) ((hget 68 98 (by kernel_rfl)).trans (congrArg some (H 68 (by decide)))) ?_
          have e0 := (hget 70 100 (by kernel_rfl)).trans (congrArg some (H 70 (by decide)))
          have e1 := (hget 72 102 (by kernel_rfl)).trans (congrArg some (H 72 (by decide)))
          clear H hin hout hget
          dsimp only [bare]
          go_wp2_with fail
          refine (cmp_is (Sx.ofL [97, 98]) (Sx.ofL [97]) (-1) (by kernel_rfl) w).mono ?_
          rintro e w1 ⟨rfl, hb⟩
          go_wp2
          exact ⟨_, rfl, shows hR hb.below rfl⟩
        · intro vs a w hR H hin hout hget
          refine one_guard 68 true 98 rfl (by kernel_rfl) ((hget 68 98 (by kernel_rfl)).trans (congrArg some (H 68 (by decide)))) ?_
          have e0 := (hget 73 103 (by kernel_rfl)).trans (congrArg some (H 73 (by decide)))
          clear H hin hout hget
          dsimp only [bare]
          go_wp2
          exact ⟨_, rfl, shows0 hR rfl⟩
        · intro vs a w hR H hin hout hget
          refine one_free rfl ?_
          have e0 := (hget 68 98 (by kernel_rfl)).trans (congrArg some (H 68 (by decide)))
          have e1 := (hget 74 104 (by kernel_rfl)).trans (congrArg some (H 74 (by decide)))
          clear H hin hout hget
          dsimp only [bare]
          go_wp2
          exact ⟨_, rfl, shows0 hR rfl⟩
        · intro vs a w hR H hin hout hget
          refine one_free rfl ?_
          have e0 := (hget 75 105 (by kernel_rfl)).trans (congrArg some (H 75 (by decide)))
          clear H hin hout hget
          dsimp only [bare]
          go_wp2
          exact ⟨_, rfl, shows0 hR rfl⟩
        · intro vs a w hR H hin hout hget
          refine one_guard 76 true 106 rfl (by kernel_rfl) ((hget 76 106 (by kernel_rfl)).trans (congrArg some (H 76 (by decide)))) ?_
          clear H hin hout hget
          dsimp only [bare]
          go_wp2
          exact ⟨_, rfl, shows0 hR setV_zero.symm⟩
        · intro vs a w hR H hin hout hget
          refine one_guard 76 true 106 rfl (by kernel_rfl) ((hget 76 106 (by kernel_rfl)).trans (congrArg some (H 76 (by decide)))) ?_
          clear H hin hout hget
          dsimp only [bare]
          go_wp2
          exact ⟨_, rfl, shows hR (below1 w _) (slN_new w _ _ _ _ _ rfl)⟩
        · intro vs a w hR H hin hout hget
          refine one_guard 76 true 106 rfl (by kernel_rfl) ((hget 76 106 (by kernel_rfl)).trans (congrArg some (H 76 (by decide)))) ?_
          obtain ⟨b0, o0, cap0, h0, lt0, c0⟩ := H 78 (by decide)
          have e0 := (hget 78 108 (by kernel_rfl)).trans (congrArg some h0)
          clear H hin hout hget
          dsimp only [bare]
          go_wp2_with fail
          refine (of_any _ [97] (by decide) w ⟨rfl, .inr ⟨_, _, _, rfl, lt0, c0⟩⟩ (by decide)).mono ?_
          rintro e w1 ⟨rfl, hb⟩
          go_wp2
          exact ⟨_, rfl, shows hR hb.below rfl⟩
        · intro vs a w hR H hin hout hget
          refine one_guard 76 true 106 rfl (by kernel_rfl) ((hget 76 106 (by kernel_rfl)).trans (congrArg some (H 76 (by decide)))) ?_
          have e0 := (hget 77 107 (by kernel_rfl)).trans (congrArg some (H 77 (by decide)))
          have e1 := (hget 79 109 (by kernel_rfl)).trans (congrArg some (H 79 (by decide)))
          clear H hin hout hget
          dsimp only [bare]
          go_wp2_with fail
          refine (cmp_is 0 (Sx.ofL [97]) (1) (by kernel_rfl) w).mono ?_
          rintro e w1 ⟨rfl, hb⟩
          go_wp2
          exact ⟨_, rfl, shows hR hb.below rfl⟩
        · intro vs a w hR H hin hout hget
          refine one_guard 76 true 106 rfl (by kernel_rfl) ((hget 76 106 (by kernel_rfl)).trans (congrArg some (H 76 (by decide)))) ?_
          have e0 := (hget 80 110 (by kernel_rfl)).trans (congrArg some (H 80 (by decide)))
          clear H hin hout hget
          dsimp only [bare]
          go_wp2
          exact ⟨_, rfl, shows0 hR rfl⟩
        · intro vs a w hR H hin hout hget
          refine one_free rfl ?_
          have e0 := (hget 76 106 (by kernel_rfl)).trans (congrArg some (H 76 (by decide)))
          have e1 := (hget 81 111 (by kernel_rfl)).trans (congrArg some (H 81 (by decide)))
          clear H hin hout hget
          dsimp only [bare]
          go_wp2
          exact ⟨_, rfl, shows0 hR rfl⟩
        · intro vs a w hR H hin hout hget
          refine one_free rfl ?_
          have e0 := (hget 82 112 (by kernel_rfl)).trans (congrArg some (H 82 (by decide)))
          clear H hin hout hget
          dsimp only [bare]
          go_wp2
          exact ⟨_, rfl, shows0 hR rfl⟩
        · intro vs a w hR H hin hout hget
          refine one_guard 83 true 113 rfl (by kernel_rfl) ((hget 83 113 (by kernel_rfl)).trans (congrArg some (H 83 (by decide)))) ?_
          have e0 := hout 7 (by kernel_rfl)
          clear H hin hout hget
          dsimp only [bare]
          go_wp2
          exact ⟨_, rfl, shows0 hR (hp.later hR)⟩
        · intro vs a w hR H hin hout hget
          refine one_guard 83 true 113 rfl (by kernel_rfl) ((hget 83 113 (by kernel_rfl)).trans (congrArg some (H 83 (by decide)))) ?_
          obtain ⟨b0, o0, cap0, h0, lt0, c0⟩ := H 84 (by decide)
          have e0 := (hget 84 114 (by kernel_rfl)).trans (congrArg some h0)
          clear H hin hout hget
          dsimp only [bare]
          go_wp2
          exact ⟨_, rfl, shows0 hR rfl⟩
        · intro vs a w hR H hin hout hget
          refine one_guard 83 true 113 rfl (by kernel_rfl) ((hget 83 113 (by kernel_rfl)).trans (congrArg some (H 83 (by decide)))) ?_
          have e0 := (hget 85 115 (by kernel_rfl)).trans (congrArg some (H 85 (by decide)))
          clear H hin hout hget
          dsimp only [bare]
          go_wp2
          exact ⟨_, rfl, shows0 hR rfl⟩
        · intro vs a w hR H hin hout hget
          refine one_free rfl ?_
          have e0 := (hget 83 113 (by kernel_rfl)).trans (congrArg some (H 83 (by decide)))
          have e1 := (hget 86 116 (by kernel_rfl)).trans (congrArg some (H 86 (by decide)))
          clear H hin hout hget
          dsimp only [bare]
          go_wp2
          exact ⟨_, rfl, shows0 hR rfl⟩
        · intro vs a w hR H hin hout hget
          refine one_free rfl ?_
          have e0 := (hget 87 117 (by kernel_rfl)).trans (congrArg some (H 87 (by decide)))
          clear H hin hout hget
          dsimp only [bare]
          go_wp2
          exact ⟨_, rfl, shows0 hR rfl⟩
        · intro vs a w hR H hin hout hget
          refine one_guard 88 true 118 rfl (by kernel_rfl) ((hget 88 118 (by kernel_rfl)).trans (congrArg some (H 88 (by decide)))) ?_
          have e0 := hout 7 (by kernel_rfl)
          clear H hin hout hget
          dsimp only [bare]
          go_wp2
          exact ⟨_, rfl, shows0 hR (hp.later hR)⟩
        · intro vs a w hR H hin hout hget
          refine one_guard 88 true 118 rfl (by kernel_rfl) ((hget 88 118 (by kernel_rfl)).trans (congrArg some (H 88 (by decide)))) ?_
          obtain ⟨b0, o0, cap0, h0, lt0, c0⟩ := H 89 (by decide)
          have e0 := (hget 89 119 (by kernel_rfl)).trans (congrArg some h0)
          clear H hin hout hget
          dsimp only [bare]
          go_wp2
          exact ⟨_, rfl, shows0 hR ⟨b0, _, rfl, lt0, ptAt 0 c0 (by decide) rfl⟩⟩
        · intro vs a w hR H hin hout hget
          refine one_guard 88 true 118 rfl (by kernel_rfl) ((hget 88 118 (by kernel_rfl)).trans (congrArg some (H 88 (by decide)))) ?_
          obtain ⟨b0, o0, h0, lt0, c0⟩ := H 90 (by decide)
          have e0 := (hget 90 120 (by kernel_rfl)).trans (congrArg some h0)
          have d0 : w.cell? ⟨b0, o0, none⟩ = some (.int .u64 (Sx.wd (Sx.or (Sx.range 0 96) (Sx.range 101 255)) 0)) := c0 0 (by decide)
          have d1 : w.cell? ⟨b0, o0 + 1, none⟩ = some (.int .u64 (Sx.wd (Sx.or (Sx.range 0 96) (Sx.range 101 255)) 1)) := c0 1 (by decide)
          have d2 : w.cell? ⟨b0, o0 + 2, none⟩ = some (.int .u64 (Sx.wd (Sx.or (Sx.range 0 96) (Sx.range 101 255)) 2)) := c0 2 (by decide)
          have d3 : w.cell? ⟨b0, o0 + 3, none⟩ = some (.int .u64 (Sx.wd (Sx.or (Sx.range 0 96) (Sx.range 101 255)) 3)) := c0 3 (by decide)
          clear c0
          clear H hin hout hget
          dsimp only [bare]
          go_wp2
          exact ⟨_, rfl, shows0 hR rfl⟩
        · intro vs a w hR H hin hout hget
          refine one_guard 88 true 118 rfl (by kernel_rfl) ((hget 88 118 (by kernel_rfl)).trans (congrArg some (H 88 (by decide)))) ?_
          clear H hin hout hget
          dsimp only [bare]
          go_wp2_with fail
          refine (range_any 0 96 (by decide) (by decide) w).mono ?_
          rintro e w1 ⟨rfl, hb⟩
          go_wp2
          exact ⟨_, rfl, shows hR hb.below rfl⟩
        · intro vs a w hR H hin hout hget
          refine one_guard 88 true 118 rfl (by kernel_rfl) ((hget 88 118 (by kernel_rfl)).trans (congrArg some (H 88 (by decide)))) ?_
          clear H hin hout hget
          dsimp only [bare]
          go_wp2_with fail
          refine (range_any 101 255 (by decide) (by decide) w).mono ?_
          rintro e w1 ⟨rfl, hb⟩
          go_wp2
          exact ⟨_, rfl, shows hR hb.below rfl⟩
        · intro vs a w hR H hin hout hget
          refine one_guard 88 true 118 rfl (by kernel_rfl) ((hget 88 118 (by kernel_rfl)).trans (congrArg some (H 88 (by decide)))) ?_
          have e0 := (hget 92 122 (by kernel_rfl)).trans (congrArg some (H 92 (by decide)))
          have e1 := (hget 93 123 (by kernel_rfl)).trans (congrArg some (H 93 (by decide)))
          clear H hin hout hget
          dsimp only [bare]
          go_wp2_with fail
          refine (or_any _ _ w).mono ?_
          rintro e w1 ⟨rfl, hb⟩
          go_wp2
          exact ⟨_, rfl, shows hR hb.below rfl⟩
        · intro vs a w hR H hin hout hget
          refine one_guard 88 true 118 rfl (by kernel_rfl) ((hget 88 118 (by kernel_rfl)).trans (congrArg some (H 88 (by decide)))) ?_
          have e0 := (hget 91 121 (by kernel_rfl)).trans (congrArg some (H 91 (by decide)))
          have e1 := (hget 94 124 (by kernel_rfl)).trans (congrArg some (H 94 (by decide)))
          have HE := eqlSame (Sx.or (Sx.range 0 96) (Sx.range 101 255)) (Sx.or (Sx.range 0 96) (Sx.range 101 255)) (by kernel_rfl) (by kernel_rfl)
          have HG := guardSetV
          clear H hin hout hget
          dsimp only [bare]
          go_wp2
          exact ⟨_, rfl, shows0 hR rfl⟩
        · intro vs a w hR H hin hout hget
          refine one_free rfl ?_
          have e0 := (hget 88 118 (by kernel_rfl)).trans (congrArg some (H 88 (by decide)))
          have e1 := (hget 95 125 (by kernel_rfl)).trans (congrArg some (H 95 (by decide)))
          clear H hin hout hget
          dsimp only [bare]
          go_wp2
          exact ⟨_, rfl, shows0 hR rfl⟩
        · intro vs a w hR H hin hout hget
          refine one_free rfl ?_
          have e0 := (hget 96 126 (by kernel_rfl)).trans (congrArg some (H 96 (by decide)))
          clear H hin hout hget
          dsimp only [bare]
          go_wp2
          exact ⟨_, rfl, shows0 hR rfl⟩
        · intro vs a w hR H hin hout hget
          refine one_guard 97 true 127 rfl (by kernel_rfl) ((hget 97 127 (by kernel_rfl)).trans (congrArg some (H 97 (by decide)))) ?_
          have e0 := hout 7 (by kernel_rfl)
          clear H hin hout hget
          dsimp only [bare]
          go_wp2
          exact ⟨_, rfl, shows0 hR (hp.later hR)⟩
        · intro vs a w hR H hin hout hget
          refine one_guard 97 true 127 rfl (by kernel_rfl) ((hget 97 127 (by kernel_rfl)).trans (congrArg some (H 97 (by decide)))) ?_
          obtain ⟨b0, o0, cap0, h0, lt0, c0⟩ := H 98 (by decide)
          have e0 := (hget 98 128 (by kernel_rfl)).trans (congrArg some h0)
          clear H hin hout hget
          dsimp only [bare]
          go_wp2
          exact ⟨_, rfl, shows0 hR ⟨b0, _, rfl, lt0, ptAt 1 c0 (by decide) rfl⟩⟩
        · intro vs a w hR H hin hout hget
          refine one_guard 97 true 127 rfl (by kernel_rfl) ((hget 97 127 (by kernel_rfl)).trans (congrArg some (H 97 (by decide)))) ?_
          obtain ⟨b0, o0, h0, lt0, c0⟩ := H 99 (by decide)
          have e0 := (hget 99 129 (by kernel_rfl)).trans (congrArg some h0)
          have d0 : w.cell? ⟨b0, o0, none⟩ = some (.int .u64 (Sx.wd (Sx.ofL [97]) 0)) := c0 0 (by decide)
          have d1 : w.cell? ⟨b0, o0 + 1, none⟩ = some (.int .u64 (Sx.wd (Sx.ofL [97]) 1)) := c0 1 (by decide)
          have d2 : w.cell? ⟨b0, o0 + 2, none⟩ = some (.int .u64 (Sx.wd (Sx.ofL [97]) 2)) := c0 2 (by decide)
          have d3 : w.cell? ⟨b0, o0 + 3, none⟩ = some (.int .u64 (Sx.wd (Sx.ofL [97]) 3)) := c0 3 (by decide)
          clear c0
          clear H hin hout hget
          dsimp only [bare]
          go_wp2
          exact ⟨_, rfl, shows0 hR rfl⟩
        · intro vs a w hR H hin hout hget
          refine one_guard 97 true 127 rfl (by kernel_rfl) ((hget 97 127 (by kernel_rfl)).trans (congrArg some (H 97 (by decide)))) ?_
          clear H hin hout hget
          dsimp only [bare]
          go_wp2
          exact ⟨_, rfl, shows hR (below1 w _) (slN_new w _ _ _ _ _ rfl)⟩
        · intro vs a w hR H hin hout hget
          refine one_guard 97 true 127 rfl (by kernel_rfl) ((hget 97 127 (by kernel_rfl)).trans (congrArg some (H 97 (by decide)))) ?_
          obtain ⟨b0, o0, cap0, h0, lt0, c0⟩ := H 101 (by decide)
          have e0 := (hget 101 131 (by kernel_rfl)).trans (congrArg some h0)
          clear H hin hout hget
          dsimp only [bare]
          go_wp2_with fail
          refine (of_any _ [97] (by decide) w ⟨rfl, .inr ⟨_, _, _, rfl, lt0, c0⟩⟩ (by decide)).mono ?_
          rintro e w1 ⟨rfl, hb⟩
          go_wp2
          exact ⟨_, rfl, shows hR hb.below rfl⟩
        · intro vs a w hR H hin hout hget
          refine one_guard 97 true 127 rfl (by kernel_rfl) ((hget 97 127 (by kernel_rfl)).trans (congrArg some (H 97 (by decide)))) ?_
          have e0 := (hget 100 130 (by kernel_rfl)).trans (congrArg some (H 100 (by decide)))
          have e1 := (hget 102 132 (by kernel_rfl)).trans (congrArg some (H 102 (by decide)))
          have HE := eqlSame (Sx.ofL [97]) (Sx.ofL [97]) (by kernel_rfl) (by kernel_rfl)
          have HG := guardSetV
          clear H hin hout hget
          dsimp only [bare]
          go_wp2
          exact ⟨_, rfl, shows0 hR rfl⟩
        · intro vs a w hR H hin hout hget
          refine one_free rfl ?_
          have e0 := (hget 97 127 (by kernel_rfl)).trans (congrArg some (H 97 (by decide)))
          have e1 := (hget 103 133 (by kernel_rfl)).trans (congrArg some (H 103 (by decide)))
          clear H hin hout hget
          dsimp only [bare]
          go_wp2
          exact ⟨_, rfl, shows0 hR rfl⟩
        · intro vs a w hR H hin hout hget
          refine one_free rfl ?_
          have e0 := (hget 104 134 (by kernel_rfl)).trans (congrArg some (H 104 (by decide)))
          clear H hin hout hget
          dsimp only [bare]
          go_wp2
          exact ⟨_, rfl, shows0 hR rfl⟩
        · intro vs a w hR H hin hout hget
          refine one_guard 105 true 135 rfl (by kernel_rfl) ((hget 105 135 (by kernel_rfl)).trans (congrArg some (H 105 (by decide)))) ?_
          have e0 := hout 7 (by kernel_rfl)
          clear H hin hout hget
          dsimp only [bare]
          go_wp2
          exact ⟨_, rfl, shows0 hR (hp.later hR)⟩
        · intro vs a w hR H hin hout hget
          refine one_guard 105 true 135 rfl (by kernel_rfl) ((hget 105 135 (by kernel_rfl)).trans (congrArg some (H 105 (by decide)))) ?_
          obtain ⟨b0, o0, cap0, h0, lt0, c0⟩ := H 106 (by decide)
          have e0 := (hget 106 136 (by kernel_rfl)).trans (congrArg some h0)
          clear H hin hout hget
          dsimp only [bare]
          go_wp2
          exact ⟨_, rfl, shows0 hR ⟨b0, _, rfl, lt0, ptAt 2 c0 (by decide) rfl⟩⟩
        · intro vs a w hR H hin hout hget
          refine one_guard 105 true 135 rfl (by kernel_rfl) ((hget 105 135 (by kernel_rfl)).trans (congrArg some (H 105 (by decide)))) ?_
          obtain ⟨b0, o0, h0, lt0, c0⟩ := H 107 (by decide)
          have e0 := (hget 107 137 (by kernel_rfl)).trans (congrArg some h0)
          have d0 : w.cell? ⟨b0, o0, none⟩ = some (.int .u64 (Sx.wd (Sx.ofL [98, 99]) 0)) := c0 0 (by decide)
          have d1 : w.cell? ⟨b0, o0 + 1, none⟩ = some (.int .u64 (Sx.wd (Sx.ofL [98, 99]) 1)) := c0 1 (by decide)
          have d2 : w.cell? ⟨b0, o0 + 2, none⟩ = some (.int .u64 (Sx.wd (Sx.ofL [98, 99]) 2)) := c0 2 (by decide)
          have d3 : w.cell? ⟨b0, o0 + 3, none⟩ = some (.int .u64 (Sx.wd (Sx.ofL [98, 99]) 3)) := c0 3 (by decide)
          clear c0
          clear H hin hout hget
          dsimp only [bare]
          go_wp2
          exact ⟨_, rfl, shows0 hR rfl⟩
        · intro vs a w hR H hin hout hget
          refine one_guard 105 true 135 rfl (by kernel_rfl) ((hget 105 135 (by kernel_rfl)).trans (congrArg some (H 105 (by decide)))) ?_
          clear H hin hout hget
          dsimp only [bare]
          go_wp2
          exact ⟨_, rfl, shows hR (below1 w _) (slN_new w _ _ _ _ _ rfl)⟩
        · intro vs a w hR H hin hout hget
          refine one_guard 105 true 135 rfl (by kernel_rfl) ((hget 105 135 (by kernel_rfl)).trans (congrArg some (H 105 (by decide)))) ?_
          obtain ⟨b0, o0, cap0, h0, lt0, c0⟩ := H 109 (by decide)
          have e0 := (hget 109 139 (by kernel_rfl)).trans (congrArg some h0)
          clear H hin hout hget
          dsimp only [bare]
          go_wp2_with fail
          refine (of_any _ [98, 99] (by decide) w ⟨rfl, .inr ⟨_, _, _, rfl, lt0, c0⟩⟩ (by decide)).mono ?_
          rintro e w1 ⟨rfl, hb⟩
          go_wp2
          exact ⟨_, rfl, shows hR hb.below rfl⟩
        · intro vs a w hR H hin hout hget
          refine one_guard 105 true 135 rfl (by kernel_rfl) ((hget 105 135 (by kernel_rfl)).trans (congrArg some (H 105 (by decide)))) ?_
          have e0 := (hget 108 138 (by kernel_rfl)).trans (congrArg some (H 108 (by decide)))
          have e1 := (hget 110 140 (by kernel_rfl)).trans (congrArg some (H 110 (by decide)))
          have HE := eqlSame (Sx.ofL [98, 99]) (Sx.ofL [98, 99]) (by kernel_rfl) (by kernel_rfl)
          have HG := guardSetV
          clear H hin hout hget
          dsimp only [bare]
          go_wp2
          exact ⟨_, rfl, shows0 hR rfl⟩
        · intro vs a w hR H hin hout hget
          refine one_free rfl ?_
          have e0 := (hget 105 135 (by kernel_rfl)).trans (congrArg some (H 105 (by decide)))
          have e1 := (hget 111 141 (by kernel_rfl)).trans (congrArg some (H 111 (by decide)))
          clear H hin hout hget
          dsimp only [bare]
          go_wp2
          exact ⟨_, rfl, shows0 hR rfl⟩
        · intro vs a w hR H hin hout hget
          refine one_free rfl ?_
          have e0 := (hget 112 142 (by kernel_rfl)).trans (congrArg some (H 112 (by decide)))
          clear H hin hout hget
          dsimp only [bare]
          go_wp2
          exact ⟨_, rfl, shows0 hR rfl⟩
        · intro vs a w hR H hin hout hget
          refine one_guard 113 true 143 rfl (by kernel_rfl) ((hget 113 143 (by kernel_rfl)).trans (congrArg some (H 113 (by decide)))) ?_
          have e0 := hout 7 (by kernel_rfl)
          clear H hin hout hget
          dsimp only [bare]
          go_wp2
          exact ⟨_, rfl, shows0 hR (hp.later hR)⟩
        · intro vs a w hR H hin hout hget
          refine one_guard 113 true 143 rfl (by kernel_rfl) ((hget 113 143 (by kernel_rfl)).trans (congrArg some (H 113 (by decide)))) ?_
          obtain ⟨b0, o0, cap0, h0, lt0, c0⟩ := H 114 (by decide)
          have e0 := (hget 114 144 (by kernel_rfl)).trans (congrArg some h0)
          clear H hin hout hget
          dsimp only [bare]
          go_wp2
          exact ⟨_, rfl, shows0 hR ⟨b0, _, rfl, lt0, ptAt 3 c0 (by decide) rfl⟩⟩
        · intro vs a w hR H hin hout hget
          refine one_guard 113 true 143 rfl (by kernel_rfl) ((hget 113 143 (by kernel_rfl)).trans (congrArg some (H 113 (by decide)))) ?_
          obtain ⟨b0, o0, h0, lt0, c0⟩ := H 115 (by decide)
          have e0 := (hget 115 145 (by kernel_rfl)).trans (congrArg some h0)
          have d0 : w.cell? ⟨b0, o0, none⟩ = some (.int .u64 (Sx.wd (Sx.ofL [100]) 0)) := c0 0 (by decide)
          have d1 : w.cell? ⟨b0, o0 + 1, none⟩ = some (.int .u64 (Sx.wd (Sx.ofL [100]) 1)) := c0 1 (by decide)
          have d2 : w.cell? ⟨b0, o0 + 2, none⟩ = some (.int .u64 (Sx.wd (Sx.ofL [100]) 2)) := c0 2 (by decide)
          have d3 : w.cell? ⟨b0, o0 + 3, none⟩ = some (.int .u64 (Sx.wd (Sx.ofL [100]) 3)) := c0 3 (by decide)
          clear c0
          clear H hin hout hget
          dsimp only [bare]
          go_wp2
          exact ⟨_, rfl, shows0 hR rfl⟩
        · intro vs a w hR H hin hout hget
          refine one_guard 113 true 143 rfl (by kernel_rfl) ((hget 113 143 (by kernel_rfl)).trans (congrArg some (H 113 (by decide)))) ?_
          clear H hin hout hget
          dsimp only [bare]
          go_wp2
          exact ⟨_, rfl, shows hR (below1 w _) (slN_new w _ _ _ _ _ rfl)⟩
        · intro vs a w hR H hin hout hget
          refine one_guard 113 true 143 rfl (by kernel_rfl) ((hget 113 143 (by kernel_rfl)).trans (congrArg some (H 113 (by decide)))) ?_
          obtain ⟨b0, o0, cap0, h0, lt0, c0⟩ := H 117 (by decide)
          have e0 := (hget 117 147 (by kernel_rfl)).trans (congrArg some h0)
          clear H hin hout hget
          dsimp only [bare]
          go_wp2_with fail
          refine (of_any _ [100] (by decide) w ⟨rfl, .inr ⟨_, _, _, rfl, lt0, c0⟩⟩ (by decide)).mono ?_
          rintro e w1 ⟨rfl, hb⟩
          go_wp2
          exact ⟨_, rfl, shows hR hb.below rfl⟩
        · intro vs a w hR H hin hout hget
          refine one_guard 113 true 143 rfl (by kernel_rfl) ((hget 113 143 (by kernel_rfl)).trans (congrArg some (H 113 (by decide)))) ?_
          have e0 := (hget 116 146 (by kernel_rfl)).trans (congrArg some (H 116 (by decide)))
          have e1 := (hget 118 148 (by kernel_rfl)).trans (congrArg some (H 118 (by decide)))
          have HE := eqlSame (Sx.ofL [100]) (Sx.ofL [100]) (by kernel_rfl) (by kernel_rfl)
          have HG := guardSetV
          clear H hin hout hget
          dsimp only [bare]
          go_wp2
          exact ⟨_, rfl, shows0 hR rfl⟩
        · intro vs a w hR H hin hout hget
          refine one_free rfl ?_
          have e0 := (hget 113 143 (by kernel_rfl)).trans (congrArg some (H 113 (by decide)))
          have e1 := (hget 119 149 (by kernel_rfl)).trans (congrArg some (H 119 (by decide)))
          clear H hin hout hget
          dsimp only [bare]
          go_wp2
          exact ⟨_, rfl, shows0 hR rfl⟩
        · intro vs a w hR H hin hout hget
          refine one_free rfl ?_
          have e0 := (hget 120 150 (by kernel_rfl)).trans (congrArg some (H 120 (by decide)))
          clear H hin hout hget
          dsimp only [bare]
          go_wp2
          exact ⟨_, rfl, shows0 hR rfl⟩
      · intro vs w8 hR H
        have e0 := H 121 (by decide)
        clear H
        generalize hA : putAll vs _ 0 _ = A
        have h0 : A.tmps.getD 0 undef = .bool true := by rw [← hA]; exact (putAll_near (n := 151) _ 0 121 vs _ 0 (by kernel_rfl) rfl (by kernel_rfl)).trans e0
        have hd : A.defers = [] := by rw [← hA]; exact (putAll_size _ 0 vs _).2
        clear e0 hA
        obtain ⟨T, D⟩ := A
        dsimp only at h0 hd
        subst hd
        have hBf := hB7.trans (hR.mono hB7.size)
        clear hs hp bx
        go_wp2
        go_ret
        exact ⟨congrArg Ending.returned h0, hBf⟩
end Go.Proofs.Ytojmkgllbhbeiaa
