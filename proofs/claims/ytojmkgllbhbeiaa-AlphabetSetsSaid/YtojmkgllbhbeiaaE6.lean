/-
  For AlphabetClasses: how many classes there are; a set is its classes; the closure that tells two classes apart.
-/
import Derived.Test.YtojmkgllbhbeiaaE3
import Derived.Test.YtojmkgllbhbeiaaE1
namespace Go.Proofs.Ytojmkgllbhbeiaa
open Go.RowKit

theorem apart_len : ∀ (ss ds : List Nat), ds.Pairwise (Apart ss) → ds.length ≤ 2 ^ ss.length
  | [], ds, h => by
    match ds, h with
    | [], _ => simp
    | [_], _ => simp
    | a :: b :: l, h =>
      rw [List.pairwise_cons] at h
      obtain ⟨s, hs, _⟩ := h.1 b (by simp)
      cases hs
  | s :: ss, ds, h => by
    have h1 : (ds.filter fun p => decide (Sx.less p s = 0)).length ≤ 2 ^ ss.length := by
      refine apart_len ss _ ?_
      refine (h.filter _).imp_of_mem fun {p q} hp hq hap => ?_
      obtain ⟨x, hx, hne⟩ := hap
      rcases List.mem_cons.1 hx with rfl | hx
      · have a := (List.mem_filter.1 hp).2
        have b := (List.mem_filter.1 hq).2
        exact (hne (by rw [a, b])).elim
      · exact ⟨x, hx, hne⟩
    have h2 : (ds.filter fun p => !decide (Sx.less p s = 0)).length ≤ 2 ^ ss.length := by
      refine apart_len ss _ ?_
      refine (h.filter _).imp_of_mem fun {p q} hp hq hap => ?_
      obtain ⟨x, hx, hne⟩ := hap
      rcases List.mem_cons.1 hx with rfl | hx
      · have a := (List.mem_filter.1 hp).2
        have b := (List.mem_filter.1 hq).2
        simp only [Bool.not_eq_true'] at a b
        exact (hne (by rw [a, b])).elim
      · exact ⟨x, hx, hne⟩
    have h3 := List.length_eq_countP_add_countP (fun p => decide (Sx.less p s = 0)) (l := ds)
    rw [List.countP_eq_length_filter, List.countP_eq_length_filter] at h3
    have h4 : (ds.filter fun a => decide ¬(decide (Sx.less a s = 0) = true)) = ds.filter fun p => !decide (Sx.less p s = 0) := by
      congr 1; funext a; simp
    rw [h4] at h3
    rw [List.length_cons, Nat.pow_succ]
    omega
theorem PartsOk.le64 {ss ds : List Nat} (h : PartsOk ss ds) (hs : ss.length ≤ 6) : ds.length ≤ 64 := by
  have h1 := apart_len ss ds h.apart
  have h2 : 2 ^ ss.length ≤ 2 ^ 6 := Nat.pow_le_pow_right (by decide) hs
  omega

theorem PartsOk.fits {ss ds : List Nat} (h : PartsOk ss ds) {s : Nat} (hs : s ∈ ss) : fitsB ds s = true := by
  unfold fitsB
  rw [List.all_eq_true]
  intro p hp
  rcases h.whole p hp s hs with e | e
  · simp [e]
  · simp [e]
theorem tb_orAt (ds : List Nat) : ∀ (l : List Int) (c : Nat), (orAt ds l).testBit c = l.any fun k => (setAt ds k).testBit c := by
  intro l c
  have : ∀ (l : List Int) (a : Nat), (l.foldl (fun s k => Sx.or s (setAt ds k)) a).testBit c = (a.testBit c || l.any fun k => (setAt ds k).testBit c) := by
    intro l
    induction l with
    | nil => intro a; simp
    | cons k l ih => intro a; rw [List.foldl_cons, ih, Sx.tb_or, List.any_cons, Bool.or_assoc]
  unfold orAt
  rw [this, Nat.zero_testBit, Bool.false_or]
def insideZ (ds : List Nat) (s : Nat) : List Int := (inside ds s ds.length).map fun k : Nat => (k : Int)
theorem insideZ_cells (ds : List Nat) (s : Nat) : (inside ds s ds.length).map intN = (insideZ ds s).map intZ := by unfold insideZ; rw [List.map_map]; exact List.map_congr_left fun _ _ => rfl
theorem insideZ_len (ds : List Nat) (s : Nat) : (insideZ ds s).length = (inside ds s ds.length).length := by unfold insideZ; simp
theorem insideZ_all (ds : List Nat) (s : Nat) : (insideZ ds s).all (isAt ds) = true := by
  unfold insideZ inside
  rw [List.all_eq_true]
  intro x hx
  simp only [List.mem_map, List.mem_filter, List.mem_range] at hx
  obtain ⟨k, ⟨hk, _⟩, rfl⟩ := hx
  exact isAt_nat hk
/-- What fits is its classes. -/
theorem PartsOk.back {ss ds : List Nat} (h : PartsOk ss ds) {s : Nat} (hs : s < 2 ^ 256) (hf : fitsB ds s = true) : orAt ds (insideZ ds s) = s := by
  refine Nat.eq_of_testBit_eq fun c => ?_
  rw [tb_orAt, Bool.eq_iff_iff, List.any_eq_true]
  unfold insideZ inside
  constructor
  · rintro ⟨x, hx, hc⟩
    simp only [List.mem_map, List.mem_filter, List.mem_range] at hx
    obtain ⟨k, ⟨hk, hw⟩, rfl⟩ := hx
    rw [setAt_nat hk] at hc
    rw [List.getD_eq_getElem?_getD, List.getElem?_eq_getElem hk, Option.getD_some] at hw
    exact less_zero'.1 (by simpa using hw) c hc
  · intro hc
    have hc2 : c < 256 := by
      by_cases e : c < 256
      · exact e
      · rw [high_bit hs (by omega)] at hc; cases hc
    obtain ⟨hi, hb⟩ := h.cls_spec hc2
    refine ⟨(cls ds c : Nat), ?_, by rw [setAt_nat hi]; exact hb⟩
    simp only [List.mem_map, List.mem_filter, List.mem_range]
    refine ⟨cls ds c, ⟨hi, ?_⟩, rfl⟩
    rw [List.getD_eq_getElem?_getD, List.getElem?_eq_getElem hi, Option.getD_some]
    have := List.all_eq_true.1 hf _ (List.getElem_mem hi)
    simp only [Bool.or_eq_true, decide_eq_true_eq] at this ⊢
    rcases this with e | e
    · exact e
    · exact (and_zero.1 e c ⟨hb, hc⟩).elim
theorem insideZ_sorted (ds : List Nat) (s : Nat) : (insideZ ds s).Pairwise (· ≤ ·) := by
  unfold insideZ inside
  rw [List.pairwise_map]
  exact (List.pairwise_lt_range.filter _).imp fun h => by omega

/-- The closure that tells two classes apart. -/
theorem apart_fn (x s t b1 b2 : Nat) (hs : s < 2 ^ 256) (ht : t < 2 ^ 256) (w : World) (k1 : Blk w b1 (setA s) 24) (k2 : Blk w b2 (setA t) 24) :
    Calls Try.prog 73 #[setV x, .pointer (some ⟨b1, 0, none⟩), .pointer (some ⟨b2, 0, none⟩)] w fun e w' => e = .returned (.bool (decide (Sx.less s x = 0) != decide (Sx.less t x = 0))) ∧ Below w.heap.size w w' := by
  unfold setV setA
  go_enter Try.func73, Try.ntmps73
  go_wp2_with fail
  obtain ⟨W9, hW9, bS, hB9⟩ : ∃ W9, W9 = w.alloc (.cells #[.int .u64 (Sx.wd x 0), .int .u64 (Sx.wd x 1), .int .u64 (Sx.wd x 2), .int .u64 (Sx.wd x 3)] 24) ∧ Blk W9 w.heap.size (setA x) 24 ∧ Below w.heap.size w W9 := ⟨_, rfl, blkOf1 w _ _, below1 w _⟩
  rw [← hW9]
  clear hW9
  replace k1 := k1.laterB hB9
  replace k2 := k2.laterB hB9
  refine wp_region_facts 12 [.eq (setV s), .eq (setV x), .eq (.bool (decide (Sx.less s x = 0))), .eq (setV t), .eq (setV x), .eq (.bool (decide (Sx.less t x = 0))), .eq (.bool (decide (Sx.less s x = 0) != decide (Sx.less t x = 0))), .eq (.bool (decide (Sx.less s x = 0) != decide (Sx.less t x = 0)))] mixed rfl (by kernel_rfl) ?_ ?_
  · refine ⟨?_, ?_, ?_, ?_, ?_, ?_, ?_, ?_, trivial⟩
    · intro vs a w hR H hin hout hget
      refine one_free rfl ?_
      have e0 := hout 1 (by kernel_rfl)
      obtain ⟨c0, c1, c2, c3, _⟩ := (show Blk w _ #[_, _, _, _] 24 from k1.laterB hR).four
      clear H hin hout hget
      dsimp only [bare]
      go_wp2
      exact ⟨_, rfl, shows0 hR rfl⟩
    · intro vs a w hR H hin hout hget
      refine one_free rfl ?_
      have e0 := hout 3 (by kernel_rfl)
      obtain ⟨c0, c1, c2, c3, _⟩ := (show Blk w _ #[_, _, _, _] 24 from bS.laterB hR).four
      clear H hin hout hget
      dsimp only [bare]
      go_wp2
      exact ⟨_, rfl, shows0 hR rfl⟩
    · intro vs a w hR H hin hout hget
      refine one_free rfl ?_
      have e0 := (hget 0 5 (by kernel_rfl)).trans (congrArg some (H 0 (by decide)))
      have e1 := (hget 1 6 (by kernel_rfl)).trans (congrArg some (H 1 (by decide)))
      clear H hin hout hget
      dsimp only [bare]
      go_wp2_with fail
      refine (within_any s x hs w).mono ?_
      rintro e w1 ⟨rfl, hb⟩
      go_wp2
      exact ⟨_, rfl, shows hR hb.below rfl⟩
    · intro vs a w hR H hin hout hget
      refine one_free rfl ?_
      have e0 := hout 2 (by kernel_rfl)
      obtain ⟨c0, c1, c2, c3, _⟩ := (show Blk w _ #[_, _, _, _] 24 from k2.laterB hR).four
      clear H hin hout hget
      dsimp only [bare]
      go_wp2
      exact ⟨_, rfl, shows0 hR rfl⟩
    · intro vs a w hR H hin hout hget
      refine one_free rfl ?_
      have e0 := hout 3 (by kernel_rfl)
      obtain ⟨c0, c1, c2, c3, _⟩ := (show Blk w _ #[_, _, _, _] 24 from bS.laterB hR).four
      clear H hin hout hget
      dsimp only [bare]
      go_wp2
      exact ⟨_, rfl, shows0 hR rfl⟩
    · intro vs a w hR H hin hout hget
      refine one_free rfl ?_
      have e0 := (hget 3 8 (by kernel_rfl)).trans (congrArg some (H 3 (by decide)))
      have e1 := (hget 4 9 (by kernel_rfl)).trans (congrArg some (H 4 (by decide)))
      clear H hin hout hget
      dsimp only [bare]
      go_wp2_with fail
      refine (within_any t x ht w).mono ?_
      rintro e w1 ⟨rfl, hb⟩
      go_wp2
      exact ⟨_, rfl, shows hR hb.below rfl⟩
    · intro vs a w hR H hin hout hget
      refine one_free rfl ?_
      have e0 := (hget 2 7 (by kernel_rfl)).trans (congrArg some (H 2 (by decide)))
      have e1 := (hget 5 10 (by kernel_rfl)).trans (congrArg some (H 5 (by decide)))
      clear H hin hout hget
      dsimp only [bare]
      go_wp2
      exact ⟨_, rfl, shows0 hR (by cases decide (Sx.less s x = 0) <;> cases decide (Sx.less t x = 0) <;> rfl)⟩
    · intro vs a w hR H hin hout hget
      refine one_free rfl ?_
      have e0 := (hget 6 11 (by kernel_rfl)).trans (congrArg some (H 6 (by decide)))
      clear H hin hout hget
      dsimp only [bare]
      go_wp2
      exact ⟨_, rfl, shows0 hR rfl⟩
  · intro vs w10 hR H
    have e7 : vs 7 = (.bool (decide (Sx.less s x = 0) != decide (Sx.less t x = 0))) := H 7 (by decide)
    simp only [putAll, Act.put, List.setIfInBounds_toArray, List.set_cons_succ, List.set_cons_zero, Nat.zero_add, Nat.reduceAdd, e7]
    clear H e7
    generalize vs 0 = z0
    generalize vs 1 = z1
    generalize vs 2 = z2
    generalize vs 3 = z3
    generalize vs 4 = z4
    generalize vs 5 = z5
    generalize vs 6 = z6
    replace hB9 := hB9.trans (hR.mono hB9.size)
    clear hR
    go_wp2
    go_ret
    exact ⟨rfl, hB9⟩
end Go.Proofs.Ytojmkgllbhbeiaa
