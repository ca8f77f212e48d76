/-
  Plain laws for AlphabetSets: sets that are made of classes; lists sorted, each once.
-/
import Derived.Test.YtojmkgllbhbeiaaE5
import Derived.Test.YtojmkgllbhbeiaaE6
import Derived.Test.YtojmkgllbhbeiaaE8
namespace Go.Proofs.Ytojmkgllbhbeiaa
open Go.RowKit

/-- Which classes a set is made of. -/
structure Made (ds : List Nat) (s : Nat) (a : Nat → Bool) : Prop where
  lt : s < 2 ^ 256
  yes : ∀ n (hn : n < ds.length), a n = true → Sx.less ds[n] s = 0
  no : ∀ n (hn : n < ds.length), a n = false → Sx.and ds[n] s = 0
theorem Made.fits {ds : List Nat} {s : Nat} {a : Nat → Bool} (h : Made ds s a) : fitsB ds s = true := by
  unfold fitsB
  rw [List.all_eq_true]
  intro p hp
  obtain ⟨n, hn, rfl⟩ := List.getElem_of_mem hp
  cases e : a n with
  | true => simp [h.yes n hn e]
  | false => simp [h.no n hn e]
theorem Made.inside {ss ds : List Nat} (hok : PartsOk ss ds) {s : Nat} {a : Nat → Bool} (h : Made ds s a) : inside ds s ds.length = (List.range ds.length).filter a := by
  unfold Ytojmkgllbhbeiaa.inside
  refine List.filter_congr fun n hn => ?_
  have hn := List.mem_range.1 hn
  rw [List.getD_eq_getElem?_getD, List.getElem?_eq_getElem hn, Option.getD_some]
  cases e : a n with
  | true => rw [decide_eq_true (h.yes n hn e)]
  | false =>
    rw [decide_eq_false]
    intro hz
    obtain ⟨c, hc, hb⟩ := hok.some_bit (List.getElem_mem hn)
    exact and_zero.1 (h.no n hn e) c ⟨hb, less_zero'.1 hz c hb⟩
theorem Made.or {ds : List Nat} {s t : Nat} {a b : Nat → Bool} (h : Made ds s a) (k : Made ds t b) : Made ds (Sx.or s t) (fun n => a n || b n) where
  lt := Sx.or_lt h.lt k.lt
  yes := fun n hn e => by
    rw [less_zero']
    intro c hc
    rw [Sx.tb_or]
    rcases Bool.or_eq_true_iff.1 e with e | e
    · rw [less_zero'.1 (h.yes n hn e) c hc]; rfl
    · rw [less_zero'.1 (k.yes n hn e) c hc, Bool.or_true]
  no := fun n hn e => by
    obtain ⟨e1, e2⟩ := Bool.or_eq_false_iff.1 e
    rw [and_zero]
    rintro c ⟨h1, h2⟩
    rw [Sx.tb_or] at h2
    rcases Bool.or_eq_true_iff.1 h2 with h2 | h2
    · exact and_zero.1 (h.no n hn e1) c ⟨h1, h2⟩
    · exact and_zero.1 (k.no n hn e2) c ⟨h1, h2⟩
theorem Made.and {ds : List Nat} {s t : Nat} {a b : Nat → Bool} (h : Made ds s a) (k : Made ds t b) : Made ds (Sx.and s t) (fun n => a n && b n) where
  lt := Sx.and_lt _ h.lt
  yes := fun n hn e => by
    obtain ⟨e1, e2⟩ := Bool.and_eq_true_iff.1 e
    rw [less_zero']
    intro c hc
    rw [Sx.tb_and, less_zero'.1 (h.yes n hn e1) c hc, less_zero'.1 (k.yes n hn e2) c hc]; rfl
  no := fun n hn e => by
    rw [and_zero]
    rintro c ⟨h1, h2⟩
    rw [Sx.tb_and, Bool.and_eq_true] at h2
    cases e1 : a n with
    | false => exact and_zero.1 (h.no n hn e1) c ⟨h1, h2.1⟩
    | true =>
      rw [e1, Bool.true_and] at e
      exact and_zero.1 (k.no n hn e) c ⟨h1, h2.2⟩
theorem Made.not {ss ds : List Nat} (hok : PartsOk ss ds) {s : Nat} {a : Nat → Bool} (h : Made ds s a) : Made ds (Sx.not s) (fun n => !a n) where
  lt := Sx.not_lt _
  yes := fun n hn e => by
    rw [less_zero']
    intro c hc
    have hc2 : c < 256 := by
      by_cases e : c < 256
      · exact e
      · rw [high_bit (hok.lt _ (List.getElem_mem hn)).2 (by omega)] at hc; cases hc
    rw [Sx.tb_not]
    cases e2 : s.testBit c with
    | false => simp [hc2]
    | true => exact (and_zero.1 (h.no n hn (by simpa using e)) c ⟨hc, e2⟩).elim
  no := fun n hn e => by
    rw [and_zero]
    rintro c ⟨h1, h2⟩
    rw [Sx.tb_not] at h2
    rw [less_zero'.1 (h.yes n hn (by simpa using e)) c h1] at h2
    simp at h2
/-- What some classes are together. -/
theorem Made.of_or {ss ds : List Nat} (hok : PartsOk ss ds) (l : List Int) (hl : l.all (isAt ds) = true) : Made ds (orAt ds l) (fun n => l.contains (n : Int)) where
  lt := by
    refine Nat.lt_pow_two_of_testBit _ fun i hi => ?_
    rw [tb_orAt, List.any_eq_false]
    intro k hk
    unfold setAt
    by_cases h : 0 ≤ k ∧ k < ds.length
    · rw [if_pos h, List.getD_eq_getElem?_getD, List.getElem?_eq_getElem (by omega : k.toNat < ds.length), Option.getD_some, high_bit (hok.lt _ (List.getElem_mem _)).2 hi]; decide
    · rw [if_neg h, Nat.zero_testBit]; decide
  yes := fun n hn e => by
    rw [less_zero']
    intro c hc
    rw [tb_orAt, List.any_eq_true]
    exact ⟨n, by simpa using e, by rw [setAt_nat hn]; exact hc⟩
  no := fun n hn e => by
    rw [and_zero]
    rintro c ⟨h1, h2⟩
    rw [tb_orAt, List.any_eq_true] at h2
    obtain ⟨k, hk, hc⟩ := h2
    have hka := List.all_eq_true.1 hl k hk
    unfold isAt at hka
    rw [Bool.and_eq_true, decide_eq_true_eq, decide_eq_true_eq] at hka
    obtain ⟨m, rfl⟩ : ∃ m : Nat, k = m := ⟨k.toNat, by omega⟩
    have hm : m < ds.length := by omega
    rw [setAt_nat hm] at hc
    by_cases hnm : n = m
    · subst hnm
      have : l.contains (n : Int) = true := by simpa using hk
      rw [e] at this; cases this
    · have c1 := cls_at hok.disj hn h1
      have c2 := cls_at hok.disj hm hc
      omega

/-- The members of a list below n, in order. -/
def pick (n : Nat) (a : Nat → Bool) : List Int := ((List.range n).filter a).map fun k : Nat => (k : Int)
theorem insideZ_made {ss ds : List Nat} (hok : PartsOk ss ds) {s : Nat} {a : Nat → Bool} (h : Made ds s a) : insideZ ds s = pick ds.length a := by
  unfold insideZ pick; rw [h.inside hok]

theorem keeps_one (d : Array Int) (j : Nat) : Lib.keeps d j = decide (j = 0 ∨ d[j]! ≠ d[j - 1]!) := rfl
/-- Of a sorted list: each once, sorted. -/
theorem compact_sorted (zs : List Int) (h : zs.Pairwise (· ≤ ·)) : (Lib.compact zs).Pairwise (· < ·) ∧ ∀ x, x ∈ Lib.compact zs ↔ x ∈ zs := by
  have key : ∀ m, m ≤ zs.length → (Lib.compactUpTo zs.toArray m).Pairwise (· < ·) ∧ (∀ x, x ∈ Lib.compactUpTo zs.toArray m ↔ x ∈ zs.take m) := by
    intro m
    induction m with
    | zero => intro _; unfold Lib.compactUpTo; simp
    | succ m ih =>
      intro hm
      obtain ⟨h1, h2⟩ := ih (by omega)
      have hml : m < zs.length := by omega
      have hg : zs.toArray[m]! = zs[m] := by simp [hml]
      rw [Lib.compactUpTo_succ, List.take_succ_eq_append_getElem hml, keeps_one, hg]
      by_cases hk : m = 0 ∨ zs[m] ≠ zs.toArray[m - 1]!
      · rw [decide_eq_true hk, if_pos rfl]
        refine ⟨?_, fun x => by rw [List.mem_append, List.mem_append, h2]⟩
        rw [List.pairwise_append]
        refine ⟨h1, by simp, fun x hx y hy => ?_⟩
        rw [List.mem_singleton.1 hy]
        have hx2 := (h2 x).1 hx
        obtain ⟨j, hj, rfl⟩ := List.mem_take_iff_getElem.1 hx2
        have hjm : j < m := by omega
        rcases hk with e | hne
        · omega
        · obtain ⟨p, rfl⟩ : ∃ p, m = p + 1 := ⟨m - 1, by omega⟩
          have hgp : zs.toArray[p + 1 - 1]! = zs[p] := by simp [show p < zs.length by omega]
          rw [hgp] at hne
          have hle := List.pairwise_iff_getElem.1 h p (p + 1) (by omega) hml (by omega)
          have hlt : zs[p] < zs[p + 1] := by omega
          by_cases e : j = p
          · subst e; exact hlt
          · have := List.pairwise_iff_getElem.1 h j p (by omega) (by omega) (by omega)
            omega
      · rw [decide_eq_false hk, if_neg (by decide), List.append_nil]
        refine ⟨h1, fun x => ?_⟩
        rw [h2, List.mem_append, List.mem_singleton]
        refine ⟨.inl, fun hx => ?_⟩
        rcases hx with hx | rfl
        · exact hx
        · have hm0 : m ≠ 0 := fun e => hk (.inl e)
          obtain ⟨p, rfl⟩ : ∃ p, m = p + 1 := ⟨m - 1, by omega⟩
          have hgp : zs.toArray[p + 1 - 1]! = zs[p] := by simp [show p < zs.length by omega]
          have he : zs[p + 1] = zs[p] := by
            rw [← hgp]
            exact Classical.byContradiction fun hne => hk (.inr hne)
          rw [he]
          exact List.mem_take_iff_getElem.2 ⟨p, by omega, rfl⟩
  have := key zs.length (Nat.le_refl _)
  rw [List.take_length] at this
  exact this
theorem sortZ_sorted (zs : List Int) : (sortZ zs).Pairwise (· ≤ ·) := by
  unfold sortZ
  have := List.pairwise_mergeSort (le := fun x y : Int => decide (x ≤ y)) (fun a b c h1 h2 => by simp at h1 h2 ⊢; omega) (fun a b => by simp; omega) zs
  exact this.imp fun h => by simpa using h
theorem sortZ_mem (zs : List Int) (x : Int) : x ∈ sortZ zs ↔ x ∈ zs := by unfold sortZ; exact (List.mergeSort_perm zs _).mem_iff
theorem eq_of_sorted {a b : List Int} (h1 : a.Pairwise (· < ·)) (h2 : b.Pairwise (· < ·)) (h : ∀ x, x ∈ a ↔ x ∈ b) : a = b := by
  have hp : a.Perm b := (List.perm_ext_iff_of_nodup (h1.imp fun h => by omega) (h2.imp fun h => by omega)).2 h
  exact hp.eq_of_pairwise (le := fun a b : Int => a < b) (fun a b _ _ k1 k2 => by omega) h1 h2
theorem pick_sorted (n : Nat) (a : Nat → Bool) : (pick n a).Pairwise (· < ·) := by
  unfold pick
  rw [List.pairwise_map]
  exact (List.pairwise_lt_range.filter _).imp fun h => by omega
theorem mem_pick {n : Nat} {a : Nat → Bool} {x : Int} : x ∈ pick n a ↔ ∃ k : Nat, k < n ∧ a k = true ∧ x = k := by
  unfold pick
  simp only [List.mem_map, List.mem_filter, List.mem_range]
  constructor
  · rintro ⟨k, ⟨h1, h2⟩, rfl⟩; exact ⟨k, h1, h2, rfl⟩
  · rintro ⟨k, h1, h2, rfl⟩; exact ⟨k, ⟨h1, h2⟩, rfl⟩
/-- Sorted, each once: the classes that a list has. -/
theorem compact_pick {ds : List Nat} (l : List Int) (hl : l.all (isAt ds) = true) : Lib.compact (sortZ l) = pick ds.length (fun n => l.contains (n : Int)) := by
  obtain ⟨h1, h2⟩ := compact_sorted (sortZ l) (sortZ_sorted l)
  refine eq_of_sorted h1 (pick_sorted _ _) fun x => ?_
  rw [h2, sortZ_mem, mem_pick]
  constructor
  · intro hx
    have := List.all_eq_true.1 hl x hx
    unfold isAt at this
    rw [Bool.and_eq_true, decide_eq_true_eq, decide_eq_true_eq] at this
    obtain ⟨k, rfl⟩ : ∃ k : Nat, x = k := ⟨x.toNat, by omega⟩
    exact ⟨k, by omega, by simpa using hx, rfl⟩
  · rintro ⟨k, _, h, rfl⟩
    simpa using h
theorem pick_contains {n k : Nat} {a : Nat → Bool} (hk : k < n) : (pick n a).contains (k : Int) = a k := by
  rw [Bool.eq_iff_iff, List.contains_iff_mem, mem_pick]
  constructor
  · rintro ⟨j, _, h, e⟩
    have : j = k := by omega
    rw [← this]; exact h
  · intro h; exact ⟨k, hk, h, rfl⟩
theorem pick_succ (n : Nat) (a : Nat → Bool) : pick (n + 1) a = pick n a ++ if a n then [(n : Int)] else [] := by
  unfold pick
  rw [List.range_succ, List.filter_append, List.map_append]
  cases h : a n <;> simp [h]
theorem pick_len (n : Nat) (a : Nat → Bool) : (pick n a).length ≤ n := by
  unfold pick
  rw [List.length_map]
  have := List.length_filter_le a (List.range n)
  rwa [List.length_range] at this
end Go.Proofs.Ytojmkgllbhbeiaa
