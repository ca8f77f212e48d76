/-
  WALKS: AlphabetSets.
-/
import Derived.Test.YtojmkgllbhbeiaaE10
namespace Go.Proofs.Ytojmkgllbhbeiaa
open Go.RowKit

theorem elems_nodup (s : Nat) : (elems s).Nodup := by unfold elems upto; exact List.nodup_range.filter _
theorem elems_one {s c : Nat} (hs : s.testBit c = true) (hc : c < 256) (h : (elems s).length = 1) : ∀ d, d < 256 → s.testBit d = true → d = c := by
  intro d hd hb
  have h1 : c ∈ elems s := mem_elems.2 ⟨hc, hs⟩
  have h2 : d ∈ elems s := mem_elems.2 ⟨hd, hb⟩
  match he : elems s, h with
  | [x], _ =>
    rw [he] at h1 h2
    rw [List.mem_singleton.1 h1, List.mem_singleton.1 h2]
theorem elems_two {s c : Nat} (hc : c < 256) (hs : s.testBit c = true) (h : (elems s).length ≠ 1) : ∃ d, d < 256 ∧ d ≠ c ∧ s.testBit d = true := by
  have h1 : c ∈ elems s := mem_elems.2 ⟨hc, hs⟩
  apply Classical.byContradiction
  intro hne
  have hall : ∀ d ∈ elems s, d = c := fun d hd => Classical.byContradiction fun e => hne ⟨d, elems_lt hd, e, (mem_elems.1 hd).2⟩
  have hnd : (elems s).Nodup := elems_nodup s
  match he : elems s with
  | [] => rw [he] at h1; cases h1
  | [x] => rw [he] at h; exact h rfl
  | x :: y :: l =>
    rw [he] at hall hnd
    have e1 := hall x (by simp)
    have e2 := hall y (by simp)
    rw [List.nodup_cons] at hnd
    exact hnd.1 (by rw [e1, e2]; simp)
theorem set3 (a b c : Nat) : (setA a ++ setA b ++ setA c).toList = setCells [a, b, c] := by simp [setCells]
/-- One of both, both, not the first. -/
def sel (j : Nat) (a b : Bool) : Bool := if j = 0 then a || b else if j = 1 then a && b else !a
theorem Made.sel {ss ds : List Nat} (hok : PartsOk ss ds) {s t : Nat} {a b : Nat → Bool} (h : Made ds s a) (k : Made ds t b) {j : Nat} (hj : j < [Sx.or s t, Sx.and s t, Sx.not s].length) : Made ds ([Sx.or s t, Sx.and s t, Sx.not s][j]) (fun n => Ytojmkgllbhbeiaa.sel j (a n) (b n)) := by
  rcases (by simp at hj; omega : j = 0 ∨ j = 1 ∨ j = 2) with rfl | rfl | rfl
  · exact h.or k
  · exact h.and k
  · exact h.not hok
theorem contains_pick {n k : Nat} {a : Nat → Bool} (hk : k < n) : decide ((k : Int) ∈ pick n a) = a k := by
  have := pick_contains (a := a) hk
  rw [← this, List.contains_eq_mem]
theorem sl_two (w : World) (o : Obj) (n : Int) : Sl ((w.alloc o).alloc (.cells #[.int .i64 n] 3)) (.slice (some ⟨w.heap.size + 1, 0, none⟩) 1 1) 1 1 [intZ n] :=
  ⟨rfl, .inr ⟨w.heap.size + 1, 0, 1, rfl, (blkOf2 w o _ _).lt, fun i hi => by
    obtain rfl : i = 0 := by omega
    exact (blkOf2 w o _ _).cell 0⟩⟩
theorem classes_not {ss ds : List Nat} (hok : PartsOk ss ds) (b s : Nat) (w : World) (hA : Alph w b ds) (hf : fitsB ds s = false) :
    Calls Try.prog 55 #[.pointer (some ⟨b, 0, none⟩), setV s] w fun e w' => e = .returned (.tuple #[.slice none 0 0, .int .i64 160]) ∧ Below w.heap.size w w' := by
  refine (classes_any hok b s w hA).mono ?_
  intro e w' hr
  unfold RetClasses at hr
  rw [if_neg (by rw [hf]; decide)] at hr
  exact hr
/-- A set of classes with one class more, less a byte of that one: it fits just if the class is that byte. -/
theorem less_fits {ss ds : List Nat} (hok : PartsOk ss ds) {s : Nat} {a : Nat → Bool} (h : Made ds s a) {c : Nat} (hc : c < 256) {o : Nat} (ho : o ∈ ds) (hoc : o.testBit c = true) :
    fitsB ds (Sx.less (Sx.or s o) (Sx.ofL [c])) = decide ((elems o).length = 1) := by
  rw [Bool.eq_iff_iff, decide_eq_true_eq]
  unfold fitsB
  rw [List.all_eq_true]
  have hbit : ∀ d, (Sx.less (Sx.or s o) (Sx.ofL [c])).testBit d = ((s.testBit d || o.testBit d) && !decide (d = c)) := fun d => by
    rw [Sx.tb_less, Sx.tb_or, tb_one1]
  constructor
  · intro hall
    apply Classical.byContradiction
    intro hne
    obtain ⟨d, hd, hdc, hod⟩ := elems_two hc hoc hne
    have := hall o ho
    rw [Bool.or_eq_true, decide_eq_true_eq, decide_eq_true_eq] at this
    rcases this with e | e
    · have := less_zero'.1 e c hoc
      rw [hbit, decide_eq_true rfl] at this
      simp at this
    · refine and_zero.1 e d ⟨hod, ?_⟩
      rw [hbit, hod, decide_eq_false hdc]; simp
  · intro hone p hp
    rw [Bool.or_eq_true, decide_eq_true_eq, decide_eq_true_eq]
    obtain ⟨n, hn, rfl⟩ := List.getElem_of_mem hp
    by_cases e : ds[n] = o
    · right
      rw [and_zero]
      rintro d ⟨h1, h2⟩
      rw [e] at h1
      have hd : d < 256 := by
        by_cases q : d < 256
        · exact q
        · rw [high_bit (hok.lt o ho).2 (by omega)] at h1; cases h1
      have := elems_one hoc hc hone d hd h1
      rw [hbit, decide_eq_true this] at h2
      simp at h2
    · have hd0 : ∀ d, ¬ (ds[n].testBit d = true ∧ o.testBit d = true) := by
        obtain ⟨m, hm, rfl⟩ := List.getElem_of_mem ho
        intro d ⟨h1, h2⟩
        have c1 := cls_at hok.disj hn h1
        have c2 := cls_at hok.disj hm h2
        exact e (by simp only [show n = m by omega])
      cases ha : a n with
      | true =>
        left
        rw [less_zero']
        intro d hd
        rw [hbit, less_zero'.1 (h.yes n hn ha) d hd, decide_eq_false]
        · simp
        · intro q; subst q; exact hd0 d ⟨hd, hoc⟩
      | false =>
        right
        rw [and_zero]
        rintro d ⟨h1, h2⟩
        rw [hbit] at h2
        have h3 : s.testBit d = false := by
          cases q : s.testBit d with
          | false => rfl
          | true => exact (and_zero.1 (h.no n hn ha) d ⟨h1, q⟩).elim
        have h4 : o.testBit d = false := by
          cases q : o.testBit d with
          | false => rfl
          | true => exact (hd0 d ⟨h1, q⟩).elim
        rw [h3, h4] at h2
        simp at h2

set_option maxRecDepth 100000 in
set_option maxHeartbeats 4000000 in
theorem setsLaw_core (A1 A2 A3 : Option Addr) (c1 c2 c3 n1 n2 n3 : Nat) (ss p q : List Nat) (c : Nat) (hss : ∀ s ∈ ss, s < 2 ^ 256) (hp : ∀ c ∈ p, c < 256) (hq : ∀ c ∈ q, c < 256) (hc : c < 256) (u : World)
    (HF : ∀ w', Below u.heap.size u w' → Calls Try.prog 40 #[.slice A1 n1 c1] w' fun e w'' => e = .returned (.slice A1 ss.length c1) ∧ w' = w'')
    (hs2 : ∀ w, (Instr.slice 44 (.slice A2 n2 c2) none (some (.int .i64 (min (n2 : Int) 50))) none).run Try.prog w = .ok (.slice A2 p.length c2) w)
    (hs3 : ∀ w, (Instr.slice 44 (.slice A3 n3 c3) none (some (.int .i64 (min (n3 : Int) 50))) none).run Try.prog w = .ok (.slice A3 q.length c3) w)
    (h1 : Sl u (.slice A1 ss.length c1) 4 ss.length (setCells ss)) (h2 : Sl u (.slice A2 p.length c2) 1 p.length (p.map byteV)) (h3 : Sl u (.slice A3 q.length c3) 1 q.length (q.map byteV)) (hn1 : ss.length ≤ 6) (hn2 : p.length ≤ 50) (hn3 : q.length ≤ 50) :
    Calls Try.prog 12 #[.slice A1 n1 c1, .slice A2 n2 c2, .slice A3 n3 c3, .int .u8 c] u fun e w' => e = .returned (.bool true) ∧ Below u.heap.size u w' := by
  obtain ⟨i0, hi, hz0, hz1, hz2⟩ := info_parts info3'
  have HA := fun w => awakeA_any w
  replace HF := Lib.hid HF
  replace hs2 := Lib.hid hs2
  replace hs3 := Lib.hid hs3
  have HO := Lib.hid fun w' (h : Below u.heap.size u w') => of_alph (.slice A1 ss.length c1) ss hss w' (h1.laterB h) (by omega)
  replace h2 := Lib.hid h2
  replace h3 := Lib.hid h3
  clear h1
  go_enter Try.func12, Try.ntmps12
  go_wp2_with fail
  refine (HA _).mono ?_
  rintro e w1 ⟨rfl, hB⟩
  clear HA
  go_wp2_with fail
  refine (HF.out _ hB).mono ?_
  rintro e w' ⟨rfl, rfl⟩
  clear HF
  go_wp2_with fail
  refine (HO.out _ hB).mono ?_
  rintro e w2 ⟨b, ds, rfl, hok, hpos, hle, hA, _, hb0⟩
  replace hB := bthen hB hb0
  clear hb0 HO hss
  have hb0 := below1 w2 (.cells #[.pointer (some ⟨b, 0, none⟩)] 52)
  have HLn := Lib.hid fun w' (h : Alph w' b ds) => len_any h hok.pos
  have hL1 : (1 : Int) ≤ ds.length := by omega
  have hL2 : (ds.length : Int) ≤ 256 := by omega
  go_wp2_with fail
  refine (HLn.out _ (hA.later hb0)).mono ?_
  rintro e w' ⟨rfl, rfl⟩
  obtain ⟨W3, hW3, k9, hb0⟩ : ∃ W3, W3 = w2.alloc (.cells #[.pointer (some ⟨b, 0, none⟩)] 52) ∧ Blk W3 w2.heap.size #[.pointer (some ⟨b, 0, none⟩)] 52 ∧ Below w2.heap.size w2 W3 := ⟨_, rfl, blkOf1 w2 _ _, below1 w2 _⟩
  rw [← hW3]
  replace hA := hA.later hb0
  replace hB := bthen hB hb0
  clear hW3 hb0
  generalize w2.heap.size = g9 at k9 ⊢
  have HT := sets_fn A2 c2 n2 b g9 ss ds p hok hp W3 hA k9 hs2.out (h2.out.laterB hB) hn2
  generalize hPs : (fun n : Nat => (goods ds.length p).contains (n : Int)) = fs at HT
  have ms := Made.of_or hok (goods ds.length p) (goods_all hpos p)
  rw [hPs] at ms
  generalize orAt ds (goods ds.length p) = s at HT ms
  replace ms := Lib.hid ms
  clear hPs
  unfold RetPick setV setA at HT
  go_wp2_with fail
  refine HT.mono ?_
  clear HT
  rintro e w4 ⟨A11, c11, rfl, h11, hb0⟩
  replace h11 := Lib.hid h11
  replace hA := hA.later hb0
  replace k9 := k9.laterB hb0
  replace hB := bthen hB hb0
  clear hb0
  go_wp2_with fail
  obtain ⟨W4, hW4, b12, hb0⟩ : ∃ W4, W4 = w4.alloc (.cells #[.int .u64 (Sx.wd s 0), .int .u64 (Sx.wd s 1), .int .u64 (Sx.wd s 2), .int .u64 (Sx.wd s 3)] 24) ∧ Blk W4 w4.heap.size (setA s) 24 ∧ Below w4.heap.size w4 W4 := ⟨_, rfl, blkOf1 w4 _ _, below1 w4 _⟩
  rw [← hW4]
  replace h11 := Lib.hid (h11.out.laterB hb0)
  replace hA := hA.later hb0
  replace k9 := k9.laterB hb0
  replace hB := bthen hB hb0
  clear hW4 hb0
  generalize w4.heap.size = g12 at b12 ⊢
  have HT := sets_fn A3 c3 n3 b g9 ss ds q hok hq W4 hA k9 hs3.out (h3.out.laterB hB) hn3
  generalize hPt : (fun n : Nat => (goods ds.length q).contains (n : Int)) = ft at HT
  have mt := Made.of_or hok (goods ds.length q) (goods_all hpos q)
  rw [hPt] at mt
  generalize orAt ds (goods ds.length q) = t at HT mt
  replace mt := Lib.hid mt
  clear hPt
  unfold RetPick setV setA at HT
  refine HT.mono ?_
  clear HT
  rintro e w5 ⟨A14, c14, rfl, h14, hb0⟩
  replace h14 := Lib.hid h14
  replace h11 := Lib.hid (h11.out.laterB hb0)
  replace hA := hA.later hb0
  replace k9 := k9.laterB hb0
  replace b12 := b12.laterB hb0
  replace hB := bthen hB hb0
  clear hb0
  go_wp2_with fail
  obtain ⟨W5, hW5, b15, hb0⟩ : ∃ W5, W5 = w5.alloc (.cells #[.int .u64 (Sx.wd t 0), .int .u64 (Sx.wd t 1), .int .u64 (Sx.wd t 2), .int .u64 (Sx.wd t 3)] 24) ∧ Blk W5 w5.heap.size (setA t) 24 ∧ Below w5.heap.size w5 W5 := ⟨_, rfl, blkOf1 w5 _ _, below1 w5 _⟩
  rw [← hW5]
  replace h14 := Lib.hid (h14.out.laterB hb0)
  replace h11 := Lib.hid (h11.out.laterB hb0)
  replace hA := hA.later hb0
  replace k9 := k9.laterB hb0
  replace b12 := b12.laterB hb0
  replace hB := bthen hB hb0
  clear hW5 hb0 h2 h3 hs2 hs3
  generalize w5.heap.size = g15 at b15 ⊢
  have ht2 := mt.out.lt
  refine wp_region_facts 164 [.eq (setV s), .eq (setV t), .eq (setV (Sx.or s t)), .eq (setV s), .eq (setV t), .eq (setV (Sx.and s t)), .eq (setV s), .eq (setV (Sx.not s)), .sl 4 3 (setCells [Sx.or s t, Sx.and s t, Sx.not s]), .eq (.int .i64 3), .eq (.int .i64 0)] mixed rfl (by kernel_rfl) ?_ ?_
  · refine ⟨?_, ?_, ?_, ?_, ?_, ?_, ?_, ?_, ?_, ?_, ?_, trivial⟩
    · intro vs a w hR H hin hout hget
      refine one_free rfl ?_
      have e0 := hout 12 (by kernel_rfl)
      obtain ⟨c0, c1, c2, c3, _⟩ := (show Blk w _ #[_, _, _, _] 24 from b12.laterB hR).four
      clear H hin hout hget
      dsimp only [bare]
      go_wp2
      exact ⟨_, rfl, shows0 hR rfl⟩
    · intro vs a w hR H hin hout hget
      refine one_free rfl ?_
      have e0 := hout 15 (by kernel_rfl)
      obtain ⟨c0, c1, c2, c3, _⟩ := (show Blk w _ #[_, _, _, _] 24 from b15.laterB hR).four
      clear H hin hout hget
      dsimp only [bare]
      go_wp2
      exact ⟨_, rfl, shows0 hR rfl⟩
    · intro vs a w hR H hin hout hget
      refine one_free rfl ?_
      have e0 := (hget 0 63 (by kernel_rfl)).trans (congrArg some (H 0 (by decide)))
      have e1 := (hget 1 64 (by kernel_rfl)).trans (congrArg some (H 1 (by decide)))
      clear H hin hout hget
      dsimp only [bare]
      go_wp2_with fail
      refine (or_any _ _ w).mono ?_
      rintro e w1 ⟨rfl, hb⟩
      go_wp2
      exact ⟨_, rfl, shows hR hb.below rfl⟩
    · intro vs a w hR H hin hout hget
      refine one_free rfl ?_
      have e0 := hout 12 (by kernel_rfl)
      obtain ⟨c0, c1, c2, c3, _⟩ := (show Blk w _ #[_, _, _, _] 24 from b12.laterB hR).four
      clear H hin hout hget
      dsimp only [bare]
      go_wp2
      exact ⟨_, rfl, shows0 hR rfl⟩
    · intro vs a w hR H hin hout hget
      refine one_free rfl ?_
      have e0 := hout 15 (by kernel_rfl)
      obtain ⟨c0, c1, c2, c3, _⟩ := (show Blk w _ #[_, _, _, _] 24 from b15.laterB hR).four
      clear H hin hout hget
      dsimp only [bare]
      go_wp2
      exact ⟨_, rfl, shows0 hR rfl⟩
    · intro vs a w hR H hin hout hget
      refine one_free rfl ?_
      have e0 := (hget 3 66 (by kernel_rfl)).trans (congrArg some (H 3 (by decide)))
      have e1 := (hget 4 67 (by kernel_rfl)).trans (congrArg some (H 4 (by decide)))
      clear H hin hout hget
      dsimp only [bare]
      go_wp2_with fail
      refine (and_any _ _ w).mono ?_
      rintro e w1 ⟨rfl, hb⟩
      go_wp2
      exact ⟨_, rfl, shows hR hb.below rfl⟩
    · intro vs a w hR H hin hout hget
      refine one_free rfl ?_
      have e0 := hout 12 (by kernel_rfl)
      obtain ⟨c0, c1, c2, c3, _⟩ := (show Blk w _ #[_, _, _, _] 24 from b12.laterB hR).four
      clear H hin hout hget
      dsimp only [bare]
      go_wp2
      exact ⟨_, rfl, shows0 hR rfl⟩
    · intro vs a w hR H hin hout hget
      refine one_free rfl ?_
      have e0 := (hget 6 69 (by kernel_rfl)).trans (congrArg some (H 6 (by decide)))
      clear H hin hout hget
      dsimp only [bare]
      go_wp2_with fail
      refine (not_any _ w).mono ?_
      rintro e w1 ⟨rfl, hb⟩
      go_wp2
      exact ⟨_, rfl, shows hR hb.below rfl⟩
    · intro vs a w hR H hin hout hget
      refine one_free rfl ?_
      have e0 := (hget 2 65 (by kernel_rfl)).trans (congrArg some (H 2 (by decide)))
      have e1 := (hget 5 68 (by kernel_rfl)).trans (congrArg some (H 5 (by decide)))
      have e2 := (hget 7 70 (by kernel_rfl)).trans (congrArg some (H 7 (by decide)))
      unfold setV setA at e0 e1 e2
      clear H hin hout hget
      dsimp only [bare]
      go_wp2
      exact ⟨_, rfl, shows hR (below1 w _) (slN_new w (setA (Sx.or s t) ++ setA (Sx.and s t) ++ setA (Sx.not s)) 24 4 3 _ (by rw [set3]))⟩
    · intro vs a w hR H hin hout hget
      refine one_free rfl ?_
      obtain ⟨b0, o0, cap0, h0, lt0, c0⟩ := H 8 (by decide)
      have e0 := (hget 8 71 (by kernel_rfl)).trans (congrArg some h0)
      clear H hin hout hget
      dsimp only [bare]
      go_wp2
      exact ⟨_, rfl, shows0 hR rfl⟩
    · intro vs a w hR H hin hout hget
      refine one_free rfl ?_
      clear H hin hout hget
      dsimp only [bare]
      go_wp2
      exact ⟨_, rfl, shows0 hR rfl⟩
  · intro vs w6 hR H
    have h8 := H 8 (by decide)
    have e9 : vs 9 = (.int .i64 3) := H 9 (by decide)
    have e10 : vs 10 = (.int .i64 0) := H 10 (by decide)
    simp only [putAll, Act.put, List.setIfInBounds_toArray, List.set_cons_succ, List.set_cons_zero, Nat.zero_add, Nat.reduceAdd, e9, e10]
    clear H e9 e10
    generalize vs 0 = z0
    generalize vs 1 = z1
    generalize vs 2 = z2
    generalize vs 3 = z3
    generalize vs 4 = z4
    generalize vs 5 = z5
    generalize vs 6 = z6
    generalize vs 7 = z7
    obtain ⟨q8, o8, cp8, e8, l8, r8⟩ := (h8 : SlN w6 (vs 8) 4 3 (setCells [Sx.or s t, Sx.and s t, Sx.not s]))
    rw [e8]
    clear e8
    replace r8 := Lib.hid r8
    replace h14 := Lib.hid (h14.out.laterB hR)
    replace h11 := Lib.hid (h11.out.laterB hR)
    replace hA := hA.later hR
    replace k9 := k9.laterB hR
    replace b12 := b12.laterB hR
    replace b15 := b15.laterB hR
    replace hB := bthen hB hR
    clear hR
    go_wp2_with fail
    go_loopw [73] (fun i wr => ∃ j : Nat, j ≤ 3 ∧ i = .int .i64 j ∧ Below w6.heap.size w6 wr) (fun i _ => 3 - (intOf i).toNat)
    case atStart => exact ⟨0, by omega, rfl, Below.refl _ _⟩
    case round =>
      obtain ⟨j, hj, rfl, hR⟩ := hrel
      by_cases hj3 : j < 3
      · have hx := ms.out.sel hok mt.out (j := j) hj3
        obtain ⟨d0, d1, d2, d3⟩ := four_in (l := [Sx.or s t, Sx.and s t, Sx.not s]) r8.out l8 hR hj3
        generalize [Sx.or s t, Sx.and s t, Sx.not s][j] = x at hx d0 d1 d2 d3
        have hiz := insideZ_made hok hx
        have hj0 : (0 : Int) ≤ (j : Int) := Int.natCast_nonneg _
        have hj1 : (j : Int) < 3 := by omega
        have hb0 := below1 wr (.cells #[.int .u64 (Sx.wd x 0), .int .u64 (Sx.wd x 1), .int .u64 (Sx.wd x 2), .int .u64 (Sx.wd x 3)] 24)
        have p9 := ((k9.laterB hR).laterB hb0).cell 0
        have HT := classes_fit hok b x _ ((hA.later hR).later hb0) hx.fits
        rw [hiz] at HT
        have h11x := Lib.hid ((h11.out.laterB hR).laterB hb0)
        have h14x := Lib.hid ((h14.out.laterB hR).laterB hb0)
        have hAx := (hA.later hR).later hb0
        have k9x := (k9.laterB hR).laterB hb0
        replace hR := hR.trans (hb0.mono hR.size)
        unfold setV setA at HT
        clear hb0 r8 h11 h14 hiz hx
        replace hA := Lib.hid hA
        go_wp2_with fail
        refine HT.mono ?_
        clear HT p9 d0 d1 d2 d3
        rintro e w7 ⟨A19, c19, rfl, h19, hb0⟩
        replace h19 := Lib.hid h19
        replace h11x := Lib.hid (h11x.out.laterB hb0)
        replace h14x := Lib.hid (h14x.out.laterB hb0)
        replace hAx := hAx.later hb0
        replace k9x := k9x.laterB hb0
        replace hR := hR.trans (hb0.mono hR.size)
        clear hb0
        have p9 := k9x.cell 0
        go_wp2_with fail
        refine (HLn.out _ hAx).mono ?_
        rintro e w' ⟨rfl, rfl⟩
        clear p9
        go_wp2_with fail
        go_loopw [86, 21] (fun i v wr => ∃ n : Nat, n ≤ ds.length ∧ i = .int .i64 n ∧ wr.ownsRow w7.heap.size 3 1 v (pick n fun n => sel j (fs n) (ft n)).length ((pick n fun n => sel j (fs n) (ft n)).map intZ) ∧ Below w7.heap.size w7 wr) (fun i _ _ => ds.length - (intOf i).toNat)
        case atStart => exact ⟨0, by omega, rfl, World.ownsRow_nil _ _ _ _, Below.refl _ _⟩
        case round =>
          obtain ⟨n, hn, rfl, hrow, hB7⟩ := hrel
          by_cases hlt : n < ds.length
          · have hc1 := contains_pick (a := fs) hlt
            have hc2 := contains_pick (a := ft) hlt
            have HC1 := fun y (h : Below w7.heap.size w7 y) => containsInts_any (.slice A11 (pick ds.length fs).length c11) (pick ds.length fs) n y (h11x.out.laterB h) (by have := pick_len ds.length fs; omega)
            have HC2 := fun y (h : Below w7.heap.size w7 y) => containsInts_any (.slice A14 (pick ds.length ft).length c14) (pick ds.length ft) n y (h14x.out.laterB h) (by have := pick_len ds.length ft; omega)
            rw [hc1] at HC1
            rw [hc2] at HC2
            have hps := Lib.hid (pick_succ n fun n => sel j (fs n) (ft n))
            have hpn := pick_len n fun n => sel j (fs n) (ft n)
            generalize (pick n fun n => sel j (fs n) (ft n)) = qs at hrow hps hpn
            obtain ⟨r, hr⟩ : ∃ r, r = sel j (fs n) (ft n) := ⟨_, rfl⟩
            rw [← hr] at hps
            generalize fs n = p1 at HC1 hr
            generalize ft n = p2 at HC2 hr
            have hsz := hB7.size
            have hn0 : (0 : Int) ≤ (n : Int) := Int.natCast_nonneg _
            have hn1 : (n : Int) < (ds.length : Int) := by omega
            clear hc1 hc2 h11x h14x h19 hAx k9x hR
            replace HC2 := Lib.hid HC2
            obtain ⟨A5, c5, rfl, _⟩ := (sl_of_owns hrow).opened
            go_wp2_with fail
            refine (HC1 wr hB7).mono ?_
            clear HC1
            rintro e y1 ⟨rfl, hb0⟩
            replace hrow := owns_later hrow hb0
            replace hB7 := hB7.trans (hb0.mono hB7.size)
            clear hb0
            go_wp2_with fail
            refine (HC2.out y1 hB7).mono ?_
            clear HC2
            rintro e y2 ⟨rfl, hb0⟩
            replace hrow := owns_later hrow hb0
            replace hB7 := hB7.trans (hb0.mono hB7.size)
            clear hb0
            have hsz2 := hB7.size
            have hcell : (y2.alloc (.cells #[.bool (p1 || p2), .bool (p1 && p2), .bool (!p1)] 4)).cell? ⟨y2.heap.size, j, none⟩ = some (.bool r) := by
              rw [(blkOf1 y2 _ 4).cell j, hr]
              rcases (by omega : j = 0 ∨ j = 1 ∨ j = 2) with rfl | rfl | rfl <;> rfl
            have hb0 := below1 y2 (.cells #[.bool (p1 || p2), .bool (p1 && p2), .bool (!p1)] 4)
            replace hrow := owns_later hrow hb0
            replace hB7 := hB7.trans (hb0.mono hB7.size)
            clear hb0 hr
            cases p1 <;> cases p2
            all_goals
              simp only [Bool.or_true, Bool.or_false, Bool.and_true, Bool.and_false, Bool.not_true, Bool.not_false] at hcell hrow hB7
              cases r
              · rw [if_neg (by decide), List.append_nil] at hps
                go_wp2
                exact ⟨⟨n + 1, by omega, by go_num, by rw [hps.out]; exact hrow, hB7⟩, by simp [intOf]; omega⟩
              · rw [if_pos rfl] at hps
                go_wp2_with (at_builtin; go_must (refine wpList_append_sl rfl _ _ 55 rfl w7.heap.size 3 i0 (.int .i64 0) 1 8 Try.underlying55 hi hz0 hz1 hz2 rfl (by decide) _ qs.length (qs.map intZ) rfl (hrow.alloc _) _ 1 [intZ n] rfl (sl_two y2 _ n) (int_one [(n : Int)]) (by unfold maxLen; omega) (by omega) (by simp; omega) ?_); intro v1 y5 hown1 hgb hn1)
                have hb1 := (((below1 _ _).mono hB7.size).trans hgb)
                go_roundw
                case rel => exact ⟨n + 1, by omega, by go_num, by rw [hps.out]; simpa using hown1, hB7.trans hb1⟩
                case measure => simp [intOf]; omega
          · obtain rfl : n = ds.length := by omega
            obtain ⟨A5, c5, rfl, _⟩ := (sl_of_owns hrow).opened
            have hpn := pick_len ds.length fun n => sel j (fs n) (ft n)
            generalize (pick ds.length fun n => sel j (fs n) (ft n)) = P at hrow h19 hpn
            have HE := eqInts_any (.slice A19 P.length c19) (.slice A5 P.length c5) P P wr (h19.out.laterB hB7) (sl_of_owns hrow) (by omega)
            rw [decide_eq_true rfl] at HE
            replace hR := hR.trans (hB7.mono hR.size)
            clear hrow h19 h11x h14x hAx k9x hB7
            go_wp2_with fail
            refine HE.mono ?_
            clear HE
            rintro e y1 ⟨rfl, hb0⟩
            replace hR := hR.trans (hb0.mono hR.size)
            clear hb0
            go_wp2
            exact ⟨⟨j + 1, by omega, by go_num, hR⟩, by simp [intOf]; omega⟩
      · obtain rfl : j = 3 := by omega
        replace hA := hA.later hR
        replace k9 := k9.laterB hR
        replace b12 := b12.laterB hR
        replace hB := bthen hB hR
        clear h11 h14 r8 b15 hR
        obtain ⟨hi2, hob⟩ := hok.cls_spec hc
        have HCl := Lib.hid fun y (h : Alph y b ds) => class_any h hok.pos hc (by omega)
        have HSt := Lib.hid fun y (h : Alph y b ds) => set_good hok b (cls ds c) hi2 y h
        have hfit := less_fits hok ms.out hc (List.getElem_mem hi2) hob
        have ho2 := (hok.lt _ (List.getElem_mem hi2)).2
        have hs2' := ms.out.lt
        generalize ds[cls ds c] = o at HSt hob hfit ho2
        generalize cls ds c = kc at HCl HSt hi2
        replace hfit := Lib.hid hfit
        go_wp2_with fail
        refine wp_region_store 164 9 [.pre, .pre, .pre, .pre, .pre, .pre, .pre, .fl, .pre, .st, .fl] [.eq (.pointer (some ⟨b, 0, none⟩)), .eq (.pointer (some ⟨b, 0, none⟩)), .eq (.int .u8 c), .eq (.int .i64 kc), .eq (.tuple #[setV o, .bool true]), .eq (.tuple #[setV o, .bool true]), .eq (setV o), .eq (.bool true), .pb wr.heap.size #[.int .u64 0, .int .u64 0, .int .u64 0, .int .u64 0] 24, .any, .eq (.bool true)] (fun vs y => Below wr.heap.size wr y ∧ ∃ g, vs 8 = .pointer (some ⟨g, 0, none⟩) ∧ Blk y g (setA o) 24) mixed rfl (by kernel_rfl) (by decide) rfl rfl (by kernel_rfl) (by kernel_rfl) (fun _ _ => trivial) ?_ ?_ ?_
        · rintro vs i v y _ hp ⟨h1, g, h2, h3⟩
          exact ⟨h1, g, by rw [upd_ne _ _ _ (fun e => by rw [← e] at hp; cases hp)]; exact h2, h3⟩
        · refine ⟨?_, ?_, ?_, ?_, ?_, ?_, ?_, ?_, ?_, ?_, ?_, trivial⟩
          · intro vs a w hR H hout hget
            refine one_free rfl ?_
            have e0 := hout 9 (by kernel_rfl)
            have d0 := (k9.laterB hR).cell 0
            clear H hout hget
            dsimp only [bare]
            go_wp2
            exact ⟨_, rfl, showsX0 hR rfl⟩
          · intro vs a w hR H hout hget
            refine one_free rfl ?_
            have e0 := hout 9 (by kernel_rfl)
            have d0 := (k9.laterB hR).cell 0
            clear H hout hget
            dsimp only [bare]
            go_wp2
            exact ⟨_, rfl, showsX0 hR rfl⟩
          · intro vs a w hR H hout hget
            refine one_free rfl ?_
            have e0 := hout 3 (by kernel_rfl)
            clear H hout hget
            dsimp only [bare]
            go_wp2
            exact ⟨_, rfl, showsX0 hR rfl⟩
          · intro vs a w hR H hout hget
            refine one_free rfl ?_
            have e0 := (hget 1 125 (by kernel_rfl)).trans (congrArg some (H 1 (by decide)))
            have e1 := (hget 2 126 (by kernel_rfl)).trans (congrArg some (H 2 (by decide)))
            clear H hout hget
            dsimp only [bare]
            go_wp2_with fail
            refine (HCl.out w (hA.later hR)).mono ?_
            rintro e w1 ⟨rfl, rfl⟩
            go_wp2
            exact ⟨_, rfl, showsX0 hR rfl⟩
          · intro vs a w hR H hout hget
            refine one_free rfl ?_
            have e0 := (hget 0 124 (by kernel_rfl)).trans (congrArg some (H 0 (by decide)))
            have e1 := (hget 3 127 (by kernel_rfl)).trans (congrArg some (H 3 (by decide)))
            clear H hout hget
            dsimp only [bare]
            go_wp2_with fail
            refine (HSt.out w (hA.later hR)).mono ?_
            rintro e w1 ⟨rfl, hb⟩
            go_wp2
            exact ⟨_, rfl, showsX hR hb rfl⟩
          · intro vs a w hR H hout hget
            refine one_free rfl ?_
            have e0 := (hget 4 128 (by kernel_rfl)).trans (congrArg some (H 4 (by decide)))
            clear H hout hget
            dsimp only [bare]
            go_wp2
            exact ⟨_, rfl, showsX0 hR rfl⟩
          · intro vs a w hR H hout hget
            refine one_free rfl ?_
            have e0 := (hget 5 123 (by kernel_rfl)).trans (congrArg some (H 5 (by decide)))
            clear H hout hget
            dsimp only [bare]
            go_wp2
            exact ⟨_, rfl, showsX0 hR rfl⟩
          · intro vs a w H hout hget
            refine one_free rfl ?_
            have e0 := (hget 5 123 (by kernel_rfl)).trans (congrArg some ((H 5 (by decide)).elim fun _ h => h))
            clear H hout hget
            dsimp only [bare]
            go_wp2
            exact ⟨_, rfl, rfl, fun _ => rfl⟩
          · intro vs a w hR H hout hget
            refine one_free rfl ?_
            clear H hout hget
            dsimp only [bare]
            go_wp2
            exact ⟨_, rfl, showsX hR (below1 w _) ⟨_, rfl, hR.size, blkOf1 w _ _⟩⟩
          · intro vs a w hR H hout hget
            refine one_free rfl ?_
            have e1 := (hget 6 129 (by kernel_rfl)).trans (congrArg some (H 6 (by decide)))
            obtain ⟨g, hg, hgn, hgb⟩ := H 8 (by decide)
            have e2 := (hget 8 25 (by kernel_rfl)).trans (congrArg some hg)
            obtain ⟨d0, d1, d2, d3, f0, f1, f2, f3⟩ := hgb.four
            unfold setV setA at e1
            clear H hout hget
            dsimp only [bare]
            go_wp2
            exact ⟨undef, rfl, bfour hR hgn _ _ _ _, g, (upd_ne _ _ _ (by decide)).trans hg, hgb.setFour _ _ _ _⟩
          · intro vs a w H hout hget
            refine one_free rfl ?_
            have e0 := (hget 7 130 (by kernel_rfl)).trans (congrArg some ((H 7 (by decide)).elim fun _ h => h))
            clear H hout hget
            dsimp only [bare]
            go_wp2
            exact ⟨_, rfl, rfl, fun _ => rfl⟩
        · intro vs w9 H hH
          obtain ⟨hBf, g25, e8, b25⟩ := hH
          have e10 : vs 10 = .bool true := (H 10 (by decide) (by decide)).elim fun _ h => h
          simp only [putAll, Act.put, List.setIfInBounds_toArray, List.set_cons_succ, List.set_cons_zero, Nat.zero_add, Nat.reduceAdd, e8, e10]
          clear H e8 e10
          generalize vs 0 = z0
          generalize vs 1 = z1
          generalize vs 2 = z2
          generalize vs 3 = z3
          generalize vs 4 = z4
          generalize vs 5 = z5
          generalize vs 6 = z6
          generalize vs 7 = z7
          generalize vs 9 = z9
          replace hA := hA.later hBf
          replace k9 := k9.laterB hBf
          replace b12 := b12.laterB hBf
          replace hB := bthen hB hBf
          clear hBf HCl HSt HLn
          obtain ⟨a0, a1, a2, a3, _⟩ := (show Blk w9 _ #[_, _, _, _] 24 from b12).four
          obtain ⟨d0, d1, d2, d3, _⟩ := (show Blk w9 _ #[_, _, _, _] 24 from b25).four
          have HOr := or_any s o w9
          unfold setV setA at HOr
          go_wp2_with fail
          refine HOr.mono ?_
          clear HOr a0 a1 a2 a3 d0 d1 d2 d3 b12
          rintro e y1 ⟨rfl, hb0'⟩
          have hb0 := hb0'.below
          clear hb0'
          replace hA := hA.later hb0
          replace k9 := k9.laterB hb0
          replace b25 := b25.laterB hb0
          replace hB := bthen hB hb0
          clear hb0
          have HOf := of_any _ [c] (by simpa using hc) _ ((slN_new y1 #[.int .u8 c] 5 1 1 ([c].map byteV) rfl).sl rfl) (show 1 ≤ maxLen by decide)
          unfold setV setA at HOf
          go_wp2_with fail
          refine HOf.mono ?_
          clear HOf
          rintro e y2 ⟨rfl, hb0'⟩
          have hb0 := (below1 y1 (.cells #[.int .u8 c] 5)).trans (hb0'.below.mono (by simp))
          clear hb0'
          replace hA := hA.later hb0
          replace k9 := k9.laterB hb0
          replace b25 := b25.laterB hb0
          replace hB := bthen hB hb0
          clear hb0
          have HLe := less_any (Sx.or s o) (Sx.ofL [c]) y2
          unfold setV setA at HLe
          go_wp2_with fail
          refine HLe.mono ?_
          clear HLe
          rintro e y3 ⟨rfl, hb0'⟩
          have hb0 := hb0'.below
          clear hb0'
          replace hA := hA.later hb0
          replace k9 := k9.laterB hb0
          replace b25 := b25.laterB hb0
          replace hB := bthen hB hb0
          clear hb0
          generalize Sx.less (Sx.or s o) (Sx.ofL [c]) = x at hfit ⊢
          have hb0 := below1 y3 (.cells #[.int .u64 (Sx.wd x 0), .int .u64 (Sx.wd x 1), .int .u64 (Sx.wd x 2), .int .u64 (Sx.wd x 3)] 24)
          have b27 := blkOf1 y3 (setA x) 24
          replace hA := hA.later hb0
          replace k9 := k9.laterB hb0
          replace b25 := b25.laterB hb0
          replace hB := bthen hB hb0
          clear hb0
          have p9 := k9.cell 0
          have HSz := Lib.hid fun y => size_any o y
          unfold setV setA at HSz
          by_cases hone : (elems o).length = 1
          · have HCls := classes_fit hok b x _ hA (by rw [hfit.out, decide_eq_true hone])
            unfold setV setA at HCls
            rw [hone] at HSz
            go_wp2_with fail
            refine HCls.mono ?_
            clear HCls p9
            rintro e y4 ⟨A28, c28, rfl, _, hb0⟩
            replace b25 := b25.laterB hb0
            replace hB := bthen hB hb0
            clear hb0 k9 hA b27 hfit
            obtain ⟨d0, d1, d2, d3, _⟩ := (show Blk y4 _ #[_, _, _, _] 24 from b25).four
            go_wp2_with fail
            refine (HSz.out _).mono ?_
            rintro e y5 ⟨rfl, hb0'⟩
            replace hB := bthen hB hb0'.below
            clear hb0' HSz d0 d1 d2 d3 b25
            go_wp2
            go_ret
            exact ⟨rfl, hB⟩
          · have HCls := classes_not hok b x _ hA (by rw [hfit.out, decide_eq_false hone])
            unfold setV setA at HCls
            have hne : (((elems o).length : Int) == 1) = false := by rw [beq_eq_false_iff_ne]; omega
            have HFi := Lib.hid fun y (h : Alph y b ds) => fits_any hok b x y h
            rw [hfit.out, decide_eq_false hone] at HFi
            unfold setV setA at HFi
            go_wp2_with fail
            refine HCls.mono ?_
            clear HCls p9
            rintro e y4 ⟨rfl, hb0⟩
            replace hA := hA.later hb0
            replace k9 := k9.laterB hb0
            replace b27 := b27.laterB hb0
            replace b25 := b25.laterB hb0
            replace hB := bthen hB hb0
            clear hb0
            obtain ⟨d0, d1, d2, d3, _⟩ := (show Blk y4 _ #[_, _, _, _] 24 from b25).four
            go_wp2_with fail
            refine (HSz.out _).mono ?_
            rintro e y5 ⟨rfl, hb0'⟩
            have hb0 := hb0'.below
            clear hb0'
            replace hA := hA.later hb0
            replace k9 := k9.laterB hb0
            replace b27 := b27.laterB hb0
            replace hB := bthen hB hb0
            clear hb0 HSz d0 d1 d2 d3 b25
            have p9 := k9.cell 0
            obtain ⟨d0, d1, d2, d3, _⟩ := (show Blk y5 _ #[_, _, _, _] 24 from b27).four
            go_wp2_with fail
            refine (HFi.out _ hA).mono ?_
            rintro e y6 ⟨rfl, hb0⟩
            replace hB := bthen hB hb0
            clear hb0 d0 d1 d2 d3 p9
            go_wp2
            go_ret
            exact ⟨rfl, hB⟩

theorem setsLaw_any (v1 v2 v3 : Value) (ss p q : List Nat) (c : Nat) (hss : ∀ s ∈ ss, s < 2 ^ 256) (hp : ∀ c ∈ p, c < 256) (hq : ∀ c ∈ q, c < 256) (hc : c < 256) (w : World)
    (h1 : SlC w v1 4 ss.length (setCells ss)) (h2 : SlC w v2 1 p.length (p.map byteV)) (h3 : SlC w v3 1 q.length (q.map byteV)) :
    Calls Try.prog 12 #[v1, v2, v3, .int .u8 c] w fun e w' => e = .returned (.bool true) ∧ Below w.heap.size w w' := by
  obtain ⟨A1, c1, rfl, h1, hc1, hA1⟩ := h1
  obtain ⟨A2, c2, rfl, h2, hc2, hA2⟩ := h2
  obtain ⟨A3, c3, rfl, h3, hc3, hA3⟩ := h3
  obtain ⟨f1, g1, k1⟩ := few_c h1 hc1 hA1
  obtain ⟨f2, g2, k2⟩ := bytes_c (m := 50) h2 hc2 hA2
  obtain ⟨f3, g3, k3⟩ := bytes_c (m := 50) h3 hc3 hA3
  exact setsLaw_core A1 A2 A3 c1 c2 c3 _ _ _ (ss.take 6) (p.take 50) (q.take 50) c (fun s hs => hss s (List.mem_of_mem_take hs)) (fun c hc => hp c (List.mem_of_mem_take hc)) (fun c hc => hq c (List.mem_of_mem_take hc)) hc w k1 k2 k3 f1 f2 f3 g1 g2 g3
end Go.Proofs.Ytojmkgllbhbeiaa
