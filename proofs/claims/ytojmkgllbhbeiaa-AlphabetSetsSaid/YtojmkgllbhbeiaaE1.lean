/-
  WALKS: AlphabetWords.
-/
import Derived.Test.YtojmkgllbhbeiaaK9
namespace Go.Proofs.Ytojmkgllbhbeiaa
open Go.RowKit

theorem slice_to44 (A : Option Addr) (n cap m : Nat) (hm : m ≤ n) (hc : n ≤ cap) (hA : A = none → cap = 0) (w : World) :
    (Instr.slice 44 (.slice A n cap) none (some (.int .i64 (m : Int))) none).run Try.prog w = .ok (.slice A m cap) w := by
  cases A with
  | none =>
    obtain rfl := hA rfl
    obtain rfl : n = 0 := by omega
    obtain rfl : m = 0 := by omega
    go_simp
  | some a =>
    have : (0 : Int) ≤ (m : Int) := by omega
    have : (m : Int) ≤ (cap : Int) := by omega
    go_simp

theorem Sl.at {w : World} {A : Option Addr} {cap k n : Nat} {cs : List Value} (h : Sl w (.slice A n cap) k n cs) {i : Nat} (hi : i < n) : ∃ b o, A = some ⟨b, o, none⟩ ∧ b < w.heap.size ∧ ∀ j, j < n * k → w.cell? ⟨b, o + j, none⟩ = cs[j]? := by
  obtain ⟨_, ⟨_, rfl⟩ | ⟨b, o, cap, e, hb, hc⟩⟩ := h
  · omega
  · cases e; exact ⟨b, o, rfl, hb, hc⟩
theorem PartsOk.alike {ss ds : List Nat} (h : PartsOk ss ds) {x y : Nat} (hx : x < 256) (hy : y < 256) : ((!(ss.any fun s => s.testBit x != s.testBit y)) == ((cls ds x : Int) == (cls ds y : Int))) = true := by
  have e1 : (!(ss.any fun s => s.testBit x != s.testBit y)) = sameB ss x y := by
    unfold sameB
    rw [List.not_any_eq_all_not]
    congr 1
    funext s
    cases s.testBit x <;> cases s.testBit y <;> rfl
  have e2 := h.cls_eq hx hy
  rw [e1, beq_iff_eq, Bool.eq_iff_iff, beq_iff_eq, ← e2]
  omega
/-- A slice by its parts, with what it holds. -/
def RetSl (k n : Nat) (cs : List Value) (w : World) (e : Ending) (w' : World) : Prop := ∃ A cap, e = .returned (.slice A n cap) ∧ Sl w' (.slice A n cap) k n cs ∧ Below w.heap.size w w'
theorem word_sl {ss ds : List Nat} (hok : PartsOk ss ds) (b : Nat) (v : Value) (l : List Nat) (hl : ∀ c ∈ l, c < 256) (w : World) (hA : Alph w b ds) (h : Sl w v 1 l.length (l.map byteV)) (hlen : l.length ≤ 1000000) :
    Calls Try.prog 60 #[.pointer (some ⟨b, 0, none⟩), v] w (RetSl 1 l.length ((wordsZ ds l).map intZ) w) := by
  refine (word_any hok b v l hl w hA h (by omega)).mono ?_
  rintro e w' ⟨v', rfl, hf, hB⟩
  have hs := sl_of_owns hf.1
  rw [wordsZ_cells, List.length_map] at hs
  obtain ⟨A, cap, rfl, _⟩ := hs.opened
  exact ⟨A, cap, rfl, hs, hB⟩
theorem bytes_sl {ss ds : List Nat} (hok : PartsOk ss ds) (b : Nat) (v : Value) (l : List Nat) (hl : ∀ c ∈ l, c < 256) (w : World) (hA : Alph w b ds) (h : Sl w v 1 l.length ((wordsZ ds l).map intZ)) (hlen : l.length ≤ 1000000) :
    Calls Try.prog 45 #[.pointer (some ⟨b, 0, none⟩), v] w fun e w' => ∃ A cap, e = .returned (.tuple #[.slice A l.length cap, .int .i64 0]) ∧ Sl w' (.slice A l.length cap) 1 l.length ((leastsOf ds l).map byteV) ∧ Below w.heap.size w w' := by
  rw [← wordsZ_len ds l] at h
  refine (bytesA_any hok b v (wordsZ ds l) w hA h (by rw [wordsZ_len]; omega)).mono ?_
  intro e w' hr
  unfold RetLeasts at hr
  rw [if_pos (hok.words_all hl)] at hr
  obtain ⟨v', rfl, hf, hB⟩ := hr
  have hs := sl_of_owns hf.1
  rw [leasts_words, leastsOf_len] at hs
  obtain ⟨A, cap, rfl, _⟩ := hs.opened
  exact ⟨A, cap, rfl, hs, hB⟩
theorem word_again {ss ds : List Nat} (hok : PartsOk ss ds) (b : Nat) (v : Value) (l : List Nat) (hl : ∀ c ∈ l, c < 256) (w : World) (hA : Alph w b ds) (h : Sl w v 1 l.length ((leastsOf ds l).map byteV)) (hlen : l.length ≤ 1000000) :
    Calls Try.prog 60 #[.pointer (some ⟨b, 0, none⟩), v] w (RetSl 1 l.length ((wordsZ ds l).map intZ) w) := by
  have := word_sl hok b v (leastsOf ds l) (hok.leastsOf_lt hl) w hA (by rw [leastsOf_len]; exact h) (by rw [leastsOf_len]; exact hlen)
  rw [leastsOf_len, show wordsZ ds (leastsOf ds l) = wordsZ ds l by unfold wordsZ; rw [hok.word_leasts hl]] at this
  exact this

/-- The closure that tells two bytes apart. -/
theorem tells_fn (s x y b1 b2 : Nat) (hx : x < 256) (hy : y < 256) (w : World) (k1 : Blk w b1 #[.int .u8 x] 5) (k2 : Blk w b2 #[.int .u8 y] 5) :
    Calls Try.prog 63 #[setV s, .pointer (some ⟨b1, 0, none⟩), .pointer (some ⟨b2, 0, none⟩)] w fun e w' => e = .returned (.bool (s.testBit x != s.testBit y)) ∧ Below w.heap.size w w' := by
  unfold setV setA
  go_enter Try.func63, Try.ntmps63
  go_wp2_with fail
  obtain ⟨W9, hW9, bS, hB9⟩ : ∃ W9, W9 = w.alloc (.cells #[.int .u64 (Sx.wd s 0), .int .u64 (Sx.wd s 1), .int .u64 (Sx.wd s 2), .int .u64 (Sx.wd s 3)] 24) ∧ Blk W9 w.heap.size (setA s) 24 ∧ Below w.heap.size w W9 := ⟨_, rfl, blkOf1 w _ _, below1 w _⟩
  rw [← hW9]
  clear hW9
  replace k1 := k1.laterB hB9
  replace k2 := k2.laterB hB9
  refine wp_region_facts 12 [.eq (setV s), .eq (.int .u8 x), .eq (.bool (s.testBit x)), .eq (setV s), .eq (.int .u8 y), .eq (.bool (s.testBit y)), .eq (.bool (s.testBit x != s.testBit y)), .eq (.bool (s.testBit x != s.testBit y))] mixed rfl (by kernel_rfl) ?_ ?_
  · refine ⟨?_, ?_, ?_, ?_, ?_, ?_, ?_, ?_, trivial⟩
    · intro vs a w hR H hin hout hget
      refine one_free rfl ?_
      have e0 := hout 3 (by kernel_rfl)
      obtain ⟨c0, c1, c2, c3, _⟩ := (show Blk w _ #[_, _, _, _] 24 from bS.laterB hR).four
      clear H hin hout hget
      dsimp only [bare]
      go_wp2
      exact ⟨_, rfl, shows0 hR rfl⟩
    · intro vs a w hR H hin hout hget
      refine one_free rfl ?_
      have e0 := hout 1 (by kernel_rfl)
      have d0 := (k1.laterB hR).cell 0
      clear H hin hout hget
      dsimp only [bare]
      go_wp2
      exact ⟨_, rfl, shows0 hR rfl⟩
    · intro vs a w hR H hin hout hget
      refine one_free rfl ?_
      have e0 := (hget 0 5 (by kernel_rfl)).trans (congrArg some (H 0 (by decide)))
      have e1 := (hget 1 6 (by kernel_rfl)).trans (congrArg some (H 1 (by decide)))
      clear H hin hout hget
      dsimp only [bare]
      go_wp2_with fail
      refine (has_any s x hx w).mono ?_
      rintro e w1 ⟨rfl, hb⟩
      go_wp2
      exact ⟨_, rfl, shows hR hb.below rfl⟩
    · intro vs a w hR H hin hout hget
      refine one_free rfl ?_
      have e0 := hout 3 (by kernel_rfl)
      obtain ⟨c0, c1, c2, c3, _⟩ := (show Blk w _ #[_, _, _, _] 24 from bS.laterB hR).four
      clear H hin hout hget
      dsimp only [bare]
      go_wp2
      exact ⟨_, rfl, shows0 hR rfl⟩
    · intro vs a w hR H hin hout hget
      refine one_free rfl ?_
      have e0 := hout 2 (by kernel_rfl)
      have d0 := (k2.laterB hR).cell 0
      clear H hin hout hget
      dsimp only [bare]
      go_wp2
      exact ⟨_, rfl, shows0 hR rfl⟩
    · intro vs a w hR H hin hout hget
      refine one_free rfl ?_
      have e0 := (hget 3 8 (by kernel_rfl)).trans (congrArg some (H 3 (by decide)))
      have e1 := (hget 4 9 (by kernel_rfl)).trans (congrArg some (H 4 (by decide)))
      clear H hin hout hget
      dsimp only [bare]
      go_wp2_with fail
      refine (has_any s y hy w).mono ?_
      rintro e w1 ⟨rfl, hb⟩
      go_wp2
      exact ⟨_, rfl, shows hR hb.below rfl⟩
    · intro vs a w hR H hin hout hget
      refine one_free rfl ?_
      have e0 := (hget 2 7 (by kernel_rfl)).trans (congrArg some (H 2 (by decide)))
      have e1 := (hget 5 10 (by kernel_rfl)).trans (congrArg some (H 5 (by decide)))
      clear H hin hout hget
      dsimp only [bare]
      go_wp2
      exact ⟨_, rfl, shows0 hR (by cases s.testBit x <;> cases s.testBit y <;> rfl)⟩
    · intro vs a w hR H hin hout hget
      refine one_free rfl ?_
      have e0 := (hget 6 11 (by kernel_rfl)).trans (congrArg some (H 6 (by decide)))
      clear H hin hout hget
      dsimp only [bare]
      go_wp2
      exact ⟨_, rfl, shows0 hR rfl⟩
  · intro vs w10 hR H
    have e7 : vs 7 = (.bool (s.testBit x != s.testBit y)) := H 7 (by decide)
    simp only [putAll, Act.put, List.setIfInBounds_toArray, List.set_cons_succ, List.set_cons_zero, Nat.zero_add, Nat.reduceAdd, e7]
    clear H e7
    generalize vs 0 = z0
    generalize vs 1 = z1
    generalize vs 2 = z2
    generalize vs 3 = z3
    generalize vs 4 = z4
    generalize vs 5 = z5
    generalize vs 6 = z6
    replace hB9 := hB9.trans (hR.mono hB9.size)
    clear hR
    go_wp2
    go_ret
    exact ⟨rfl, hB9⟩

set_option maxRecDepth 100000 in
set_option maxHeartbeats 4000000 in
theorem words_core (A1 A2 : Option Addr) (c1 c2 n1 n2 : Nat) (ss bs : List Nat) (x y : Nat) (hss : ∀ s ∈ ss, s < 2 ^ 256) (hbs : ∀ c ∈ bs, c < 256) (hx : x < 256) (hy : y < 256) (w : World)
    (HF : ∀ w', Below w.heap.size w w' → Calls Try.prog 40 #[.slice A1 n1 c1] w' fun e w'' => e = .returned (.slice A1 ss.length c1) ∧ w' = w'')
    (hsl : ∀ w, (Instr.slice 44 (.slice A2 n2 c2) none (some (.int .i64 (min (n2 : Int) 100))) none).run Try.prog w = .ok (.slice A2 bs.length c2) w)
    (h1 : Sl w (.slice A1 ss.length c1) 4 ss.length (setCells ss)) (h2 : Sl w (.slice A2 bs.length c2) 1 bs.length (bs.map byteV)) (hn1 : ss.length ≤ 6) (hn2 : bs.length ≤ 100) :
    Calls Try.prog 13 #[.slice A1 n1 c1, .slice A2 n2 c2, .int .u8 x, .int .u8 y] w fun e w' => e = .returned (.bool true) ∧ Below w.heap.size w w' := by
  have HA := fun w => awakeA_any w
  have HF := Lib.hid HF
  have HO := Lib.hid fun w' (h : Below w.heap.size w w') => of_alph (.slice A1 ss.length c1) ss hss w' (h1.laterB h) (by omega)
  replace h1 := Lib.hid h1
  replace h2 := Lib.hid h2
  replace hss := Lib.hid hss
  go_enter Try.func13, Try.ntmps13
  go_wp2_with fail
  refine (HA _).mono ?_
  rintro e w1 ⟨rfl, hB1⟩
  clear HA
  obtain ⟨d6, d7⟩ : Blk w1 w.heap.size #[.int .u8 x] 5 ∧ Blk w1 (w.heap.size + 1) #[.int .u8 y] 5 := ⟨((blkOf1 w _ _).alloc _).laterB hB1, (blkOf2 w _ _ _).laterB hB1⟩
  replace hB1 := bthen (below2 w _ _) hB1
  have hs1 : w.heap.size + 1 < w1.heap.size := by have := d7.lt; omega
  go_wp2_with fail
  go_quiet ((go_at_call 40; exact Calls.quiet_of_same ((HF.out _ (bdrewN hB1 _)).mono fun _ _ h => ⟨h.1, h.2.symm⟩)))
  clear HF
  go_wp2_with fail
  refine (HO.out _ (bdrewN hB1 _)).mono ?_
  rintro e w2 ⟨b, ds, rfl, hok, hpos, _, hA, _, hB2⟩
  replace d6 := d6.laterB (bthen (bdrewN (Below.refl _ w1) nq) hB2)
  replace d7 := d7.laterB (bthen (bdrewN (Below.refl _ w1) nq) hB2)
  replace hB2 := hB1.trans ((bthen (bdrewN (Below.refl _ w1) nq) hB2).mono hB1.size)
  clear HO
  go_wp2_with fail
  have hBb := fun {w'} (h : Below w2.heap.size w2 w') => hB2.trans (h.mono hB2.size)
  refine (word_sl hok b _ bs hbs w2 hA (h2.out.laterB hB2) (by omega)).mono ?_
  rintro e w3 ⟨A3, c3, rfl, h3, hB3⟩
  replace h3 := Lib.hid h3
  go_wp2_with fail
  refine (bytes_sl hok b _ bs hbs w3 (hA.later hB3) h3.out (by omega)).mono ?_
  rintro e w4 ⟨A4, c4, rfl, h4, hb0⟩
  replace h3 := Lib.hid (h3.out.laterB hb0)
  replace hB3 := bthen hB3 hb0
  clear hb0
  replace h4 := Lib.hid h4
  go_wp2_with fail
  refine (word_again hok b _ bs hbs w4 (hA.later hB3) h4.out (by omega)).mono ?_
  rintro e w5 ⟨A5, c5, rfl, h5, hb0⟩
  replace h3 := Lib.hid (h3.out.laterB hb0)
  replace h4 := Lib.hid (h4.out.laterB hb0)
  replace hB3 := bthen hB3 hb0
  clear hb0
  replace h5 := Lib.hid h5
  have HE : ∀ v1 v2 w, Sl w v1 1 bs.length ((wordsZ ds bs).map intZ) → Sl w v2 1 bs.length ((wordsZ ds bs).map intZ) → Calls Try.prog 56 #[v1, v2] w fun e w' => e = .returned (.bool true) ∧ Below w.heap.size w w' := fun v1 v2 w h1 h2 => by
    have := eqInts_any v1 v2 (wordsZ ds bs) (wordsZ ds bs) w (by rw [wordsZ_len]; exact h1) (by rw [wordsZ_len]; exact h2) (by rw [wordsZ_len]; omega)
    rwa [decide_eq_true rfl] at this
  replace HE := Lib.hid HE
  go_wp2_with fail
  refine (HE.out _ _ w5 h5.out h3.out).mono ?_
  rintro e w6 ⟨rfl, hb0⟩
  replace h3 := Lib.hid (h3.out.laterB hb0)
  replace h4 := Lib.hid (h4.out.laterB hb0)
  replace hB3 := bthen hB3 hb0
  clear hb0 HE h5
  go_wp2_with fail
  refine (table_any hok b w6 (hA.later hB3)).mono ?_
  rintro e w7 ⟨rfl, hb0⟩
  replace h3 := Lib.hid (h3.out.laterB hb0)
  replace h4 := Lib.hid (h4.out.laterB hb0)
  replace hB3 := bthen hB3 hb0
  clear hb0
  have hz := zero82
  obtain ⟨b7, hB7⟩ : Blk (w7.alloc (.cells (tabA fun _ => 0) 82)) w7.heap.size (tabA fun _ => 0) 82 ∧ Below w7.heap.size w7 (w7.alloc (.cells (tabA fun _ => 0) 82)) := ⟨blkOf1 w7 _ _, below1 w7 _⟩
  go_wp2_with (with_reducible refine wp_store82 rfl _ _ rfl _ rfl _ _ rfl b7 ?_)
  clear hz
  obtain ⟨W, hW, b8, hB8⟩ : ∃ W, W = (w7.alloc (.cells (tabA fun _ => 0) 82)).setRow w7.heap.size (tabA (cls ds)) ∧ Blk W w7.heap.size (tabA (cls ds)) 82 ∧ Below w7.heap.size w7 W := ⟨_, rfl, b7.setRow _, below_row hB7 (Nat.le_refl _) _⟩
  rw [← hW]
  clear hW b7 hB7
  replace h3 := Lib.hid (h3.out.laterB hB8)
  replace h4 := Lib.hid (h4.out.laterB hB8)
  replace hB3 := bthen hB3 hB8
  replace hA := hA.later hB3
  replace d6 := d6.laterB hB3
  replace d7 := d7.laterB hB3
  replace h2 := Lib.hid (h2.out.laterB (hB2.trans (hB3.mono hB2.size)))
  replace hB2 := hB2.trans (hB3.mono hB2.size)
  clear hB3
  generalize w7.heap.size = g7 at b8 ⊢
  go_loopw [69] (fun i wr => ∃ k : Nat, k ≤ bs.length ∧ i = .int .i64 k ∧ Below W.heap.size W wr) (fun i _ => bs.length - (intOf i).toNat)
  case atStart => exact ⟨0, by omega, rfl, Below.refl _ _⟩
  case round =>
    obtain ⟨k, hk, rfl, hB⟩ := hrel
    by_cases hlt : k < bs.length
    · obtain ⟨q2, o2, rfl, l2, r2⟩ := h2.out.at hlt
      obtain ⟨q3, o3, rfl, l3, r3⟩ := h3.out.at hlt
      obtain ⟨q4, o4, rfl, l4, r4⟩ := h4.out.at hlt
      replace r2 := (hB.cell (p := ⟨q2, o2 + k, none⟩) l2).trans (r2 k (by omega))
      replace r3 := (hB.cell (p := ⟨q3, o3 + k, none⟩) l3).trans (r3 k (by omega))
      replace r4 := (hB.cell (p := ⟨q4, o4 + k, none⟩) l4).trans (r4 k (by omega))
      have hc := hbs _ (List.getElem_mem hlt)
      rw [List.getElem?_map, List.getElem?_eq_getElem hlt] at r2
      have r3' : wr.cell? ⟨q3, o3 + k, none⟩ = some (.int .i64 (cls ds bs[k] : Nat)) := by rw [r3]; unfold wordsZ; simp [hlt, intZ]
      have r4' : wr.cell? ⟨q4, o4 + k, none⟩ = some (.int .u8 (least (setAt ds (cls ds bs[k] : Nat)) : Nat)) := by rw [r4]; unfold leastsOf; simp [hlt, byteV]
      replace r2 : wr.cell? ⟨q2, o2 + k, none⟩ = some (.int .u8 (bs[k] : Nat)) := r2
      clear r3 r4
      generalize bs[k] = c at r2 r3' r4' hc
      have hAr := hA.later hB
      have hst := fun w (h : Alph w b ds) => set_any h hok.pos (cls ds c : Nat)
      rw [isAt_nat (hok.cls_spec hc).1] at hst
      have hsb : (setAt ds (cls ds c : Nat)).testBit c = true := by rw [setAt_nat (hok.cls_spec hc).1]; exact (hok.cls_spec hc).2
      have hle := hok.least_le hc
      have hk0 : (0 : Int) ≤ (k : Int) := Int.natCast_nonneg _
      have hk1 : (k : Int) < (bs.length : Int) := by omega
      have hcl2 := fun w (h : Alph w b ds) => class_any h hok.pos hc (by have := hok.le256; have := (hok.cls_spec hc).1; omega)
      clear h2 h3 h4
      have htab : wr.cell? ⟨g7, c, none⟩ = some (.int .u8 (cls ds c : Nat)) := ((b8.laterB hB).cell c).trans (tabA_get _ hc)
      generalize least (setAt ds (cls ds c : Nat)) = m at r4' hle
      generalize setAt ds (cls ds c : Nat) = p at hst hsb
      have hq := (hok.cls_spec hc).1
      have hq3 := hok.le256
      generalize cls ds c = q at r3' hst htab hcl2 hq
      go_wp2_with fail
      unfold setV setA at hst
      refine (hst wr hAr).mono ?_
      rintro e w9 ⟨rfl, hb0⟩
      clear hst
      have hBx := hB.trans ((hb0.trans ((below1 w9 (.cells #[.int .u64 (Sx.wd p 0), .int .u64 (Sx.wd p 1), .int .u64 (Sx.wd p 2), .int .u64 (Sx.wd p 3)] 24)).mono hb0.size)).mono hB.size)
      -- REGION 16
      obtain ⟨W9, hW9, bS, hB9⟩ : ∃ W9, W9 = w9.alloc (.cells #[.int .u64 (Sx.wd p 0), .int .u64 (Sx.wd p 1), .int .u64 (Sx.wd p 2), .int .u64 (Sx.wd p 3)] 24) ∧ Blk W9 w9.heap.size (setA p) 24 ∧ Below W.heap.size W W9 := ⟨_, rfl, blkOf1 w9 _ _, hBx⟩
      have hbw := hb0.trans ((below1 w9 (.cells #[.int .u64 (Sx.wd p 0), .int .u64 (Sx.wd p 1), .int .u64 (Sx.wd p 2), .int .u64 (Sx.wd p 3)] 24)).mono hb0.size)
      rw [← hW9] at hbw
      have L3 : q3 < wr.heap.size := Nat.lt_of_lt_of_le l3 hB.size
      have L4 : q4 < wr.heap.size := Nat.lt_of_lt_of_le l4 hB.size
      have L7 : g7 < wr.heap.size := Nat.lt_of_lt_of_le b8.lt hB.size
      have r3 := (hbw.cell (p := ⟨q3, o3 + k, none⟩) L3).trans r3'
      have r4 := (hbw.cell (p := ⟨q4, o4 + k, none⟩) L4).trans r4'
      replace htab := (hbw.cell (p := ⟨g7, c, none⟩) L7).trans htab
      replace L3 := Nat.lt_of_lt_of_le L3 hbw.size
      replace L4 := Nat.lt_of_lt_of_le L4 hbw.size
      replace L7 := Nat.lt_of_lt_of_le L7 hbw.size
      have hA9 := hAr.later hbw
      have HH := fun w => has_any p c hc w
      rw [hsb] at HH
      have hle2 : (m : Int) ≤ (c : Int) := by omega
      have hq2 : (q : Int) < 256 := by omega
      clear r3' r4' hAr hsb hle r2 hbw hb0 hBx
      go_wp2_with fail
      rw [← hW9]
      clear hW9
      generalize w9.heap.size = g9 at bS ⊢
      refine wp_region_facts 134 [.eq (.bool true), .eq (.bool false), .eq (.bool false), .eq (setV p), .eq (.int .u8 c), .eq (.bool true), .eq (.bool false), .eq (.bool false), .eq (.bool false), .eq (.slice (some ⟨q4, o4, none⟩) bs.length c4), .eq (.int .i64 k), .eq (.pointer (some ⟨q4, o4 + k, none⟩)), .eq (.int .u8 m), .eq (.int .u8 c), .eq (.bool false), .eq (.bool false), .eq (.bool false), .eq (.int .u8 c), .eq (.pointer (some ⟨g7, c, none⟩)), .eq (.int .u8 q), .eq (.int .i64 (q : Nat)), .eq (.slice (some ⟨q3, o3, none⟩) bs.length c3), .eq (.int .i64 k), .eq (.pointer (some ⟨q3, o3 + k, none⟩)), .eq (.int .i64 q), .eq (.bool false), .eq (.bool false), .eq (.bool false), .eq (.pointer (some ⟨b, 0, none⟩)), .eq (.int .u8 c), .eq (.int .i64 q), .eq (.slice (some ⟨q3, o3, none⟩) bs.length c3), .eq (.int .i64 k), .eq (.pointer (some ⟨q3, o3 + k, none⟩)), .eq (.int .i64 q), .eq (.bool false), .eq (.bool false)] mixed rfl (by kernel_rfl) ?_ ?_
      · refine ⟨?_, ?_, ?_, ?_, ?_, ?_, ?_, ?_, ?_, ?_, ?_, ?_, ?_, ?_, ?_, ?_, ?_, ?_, ?_, ?_, ?_, ?_, ?_, ?_, ?_, ?_, ?_, ?_, ?_, ?_, ?_, ?_, ?_, ?_, ?_, ?_, ?_, trivial⟩
        · intro vs a w hR H hin hout hget
          refine one_free rfl ?_
          have e0 := hout 17 (by kernel_rfl)
          clear H hin hout hget
          dsimp only [bare]
          go_wp2
          exact ⟨_, rfl, shows0 hR rfl⟩
        · intro vs a w hR H hin hout hget
          refine one_free rfl ?_
          have e0 := (hget 0 83 (by kernel_rfl)).trans (congrArg some (H 0 (by decide)))
          clear H hin hout hget
          dsimp only [bare]
          go_wp2
          exact ⟨_, rfl, shows0 hR rfl⟩
        · intro vs a w hR H hin hout hget
          refine one_free rfl ?_
          have e0 := (hget 1 84 (by kernel_rfl)).trans (congrArg some (H 1 (by decide)))
          clear H hin hout hget
          dsimp only [bare]
          go_wp2
          exact ⟨_, rfl, shows0 hR rfl⟩
        · intro vs a w hR H hin hout hget
          refine one_guard 2 false 85 rfl (by kernel_rfl) ((hget 2 85 (by kernel_rfl)).trans (congrArg some (H 2 (by decide)))) ?_
          have e0 := hout 16 (by kernel_rfl)
          obtain ⟨c0, c1, c2, c3, _⟩ := (show Blk w _ #[_, _, _, _] 24 from bS.laterB hR).four
          clear H hin hout hget
          dsimp only [bare]
          go_wp2
          exact ⟨_, rfl, shows0 hR rfl⟩
        · intro vs a w hR H hin hout hget
          refine one_guard 2 false 85 rfl (by kernel_rfl) ((hget 2 85 (by kernel_rfl)).trans (congrArg some (H 2 (by decide)))) ?_
          have e0 := hout 15 (by kernel_rfl)
          clear H hin hout hget
          dsimp only [bare]
          go_wp2
          exact ⟨_, rfl, shows0 hR rfl⟩
        · intro vs a w hR H hin hout hget
          refine one_guard 2 false 85 rfl (by kernel_rfl) ((hget 2 85 (by kernel_rfl)).trans (congrArg some (H 2 (by decide)))) ?_
          have e0 := (hget 3 86 (by kernel_rfl)).trans (congrArg some (H 3 (by decide)))
          have e1 := (hget 4 87 (by kernel_rfl)).trans (congrArg some (H 4 (by decide)))
          clear H hin hout hget
          dsimp only [bare]
          go_wp2_with fail
          refine (HH w).mono ?_
          rintro e w1 ⟨rfl, hb⟩
          go_wp2
          exact ⟨_, rfl, shows hR hb.below rfl⟩
        · intro vs a w hR H hin hout hget
          refine one_guard 2 false 85 rfl (by kernel_rfl) ((hget 2 85 (by kernel_rfl)).trans (congrArg some (H 2 (by decide)))) ?_
          have e0 := (hget 5 88 (by kernel_rfl)).trans (congrArg some (H 5 (by decide)))
          clear H hin hout hget
          dsimp only [bare]
          go_wp2
          exact ⟨_, rfl, shows0 hR rfl⟩
        · intro vs a w hR H hin hout hget
          refine one_free rfl ?_
          have e0 := (hget 2 85 (by kernel_rfl)).trans (congrArg some (H 2 (by decide)))
          have e1 := (hget 6 89 (by kernel_rfl)).trans (congrArg some (H 6 (by decide)))
          clear H hin hout hget
          dsimp only [bare]
          go_wp2
          exact ⟨_, rfl, shows0 hR rfl⟩
        · intro vs a w hR H hin hout hget
          refine one_free rfl ?_
          have e0 := (hget 7 90 (by kernel_rfl)).trans (congrArg some (H 7 (by decide)))
          clear H hin hout hget
          dsimp only [bare]
          go_wp2
          exact ⟨_, rfl, shows0 hR rfl⟩
        · intro vs a w hR H hin hout hget
          refine one_guard 8 false 91 rfl (by kernel_rfl) ((hget 8 91 (by kernel_rfl)).trans (congrArg some (H 8 (by decide)))) ?_
          have e0 := hout 11 (by kernel_rfl)
          clear H hin hout hget
          dsimp only [bare]
          go_wp2
          exact ⟨_, rfl, shows0 hR rfl⟩
        · intro vs a w hR H hin hout hget
          refine one_guard 8 false 91 rfl (by kernel_rfl) ((hget 8 91 (by kernel_rfl)).trans (congrArg some (H 8 (by decide)))) ?_
          have e0 := hout 14 (by kernel_rfl)
          clear H hin hout hget
          dsimp only [bare]
          go_wp2
          exact ⟨_, rfl, shows0 hR rfl⟩
        · intro vs a w hR H hin hout hget
          refine one_guard 8 false 91 rfl (by kernel_rfl) ((hget 8 91 (by kernel_rfl)).trans (congrArg some (H 8 (by decide)))) ?_
          have e0 := (hget 9 92 (by kernel_rfl)).trans (congrArg some (H 9 (by decide)))
          have e1 := (hget 10 93 (by kernel_rfl)).trans (congrArg some (H 10 (by decide)))
          clear H hin hout hget
          dsimp only [bare]
          go_wp2
          exact ⟨_, rfl, shows0 hR rfl⟩
        · intro vs a w hR H hin hout hget
          refine one_guard 8 false 91 rfl (by kernel_rfl) ((hget 8 91 (by kernel_rfl)).trans (congrArg some (H 8 (by decide)))) ?_
          have e0 := (hget 11 94 (by kernel_rfl)).trans (congrArg some (H 11 (by decide)))
          have d0 := (hR.cell (p := ⟨q4, o4 + k, none⟩) L4).trans r4
          clear H hin hout hget
          dsimp only [bare]
          go_wp2
          exact ⟨_, rfl, shows0 hR rfl⟩
        · intro vs a w hR H hin hout hget
          refine one_guard 8 false 91 rfl (by kernel_rfl) ((hget 8 91 (by kernel_rfl)).trans (congrArg some (H 8 (by decide)))) ?_
          have e0 := hout 15 (by kernel_rfl)
          clear H hin hout hget
          dsimp only [bare]
          go_wp2
          exact ⟨_, rfl, shows0 hR rfl⟩
        · intro vs a w hR H hin hout hget
          refine one_guard 8 false 91 rfl (by kernel_rfl) ((hget 8 91 (by kernel_rfl)).trans (congrArg some (H 8 (by decide)))) ?_
          have e0 := (hget 12 95 (by kernel_rfl)).trans (congrArg some (H 12 (by decide)))
          have e1 := (hget 13 96 (by kernel_rfl)).trans (congrArg some (H 13 (by decide)))
          have h5 : ¬ (c : Int) < (m : Int) := by omega
          clear H hin hout hget
          dsimp only [bare]
          go_wp2
          exact ⟨_, rfl, shows0 hR rfl⟩
        · intro vs a w hR H hin hout hget
          refine one_free rfl ?_
          have e0 := (hget 8 91 (by kernel_rfl)).trans (congrArg some (H 8 (by decide)))
          have e1 := (hget 14 97 (by kernel_rfl)).trans (congrArg some (H 14 (by decide)))
          clear H hin hout hget
          dsimp only [bare]
          go_wp2
          exact ⟨_, rfl, shows0 hR rfl⟩
        · intro vs a w hR H hin hout hget
          refine one_free rfl ?_
          have e0 := (hget 15 98 (by kernel_rfl)).trans (congrArg some (H 15 (by decide)))
          clear H hin hout hget
          dsimp only [bare]
          go_wp2
          exact ⟨_, rfl, shows0 hR rfl⟩
        · intro vs a w hR H hin hout hget
          refine one_guard 16 false 99 rfl (by kernel_rfl) ((hget 16 99 (by kernel_rfl)).trans (congrArg some (H 16 (by decide)))) ?_
          have e0 := hout 15 (by kernel_rfl)
          clear H hin hout hget
          dsimp only [bare]
          go_wp2
          exact ⟨_, rfl, shows0 hR rfl⟩
        · intro vs a w hR H hin hout hget
          refine one_guard 16 false 99 rfl (by kernel_rfl) ((hget 16 99 (by kernel_rfl)).trans (congrArg some (H 16 (by decide)))) ?_
          have e0 := hout 13 (by kernel_rfl)
          have e1 := (hget 17 100 (by kernel_rfl)).trans (congrArg some (H 17 (by decide)))
          clear H hin hout hget
          dsimp only [bare]
          go_wp2
          exact ⟨_, rfl, shows0 hR rfl⟩
        · intro vs a w hR H hin hout hget
          refine one_guard 16 false 99 rfl (by kernel_rfl) ((hget 16 99 (by kernel_rfl)).trans (congrArg some (H 16 (by decide)))) ?_
          have e0 := (hget 18 101 (by kernel_rfl)).trans (congrArg some (H 18 (by decide)))
          have d0 := (hR.cell (p := ⟨g7, c, none⟩) L7).trans htab
          clear H hin hout hget
          dsimp only [bare]
          go_wp2
          exact ⟨_, rfl, shows0 hR rfl⟩
        · intro vs a w hR H hin hout hget
          refine one_guard 16 false 99 rfl (by kernel_rfl) ((hget 16 99 (by kernel_rfl)).trans (congrArg some (H 16 (by decide)))) ?_
          have e0 := (hget 19 102 (by kernel_rfl)).trans (congrArg some (H 19 (by decide)))
          clear H hin hout hget
          dsimp only [bare]
          go_wp2
          exact ⟨_, rfl, shows0 hR rfl⟩
        · intro vs a w hR H hin hout hget
          refine one_guard 16 false 99 rfl (by kernel_rfl) ((hget 16 99 (by kernel_rfl)).trans (congrArg some (H 16 (by decide)))) ?_
          have e0 := hout 10 (by kernel_rfl)
          clear H hin hout hget
          dsimp only [bare]
          go_wp2
          exact ⟨_, rfl, shows0 hR rfl⟩
        · intro vs a w hR H hin hout hget
          refine one_guard 16 false 99 rfl (by kernel_rfl) ((hget 16 99 (by kernel_rfl)).trans (congrArg some (H 16 (by decide)))) ?_
          have e0 := hout 14 (by kernel_rfl)
          clear H hin hout hget
          dsimp only [bare]
          go_wp2
          exact ⟨_, rfl, shows0 hR rfl⟩
        · intro vs a w hR H hin hout hget
          refine one_guard 16 false 99 rfl (by kernel_rfl) ((hget 16 99 (by kernel_rfl)).trans (congrArg some (H 16 (by decide)))) ?_
          have e0 := (hget 21 104 (by kernel_rfl)).trans (congrArg some (H 21 (by decide)))
          have e1 := (hget 22 105 (by kernel_rfl)).trans (congrArg some (H 22 (by decide)))
          clear H hin hout hget
          dsimp only [bare]
          go_wp2
          exact ⟨_, rfl, shows0 hR rfl⟩
        · intro vs a w hR H hin hout hget
          refine one_guard 16 false 99 rfl (by kernel_rfl) ((hget 16 99 (by kernel_rfl)).trans (congrArg some (H 16 (by decide)))) ?_
          have e0 := (hget 23 106 (by kernel_rfl)).trans (congrArg some (H 23 (by decide)))
          have d0 := (hR.cell (p := ⟨q3, o3 + k, none⟩) L3).trans r3
          clear H hin hout hget
          dsimp only [bare]
          go_wp2
          exact ⟨_, rfl, shows0 hR rfl⟩
        · intro vs a w hR H hin hout hget
          refine one_guard 16 false 99 rfl (by kernel_rfl) ((hget 16 99 (by kernel_rfl)).trans (congrArg some (H 16 (by decide)))) ?_
          have e0 := (hget 20 103 (by kernel_rfl)).trans (congrArg some (H 20 (by decide)))
          have e1 := (hget 24 107 (by kernel_rfl)).trans (congrArg some (H 24 (by decide)))
          clear H hin hout hget
          dsimp only [bare]
          go_wp2
          exact ⟨_, rfl, shows0 hR rfl⟩
        · intro vs a w hR H hin hout hget
          refine one_free rfl ?_
          have e0 := (hget 16 99 (by kernel_rfl)).trans (congrArg some (H 16 (by decide)))
          have e1 := (hget 25 108 (by kernel_rfl)).trans (congrArg some (H 25 (by decide)))
          clear H hin hout hget
          dsimp only [bare]
          go_wp2
          exact ⟨_, rfl, shows0 hR rfl⟩
        · intro vs a w hR H hin hout hget
          refine one_free rfl ?_
          have e0 := (hget 26 109 (by kernel_rfl)).trans (congrArg some (H 26 (by decide)))
          clear H hin hout hget
          dsimp only [bare]
          go_wp2
          exact ⟨_, rfl, shows0 hR rfl⟩
        · intro vs a w hR H hin hout hget
          refine one_guard 27 false 110 rfl (by kernel_rfl) ((hget 27 110 (by kernel_rfl)).trans (congrArg some (H 27 (by decide)))) ?_
          have e0 := hout 9 (by kernel_rfl)
          clear H hin hout hget
          dsimp only [bare]
          go_wp2
          exact ⟨_, rfl, shows0 hR rfl⟩
        · intro vs a w hR H hin hout hget
          refine one_guard 27 false 110 rfl (by kernel_rfl) ((hget 27 110 (by kernel_rfl)).trans (congrArg some (H 27 (by decide)))) ?_
          have e0 := hout 15 (by kernel_rfl)
          clear H hin hout hget
          dsimp only [bare]
          go_wp2
          exact ⟨_, rfl, shows0 hR rfl⟩
        · intro vs a w hR H hin hout hget
          refine one_guard 27 false 110 rfl (by kernel_rfl) ((hget 27 110 (by kernel_rfl)).trans (congrArg some (H 27 (by decide)))) ?_
          have e0 := (hget 28 111 (by kernel_rfl)).trans (congrArg some (H 28 (by decide)))
          have e1 := (hget 29 112 (by kernel_rfl)).trans (congrArg some (H 29 (by decide)))
          clear H hin hout hget
          dsimp only [bare]
          go_wp2_with fail
          refine (hcl2 w (hA9.later hR)).mono ?_
          rintro e w1 ⟨rfl, rfl⟩
          go_wp2
          exact ⟨_, rfl, shows0 hR rfl⟩
        · intro vs a w hR H hin hout hget
          refine one_guard 27 false 110 rfl (by kernel_rfl) ((hget 27 110 (by kernel_rfl)).trans (congrArg some (H 27 (by decide)))) ?_
          have e0 := hout 10 (by kernel_rfl)
          clear H hin hout hget
          dsimp only [bare]
          go_wp2
          exact ⟨_, rfl, shows0 hR rfl⟩
        · intro vs a w hR H hin hout hget
          refine one_guard 27 false 110 rfl (by kernel_rfl) ((hget 27 110 (by kernel_rfl)).trans (congrArg some (H 27 (by decide)))) ?_
          have e0 := hout 14 (by kernel_rfl)
          clear H hin hout hget
          dsimp only [bare]
          go_wp2
          exact ⟨_, rfl, shows0 hR rfl⟩
        · intro vs a w hR H hin hout hget
          refine one_guard 27 false 110 rfl (by kernel_rfl) ((hget 27 110 (by kernel_rfl)).trans (congrArg some (H 27 (by decide)))) ?_
          have e0 := (hget 31 114 (by kernel_rfl)).trans (congrArg some (H 31 (by decide)))
          have e1 := (hget 32 115 (by kernel_rfl)).trans (congrArg some (H 32 (by decide)))
          clear H hin hout hget
          dsimp only [bare]
          go_wp2
          exact ⟨_, rfl, shows0 hR rfl⟩
        · intro vs a w hR H hin hout hget
          refine one_guard 27 false 110 rfl (by kernel_rfl) ((hget 27 110 (by kernel_rfl)).trans (congrArg some (H 27 (by decide)))) ?_
          have e0 := (hget 33 116 (by kernel_rfl)).trans (congrArg some (H 33 (by decide)))
          have d0 := (hR.cell (p := ⟨q3, o3 + k, none⟩) L3).trans r3
          clear H hin hout hget
          dsimp only [bare]
          go_wp2
          exact ⟨_, rfl, shows0 hR rfl⟩
        · intro vs a w hR H hin hout hget
          refine one_guard 27 false 110 rfl (by kernel_rfl) ((hget 27 110 (by kernel_rfl)).trans (congrArg some (H 27 (by decide)))) ?_
          have e0 := (hget 30 113 (by kernel_rfl)).trans (congrArg some (H 30 (by decide)))
          have e1 := (hget 34 117 (by kernel_rfl)).trans (congrArg some (H 34 (by decide)))
          clear H hin hout hget
          dsimp only [bare]
          go_wp2
          exact ⟨_, rfl, shows0 hR rfl⟩
        · intro vs a w hR H hin hout hget
          refine one_free rfl ?_
          have e0 := (hget 27 110 (by kernel_rfl)).trans (congrArg some (H 27 (by decide)))
          have e1 := (hget 35 118 (by kernel_rfl)).trans (congrArg some (H 35 (by decide)))
          clear H hin hout hget
          dsimp only [bare]
          go_wp2
          exact ⟨_, rfl, shows0 hR rfl⟩
      · intro vs w10 hR H
        have e36 : vs 36 = (.bool false) := H 36 (by decide)
        simp only [putAll, Act.put, List.setIfInBounds_toArray, List.set_cons_succ, List.set_cons_zero, Nat.zero_add, Nat.reduceAdd, e36]
        clear H e36
        generalize vs 0 = z0
        generalize vs 1 = z1
        generalize vs 2 = z2
        generalize vs 3 = z3
        generalize vs 4 = z4
        generalize vs 5 = z5
        generalize vs 6 = z6
        generalize vs 7 = z7
        generalize vs 8 = z8
        generalize vs 9 = z9
        generalize vs 10 = z10
        generalize vs 11 = z11
        generalize vs 12 = z12
        generalize vs 13 = z13
        generalize vs 14 = z14
        generalize vs 15 = z15
        generalize vs 16 = z16
        generalize vs 17 = z17
        generalize vs 18 = z18
        generalize vs 19 = z19
        generalize vs 20 = z20
        generalize vs 21 = z21
        generalize vs 22 = z22
        generalize vs 23 = z23
        generalize vs 24 = z24
        generalize vs 25 = z25
        generalize vs 26 = z26
        generalize vs 27 = z27
        generalize vs 28 = z28
        generalize vs 29 = z29
        generalize vs 30 = z30
        generalize vs 31 = z31
        generalize vs 32 = z32
        generalize vs 33 = z33
        generalize vs 34 = z34
        generalize vs 35 = z35
        replace hB9 := hB9.trans (hR.mono hB9.size)
        clear hR
        go_wp2
        exact ⟨⟨k + 1, by omega, by go_num, hB9⟩, by simp [intOf]; omega⟩
    · obtain rfl : k = bs.length := by omega
      replace d6 := d6.laterB hB
      replace d7 := d7.laterB hB
      replace h1 := Lib.hid (h1.out.laterB (hB2.trans (hB.mono hB2.size)))
      replace hA := hA.later hB
      replace hB2 := hB2.trans (hB.mono hB2.size)
      have HS := hasSet_any (.slice A1 ss.length c1) ss 63 #[.pointer (some ⟨w.heap.size, 0, none⟩), .pointer (some ⟨w.heap.size + 1, 0, none⟩)] (fun s => s.testBit x != s.testBit y) (fun _ _ => by kernel_rfl) wr h1.out (by omega) (fun W' s hb => (tells_fn s x y _ _ hx hy W' (d6.laterB hb) (d7.laterB hb)).mono fun e w' ⟨h1, h2⟩ => ⟨h1, hb.trans (h2.mono hb.size)⟩)
      clear hB b8 h2 h3 h4
      have H58 := Lib.hid fun c w (hc : c < 256) (h : Alph w b ds) => class_any h hok.pos hc (by have := hok.le256; have := (hok.cls_spec hc).1; omega)
      have hend := hok.alike hx hy
      generalize ss.any (fun s => s.testBit x != s.testBit y) = p at HS hend
      go_wp2_with fail
      refine HS.mono ?_
      clear HS
      rintro e w9 ⟨rfl, hb0⟩
      replace hA := hA.later hb0
      replace d6 := d6.laterB hb0
      replace d7 := d7.laterB hb0
      replace hB2 := hB2.trans (hb0.mono hB2.size)
      have k6 := d6.cell 0
      have k7 := d7.cell 0
      replace hend := Lib.hid hend
      clear hb0 d6 d7
      go_wp2_with fail
      go_quiet ((go_at_call 58; exact Calls.quiet_of_same ((H58.out _ _ (by first | exact hx | exact hy) (hA.later (bdrewN (Below.refl _ _) _))).mono fun _ _ h => ⟨h.1, h.2.symm⟩)))
      go_wp2
      go_ret
      exact ⟨congrArg (fun q => Ending.returned (.bool q)) hend.out, bdrewN hB2 _⟩

theorem alphaWords_any (v1 v2 : Value) (ss bs : List Nat) (x y : Nat) (hss : ∀ s ∈ ss, s < 2 ^ 256) (hbs : ∀ c ∈ bs, c < 256) (hx : x < 256) (hy : y < 256) (w : World)
    (h1 : SlC w v1 4 ss.length (setCells ss)) (h2 : SlC w v2 1 bs.length (bs.map byteV)) :
    Calls Try.prog 13 #[v1, v2, .int .u8 x, .int .u8 y] w fun e w' => e = .returned (.bool true) ∧ Below w.heap.size w w' := by
  obtain ⟨A1, c1, rfl, h1, hc1, hA1⟩ := h1
  obtain ⟨A2, c2, rfl, h2, hc2, hA2⟩ := h2
  have k1 : (ss.take 6).length ≤ ss.length := by rw [List.length_take]; omega
  have k2 : (bs.take 100).length ≤ bs.length := by rw [List.length_take]; omega
  refine words_core A1 A2 c1 c2 _ _ (ss.take 6) (bs.take 100) x y (fun s hs => hss s (List.mem_of_mem_take hs)) (fun c hc => hbs c (List.mem_of_mem_take hc)) hx hy w
    (fun w' h => few_any A1 c1 ss w' (h1.laterB h) hc1) (fun w => ?_) ?_ ?_ (by rw [List.length_take]; omega) (by rw [List.length_take]; omega)
  · have := slice_to44 A2 bs.length c2 (bs.take 100).length k2 hc2 hA2 w
    rwa [show ((bs.take 100).length : Int) = min (bs.length : Int) 100 by rw [List.length_take]; omega] at this
  · refine sl_take h1 k1 ?_ c1 hA1
    rw [List.length_take, Nat.min_def]
    split
    · exact setCells_take ss 6
    · rw [List.take_of_length_le (by omega), List.take_of_length_le (by rw [setCells_len]; omega)]
  · refine sl_take h2 k2 ?_ c2 hA2
    rw [List.length_take, List.map_take, Nat.mul_one, Nat.min_def]
    split
    · rfl
    · rw [List.take_of_length_le (by simp; omega), List.take_of_length_le (by simp)]
end Go.Proofs.Ytojmkgllbhbeiaa
