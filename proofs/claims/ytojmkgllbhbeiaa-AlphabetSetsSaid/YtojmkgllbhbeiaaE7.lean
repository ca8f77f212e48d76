/-
  WALKS: AlphabetClasses.
-/
import Derived.Test.YtojmkgllbhbeiaaE6
import Derived.Test.YtojmkgllbhbeiaaE2b
namespace Go.Proofs.Ytojmkgllbhbeiaa
open Go.RowKit

def lastOf (ds : List Nat) : Nat → Int
  | 0 => -1
  | k + 1 => (least (ds.getD k 0) : Nat)
theorem PartsOk.last_lt {ss ds : List Nat} (h : PartsOk ss ds) {k : Nat} (hk : k < ds.length) : lastOf ds k < (least ds[k] : Nat) := by
  cases k with
  | zero => show (-1 : Int) < _; omega
  | succ k =>
    show ((least (ds.getD k 0) : Nat) : Int) < _
    rw [List.getD_eq_getElem?_getD, List.getElem?_eq_getElem (by omega : k < ds.length), Option.getD_some]
    have := List.pairwise_iff_getElem.1 h.order k (k + 1) (by omega) hk (by omega)
    omega
theorem orAll_cut {ss ds : List Nat} (h : PartsOk ss ds) (k : Nat) : orAll (ds.take k) < 2 ^ 256 := by
  refine Nat.lt_pow_two_of_testBit _ fun i hi => ?_
  rw [tb_orAll, List.any_eq_false]
  intro q hq
  have hm : q ∈ ds := List.mem_of_mem_take hq
  rw [high_bit (h.lt q hm).2 hi]; decide
theorem owns_off {w : World} {base : Nat} {e : TypeId} {k n : Nat} {v : Value} {xs : List Value} (h : w.ownsRow base e k v n xs) {q : Addr} (hq : q.block < base) (u : Value) : (w.setCell q u).ownsRow base e k v n xs := by
  obtain ⟨h1, h2⟩ := h
  refine ⟨h1, h2.imp id ?_⟩
  rintro ⟨g, cap, cur, rfl, hg, hh, rest⟩
  exact ⟨g, cap, cur, rfl, hg, (Below.heap_setCell w q u g (by omega)).trans hh, rest⟩
theorem owns_off4 {w : World} {base g : Nat} {e : TypeId} {k n : Nat} {v : Value} {xs : List Value} (h : w.ownsRow base e k v n xs) (hg : g < base) (x0 x1 x2 x3 : Value) :
    ((((w.setCell ⟨g, 0, none⟩ x0).setCell ⟨g, 1, none⟩ x1).setCell ⟨g, 2, none⟩ x2).setCell ⟨g, 3, none⟩ x3).ownsRow base e k v n xs :=
  owns_off (owns_off (owns_off (owns_off h (q := ⟨g, 0, none⟩) hg x0) (q := ⟨g, 1, none⟩) hg x1) (q := ⟨g, 2, none⟩) hg x2) (q := ⟨g, 3, none⟩) hg x3
theorem apart_anyB {ss : List Nat} {p t : Nat} (h : Apart ss p t) : (ss.any fun x => decide (Sx.less p x = 0) != decide (Sx.less t x = 0)) = true := by
  obtain ⟨s, hs, hne⟩ := h
  exact List.any_eq_true.2 ⟨s, hs, by simpa using hne⟩
theorem set_good {ss ds : List Nat} (hok : PartsOk ss ds) (b k : Nat) (hk : k < ds.length) (w : World) (hA : Alph w b ds) :
    Calls Try.prog 46 #[.pointer (some ⟨b, 0, none⟩), .int .i64 k] w fun e w' => e = .returned (.tuple #[setV ds[k], .bool true]) ∧ Below w.heap.size w w' := by
  have := set_any hA hok.pos k
  rw [isAt_nat hk, setAt_nat hk] at this
  exact this
theorem least_good {ss ds : List Nat} (hok : PartsOk ss ds) (b k : Nat) (hk : k < ds.length) (w : World) (hA : Alph w b ds) :
    Calls Try.prog 47 #[.pointer (some ⟨b, 0, none⟩), .int .i64 k] w fun e w' => e = .returned (.tuple #[.int .u8 (least ds[k] : Nat), .bool true]) ∧ Below w.heap.size w w' := by
  have := least_any hok b k w hA
  rw [isAt_nat hk, setAt_nat hk] at this
  exact this
theorem first_good {ss ds : List Nat} (hok : PartsOk ss ds) {p : Nat} (hp : p ∈ ds) (w : World) : Calls Try.prog 32 #[setV p] w fun e w' => e = .returned (.tuple #[.int .u8 (least p : Nat), .bool true]) ∧ Below w.heap.size w w' := by
  have := first_any p w
  obtain ⟨h0, h1⟩ := hok.lt p hp
  rw [(least_at h1 h0).1] at this
  exact this.mono fun _ _ ⟨h, hb⟩ => ⟨h, hb.below⟩

theorem set_past {ss ds : List Nat} (hok : PartsOk ss ds) (b : Nat) (w : World) (hA : Alph w b ds) :
    Calls Try.prog 46 #[.pointer (some ⟨b, 0, none⟩), .int .i64 ds.length] w fun e w' => e = .returned (.tuple #[setV 0, .bool false]) ∧ Below w.heap.size w w' := by
  have := set_any hA hok.pos ds.length
  rw [show isAt ds (ds.length : Int) = false by unfold isAt; rw [decide_eq_false (p := (ds.length : Int) < ds.length) (by omega), Bool.and_false], show setAt ds (ds.length : Int) = 0 by unfold setAt; rw [if_neg (by omega)]] at this
  exact this
theorem classes_fit {ss ds : List Nat} (hok : PartsOk ss ds) (b s : Nat) (w : World) (hA : Alph w b ds) (hf : fitsB ds s = true) :
    Calls Try.prog 55 #[.pointer (some ⟨b, 0, none⟩), setV s] w fun e w' => ∃ A cap, e = .returned (.tuple #[.slice A (insideZ ds s).length cap, .int .i64 0]) ∧ Sl w' (.slice A (insideZ ds s).length cap) 1 (insideZ ds s).length ((insideZ ds s).map intZ) ∧ Below w.heap.size w w' := by
  refine (classes_any hok b s w hA).mono ?_
  intro e w' hr
  unfold RetClasses at hr
  rw [if_pos hf] at hr
  obtain ⟨v, rfl, hfr, hB⟩ := hr
  have hs := sl_of_owns hfr.1
  rw [insideZ_cells, ← insideZ_len] at hs
  obtain ⟨A, cap, rfl, _⟩ := hs.opened
  exact ⟨A, cap, rfl, hs, hB⟩
theorem together_fit {ss ds : List Nat} (hok : PartsOk ss ds) (b s : Nat) (v : Value) (w : World) (hA : Alph w b ds) (hs : s < 2 ^ 256) (hf : fitsB ds s = true) (h : Sl w v 1 (insideZ ds s).length ((insideZ ds s).map intZ)) :
    Calls Try.prog 44 #[.pointer (some ⟨b, 0, none⟩), v] w fun e w' => e = .returned (.tuple #[setV s, .int .i64 0]) ∧ Below w.heap.size w w' := by
  refine (together_any hok b v _ w hA h (by rw [insideZ_len]; have := inside_len ds s ds.length; have := hok.le256; omega)).mono ?_
  rintro e w' ⟨hB, hr⟩
  rw [if_pos (insideZ_all ds s), hok.back hs hf] at hr
  exact ⟨hr, hB⟩
theorem sorted_fit {ds : List Nat} (s : Nat) (hl : ds.length ≤ 256) (v : Value) (w : World) (h : Sl w v 1 (insideZ ds s).length ((insideZ ds s).map intZ)) :
    Calls Try.prog 74 #[v] w fun e w' => e = .returned (.bool true) ∧ Below w.heap.size w w' := by
  refine (sortedInts_any v _ w h (by rw [insideZ_len]; have := inside_len ds s ds.length; omega)).mono ?_
  rintro e w' ⟨⟨r, rfl, hr⟩, hB⟩
  rw [hr.2 (insideZ_sorted ds s)]
  exact ⟨rfl, hB⟩

set_option maxRecDepth 100000 in
set_option maxHeartbeats 4000000 in
theorem classesLaw_core (A1 : Option Addr) (c1 n1 : Nat) (ss : List Nat) (hss : ∀ s ∈ ss, s < 2 ^ 256) (w : World)
    (HF : ∀ w', Below w.heap.size w w' → Calls Try.prog 40 #[.slice A1 n1 c1] w' fun e w'' => e = .returned (.slice A1 ss.length c1) ∧ w' = w'')
    (h1 : Sl w (.slice A1 ss.length c1) 4 ss.length (setCells ss)) (hn1 : ss.length ≤ 6) :
    Calls Try.prog 17 #[.slice A1 n1 c1] w fun e w' => e = .returned (.bool true) ∧ Below w.heap.size w w' := by
  obtain ⟨i24, hi, hz0, hz1, hz2⟩ := info_parts info24
  have HA := fun w => awakeA_any w
  replace HF := Lib.hid HF
  have HO := Lib.hid fun w' (h : Below w.heap.size w w') => of_alph (.slice A1 ss.length c1) ss hss w' (h1.laterB h) (by omega)
  replace h1 := Lib.hid h1
  replace hss := Lib.hid hss
  go_enter Try.func17, Try.ntmps17
  go_wp2_with fail
  refine (HA _).mono ?_
  rintro e w1 ⟨rfl, hB1⟩
  clear HA
  go_wp2_with fail
  refine (HF.out _ hB1).mono ?_
  rintro e w' ⟨rfl, rfl⟩
  clear HF
  go_wp2_with fail
  refine (HO.out _ hB1).mono ?_
  rintro e w2 ⟨b, ds, rfl, hok, hpos, _, hA, _, hb0⟩
  replace hB1 := bthen hB1 hb0
  replace h1 := Lib.hid (h1.out.laterB hB1)
  have hB2 := fun {w' : World} (h : Below w2.heap.size w2 w') => h
  clear hb0 HO
  have hle := hok.le64 hn1
  have HL := Lib.hid fun w' (h : Alph w' b ds) => len_any h hok.pos
  have hl1 : (1 : Int) ≤ ds.length := by omega
  have hl2 : (ds.length : Int) ≤ 64 := by omega
  go_wp2_with fail
  refine (HL.out _ hA).mono ?_
  rintro e w' ⟨rfl, rfl⟩
  go_wp2_with fail
  refine (HL.out _ hA).mono ?_
  rintro e w' ⟨rfl, rfl⟩
  go_wp2_with fail
  obtain ⟨W3, hW3, b4, hb0⟩ : ∃ W3, W3 = w2.alloc (.cells #[.int .u64 0, .int .u64 0, .int .u64 0, .int .u64 0] 24) ∧ Blk W3 w2.heap.size (setA 0) 24 ∧ Below w2.heap.size w2 W3 := ⟨_, rfl, by rw [setA_zero]; exact blkOf1 w2 _ _, below1 w2 _⟩
  rw [← hW3]
  clear hW3
  refine (HL.out _ (hA.later hb0)).mono ?_
  rintro e w' ⟨rfl, rfl⟩
  go_wp2_with fail
  go_loopw [44, 5, 6] (fun i v la wr => ∃ k : Nat, k ≤ ds.length ∧ i = .int .i64 k ∧ wr.ownsRow (w2.heap.size + 1) 24 4 v k (setCells (ds.take k)) ∧ la = .int .i64 (lastOf ds k) ∧ Blk wr w2.heap.size (setA (orAll (ds.take k))) 24 ∧ Below w2.heap.size w2 wr) (fun i _ _ _ => ds.length - (intOf i).toNat)
  case atStart => exact ⟨0, by omega, rfl, World.ownsRow_nil _ _ _ _, rfl, b4, hb0⟩
  case round =>
    obtain ⟨k, hk, rfl, hrow, rfl, hb4, hB⟩ := hrel
    obtain ⟨A5, c5, rfl, _⟩ := (sl_of_owns hrow).opened
    by_cases hlt : k < ds.length
    · have hAr := hA.later hB
      have hk0 : (0 : Int) ≤ (k : Int) := Int.natCast_nonneg _
      have hk1 : (k : Int) < (ds.length : Int) := by omega
      have HS := Lib.hid fun w' (h : Alph w' b ds) => set_good hok b k hlt w' h
      have HM := Lib.hid fun w' (h : Alph w' b ds) => least_good hok b k hlt w' h
      have HI := Lib.hid fun w' => first_good hok (List.getElem_mem hlt) w'
      have hlast := hok.last_lt hlt
      have hmt := meets_take hok.disj hlt
      have htk := Lib.hid (show ds.take (k + 1) = ds.take k ++ [ds[k]] from List.take_succ_eq_append_getElem hlt)
      have hor := Lib.hid (show orAll (ds.take (k + 1)) = Sx.or (orAll (ds.take k)) ds[k] by rw [List.take_succ_eq_append_getElem hlt, orAll_snoc])
      have hla2 := Lib.hid (show lastOf ds (k + 1) = (least ds[k] : Nat) by show ((least (ds.getD k 0) : Nat) : Int) = _; rw [List.getD_eq_getElem?_getD, List.getElem?_eq_getElem hlt, Option.getD_some])
      have hap := Lib.hid (fun j (hj : j < k) => hok.apart_of (List.getElem_mem hlt) (List.getElem_mem (show j < ds.length by omega)) (fun e => by
        have := List.pairwise_iff_getElem.1 hok.order j k (by omega) hlt hj
        rw [e] at this; omega))
      have hcl := hok.cls_least hlt
      have hlb := hok.least_lt hlt
      have hp2 := (hok.lt _ (List.getElem_mem hlt)).2
      have HC := Lib.hid fun w' (h : Alph w' b ds) => class_any h hok.pos hlb (by rw [hcl]; omega)
      rw [hcl] at HC
      generalize hpk : ds[k] = p at HS HM HI hlast hmt htk hor hla2 hap hcl hlb hp2 HC
      replace hpk := Lib.hid hpk
      generalize hlp : least p = lp at HM HI hlast hcl hlb hla2 HC
      replace hlp := Lib.hid hlp
      replace hcl := Lib.hid hcl
      unfold setV setA at HS HI
      go_wp2_with fail
      refine (HS.out _ hAr).mono ?_
      rintro e v1 ⟨rfl, hb0⟩
      replace hAr := hAr.later hb0
      replace hB := hB.trans (hb0.mono hB.size)
      replace hb4 := hb4.laterB hb0
      replace hrow := owns_later hrow hb0
      clear hb0 HS
      go_wp2_with fail
      obtain ⟨V2, hV2, b8, hb0⟩ : ∃ V2, V2 = v1.alloc (.cells #[.int .u64 (Sx.wd p 0), .int .u64 (Sx.wd p 1), .int .u64 (Sx.wd p 2), .int .u64 (Sx.wd p 3)] 24) ∧ Blk V2 v1.heap.size (setA (p)) 24 ∧ Below v1.heap.size v1 V2 := ⟨_, rfl, blkOf1 v1 _ _, below1 v1 _⟩
      have hb4lt := hb4.lt
      rw [← hV2]
      clear hV2
      replace hAr := hAr.later hb0
      replace hB := hB.trans (hb0.mono hB.size)
      replace hb4 := hb4.laterB hb0
      replace hrow := owns_later hrow hb0
      clear hb0
      have hg8 : v1.heap.size ≠ w2.heap.size := by have := hb4lt; omega
      generalize v1.heap.size = g8 at b8 hg8 ⊢
      refine (HM.out _ hAr).mono ?_
      rintro e v3 ⟨rfl, hb0⟩
      replace hAr := hAr.later hb0
      replace hB := hB.trans (hb0.mono hB.size)
      replace hb4 := hb4.laterB hb0
      replace hrow := owns_later hrow hb0
      replace b8 := b8.laterB hb0
      clear hb0 HM
      obtain ⟨a0, a1, a2, a3, _⟩ := (show Blk v3 _ #[_, _, _, _] 24 from b8).four
      go_wp2_with fail
      refine (HI.out _).mono ?_
      rintro e v4 ⟨rfl, hb0⟩
      replace hAr := hAr.later hb0
      replace hB := hB.trans (hb0.mono hB.size)
      replace hb4 := hb4.laterB hb0
      replace hrow := owns_later hrow hb0
      replace b8 := b8.laterB hb0
      clear hb0 HI a0 a1 a2 a3
      obtain ⟨a0, a1, a2, a3, _⟩ := (show Blk v4 _ #[_, _, _, _] 24 from b8).four
      obtain ⟨d0, d1, d2, d3, e0, e1, e2, e3⟩ := (show Blk v4 _ #[_, _, _, _] 24 from hb4).four
      have HE := fun w => meets_any (orAll (ds.take k)) p (orAll_cut hok k) w
      rw [decide_eq_true hmt] at HE
      have HOR := Lib.hid fun w => or_any (orAll (ds.take k)) p w
      unfold setV setA at HE HOR
      have hnl : ¬ ((lp : Int) ≤ lastOf ds k) := by omega
      go_wp2_with fail
      refine (HE _).mono ?_
      rintro e v5 ⟨rfl, hb0'⟩
      have hb0 := hb0'.below
      replace hAr := hAr.later hb0
      replace hB := hB.trans (hb0.mono hB.size)
      replace hb4 := hb4.laterB hb0
      replace hrow := owns_later hrow hb0
      replace b8 := b8.laterB hb0
      clear hb0 hb0' HE a0 a1 a2 a3 d0 d1 d2 d3 e0 e1 e2 e3
      go_wp2_with fail
      refine (HC.out _ hAr).mono ?_
      rintro e w' ⟨rfl, rfl⟩
      clear HC
      obtain ⟨a0, a1, a2, a3, _⟩ := (show Blk v5 _ #[_, _, _, _] 24 from b8).four
      obtain ⟨d0, d1, d2, d3, e0, e1, e2, e3⟩ := (show Blk v5 _ #[_, _, _, _] 24 from hb4).four
      go_wp2_with fail
      refine (HOR.out _).mono ?_
      rintro e v6 ⟨rfl, hb0'⟩
      have hb0 := hb0'.below
      replace hAr := hAr.later hb0
      replace hB := hB.trans (hb0.mono hB.size)
      replace hb4 := hb4.laterB hb0
      replace hrow := owns_later hrow hb0
      replace b8 := b8.laterB hb0
      clear hb0 hb0' HOR a0 a1 a2 a3 d0 d1 d2 d3 e0 e1 e2 e3
      obtain ⟨d0, d1, d2, d3, e0, e1, e2, e3⟩ := (show Blk v6 _ #[_, _, _, _] 24 from hb4).four
      obtain ⟨V6, hV6, hb4', b8', hrow', hB'⟩ : ∃ V6, V6 = (((v6.setCell ⟨w2.heap.size, 0, none⟩ (.int .u64 (Sx.wd (Sx.or (orAll (ds.take k)) p) 0))).setCell ⟨w2.heap.size, 1, none⟩ (.int .u64 (Sx.wd (Sx.or (orAll (ds.take k)) p) 1))).setCell ⟨w2.heap.size, 2, none⟩ (.int .u64 (Sx.wd (Sx.or (orAll (ds.take k)) p) 2))).setCell ⟨w2.heap.size, 3, none⟩ (.int .u64 (Sx.wd (Sx.or (orAll (ds.take k)) p) 3)) ∧ Blk V6 w2.heap.size (setA (Sx.or (orAll (ds.take k)) p)) 24 ∧ Blk V6 g8 (setA p) 24 ∧ V6.ownsRow (w2.heap.size + 1) 24 4 (.slice A5 k c5) k (setCells (ds.take k)) ∧ Below w2.heap.size w2 V6 :=
        ⟨_, rfl, hb4.setFour _ _ _ _, b8.otherFour hg8 _ _ _ _, owns_off4 hrow (Nat.lt_succ_self _) _ _ _ _, bfour hB (Nat.le_refl _) _ _ _ _⟩
      go_wp2_with fail
      rw [← hV6]
      clear hV6 d0 d1 d2 d3 e0 e1 e2 e3 hb4 b8 hrow hB hAr
      have hAr := hA.later hB'
      have hx1 := Lib.hid (h1.out.laterB (hB2 hB'))
      have hs5 := Lib.hid (sl_of_owns hrow')
      have htkl := Lib.hid (show (ds.take k).length = k by rw [List.length_take]; omega)
      go_loopw [104] (fun i wr => ∃ j : Nat, j ≤ k ∧ i = .int .i64 j ∧ Below V6.heap.size V6 wr) (fun i _ => k - (intOf i).toNat)
      case atStart => exact ⟨0, by omega, rfl, Below.refl _ _⟩
      case round =>
        obtain ⟨j, hj, rfl, hR⟩ := hrel
        by_cases hjk : j < k
        · obtain ⟨q5, o5, rfl, l5, r5⟩ := hs5.out.at hjk
          obtain ⟨d0, d1, d2, d3⟩ := four_in (l := ds.take k) (by rw [htkl.out]; exact r5) l5 hR (by rw [htkl.out]; exact hjk)
          have htj : (ds.take k)[j]'(by rw [htkl.out]; exact hjk) = ds[j] := List.getElem_take
          rw [htj] at d0 d1 d2 d3
          have haj := hap.out j hjk
          have htb := (hok.lt _ (List.getElem_mem (show j < ds.length by omega))).2
          generalize ds[j] = t at d0 d1 d2 d3 haj htb
          have hj0 : (0 : Int) ≤ (j : Int) := Int.natCast_nonneg _
          have hj1 : (j : Int) < (k : Int) := by omega
          have hx2 := Lib.hid (hx1.out.laterB hR)
          have b8x := b8'.laterB hR
          clear hx1 r5 htj hs5
          go_wp2_with fail
          obtain ⟨V9, hV9, b15, hb0⟩ : ∃ V9, V9 = wr.alloc (.cells #[.int .u64 (Sx.wd t 0), .int .u64 (Sx.wd t 1), .int .u64 (Sx.wd t 2), .int .u64 (Sx.wd t 3)] 24) ∧ Blk V9 wr.heap.size (setA t) 24 ∧ Below wr.heap.size wr V9 := ⟨_, rfl, blkOf1 wr _ _, below1 wr _⟩
          rw [← hV9]
          clear hV9 d0 d1 d2 d3
          have HH := hasSet_any (.slice A1 ss.length c1) ss 73 #[.pointer (some ⟨g8, 0, none⟩), .pointer (some ⟨wr.heap.size, 0, none⟩)] (fun x => decide (Sx.less p x = 0) != decide (Sx.less t x = 0)) (fun _ _ => by kernel_rfl) V9 (hx2.out.laterB hb0) (by omega) (fun W' s hb => (apart_fn s p t _ _ hp2 htb W' ((b8x.laterB hb0).laterB hb) (b15.laterB hb)).mono fun e w' ⟨h1, h2⟩ => ⟨h1, hb.trans (h2.mono hb.size)⟩)
          rw [apart_anyB haj] at HH
          refine HH.mono ?_
          clear HH
          rintro e v9 ⟨rfl, hb1⟩
          replace hR := hR.trans ((hb0.trans (hb1.mono hb0.size)).mono hR.size)
          clear hb0 hb1 b15 b8x hx2
          go_wp2
          exact ⟨⟨j + 1, by omega, by go_num, hR⟩, by simp [intOf]; omega⟩
        · obtain rfl : j = k := by omega
          obtain ⟨a0, a1, a2, a3, _⟩ := (show Blk wr _ #[_, _, _, _] 24 from b8'.laterB hR).four
          have hrow2 := owns_later hrow' hR
          have hb4x := hb4'.laterB hR
          have hBx := hB'.trans (hR.mono hB'.size)
          have hlx := hb4x.lt
          have hBy := (below1 wr (.cells #[.int .u64 (Sx.wd p 0), .int .u64 (Sx.wd p 1), .int .u64 (Sx.wd p 2), .int .u64 (Sx.wd p 3)] 24))
          clear hx1 hs5 hap hrow' hb4' b8' hB' hR
          replace hBx := Lib.hid hBx
          replace hb4x := Lib.hid hb4x
          go_wp2_with (at_builtin; go_must (refine wpList_append_sl rfl _ _ 37 rfl (w2.heap.size + 1) 24 i24 (.agg #[.int .u64 0, .int .u64 0, .int .u64 0, .int .u64 0]) 4 32 Try.underlying37 hi hz0 hz1 hz2 rfl (by decide) (.slice A5 j c5) j (setCells (ds.take j)) rfl (hrow2.alloc _) _ 1 (setCells [p]) rfl ((slN_new wr #[.int .u64 (Sx.wd p 0), .int .u64 (Sx.wd p 1), .int .u64 (Sx.wd p 2), .int .u64 (Sx.wd p 3)] 24 4 1 (setCells [p]) rfl).sl rfl) (setCells_one [p]) (by unfold maxLen; omega) (by omega) (by simp; omega) ?_); intro v1 w1 hown1 hgb hn1)
          have hgc : Below (w2.heap.size + 1) wr w1 := (hBy.mono (by omega)).trans hgb
          go_roundw
          case rel => exact ⟨j + 1, by omega, by go_num, by rw [htk.out, setCells_append]; exact hown1, by rw [hla2.out], by rw [hor.out]; exact hb4x.out.below hgc (Nat.lt_succ_self _), hBx.out.trans (hgc.mono (Nat.le_succ _))⟩
          case measure => simp [intOf]; omega
    · obtain rfl : k = ds.length := by omega
      rw [List.take_length, hok.all] at hb4
      clear hrow
      have hAr := hA.later hB
      replace h1 := Lib.hid (h1.out.laterB hB)
      have HSB := Lib.hid fun w' (h : Alph w' b ds) => set_past hok b w' h
      have HQ0 : ∀ w, (binOp .neq 24 (setV Sx.full) (setV Sx.full)).run Try.prog w = .ok (.bool false) w := fun w => by
        have := neqSet Sx.full_lt Sx.full_lt w
        rwa [decide_eq_true rfl] at this
      go_wp2_with fail
      refine (HL.out _ hAr).mono ?_
      rintro e w' ⟨rfl, rfl⟩
      go_wp2_with fail
      have HT := HSB.out _ hAr
      rw [setV_zero] at HT
      refine HT.mono ?_
      clear HT HSB
      rintro e y1 ⟨rfl, hb0⟩
      replace hAr := hAr.later hb0
      replace h1 := Lib.hid (h1.out.laterB hb0)
      replace hB := hB.trans (hb0.mono hB.size)
      replace hb4 := hb4.laterB hb0
      clear hb0
      go_wp2_with fail
      obtain ⟨Y2, hY2, hb0⟩ : ∃ Y2, Y2 = y1.alloc (.cells #[.int .u64 0, .int .u64 0, .int .u64 0, .int .u64 0] 24) ∧ Below y1.heap.size y1 Y2 := ⟨_, rfl, below1 y1 _⟩
      rw [← hY2]
      replace hAr := hAr.later hb0
      replace h1 := Lib.hid (h1.out.laterB hb0)
      replace hB := hB.trans (hb0.mono hB.size)
      replace hb4 := hb4.laterB hb0
      clear hb0 hY2
      generalize y1.heap.size = g16
      refine wp_region_facts 170 [.eq (.bool false), .eq (.bool false), .eq (setV Sx.full), .eq (setV Sx.full), .eq (.bool false), .eq (.bool false)] mixed rfl (by kernel_rfl) ?_ ?_
      · refine ⟨?_, ?_, ?_, ?_, ?_, ?_, trivial⟩
        · intro vs a w hR H hin hout hget
          refine one_free rfl ?_
          have e0 := hout 17 (by kernel_rfl)
          clear H hin hout hget
          dsimp only [bare]
          go_wp2
          exact ⟨_, rfl, shows0 hR rfl⟩
        · intro vs a w hR H hin hout hget
          refine one_free rfl ?_
          have e0 := (hget 0 125 (by kernel_rfl)).trans (congrArg some (H 0 (by decide)))
          clear H hin hout hget
          dsimp only [bare]
          go_wp2
          exact ⟨_, rfl, shows0 hR rfl⟩
        · intro vs a w hR H hin hout hget
          refine one_guard 1 false 126 rfl (by kernel_rfl) ((hget 1 126 (by kernel_rfl)).trans (congrArg some (H 1 (by decide)))) ?_
          have e0 := hout 4 (by kernel_rfl)
          obtain ⟨c0, c1, c2, c3, _⟩ := (show Blk w _ #[_, _, _, _] 24 from hb4.laterB hR).four
          clear H hin hout hget
          dsimp only [bare]
          go_wp2
          exact ⟨_, rfl, shows0 hR rfl⟩
        · intro vs a w hR H hin hout hget
          refine one_guard 1 false 126 rfl (by kernel_rfl) ((hget 1 126 (by kernel_rfl)).trans (congrArg some (H 1 (by decide)))) ?_
          clear H hin hout hget
          dsimp only [bare]
          go_wp2_with fail
          refine (all_any w).mono ?_
          rintro e w1 ⟨rfl, hb⟩
          go_wp2
          exact ⟨_, rfl, shows hR hb.below rfl⟩
        · intro vs a w hR H hin hout hget
          refine one_guard 1 false 126 rfl (by kernel_rfl) ((hget 1 126 (by kernel_rfl)).trans (congrArg some (H 1 (by decide)))) ?_
          have e0 := (hget 2 127 (by kernel_rfl)).trans (congrArg some (H 2 (by decide)))
          have e1 := (hget 3 128 (by kernel_rfl)).trans (congrArg some (H 3 (by decide)))
          have hq := HQ0
          have hg := guardSetV
          clear H hin hout hget
          dsimp only [bare]
          go_wp2
          exact ⟨_, rfl, shows0 hR rfl⟩
        · intro vs a w hR H hin hout hget
          refine one_free rfl ?_
          have e0 := (hget 1 126 (by kernel_rfl)).trans (congrArg some (H 1 (by decide)))
          have e1 := (hget 4 129 (by kernel_rfl)).trans (congrArg some (H 4 (by decide)))
          clear H hin hout hget
          dsimp only [bare]
          go_wp2
          exact ⟨_, rfl, shows0 hR rfl⟩
      · intro vs y4 hR H
        have e5 : vs 5 = (.bool false) := H 5 (by decide)
        simp only [putAll, Act.put, List.setIfInBounds_toArray, List.set_cons_succ, List.set_cons_zero, Nat.zero_add, Nat.reduceAdd, e5]
        clear H e5
        generalize vs 0 = z0
        generalize vs 1 = z1
        generalize vs 2 = z2
        generalize vs 3 = z3
        generalize vs 4 = z4
        replace hAr := hAr.later hR
        replace h1 := Lib.hid (h1.out.laterB hR)
        replace hB := hB.trans (hR.mono hB.size)
        clear hR hb4 HQ0
        replace hB1 := bthen hB1 hB
        clear hB
        go_wp2_with fail
        go_loopw [133] (fun i wr => ∃ k : Nat, k ≤ ss.length ∧ i = .int .i64 k ∧ Below y4.heap.size y4 wr) (fun i _ => ss.length - (intOf i).toNat)
        case atStart => exact ⟨0, by omega, rfl, Below.refl _ _⟩
        case round =>
          obtain ⟨q, hq, rfl, hR⟩ := hrel
          by_cases hqk : q < ss.length
          · obtain ⟨q1, o1, rfl, l1, r1⟩ := h1.out.at hqk
            obtain ⟨d0, d1, d2, d3⟩ := four_in r1 l1 hR hqk
            have hs2 := hss.out _ (List.getElem_mem hqk)
            have hfit := hok.fits (List.getElem_mem hqk)
            generalize ss[q] = s at d0 d1 d2 d3 hs2 hfit
            have hAx := hAr.later hR
            have hq0 : (0 : Int) ≤ (q : Int) := Int.natCast_nonneg _
            have hq1 : (q : Int) < (ss.length : Int) := by omega
            clear r1 h1
            go_wp2_with fail
            obtain ⟨Y5, hY5, b19, hb0⟩ : ∃ Y5, Y5 = wr.alloc (.cells #[.int .u64 (Sx.wd s 0), .int .u64 (Sx.wd s 1), .int .u64 (Sx.wd s 2), .int .u64 (Sx.wd s 3)] 24) ∧ Blk Y5 wr.heap.size (setA s) 24 ∧ Below wr.heap.size wr Y5 := ⟨_, rfl, blkOf1 wr _ _, below1 wr _⟩
            rw [← hY5]
            replace hAx := hAx.later hb0
            replace hR := hR.trans (hb0.mono hR.size)
            clear hY5 hb0 d0 d1 d2 d3
            generalize wr.heap.size = g19 at b19 ⊢
            have HT := classes_fit hok b s Y5 hAx hfit
            unfold setV setA at HT
            refine HT.mono ?_
            clear HT
            rintro e y6 ⟨A6, c6, rfl, h6, hb0⟩
            replace h6 := Lib.hid h6
            replace hAx := hAx.later hb0
            replace hR := hR.trans (hb0.mono hR.size)
            replace b19 := b19.laterB hb0
            clear hb0
            go_wp2_with fail
            have HT := together_fit hok b s (.slice A6 (insideZ ds s).length c6) y6 hAx hs2 hfit h6.out
            unfold setV setA at HT
            refine HT.mono ?_
            clear HT
            rintro e y7 ⟨rfl, hb0⟩
            replace h6 := Lib.hid (h6.out.laterB hb0)
            replace hAx := hAx.later hb0
            replace hR := hR.trans (hb0.mono hR.size)
            replace b19 := b19.laterB hb0
            clear hb0
            have hb0 := below1 y7 (.cells #[.int .u64 (Sx.wd s 0), .int .u64 (Sx.wd s 1), .int .u64 (Sx.wd s 2), .int .u64 (Sx.wd s 3)] 24)
            obtain ⟨a0, a1, a2, a3, _⟩ := (show Blk (y7.alloc (.cells #[.int .u64 (Sx.wd s 0), .int .u64 (Sx.wd s 1), .int .u64 (Sx.wd s 2), .int .u64 (Sx.wd s 3)] 24)) _ #[_, _, _, _] 24 from b19.laterB hb0).four
            replace h6 := Lib.hid (h6.out.laterB hb0)
            replace hAx := hAx.later hb0
            replace hR := hR.trans (hb0.mono hR.size)
            clear hb0
            have HQ : ∀ w, (binOp .neq 24 (setV s) (setV s)).run Try.prog w = .ok (.bool false) w := fun w => by
              have := neqSet hs2 hs2 w
              rwa [decide_eq_true rfl] at this
            have HFI := fun w (h : Alph w b ds) => fits_any hok b s w h
            rw [hfit] at HFI
            unfold setV setA at HQ HFI
            have hg := guardSet
            replace HFI := Lib.hid HFI
            go_wp2_with fail
            refine (HFI.out _ hAx).mono ?_
            clear HFI
            rintro e y8 ⟨rfl, hb0⟩
            replace h6 := Lib.hid (h6.out.laterB hb0)
            replace hR := hR.trans (hb0.mono hR.size)
            clear hb0 a0 a1 a2 a3 HQ hg hAx b19
            go_wp2_with fail
            refine (sorted_fit s (by omega) (.slice A6 (insideZ ds s).length c6) y8 h6.out).mono ?_
            rintro e y9 ⟨rfl, hb0⟩
            replace hR := hR.trans (hb0.mono hR.size)
            clear hb0 h6
            go_wp2
            exact ⟨⟨q + 1, by omega, by go_num, hR⟩, by simp [intOf]; omega⟩
          · obtain rfl : q = ss.length := by omega
            replace hB1 := bthen hB1 hR
            go_wp2
            go_ret
            exact ⟨rfl, hB1⟩

theorem classesLaw_any (v1 : Value) (ss : List Nat) (hss : ∀ s ∈ ss, s < 2 ^ 256) (w : World) (h1 : SlC w v1 4 ss.length (setCells ss)) :
    Calls Try.prog 17 #[v1] w fun e w' => e = .returned (.bool true) ∧ Below w.heap.size w w' := by
  obtain ⟨A1, c1, rfl, h1, hc1, hA1⟩ := h1
  obtain ⟨f1, g1, k1⟩ := few_c h1 hc1 hA1
  exact classesLaw_core A1 c1 _ (ss.take 6) (fun s hs => hss s (List.mem_of_mem_take hs)) w k1 f1 g1
end Go.Proofs.Ytojmkgllbhbeiaa
