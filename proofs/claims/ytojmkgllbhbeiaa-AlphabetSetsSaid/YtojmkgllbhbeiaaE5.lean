/-
  WALKS: AlphabetWrong.
-/
import Derived.Test.YtojmkgllbhbeiaaE3
import Derived.Test.YtojmkgllbhbeiaaE4
import Derived.Test.YtojmkgllbhbeiaaTn
import Derived.Test.YtojmkgllbhbeiaaE1
namespace Go.Proofs.Ytojmkgllbhbeiaa
open Go.RowKit

/-- Classes out of bytes. -/
def goods (L : Nat) (bs : List Nat) : List Int := bs.map fun c : Nat => (c : Int) % (L : Int)
theorem goods_len (L : Nat) (bs : List Nat) : (goods L bs).length = bs.length := by unfold goods; simp
theorem goods_all {ds : List Nat} (h : 0 < ds.length) (bs : List Nat) : (goods ds.length bs).all (isAt ds) = true := by
  unfold goods
  rw [List.all_eq_true]
  intro x hx
  obtain ⟨c, _, rfl⟩ := List.mem_map.1 hx
  rw [show (c : Int) % (ds.length : Int) = ((c % ds.length : Nat) : Int) from (Int.natCast_emod _ _).symm]
  exact isAt_nat (Nat.mod_lt _ h)
theorem goods_snoc (L : Nat) {bs : List Nat} {k : Nat} (h : k < bs.length) : goods L (bs.take (k + 1)) = goods L (bs.take k) ++ [(bs[k] : Int) % (L : Int)] := by
  unfold goods; rw [List.take_succ_eq_append_getElem h, List.map_append]; rfl

theorem zz24 (w : World) : (binOp .neq 24 (.agg #[.int .u64 0, .int .u64 0, .int .u64 0, .int .u64 0]) (.agg #[.int .u64 0, .int .u64 0, .int .u64 0, .int .u64 0])).run Try.prog w = .ok (.bool false) w := by kernel_rfl
theorem bytes_good {ss ds : List Nat} (hok : PartsOk ss ds) (b : Nat) (v : Value) (l : List Int) (w : World) (hA : Alph w b ds) (h : Sl w v 1 l.length (l.map intZ)) (hlen : l.length ≤ 1000000) (hall : l.all (isAt ds) = true) :
    Calls Try.prog 45 #[.pointer (some ⟨b, 0, none⟩), v] w fun e w' => ∃ A cap, e = .returned (.tuple #[.slice A l.length cap, .int .i64 0]) ∧ Sl w' (.slice A l.length cap) 1 l.length ((leasts ds l).map byteV) ∧ Below w.heap.size w w' := by
  refine (bytesA_any hok b v l w hA h (by omega)).mono ?_
  intro e w' hr
  unfold RetLeasts at hr
  rw [if_pos hall] at hr
  obtain ⟨v', rfl, hf, hB⟩ := hr
  have hs := sl_of_owns hf.1
  have hl : (leasts ds l).length = l.length := by unfold leasts; simp
  rw [hl] at hs
  obtain ⟨A, cap, rfl, _⟩ := hs.opened
  exact ⟨A, cap, rfl, hs, hB⟩
theorem leasts_lt {ss ds : List Nat} (hok : PartsOk ss ds) (l : List Int) : ∀ c ∈ leasts ds l, c < 256 := by
  unfold leasts
  intro c hc
  obtain ⟨k, _, rfl⟩ := List.mem_map.1 hc
  unfold setAt
  by_cases h : 0 ≤ k ∧ k < ds.length
  · rw [if_pos h, List.getD_eq_getElem?_getD, List.getElem?_eq_getElem (by omega : k.toNat < ds.length)]
    exact hok.least_lt _
  · rw [if_neg h, show least 0 = 0 by unfold least; rw [elems_zero]; rfl]; decide
theorem bad_all {ds : List Nat} {qs : List Int} {i : Nat} {k : Int} (h : isAt ds k = false) : (insAt qs i k).all (isAt ds) = false := by
  unfold insAt; simp [h]
theorem together_bad {ss ds : List Nat} (hok : PartsOk ss ds) (b : Nat) (v : Value) (l : List Int) (w : World) (hA : Alph w b ds) (h : Sl w v 1 l.length (l.map intZ)) (hlen : l.length ≤ 140737488355328) (hbad : l.all (isAt ds) = false) :
    Calls Try.prog 44 #[.pointer (some ⟨b, 0, none⟩), v] w fun e w' => e = .returned (.tuple #[setV 0, .int .i64 2]) ∧ Below w.heap.size w w' := by
  refine (together_any hok b v l w hA h hlen).mono ?_
  rintro e w' ⟨hB, hr⟩
  rw [if_neg (by rw [hbad]; decide)] at hr
  exact ⟨hr, hB⟩
theorem bytes_bad {ss ds : List Nat} (hok : PartsOk ss ds) (b : Nat) (v : Value) (l : List Int) (w : World) (hA : Alph w b ds) (h : Sl w v 1 l.length (l.map intZ)) (hlen : l.length ≤ 140737488355328) (hbad : l.all (isAt ds) = false) :
    Calls Try.prog 45 #[.pointer (some ⟨b, 0, none⟩), v] w fun e w' => e = .returned (.tuple #[.slice none 0 0, .int .i64 2]) ∧ Below w.heap.size w w' := by
  refine (bytesA_any hok b v l w hA h hlen).mono ?_
  intro e w' hr
  unfold RetLeasts at hr
  rw [if_neg (by rw [hbad]; decide)] at hr
  exact hr
theorem set_bad {ss ds : List Nat} (hok : PartsOk ss ds) (b : Nat) (k : Int) (w : World) (hA : Alph w b ds) (h1 : isAt ds k = false) (h2 : setAt ds k = 0) :
    Calls Try.prog 46 #[.pointer (some ⟨b, 0, none⟩), .int .i64 k] w fun e w' => e = .returned (.tuple #[setV 0, .bool false]) ∧ Below w.heap.size w w' := by
  have := set_any hA hok.pos k
  rw [h1, h2] at this
  exact this
theorem least_bad {ss ds : List Nat} (hok : PartsOk ss ds) (b : Nat) (k : Int) (w : World) (hA : Alph w b ds) (h1 : isAt ds k = false) (h2 : setAt ds k = 0) :
    Calls Try.prog 47 #[.pointer (some ⟨b, 0, none⟩), .int .i64 k] w fun e w' => e = .returned (.tuple #[.int .u8 0, .bool false]) ∧ Below w.heap.size w w' := by
  have := least_any hok b k w hA
  rw [h1, h2, show least 0 = 0 by unfold least; rw [elems_zero]; rfl] at this
  exact this

set_option maxRecDepth 100000 in
set_option maxHeartbeats 4000000 in
theorem wrong_core (A1 A2 : Option Addr) (c1 c2 n1 n2 : Nat) (ss bs : List Nat) (p : Nat) (n : Int) (hss : ∀ s ∈ ss, s < 2 ^ 256) (hbs : ∀ c ∈ bs, c < 256) (hp : p < 256) (hn : -9223372036854775808 ≤ n ∧ n ≤ 9223372036854775807) (w : World)
    (HF : ∀ w', Below w.heap.size w w' → Calls Try.prog 40 #[.slice A1 n1 c1] w' fun e w'' => e = .returned (.slice A1 ss.length c1) ∧ w' = w'')
    (hsl : ∀ w, (Instr.slice 44 (.slice A2 n2 c2) none (some (.int .i64 (min (n2 : Int) 50))) none).run Try.prog w = .ok (.slice A2 bs.length c2) w)
    (h1 : Sl w (.slice A1 ss.length c1) 4 ss.length (setCells ss)) (h2 : Sl w (.slice A2 bs.length c2) 1 bs.length (bs.map byteV)) (hn1 : ss.length ≤ 6) (hn2 : bs.length ≤ 50) :
    Calls Try.prog 9 #[.slice A1 n1 c1, .slice A2 n2 c2, .int .u8 p, .int .i64 n] w fun e w' => e = .returned (.bool true) ∧ Below w.heap.size w w' := by
  obtain ⟨i0, hi, hz0, hz1, hz2⟩ := info_parts info3'
  have HA := fun w => awakeA_any w
  replace HF := Lib.hid HF
  have HO := Lib.hid fun w' (h : Below w.heap.size w w') => of_alph (.slice A1 ss.length c1) ss hss w' (h1.laterB h) (by omega)
  replace h1 := Lib.hid h1
  replace h2 := Lib.hid h2
  go_enter Try.func9, Try.ntmps9
  go_wp2_with fail
  refine (HA _).mono ?_
  rintro e w1 ⟨rfl, hB1⟩
  clear HA
  go_wp2_with fail
  refine (HF.out _ hB1).mono ?_
  rintro e w' ⟨rfl, rfl⟩
  clear HF
  go_wp2_with fail
  refine (HO.out _ hB1).mono ?_
  rintro e w2 ⟨b, ds, rfl, hok, hpos, hle, hA, _, hb0⟩
  replace hB1 := bthen hB1 hb0
  replace h2 := Lib.hid (h2.out.laterB hB1)
  clear hb0 HO
  have HL := Lib.hid fun w' (h : Below w2.heap.size w2 w') => len_any (hA.later h) hok.pos
  generalize hL : ds.length = L at hpos hle HL
  replace hL := Lib.hid hL
  go_wp2_with fail
  refine (HL.out _ (Below.refl _ _)).mono ?_
  rintro e w' ⟨rfl, rfl⟩
  go_wp2_with fail
  go_loopw [44, 10] (fun i v wr => ∃ k : Nat, k ≤ bs.length ∧ i = .int .i64 k ∧ wr.ownsRow w2.heap.size 3 1 v (goods L (bs.take k)).length ((goods L (bs.take k)).map intZ) ∧ Below w2.heap.size w2 wr) (fun i _ _ => bs.length - (intOf i).toNat)
  case atStart => exact ⟨0, by omega, rfl, World.ownsRow_nil _ _ _ _, Below.refl _ _⟩
  case round =>
    obtain ⟨k, hk, rfl, hrow, hB⟩ := hrel
    by_cases hlt : k < bs.length
    · obtain ⟨q2, o2, rfl, l2, r2⟩ := h2.out.at hlt
      replace r2 := (hB.cell (p := ⟨q2, o2 + k, none⟩) l2).trans (r2 k (by omega))
      rw [List.getElem?_map, List.getElem?_eq_getElem hlt] at r2
      replace r2 : wr.cell? ⟨q2, o2 + k, none⟩ = some (.int .u8 (bs[k] : Nat)) := r2
      have hc := hbs _ (List.getElem_mem hlt)
      have hgs := Lib.hid (goods_snoc L hlt)
      have hgl : (goods L (bs.take k)).length = k := by rw [goods_len, List.length_take]; omega
      generalize bs[k] = c at r2 hc hgs
      generalize goods L (bs.take k) = qs at hrow hgs hgl
      subst hgl
      have hk0 : (0 : Int) ≤ (qs.length : Int) := Int.natCast_nonneg _
      have hk1 : (qs.length : Int) < (bs.length : Int) := by omega
      have hsz := hB.size
      have hL0 : (L : Int) ≠ 0 := by omega
      have hL1 : (0 : Int) < L := by omega
      have hL2 : (L : Int) ≤ 256 := by omega
      clear h2
      go_wp2_with fail
      refine (HL.out _ hB).mono ?_
      rintro e w' ⟨rfl, rfl⟩
      clear HL
      go_wp2_with (at_builtin; go_must (refine wpList_append_own _ rfl _ _ 55 rfl w2.heap.size 3 i0 (.int .i64 0) 1 8 Try.underlying55 hi hz0 hz1 hz2 rfl (by decide) _ _ _ rfl (hrow.alloc _) ⟨wr.heap.size, 0, none⟩ 1 1 [intZ ((c : Int) % (L : Int))] rfl rfl (cell_news _ _ _ _ rfl) (by simp [Value.oneCell', intZ]) (by unfold maxLen; omega) (by omega) (by simp; omega) ?_); intro v1 w5 hown1 hgrow1 hn1)
      have hb1' := grown_one' hrow hgrow1 (by omega)
      go_roundw
      case rel => exact ⟨qs.length + 1, by omega, by go_num, by rw [hgs.out]; simpa using hown1, hB.trans hb1'⟩
      case measure => simp [intOf]; omega
    · obtain rfl : k = bs.length := by omega
      rw [List.take_length] at hrow
      have hgl := goods_len L bs
      obtain ⟨A3, c3, rfl, _⟩ := (sl_of_owns hrow).opened
      replace hA := hA.later hB
      replace hB1 := bthen hB1 hB
      have hall := goods_all (hL.out ▸ hpos) bs
      rw [hL.out] at hall
      generalize goods L bs = qs at hrow hgl hall
      clear h2
      have hL1 : (1 : Int) ≤ L := by omega
      go_wp2_with fail
      refine (HL.out _ hB).mono ?_
      rintro e w' ⟨rfl, rfl⟩
      clear HL
      -- LOOP 2
      go_wp2_with fail
      generalize bs.length = m at hgl hn2 ⊢
      subst hgl
      obtain ⟨W, hW, k9, hb0⟩ : ∃ W, W = wr.alloc (.cells #[.int .i64 (min n (-1)), .int .i64 (max n (L : Int))] 3) ∧ Blk W wr.heap.size #[.int .i64 (min n (-1)), .int .i64 (max n (L : Int))] 3 ∧ Below wr.heap.size wr W := ⟨_, rfl, blkOf1 wr _ _, below1 wr _⟩
      rw [← hW]
      clear hW
      replace hrow := owns_later hrow hb0
      replace hA := hA.later hb0
      replace hB1 := bthen hB1 hb0
      have hcell : Hid (∀ i, i < 2 → ∃ kk : Int, isAt ds kk = false ∧ setAt ds kk = 0 ∧ W.cell? ⟨wr.heap.size, i, none⟩ = some (.int .i64 kk)) := fun i hi => by
        rcases (by omega : i = 0 ∨ i = 1) with rfl | rfl
        · refine ⟨min n (-1), ?_, ?_, k9.cell 0⟩
          · unfold isAt; rw [decide_eq_false (by omega)]; rfl
          · unfold setAt; rw [if_neg (by omega)]
        · refine ⟨max n L, ?_, ?_, k9.cell 1⟩
          · unfold isAt; rw [hL.out, decide_eq_false (p := max n (L : Int) < L) (by omega), Bool.and_false]
          · unfold setAt; rw [if_neg (by rw [hL.out]; omega)]
      have k9lt := k9.lt
      clear k9 hb0 hB
      generalize wr.heap.size = g at hcell k9lt ⊢
      go_loopw [65] (fun i wr => ∃ q : Nat, q ≤ 2 ∧ i = .int .i64 q ∧ Below W.heap.size W wr) (fun i _ => 2 - (intOf i).toNat)
      case atStart => exact ⟨0, by omega, rfl, Below.refl _ _⟩
      case round =>
        obtain ⟨q, hq, rfl, hB⟩ := hrel
        by_cases hlt : q < 2
        · obtain ⟨kk, hk1, hk2, hkc⟩ := hcell.out q hlt
          have hrow2 := owns_later hrow hB
          have hA2 := hA.later hB
          replace hkc := (hB.cell (p := ⟨g, q, none⟩) k9lt).trans hkc
          have hp0 : (0 : Int) ≤ (p : Int) := Int.natCast_nonneg _
          have hp1 : (p : Int) ≤ 255 := by omega
          have hq0 : (0 : Int) ≤ (q : Int) := Int.natCast_nonneg _
          have hq1 : (q : Int) < 2 := by omega
          have hm0 : (0 : Int) ≤ (qs.length : Int) := Int.natCast_nonneg _
          have hm1 : (qs.length : Int) ≤ 50 := by omega
          clear hcell hrow hA
          replace hrow2 := Lib.hid hrow2
          replace hk1 := Lib.hid hk1
          replace hk2 := Lib.hid hk2
          go_wp2_with fail
          refine wp_region_then 157 10 [.eq (.slice A3 qs.length c3), .ow wr.heap.size 3 1 qs.length (qs.map intZ), .eq (.int .u8 p), .eq (.int .i64 p), .eq (.slice A3 qs.length c3), .eq (.int .i64 qs.length), .eq (.int .i64 (qs.length + 1)), .eq (.int .i64 ((p : Int) % ((qs.length : Int) + 1))), .eq (.int .i64 kk), .nw wr.heap.size #[.int .i64 kk] 3 1] mixed rfl (by kernel_rfl) (by decide) (by kernel_rfl) (by kernel_rfl) ?_ ?_
          · refine ⟨?_, ?_, ?_, ?_, ?_, ?_, ?_, ?_, ?_, ?_, trivial⟩
            · intro vs a w hR H hin hout hget
              refine one_free rfl ?_
              have e0 := hout 10 (by kernel_rfl)
              clear H hin hout hget
              dsimp only [bare]
              go_wp2
              exact ⟨_, rfl, showsX0 hR rfl⟩
            · intro vs a w hR H hin hout hget
              refine one_free rfl ?_
              have e0 := (hget 0 69 (by kernel_rfl)).trans (congrArg some (H 0 (by decide)))
              clear H hin hout hget
              dsimp only [bare]
              go_wp2_with fail
              refine (cloneInts_any _ qs w (sl_of_owns (owns_later hrow2.out hR)) (by omega)).mono ?_
              rintro e w1 ⟨v1, rfl, hf, hb⟩
              go_wp2
              exact ⟨_, rfl, showsX hR hb (owns_mono hf hR.size)⟩
            · intro vs a w hR H hin hout hget
              refine one_free rfl ?_
              have e0 := hout 2 (by kernel_rfl)
              clear H hin hout hget
              dsimp only [bare]
              go_wp2
              exact ⟨_, rfl, showsX0 hR rfl⟩
            · intro vs a w hR H hin hout hget
              refine one_free rfl ?_
              have e0 := (hget 2 71 (by kernel_rfl)).trans (congrArg some (H 2 (by decide)))
              clear H hin hout hget
              dsimp only [bare]
              go_wp2
              exact ⟨_, rfl, showsX0 hR rfl⟩
            · intro vs a w hR H hin hout hget
              refine one_free rfl ?_
              have e0 := hout 10 (by kernel_rfl)
              clear H hin hout hget
              dsimp only [bare]
              go_wp2
              exact ⟨_, rfl, showsX0 hR rfl⟩
            · intro vs a w hR H hin hout hget
              refine one_free rfl ?_
              have e0 := (hget 4 73 (by kernel_rfl)).trans (congrArg some (H 4 (by decide)))
              clear H hin hout hget
              dsimp only [bare]
              go_wp2
              exact ⟨_, rfl, showsX0 hR rfl⟩
            · intro vs a w hR H hin hout hget
              refine one_free rfl ?_
              have e0 := (hget 5 74 (by kernel_rfl)).trans (congrArg some (H 5 (by decide)))
              clear H hin hout hget
              dsimp only [bare]
              go_wp2
              exact ⟨_, rfl, showsX0 hR rfl⟩
            · intro vs a w hR H hin hout hget
              refine one_free rfl ?_
              have e0 := (hget 3 72 (by kernel_rfl)).trans (congrArg some (H 3 (by decide)))
              have e1 := (hget 6 75 (by kernel_rfl)).trans (congrArg some (H 6 (by decide)))
              clear H hin hout hget
              dsimp only [bare]
              go_wp2
              exact ⟨_, rfl, showsX0 hR rfl⟩
            · intro vs a w hR H hin hout hget
              refine one_free rfl ?_
              have e0 := hout 14 (by kernel_rfl)
              clear H hin hout hget
              dsimp only [bare]
              go_wp2
              exact ⟨_, rfl, showsX0 hR rfl⟩
            · intro vs a w hR H hin hout hget
              refine one_free rfl ?_
              have e0 := (hget 8 77 (by kernel_rfl)).trans (congrArg some (H 8 (by decide)))
              clear H hin hout hget
              dsimp only [bare]
              go_wp2
              exact ⟨_, rfl, showsX hR (below1 w _) ⟨_, rfl, hR.size, blkOf1 w _ _⟩⟩
          · intro vs w6 hR H
            have e7 : vs 7 = .int .i64 ((p : Int) % ((qs.length : Int) + 1)) := H 7 (by decide)
            have f1 : w6.ownsRow wr.heap.size 3 1 (vs 1) qs.length (qs.map intZ) := H 1 (by decide)
            obtain ⟨g9, e9, hg9, hb9⟩ := H 9 (by decide)
            obtain ⟨iN, hiN, hile⟩ : ∃ iN : Nat, (p : Int) % ((qs.length : Int) + 1) = (iN : Int) ∧ iN ≤ qs.length := ⟨p % (qs.length + 1), by rw [Int.natCast_emod]; rfl, by have := Nat.mod_lt p (show 0 < qs.length + 1 by omega); omega⟩
            rw [hiN] at e7
            clear H hiN
            simp only [List.drop_succ_cons, List.drop_zero, putAll, Act.put, List.setIfInBounds_toArray, List.set_cons_succ, List.set_cons_zero, Nat.zero_add, Nat.reduceAdd, e7, e9]
            clear e7 e9
            generalize vs 0 = z0
            generalize vs 1 = z1 at f1 ⊢
            generalize vs 2 = z2
            generalize vs 3 = z3
            generalize vs 4 = z4
            generalize vs 5 = z5
            generalize vs 6 = z6
            generalize vs 8 = z8
            generalize vs 10 = z10
            generalize vs 11 = z11
            replace f1 := Lib.hid f1
            have hbl := bad_all (i := iN) (qs := qs) hk1.out
            have hil := insAt_len (k := kk) hile
            go_wp2_with fail
            refine (insInts_any z1 qs iN kk g9 wr.heap.size w6 f1.out hb9 hile (by omega) hR.size).mono ?_
            rintro e w7 ⟨v7, rfl, h7, hb7⟩
            clear f1 hb9 hg9
            replace hB := hB.trans ((hR.trans hb7).mono hB.size)
            replace hA2 := hA2.later (hR.trans hb7)
            clear hR hb7
            generalize insAt qs iN kk = bad at hbl hil h7
            replace hbl := Lib.hid hbl
            replace hil := Lib.hid hil
            replace h7 := Lib.hid h7
            go_wp2_with fail
            have HT := together_bad hok b v7 bad w7 hA2 h7.out (by rw [hil.out]; omega) hbl.out
            rw [setV_zero] at HT
            refine HT.mono ?_
            clear HT
            rintro e w8 ⟨rfl, hb0⟩
            replace h7 := Lib.hid (h7.out.laterB hb0)
            replace hA2 := hA2.later hb0
            replace hB := hB.trans (hb0.mono hB.size)
            clear hb0
            go_wp2_with fail
            obtain ⟨V8, hV8, b16, hb0⟩ : ∃ V8, V8 = w8.alloc (.cells #[.int .u64 0, .int .u64 0, .int .u64 0, .int .u64 0] 24) ∧ Blk V8 w8.heap.size #[.int .u64 0, .int .u64 0, .int .u64 0, .int .u64 0] 24 ∧ Below w8.heap.size w8 V8 := ⟨_, rfl, blkOf1 w8 _ _, below1 w8 _⟩
            rw [← hV8]
            clear hV8
            replace h7 := Lib.hid (h7.out.laterB hb0)
            replace hA2 := hA2.later hb0
            replace hB := hB.trans (hb0.mono hB.size)
            clear hb0
            generalize w8.heap.size = g16 at b16 ⊢
            have HT := bytes_bad hok b v7 bad V8 hA2 h7.out (by rw [hil.out]; omega) hbl.out
            refine HT.mono ?_
            clear HT
            rintro e w9 ⟨rfl, hb0⟩
            replace hA2 := hA2.later hb0
            replace hB := hB.trans (hb0.mono hB.size)
            replace b16 := b16.laterB hb0
            clear hb0 h7
            go_wp2_with fail
            have HT := set_bad hok b kk w9 hA2 hk1.out hk2.out
            rw [setV_zero] at HT
            refine HT.mono ?_
            clear HT
            rintro e w10 ⟨rfl, hb0⟩
            replace hA2 := hA2.later hb0
            replace hB := hB.trans (hb0.mono hB.size)
            replace b16 := b16.laterB hb0
            clear hb0
            go_wp2_with fail
            obtain ⟨V8, hV8, b20, hb0⟩ : ∃ V8, V8 = w10.alloc (.cells #[.int .u64 0, .int .u64 0, .int .u64 0, .int .u64 0] 24) ∧ Blk V8 w10.heap.size #[.int .u64 0, .int .u64 0, .int .u64 0, .int .u64 0] 24 ∧ Below w10.heap.size w10 V8 := ⟨_, rfl, blkOf1 w10 _ _, below1 w10 _⟩
            rw [← hV8]
            clear hV8
            replace hA2 := hA2.later hb0
            replace hB := hB.trans (hb0.mono hB.size)
            replace b16 := b16.laterB hb0
            clear hb0
            generalize w10.heap.size = g20 at b20 ⊢
            have HT := least_bad hok b kk V8 hA2 hk1.out hk2.out
            refine HT.mono ?_
            clear HT
            rintro e w11 ⟨rfl, hb0⟩
            replace hB := hB.trans (hb0.mono hB.size)
            replace b16 := b16.laterB hb0
            replace b20 := b20.laterB hb0
            clear hb0 hA2
            obtain ⟨a0, a1, a2, a3, _⟩ := b16.four
            obtain ⟨d0, d1, d2, d3, _⟩ := b20.four
            have hq := zz24
            have hg := guardSet
            go_wp2
            exact ⟨⟨q + 1, by omega, by go_num, hB⟩, by simp [intOf]; omega⟩
        · obtain rfl : q = 2 := by omega
          replace hA := hA.later hB
          replace hB1 := bthen hB1 hB
          have hsl := Lib.hid (sl_of_owns (owns_later hrow hB))
          have hlt := leasts_lt hok qs
          have hll : (leasts ds qs).length = qs.length := by unfold leasts; simp
          clear hcell hrow hB
          replace hll := Lib.hid hll
          go_wp2_with fail
          refine (bytes_good hok b _ qs wr hA hsl.out (by omega) hall).mono ?_
          rintro e w6 ⟨A6, c6, rfl, h6, hb0⟩
          replace hB1 := bthen hB1 hb0
          clear hb0 hsl hA
          replace h6 := Lib.hid h6
          go_wp2_with fail
          have HC := cloneBytes_any (.slice A6 qs.length c6) (leasts ds qs) w6 (by rw [hll.out]; exact h6.out) (by rw [hll.out]; omega)
          rw [hll.out] at HC
          refine HC.mono ?_
          clear HC
          rintro e w7 ⟨v7, rfl, h7, hb0⟩
          replace h6 := Lib.hid (h6.out.laterB hb0)
          replace hB1 := bthen hB1 hb0
          replace h7 := Lib.hid (sl_of_owns h7)
          clear hb0
          go_wp2_with fail
          have HE := eqBytes_any (.slice A6 qs.length c6) v7 (leasts ds qs) (leasts ds qs) w7 (by rw [hll.out]; exact h6.out) (by rw [hll.out]; exact h7.out) hlt hlt
          rw [decide_eq_true rfl] at HE
          refine HE.mono ?_
          clear HE
          rintro e w8 ⟨rfl, hb0⟩
          replace hB1 := bthen hB1 hb0
          clear hb0 h6 h7 hlt hll
          go_wp2
          go_ret
          exact ⟨rfl, hB1⟩

/-- The first bytes of a slice that came in. -/
theorem bytes_c {A : Option Addr} {c m : Nat} {bs : List Nat} {w : World} (h : Sl w (.slice A bs.length c) 1 bs.length (bs.map byteV)) (hc : bs.length ≤ c) (hA : A = none → c = 0) :
    Sl w (.slice A (bs.take m).length c) 1 (bs.take m).length ((bs.take m).map byteV) ∧ (bs.take m).length ≤ m ∧ ∀ w, (Instr.slice 44 (.slice A bs.length c) none (some (.int .i64 (min (bs.length : Int) m))) none).run Try.prog w = .ok (.slice A (bs.take m).length c) w := by
  have k2 : (bs.take m).length ≤ bs.length := by rw [List.length_take]; omega
  refine ⟨sl_take h k2 ?_ c hA, by rw [List.length_take]; omega, fun w => ?_⟩
  · rw [List.length_take, List.map_take, Nat.mul_one, Nat.min_def]
    split
    · rfl
    · rw [List.take_of_length_le (by simp; omega), List.take_of_length_le (by simp)]
  · have := slice_to44 A bs.length c (bs.take m).length k2 hc hA w
    rwa [show ((bs.take m).length : Int) = min (bs.length : Int) m by rw [List.length_take]; omega] at this
theorem wrong_any (v1 v2 : Value) (ss bs : List Nat) (p : Nat) (n : Int) (hss : ∀ s ∈ ss, s < 2 ^ 256) (hbs : ∀ c ∈ bs, c < 256) (hp : p < 256) (hn : -9223372036854775808 ≤ n ∧ n ≤ 9223372036854775807) (w : World)
    (h1 : SlC w v1 4 ss.length (setCells ss)) (h2 : SlC w v2 1 bs.length (bs.map byteV)) :
    Calls Try.prog 9 #[v1, v2, .int .u8 p, .int .i64 n] w fun e w' => e = .returned (.bool true) ∧ Below w.heap.size w w' := by
  obtain ⟨A1, c1, rfl, h1, hc1, hA1⟩ := h1
  obtain ⟨A2, c2, rfl, h2, hc2, hA2⟩ := h2
  obtain ⟨f1, g1, k1⟩ := few_c h1 hc1 hA1
  obtain ⟨f2, g2, k2⟩ := bytes_c (m := 50) h2 hc2 hA2
  exact wrong_core A1 A2 c1 c2 _ _ (ss.take 6) (bs.take 50) p n (fun s hs => hss s (List.mem_of_mem_take hs)) (fun c hc => hbs c (List.mem_of_mem_take hc)) hp hn w k1 k2 f1 f2 g1 g2
end Go.Proofs.Ytojmkgllbhbeiaa
