/-
  is, SameBytes and Compare of the reference side.
-/
import Derived.Test.YtojmkgllbhbeiaaRg
import Derived.Test.YtojmkgllbhbeiaaFct
import Derived.Test.YtojmkgllbhbeiaaOrd
namespace Go.Proofs.Ytojmkgllbhbeiaa
open Go.RowKit

theorem eval_tmp {a : Act} {t : Tmp} {v : Value} (h : a.tmps[t]? = some v) : a.eval (.tmp t) = v := by simp [Act.eval, h]
theorem eval_far {a : Act} {t : Tmp} {v : Value} (h : a.tmps.getD t undef = v) : a.eval (.tmp t) = v := h
theorem guard94 (op : BinOp) (a b : Operand) (xs ys : Array Value) (w : World) : (eqGuard op 94 a b (.agg xs) (.agg ys)).run Try.prog w = .ok () w := run_eqGuard_agg w op 94 a b xs ys (by kernel_rfl)
theorem bits_eq {s t : Nat} (hs : s < 2 ^ 256) (ht : t < 2 ^ 256) : decide (s = t) = true ↔ ∀ i, i < 256 → bitI s i = bitI t i := by
  rw [decide_eq_true_eq]
  refine ⟨fun h i _ => by rw [h], fun h => Sx.ext hs ht fun c hc => ?_⟩
  have := h c hc
  unfold bitI at this
  cases hs : s.testBit c <;> cases ht : t.testBit c <;> simp [hs, ht] at this ⊢
theorem eqlRef {s t : Nat} (hs : s < 2 ^ 256) (ht : t < 2 ^ 256) (w : World) : (binOp .eql 94 (.agg (A256 (bitI s))) (.agg (A256 (bitI t)))).run Try.prog w = .ok (.bool (decide (s = t))) w :=
  run_eql_arr w 94 3 256 .i64 .i64 under94 Try.underlying3 Try.isAgg3 Try.sizeOf3 _ _ (bitI s) (bitI t) (fun _ hi => refA_get s hi) (fun _ hi => refA_get t hi) _ (bits_eq hs ht)

set_option maxRecDepth 100000 in
set_option maxHeartbeats 1000000 in
theorem is_any (s t : Nat) (hs : s < 2 ^ 256) (ht : t < 2 ^ 256) (w : World) : Calls Try.prog 78 #[setV s, refV t] w fun e w' => e = .returned (.bool (decide (s = t))) ∧ Below w.heap.size w w' := by
  have HE := fun w => eqlRef hs ht w
  generalize decide (s = t) = b at HE ⊢
  have HE := Lib.hid HE
  unfold setV refV
  go_enter Try.func78, Try.ntmps78
  go_wp2
  obtain ⟨W, hW, b0, b1, hB⟩ : ∃ W, W = (w.alloc (.cells (setA s) 24)).alloc (.cells (A256 (bitI t)) 94) ∧ Blk W w.heap.size #[.int .u64 (Sx.wd s 0), .int .u64 (Sx.wd s 1), .int .u64 (Sx.wd s 2), .int .u64 (Sx.wd s 3)] 24 ∧ Blk W (w.heap.size + 1) (A256 (bitI t)) 94 ∧ Below w.heap.size w W :=
    ⟨_, rfl, (blkOf1 w _ _).alloc _, blkOf2 w _ _ _, below2 w _ _⟩
  rw [← hW]
  clear hW
  refine wp_region_facts 9 [.eq (setV s), .eq (.agg (A256 (bitI s))), .eq (.agg (A256 (bitI t))), .eq (.bool b), .eq (.bool b)] mixed rfl (by kernel_rfl) ?_ ?_
  · refine ⟨?_, ?_, ?_, ?_, ?_, trivial⟩
    · intro vs a w hR H hin hout hget
      refine one_free rfl ?_
      have e0 := hout 2 (by kernel_rfl)
      obtain ⟨c0, c1, c2, c3, _⟩ := (b0.laterB hR).four
      clear H hin hout hget
      dsimp only [bare]
      go_wp2
      exact ⟨_, rfl, shows0 hR rfl⟩
    · intro vs a w hR H hin hout hget
      refine one_free rfl ?_
      have e0 := (hget 0 5 (by kernel_rfl)).trans (congrArg some (H 0 (by decide)))
      clear H hin hout hget
      dsimp only [bare]
      go_wp2_with fail
      refine (words_any s w).mono ?_
      rintro e w1 ⟨rfl, hb⟩
      go_wp2
      exact ⟨_, rfl, shows hR hb.below rfl⟩
    · intro vs a w hR H hin hout hget
      refine one_free rfl ?_
      have e0 := hout 3 (by kernel_rfl)
      clear H hin hout hget
      dsimp only [bare]
      refine wp_load94 rfl _ rfl _ (eval_far e0) _ (b1.laterB hR) ?_
      exact ⟨_, rfl, shows0 hR rfl⟩
    · intro vs a w hR H hin hout hget
      refine one_free rfl ?_
      have e0 := (hget 1 6 (by kernel_rfl)).trans (congrArg some (H 1 (by decide)))
      have e1 := (hget 2 7 (by kernel_rfl)).trans (congrArg some (H 2 (by decide)))
      clear H hin hout hget
      have HE := HE.out
      have HG := guard94
      dsimp only [bare]
      go_wp2
      exact ⟨_, rfl, shows0 hR rfl⟩
    · intro vs a w hR H hin hout hget
      refine one_free rfl ?_
      have e0 := (hget 3 8 (by kernel_rfl)).trans (congrArg some (H 3 (by decide)))
      clear H hin hout hget
      dsimp only [bare]
      go_wp2
      exact ⟨_, rfl, shows0 hR rfl⟩
  · intro vs w2 hR H
    have e4 : vs 4 = .bool b := H 4 (by decide)
    simp only [putAll, Act.put, List.setIfInBounds_toArray, List.set_cons_succ, List.set_cons_zero, Nat.zero_add, Nat.reduceAdd, e4]
    clear H e4 HE
    go_wp2
    go_ret
    exact ⟨rfl, bthen hB hR⟩

theorem same_none (w : World) : Calls Try.prog 82 #[.slice none 0 0, .slice none 0 0] w fun e w' => e = .returned (.bool true) ∧ Gr w.heap.size w w' := by
  go_enter Try.func82, Try.ntmps82
  go_wp2
  go_loop [5] (fun i => i = .int .i64 0) (fun _ => 0)
  case atStart => rfl
  case round =>
    obtain rfl := hrel
    go_wp2
    go_ret
    exact ⟨rfl, Gr.refl _ _⟩

set_option maxRecDepth 100000 in
set_option maxHeartbeats 1000000 in
theorem same_some (b o cap b' o' cap' : Nat) (l : List Nat) (w : World) (hb : b < w.heap.size) (hb' : b' < w.heap.size) (hc : ∀ i, i < l.length → w.cell? ⟨b, o + i, none⟩ = (l.map byteV)[i]?) (hc' : ∀ i, i < l.length → w.cell? ⟨b', o' + i, none⟩ = (l.map byteV)[i]?) (hlen : l.length ≤ maxLen) :
    Calls Try.prog 82 #[.slice (some ⟨b, o, none⟩) l.length cap, .slice (some ⟨b', o', none⟩) l.length cap'] w fun e w' => e = .returned (.bool true) ∧ Gr w.heap.size w w' := by
  unfold maxLen at hlen
  have hc := Lib.hid hc
  have hc' := Lib.hid hc'
  go_enter Try.func82, Try.ntmps82
  go_wp2
  go_loopw [5] (fun i wr => ∃ k : Nat, k ≤ l.length ∧ i = .int .i64 k ∧ Gr w.heap.size w wr) (fun i _ => l.length - (intOf i).toNat)
  case atStart => exact ⟨0, by omega, rfl, Gr.refl _ _⟩
  case round =>
    obtain ⟨k, hk, rfl, hB⟩ := hrel
    by_cases hlt : k < l.length
    · have ca : wr.cell? ⟨b, o + k, none⟩ = some (.int .u8 (l[k] : Nat)) := by
        rw [hB.cell (p := ⟨b, o + k, none⟩) hb, hc.out k hlt, List.getElem?_map, List.getElem?_eq_getElem hlt]; rfl
      have cb : wr.cell? ⟨b', o' + k, none⟩ = some (.int .u8 (l[k] : Nat)) := by
        rw [hB.cell (p := ⟨b', o' + k, none⟩) hb', hc'.out k hlt, List.getElem?_map, List.getElem?_eq_getElem hlt]; rfl
      generalize l[k] = c at ca cb
      go_wp2
      go_quiet (fail)
      go_wp2
      go_roundw
      case rel => exact ⟨k + 1, by omega, by go_num, hB.drewN _⟩
      case measure => simp [intOf]; omega
    · obtain rfl : k = l.length := by omega
      go_wp2
      go_ret
      exact ⟨rfl, hB⟩

theorem cmp_ahead {s t c : Nat} (h : Ahead s t c) : cmpS s t = -1 := by
  rcases cmpS_cases s t with ⟨_, e⟩ | ⟨e, _⟩ | ⟨_, _, e⟩
  · exact (h.not_same e).elim
  · exact e
  · exact (h.not_both e).elim
theorem cmp_behind {s t c : Nat} (h : Ahead t s c) : cmpS s t = 1 := by
  rw [cmpS_neg, cmp_ahead h]; rfl
theorem cmp_same {s t : Nat} (h : ∀ c, c < 256 → s.testBit c = t.testBit c) : cmpS s t = 0 := by
  rcases cmpS_cases s t with ⟨e, _⟩ | ⟨_, _, e⟩ | ⟨_, _, e⟩
  · exact e
  · exact (e.not_same h).elim
  · exact (e.not_same fun c hc => (h c hc).symm).elim

set_option maxRecDepth 100000 in
set_option maxHeartbeats 2000000 in
theorem refCompare_any (s t : Nat) (w : World) : Calls Try.prog 81 #[refV s, refV t] w fun e w' => e = .returned (.int .i64 (cmpS s t)) ∧ Gr w.heap.size w w' := by
  unfold refV
  go_enter Try.func81, Try.ntmps81
  go_wp2
  go_loopw [5] (fun i wr => ∃ k : Nat, k ≤ 256 ∧ i = .int .i64 k ∧ Hid (∀ d, d < k → s.testBit d = t.testBit d) ∧ Blk wr w.heap.size (A256 (bitI s)) 94 ∧ Blk wr (w.heap.size + 1) (A256 (bitI t)) 94 ∧ Gr w.heap.size w wr) (fun i _ => 256 - (intOf i).toNat)
  case atStart => exact ⟨0, by omega, rfl, fun d h => by omega, (blkOf1 w _ _).alloc _, blkOf2 w _ _ _, gr2 w _ _⟩
  case round =>
    obtain ⟨k, hk, rfl, hs, h0, h1, hB⟩ := hrel
    by_cases hlt : k < 256
    · have c0 := (h0.cell k).trans (refA_get s hlt)
      have c1 := (h1.cell k).trans (refA_get t hlt)
      rcases bitI_cases s k with ⟨es, bs⟩ | ⟨es, bs⟩ <;> rcases bitI_cases t k with ⟨et, bt⟩ | ⟨et, bt⟩ <;> rw [es] at c0 <;> rw [et] at c1
      · have hs' : Hid (∀ d, d < k + 1 → s.testBit d = t.testBit d) := fun d hd => by
          by_cases e : d = k
          · rw [e, bs, bt]
          · exact hs.out d (by omega)
        clear es bs et bt
        go_wp2
        go_quiet (fail)
        go_wp2
        go_roundw
        case rel => exact ⟨k + 1, by omega, by go_num, hs', h0, h1, hB.drewN _⟩
        case measure => simp [intOf]; omega
      · have hn := Lib.hid (cmp_ahead ⟨hlt, bs, bt, hs.out⟩)
        clear es bs et bt
        go_wp2
        go_quiet (fail)
        go_wp2
        go_quiet (fail)
        go_wp2
        go_ret
        rw [hn.out]
        exact ⟨rfl, (hB.drewN _).drewN _⟩
      · have hn := Lib.hid (cmp_behind ⟨hlt, bt, bs, fun d hd => (hs.out d hd).symm⟩)
        clear es bs et bt
        go_wp2
        go_quiet (fail)
        go_wp2
        go_quiet (fail)
        go_wp2
        go_ret
        rw [hn.out]
        exact ⟨rfl, (hB.drewN _).drewN _⟩
      · have hs' : Hid (∀ d, d < k + 1 → s.testBit d = t.testBit d) := fun d hd => by
          by_cases e : d = k
          · rw [e, bs, bt]
          · exact hs.out d (by omega)
        clear es bs et bt
        go_wp2
        go_quiet (fail)
        go_wp2
        go_roundw
        case rel => exact ⟨k + 1, by omega, by go_num, hs', h0, h1, hB.drewN _⟩
        case measure => simp [intOf]; omega
    · obtain rfl : k = 256 := by omega
      have hn := Lib.hid (cmp_same hs.out)
      go_wp2
      go_ret
      rw [hn.out]
      exact ⟨rfl, hB⟩
end Go.Proofs.Ytojmkgllbhbeiaa
