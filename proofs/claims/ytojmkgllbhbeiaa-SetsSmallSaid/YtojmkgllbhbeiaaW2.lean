/-
  WALKS of package sets: Of, Range.
-/
import Derived.Test.YtojmkgllbhbeiaaW1
namespace Go.Proofs.Ytojmkgllbhbeiaa
open Go.RowKit

/-- A slice of n elements of k cells each, that reads cs. -/
def Sl (w : World) (v : Value) (k n : Nat) (cs : List Value) : Prop :=
  cs.length = n * k ∧ ((v = .slice none 0 0 ∧ n = 0) ∨ ∃ b o cap, v = .slice (some ⟨b, o, none⟩) n cap ∧ b < w.heap.size ∧ ∀ i, i < n * k → w.cell? ⟨b, o + i, none⟩ = cs[i]?)

theorem Sl.later {w w' : World} {v : Value} {k n : Nat} {cs : List Value} (h : Sl w v k n cs) (hb : Gr w.heap.size w w') : Sl w' v k n cs := by
  obtain ⟨hl, h | ⟨b, o, cap, rfl, hlt, hc⟩⟩ := h
  · exact ⟨hl, .inl h⟩
  · exact ⟨hl, .inr ⟨b, o, cap, rfl, Nat.lt_of_lt_of_le hlt hb.size, fun i hi => (hb.cell (p := ⟨b, o + i, none⟩) hlt).trans (hc i hi)⟩⟩

/-- Bytes as values. -/
def byteV (c : Nat) : Value := .int .u8 c

theorem shl_word (s c : Nat) : bits .or .u64 ((Sx.wd s (c / 64) : Nat) : Int) (IntKind.u64.wrap (2 ^ (c % 64))) = ((Sx.wd s (c / 64) ||| 2 ^ (c % 64) : Nat) : Int) := by
  have hp : 2 ^ (c % 64) < 18446744073709551616 := Nat.pow_lt_pow_right (by decide) (show c % 64 < 64 by omega)
  have h := bits_or64 (Sx.wd s (c / 64)) (2 ^ (c % 64)) (Sx.wd_lt _ _) hp
  have e : IntKind.u64.wrap (2 ^ (c % 64)) = ((2 ^ (c % 64) : Nat) : Int) := by
    rw [show (2 : Int) ^ (c % 64) = ((2 ^ (c % 64) : Nat) : Int) from rfl, IntKind.wrap_u64]
    clear h
    generalize 2 ^ (c % 64) = p at *
    omega
  rw [e, h]

theorem and63_i64 (c : Nat) (h : c < 256) : bits .and .i64 (c : Int) 63 = (c : Int) % 64 := by
  show IntKind.i64.wrap ((BitVec.ofInt 64 (c : Int) &&& BitVec.ofInt 64 63).toNat : Int) = _
  rw [BitVec.toNat_and, toNat_ofInt64 c (by omega), show (BitVec.ofInt 64 63).toNat = 2 ^ 6 - 1 from rfl, Nat.and_two_pow_sub_one_eq_mod, IntKind.wrap_i64]
  omega

theorem setA_zero : setA 0 = #[.int .u64 0, .int .u64 0, .int .u64 0, .int .u64 0] := by simp [setA, Sx.wd_zero]

set_option maxHeartbeats 1000000 in
theorem of_some (b o cap : Nat) (l : List Nat) (hl : ∀ c ∈ l, c < 256) (w : World) (hb : b < w.heap.size) (hc : ∀ i, i < l.length → w.cell? ⟨b, o + i, none⟩ = (l.map byteV)[i]?) (hlen : l.length ≤ maxLen) :
    Calls Try.prog 21 #[.slice (some ⟨b, o, none⟩) l.length cap] w fun e w' => e = .returned (setV (Sx.ofL l)) ∧ Gr w.heap.size w w' := by
  unfold maxLen at hlen
  unfold setV
  go_enter Try.func21, Try.ntmps21
  go_wp2
  go_loopw [8] (fun i wr => ∃ k : Nat, k ≤ l.length ∧ i = .int .i64 k ∧ Blk wr w.heap.size (setA 0) 24 ∧ Blk wr (w.heap.size + 1) (setA (Sx.ofL (l.take k))) 24 ∧ Gr w.heap.size w wr) (fun i _ => l.length - (intOf i).toNat)
  case atStart =>
    refine ⟨0, by omega, rfl, ?_, ?_, gr2 w _ _⟩
    · rw [setA_zero]; exact (blkOf1 w _ _).alloc _
    · rw [List.take_zero, Sx.ofL, setA_zero]; exact blkOf2 w _ _ _
  case round =>
    obtain ⟨k, hk, rfl, h0, h1, hB⟩ := hrel
    by_cases hlt : k < l.length
    · have cb : wr.cell? ⟨b, o + k, none⟩ = some (.int .u8 (l[k] : Nat)) := by
        rw [hB.cell (p := ⟨b, o + k, none⟩) hb, hc k hlt, List.getElem?_map, List.getElem?_eq_getElem hlt]; rfl
      have hlk : l[k] < 256 := hl _ (List.getElem_mem hlt)
      have hts : Hid (Sx.ofL (l.take (k + 1)) = Sx.or (Sx.ofL (l.take k)) (Sx.one l[k])) := by rw [List.take_succ_eq_append_getElem hlt, Sx.ofL_snoc]; exact rfl
      generalize l[k] = c at cb hlk hts
      generalize Sx.ofL (l.take k) = s at h1 hts
      have c1 := (h1.cell (c / 64)).trans (setA_get s (by omega))
      have f1 := h1.frozen (c / 64)
      have hor := Lib.hid (shl_word s c)
      have hset := Lib.hid (h1.set (c / 64) (.int .u64 ((Sx.wd s (c / 64) ||| 2 ^ (c % 64) : Nat) : Int)))
      rw [setA_set s c hlk] at hset
      generalize Sx.wd s (c / 64) = y at c1 hor hset
      go_wp2
      go_roundw
      case rel =>
        rw [hor.out]
        exact ⟨k + 1, by omega, by go_num, h0.other (by show _ ≠ w.heap.size + 1; omega) _, by rw [hts.out]; exact hset.out, hB.setCell (by show _ ≤ w.heap.size + 1; omega) _⟩
      case measure => simp [intOf]; omega
    · obtain rfl : k = l.length := by omega
      rw [List.take_length] at h1
      rw [setA_zero] at h0
      obtain ⟨c0, c1, c2, c3, _⟩ := Blk.four (show Blk wr (w.heap.size + 1) #[_, _, _, _] 24 from h1)
      obtain ⟨d0, d1, d2, d3, g0, g1, g2, g3⟩ := h0.four
      go_wp2
      refine bodyPost_ret (v := .agg #[_, _, _, _]) (by simp [results, Try.results21, go_sem, *]) rfl ⟨rfl, ?_⟩
      exact gfour hB (by omega) _ _ _ _

set_option maxHeartbeats 1000000 in
theorem range_any (lo hi : Nat) (hlo : lo < 256) (hhi : hi < 256) (w : World) :
    Calls Try.prog 50 #[.int .u8 lo, .int .u8 hi] w fun e w' => e = .returned (setV (Sx.range lo hi)) ∧ Gr w.heap.size w w' := by
  have hsr : Hid (Sx.range lo hi = Sx.ofL (List.range' lo (hi + 1 - lo))) := Lib.hid rfl
  generalize Sx.range lo hi = t at hsr ⊢
  unfold setV
  go_enter Try.func50, Try.ntmps50
  go_wp2
  go_loopw [6] (fun i wr => ∃ k : Nat, k ≤ hi + 1 - lo ∧ i = .int .i64 ((lo + k : Nat) : Int) ∧ Blk wr w.heap.size (setA 0) 24 ∧ Blk wr (w.heap.size + 1) (setA (Sx.ofL (List.range' lo k))) 24 ∧ Gr w.heap.size w wr) (fun i _ => 300 - (intOf i).toNat)
  case atStart =>
    refine ⟨0, by omega, rfl, ?_, ?_, gr2 w _ _⟩
    · rw [setA_zero]; exact (blkOf1 w _ _).alloc _
    · rw [List.range'_zero, Sx.ofL, setA_zero]; exact blkOf2 w _ _ _
  case round =>
    obtain ⟨k, hk, rfl, h0, h1, hB⟩ := hrel
    by_cases hlt : lo + k ≤ hi
    · have hts : Hid (Sx.ofL (List.range' lo (k + 1)) = Sx.or (Sx.ofL (List.range' lo k)) (Sx.one (lo + k))) := by
        rw [List.range'_concat, Sx.ofL_snoc, Nat.one_mul]; exact rfl
      have hlk : lo + k < 256 := by omega
      have hel : Hid (lo + k + 1 = lo + (k + 1)) := by show _ = _; omega
      have hm : Hid (k + 1 ≤ hi + 1 - lo) := by show _ ≤ _; omega
      clear hk
      generalize Sx.ofL (List.range' lo k) = s at h1 hts
      generalize hc : lo + k = c at hts hlk hlt hel
      clear hc
      have c1 := (h1.cell (c / 64)).trans (setA_get s (by omega))
      have f1 := h1.frozen (c / 64)
      have hor := Lib.hid (shl_word s c)
      go_wp2
      have q1 := cellG c1
      have hand := and63_i64 c hlk
      refine wp_region_gr_tail 9 mixed (by kernel_rfl) ?_
      simp only [List.take_succ_cons, List.take_zero, List.drop_succ_cons, List.drop_zero]
      repeat (go_big_quiet_step (fail))
      refine wpQuiet_nil ?_
      intro w1 hw'
      obtain ⟨⟨d, os⟩, hw''⟩ := hw'
      have hb := gr_grown wr d os
      rw [← hw''] at hb
      clear hw'' q1 c1 f1
      have e1 := h1.later hb
      have c1 := (e1.cell (c / 64)).trans (setA_get s (by omega))
      have f1 := e1.frozen (c / 64)
      have hset := Lib.hid (e1.set (c / 64) (.int .u64 ((Sx.wd s (c / 64) ||| 2 ^ (c % 64) : Nat) : Int)))
      rw [setA_set s c hlk] at hset
      have hB1 := hB.trans (hb.mono hB.size)
      have hz := h0.later hb
      clear h0 h1 hb hB
      generalize Sx.wd s (c / 64) = y at c1 hor hset
      go_wp2
      go_roundw
      case rel =>
        rw [hor.out]
        exact ⟨k + 1, hm.out, by rw [← hel.out]; go_num, hz.other (by show _ ≠ w.heap.size + 1; omega) _, by rw [hts.out]; exact hset.out, hB1.setCell (by show _ ≤ w.heap.size + 1; omega) _⟩
      case measure => simp [intOf]; omega
    · obtain rfl : k = hi + 1 - lo := by omega
      rw [setA_zero] at h0
      rw [← hsr.out] at h1
      obtain ⟨c0, c1, c2, c3, _⟩ := Blk.four (show Blk wr (w.heap.size + 1) #[_, _, _, _] 24 from h1)
      obtain ⟨d0, d1, d2, d3, g0, g1, g2, g3⟩ := h0.four
      clear hk
      generalize lo + (hi + 1 - lo) = c at hlt
      go_wp2
      refine bodyPost_ret (v := .agg #[_, _, _, _]) (by simp [results, Try.results50, go_sem, *]) rfl ⟨rfl, ?_⟩
      exact gfour hB (by omega) _ _ _ _
end Go.Proofs.Ytojmkgllbhbeiaa
