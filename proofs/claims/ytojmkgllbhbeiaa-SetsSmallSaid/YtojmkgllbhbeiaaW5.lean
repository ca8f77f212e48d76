/-
  WALKS of package sets: Next, Compare, FromSpans.
-/
import Derived.Test.YtojmkgllbhbeiaaW4
namespace Go.Proofs.Ytojmkgllbhbeiaa
open Go.RowKit

/-- The least byte of s above c. -/
def nextB (s c : Nat) : Nat × Bool := if c = 255 then (0, false) else ((elems (Sx.and s (Sx.range (c + 1) 255))).headD 0, !(elems (Sx.and s (Sx.range (c + 1) 255))).isEmpty)

set_option maxHeartbeats 1000000 in
theorem next_any (s c : Nat) (hc : c < 256) (w : World) : Calls Try.prog 37 #[setV s, .int .u8 c] w fun e w' => e = .returned (.tuple #[byteV (nextB s c).1, .bool (nextB s c).2]) ∧ Gr w.heap.size w w' := by
  by_cases h255 : c = 255
  · subst h255
    unfold setV setA
    go_enter Try.func37, Try.ntmps37
    go_wp2
    go_ret2
    exact ⟨rfl, gr1 w _⟩
  · have hn : nextB s c = ((elems (Sx.and s (Sx.range (c + 1) 255))).headD 0, !(elems (Sx.and s (Sx.range (c + 1) 255))).isEmpty) := by simp [nextB, h255]
    rw [hn]
    have C1 := fun w => range_any (c + 1) 255 (by omega) (by omega) w
    have C2 := fun w => and_any s (Sx.range (c + 1) 255) w
    have C3 := fun w => first_any (Sx.and s (Sx.range (c + 1) 255)) w
    generalize (elems (Sx.and s (Sx.range (c + 1) 255))).headD 0 = y at C3 ⊢
    generalize (!(elems (Sx.and s (Sx.range (c + 1) 255))).isEmpty) = bb at C3 ⊢
    generalize Sx.and s (Sx.range (c + 1) 255) = u at C2 C3
    generalize Sx.range (c + 1) 255 = r at C1 C2
    have H1 := Lib.hid C1; have H2 := Lib.hid C2; have H3 := Lib.hid C3
    clear C1 C2 C3 hn
    have hlt : c < 255 := by omega
    clear h255 hc
    obtain ⟨W0, hW0⟩ : ∃ W0, W0 = w.alloc (.cells (setA s) 24) := ⟨_, rfl⟩
    have b0 : Blk W0 w.heap.size (setA s) 24 := by rw [hW0]; exact blkOf1 w _ _
    have hB0 : Gr w.heap.size w W0 := by rw [hW0]; exact gr1 w _
    unfold setV setA byteV at *
    go_enter Try.func37, Try.ntmps37
    go_wp2
    rw [← hW0]
    clear hW0
    obtain ⟨c0, c1, c2, c3, _⟩ := b0.four
    have q0 := cellG c0
    have q1 := cellG c1
    have q2 := cellG c2
    have q3 := cellG c3
    refine wp_region_quiet_grown mixed (by kernel_rfl) ?_
    iterate 3 go_big_quiet_step (fail)
    go_big_quiet_step (exact callsG (H1.out _))
    go_big_quiet_step (exact callsG (H2.out _))
    go_big_quiet_step (exact callsG (H3.out _))
    repeat (go_big_quiet_step (fail))
    refine wpQuiet_nil ?_
    intro w1 hw'
    obtain ⟨⟨d, os⟩, hw''⟩ := hw'
    have hb := gr_grown W0 d os
    rw [← hw''] at hb
    clear hw'' q0 q1 q2 q3
    go_wp2
    go_ret2
    exact ⟨rfl, gthen hB0 hb⟩

/-- The order of sets. -/
def cmpS (s t : Nat) : Int := if (elems (Sx.or (Sx.less s t) (Sx.less t s))).isEmpty then 0 else if s.testBit ((elems (Sx.or (Sx.less s t) (Sx.less t s))).headD 0) then -1 else 1

set_option maxHeartbeats 1000000 in
theorem compare_any (s t : Nat) (w : World) : Calls Try.prog 19 #[setV s, setV t] w fun e w' => e = .returned (.int .i64 (cmpS s t)) ∧ Gr w.heap.size w w' := by
  have hlt : (elems (Sx.or (Sx.less s t) (Sx.less t s))).headD 0 < 256 := by
    cases he : elems (Sx.or (Sx.less s t) (Sx.less t s)) with
    | nil => decide
    | cons x l => exact elems_lt (s := Sx.or (Sx.less s t) (Sx.less t s)) (by rw [he]; simp)
  have H1 := Lib.hid fun w => less_any s t w
  have H2 := Lib.hid fun w => less_any t s w
  have H3 := Lib.hid fun w => or_any (Sx.less s t) (Sx.less t s) w
  have H4 := Lib.hid fun w => first_any (Sx.or (Sx.less s t) (Sx.less t s)) w
  have H5 := Lib.hid fun w => has_any s ((elems (Sx.or (Sx.less s t) (Sx.less t s))).headD 0) hlt w
  have hc : Hid (cmpS s t = if (elems (Sx.or (Sx.less s t) (Sx.less t s))).isEmpty then 0 else if s.testBit ((elems (Sx.or (Sx.less s t) (Sx.less t s))).headD 0) then -1 else 1) := Lib.hid rfl
  generalize cmpS s t = r at hc ⊢
  generalize (elems (Sx.or (Sx.less s t) (Sx.less t s))).headD 0 = y at H4 H5 hc
  generalize (elems (Sx.or (Sx.less s t) (Sx.less t s))).isEmpty = bb at H4 hc
  generalize Sx.or (Sx.less s t) (Sx.less t s) = u at H3 H4
  generalize Sx.less s t = v1 at H1 H3
  generalize Sx.less t s = v2 at H2 H3
  clear hlt
  obtain ⟨W0, hW0⟩ : ∃ W0, W0 = (w.alloc (.cells (setA s) 24)).alloc (.cells (setA t) 24) := ⟨_, rfl⟩
  have b0 : Blk W0 w.heap.size (setA s) 24 := by rw [hW0]; exact (blkOf1 w _ _).alloc _
  have b1 : Blk W0 (w.heap.size + 1) (setA t) 24 := by rw [hW0]; exact blkOf2 w _ _ _
  have hB0 : Gr w.heap.size w W0 := by rw [hW0]; exact gr2 w _ _
  unfold setV setA byteV at *
  go_enter Try.func19, Try.ntmps19
  go_wp2
  rw [← hW0]
  clear hW0
  obtain ⟨c0, c1, c2, c3, _⟩ := b0.four
  obtain ⟨d0, d1, d2, d3, _⟩ := b1.four
  have q0 := cellG c0
  have q1 := cellG c1
  have q2 := cellG c2
  have q3 := cellG c3
  have r0 := cellG d0
  have r1 := cellG d1
  have r2 := cellG d2
  have r3 := cellG d3
  refine wp_region_quiet_grown mixed (by kernel_rfl) ?_
  iterate 2 go_big_quiet_step (fail)
  go_big_quiet_step (exact callsG (H1.out _))
  iterate 2 go_big_quiet_step (fail)
  go_big_quiet_step (exact callsG (H2.out _))
  go_big_quiet_step (exact callsG (H3.out _))
  go_big_quiet_step (exact callsG (H4.out _))
  repeat (go_big_quiet_step (fail))
  refine wpQuiet_nil ?_
  intro w1 hw'
  obtain ⟨⟨d, os⟩, hw''⟩ := hw'
  have hb := gr_grown W0 d os
  rw [← hw''] at hb
  clear hw'' q0 q1 q2 q3 r0 r1 r2 r3 c0 c1 c2 c3 d0 d1 d2 d3
  obtain ⟨c0, c1, c2, c3, _⟩ := (b0.later hb).four
  have hB1 := gthen hB0 hb
  clear b0 b1 hb hB0
  cases bb with
  | true =>
    go_wp2
    go_ret
    exact ⟨by rw [hc.out]; rfl, hB1⟩
  | false =>
    go_wp2_with fail
    refine (H5.out _).mono ?_
    rintro e w2 ⟨rfl, hb⟩
    cases ht : s.testBit y with
    | true =>
      have hr : Hid (r = -1) := by rw [hc.out, ht]; exact rfl
      clear hc ht
      go_wp2
      go_ret
      exact ⟨by rw [hr.out]; rfl, gthen hB1 hb⟩
    | false =>
      have hr : Hid (r = 1) := by rw [hc.out, ht]; exact rfl
      clear hc ht
      go_wp2
      go_ret
      exact ⟨by rw [hr.out]; rfl, gthen hB1 hb⟩

/-- The set of all bytes in spans. -/
def ofSpans : List (Nat × Nat) → Nat
  | [] => 0
  | x :: l => Sx.or (Sx.range x.1 x.2) (ofSpans l)
theorem ofSpans_snoc (l : List (Nat × Nat)) (x : Nat × Nat) : ofSpans (l ++ [x]) = Sx.or (ofSpans l) (Sx.range x.1 x.2) := by
  induction l with
  | nil => refine Nat.eq_of_testBit_eq fun d => ?_; simp [ofSpans, Sx.tb_or]
  | cons y l ih =>
    refine Nat.eq_of_testBit_eq fun d => ?_
    have := congrArg (fun n => n.testBit d) ih
    simp only [Sx.tb_or] at this
    simp only [List.cons_append, ofSpans, Sx.tb_or, this, Bool.or_assoc]
/-- The cells of spans. -/
def spanCells (l : List (Nat × Nat)) : List Value := l.flatMap fun x => [byteV x.1, byteV x.2]
theorem spanCells_len (l : List (Nat × Nat)) : (spanCells l).length = l.length * 2 := by
  induction l with
  | nil => rfl
  | cons x l ih => simp only [spanCells, List.flatMap_cons, List.length_append] at ih ⊢; rw [ih]; simp; omega
theorem spanCells_get (l : List (Nat × Nat)) (k : Nat) (h : k < l.length) : (spanCells l)[k * 2]? = some (byteV l[k].1) ∧ (spanCells l)[k * 2 + 1]? = some (byteV l[k].2) := by
  induction l generalizing k with
  | nil => cases h
  | cons x l ih =>
    cases k with
    | zero => exact ⟨rfl, rfl⟩
    | succ k =>
      have := ih k (by simpa using h)
      have e : (k + 1) * 2 = k * 2 + 1 + 1 := by omega
      rw [e]
      simpa [spanCells] using this

set_option maxHeartbeats 1000000 in
theorem fromSpans_some (b o cap : Nat) (l : List (Nat × Nat)) (hl : ∀ x ∈ l, x.1 < 256 ∧ x.2 < 256) (w : World) (hb : b < w.heap.size) (hc : ∀ i, i < l.length * 2 → w.cell? ⟨b, o + i, none⟩ = (spanCells l)[i]?) (hlen : l.length * 2 ≤ 140737488355328) :
    Calls Try.prog 36 #[.slice (some ⟨b, o, none⟩) l.length cap] w fun e w' => e = .returned (setV (ofSpans l)) ∧ Gr w.heap.size w w' := by
  have hsr : Hid (ofSpans l = ofSpans (l.take l.length)) := Lib.hid (by rw [List.take_length])
  generalize ofSpans l = t at hsr ⊢
  unfold setV
  go_enter Try.func36, Try.ntmps36
  go_wp2
  go_loopw [8] (fun i wr => ∃ k : Nat, k ≤ l.length ∧ i = .int .i64 k ∧ Blk wr w.heap.size (setA 0) 24 ∧ Blk wr (w.heap.size + 1) (setA (ofSpans (l.take k))) 24 ∧ Gr w.heap.size w wr) (fun i _ => l.length - (intOf i).toNat)
  case atStart =>
    refine ⟨0, by omega, rfl, ?_, ?_, gr2 w _ _⟩
    · rw [setA_zero]; exact (blkOf1 w _ _).alloc _
    · rw [List.take_zero, ofSpans, setA_zero]; exact blkOf2 w _ _ _
  case round =>
    obtain ⟨k, hk, rfl, h0, h1, hB⟩ := hrel
    by_cases hlt : k < l.length
    · obtain ⟨g1, g2⟩ := spanCells_get l k hlt
      have ca : wr.cell? ⟨b, o + k * 2, none⟩ = some (.int .u8 (l[k].1 : Nat)) := by
        rw [hB.cell (p := ⟨b, o + k * 2, none⟩) hb, hc (k * 2) (by omega), g1]; rfl
      have cb : wr.cell? ⟨b, o + k * 2 + 1, none⟩ = some (.int .u8 (l[k].2 : Nat)) := by
        rw [hB.cell (p := ⟨b, o + k * 2 + 1, none⟩) hb, Nat.add_assoc, hc (k * 2 + 1) (by omega), g2]; rfl
      obtain ⟨hx, hy⟩ := hl _ (List.getElem_mem hlt)
      have hts : Hid (ofSpans (l.take (k + 1)) = Sx.or (ofSpans (l.take k)) (Sx.range l[k].1 l[k].2)) := by rw [List.take_succ_eq_append_getElem hlt, ofSpans_snoc]; exact rfl
      clear g1 g2
      generalize l[k].1 = lo at ca hx hts
      generalize l[k].2 = hi at cb hy hts
      have H1 := fun w => range_any lo hi hx hy w
      have H2 := fun w => or_any (ofSpans (l.take k)) (Sx.range lo hi) w
      generalize Sx.or (ofSpans (l.take k)) (Sx.range lo hi) = u at H2 hts
      generalize ofSpans (l.take k) = s at h1 H2
      generalize Sx.range lo hi = r at H1 H2
      clear hx hy
      unfold setV setA at H1 H2
      replace H1 := Lib.hid H1
      replace H2 := Lib.hid H2
      go_wp2
      obtain ⟨W0, hW0⟩ : ∃ W0, W0 = wr.alloc (.cells #[.int .u8 lo, .int .u8 hi] 49) := ⟨_, rfl⟩
      have bx : Blk W0 wr.heap.size #[.int .u8 lo, .int .u8 hi] 49 := by rw [hW0]; exact blkOf1 wr _ _
      have hB0 : Gr wr.heap.size wr W0 := by rw [hW0]; exact gr1 wr _
      rw [← hW0]
      clear hW0 ca cb
      have h0' := h0.later hB0
      have h1' := h1.later hB0
      have hB1 := gthen hB hB0
      clear h0 h1 hB hB0
      have q0 := cellG (bx.cell 0)
      have q1 := cellG (bx.cell 1)
      obtain ⟨d0, d1, d2, d3, _⟩ := Blk.four (show Blk W0 (w.heap.size + 1) #[_, _, _, _] 24 from h1')
      have r0 := cellG d0
      have r1 := cellG d1
      have r2 := cellG d2
      have r3 := cellG d3
      clear d0 d1 d2 d3
      refine wp_region_gr_tail 7 mixed (by kernel_rfl) ?_
      simp only [List.take_succ_cons, List.take_zero, List.drop_succ_cons, List.drop_zero]
      iterate 5 go_big_quiet_step (fail)
      go_big_quiet_step (exact callsG (H1.out _))
      go_big_quiet_step (exact callsG (H2.out _))
      refine wpQuiet_nil ?_
      intro w1 hw'
      obtain ⟨⟨d, os⟩, hw''⟩ := hw'
      have hb1 := gr_grown W0 d os
      rw [← hw''] at hb1
      clear hw'' q0 q1 r0 r1 r2 r3
      have e1 := h1'.later hb1
      have e0 := h0'.later hb1
      have hB2 := gthen hB1 hb1
      clear h1' h0' hb1 hB1 bx
      obtain ⟨d0, d1, d2, d3, f0, f1, f2, f3⟩ := Blk.four (show Blk w1 (w.heap.size + 1) #[_, _, _, _] 24 from e1)
      have es := Lib.hid (Blk.setFour (show Blk w1 (w.heap.size + 1) #[_, _, _, _] 24 from e1) (.int .u64 (Sx.wd u 0)) (.int .u64 (Sx.wd u 1)) (.int .u64 (Sx.wd u 2)) (.int .u64 (Sx.wd u 3)))
      have eo := Lib.hid (e0.otherFour (b' := w.heap.size + 1) (by omega) (.int .u64 (Sx.wd u 0)) (.int .u64 (Sx.wd u 1)) (.int .u64 (Sx.wd u 2)) (.int .u64 (Sx.wd u 3)))
      have hBE := Lib.hid (gfour hB2 (b := w.heap.size + 1) (by omega) (.int .u64 (Sx.wd u 0)) (.int .u64 (Sx.wd u 1)) (.int .u64 (Sx.wd u 2)) (.int .u64 (Sx.wd u 3)))
      clear e0 e1 hB2 H1 H2
      go_wp2
      go_roundw
      case rel => exact ⟨k + 1, by omega, by go_num, eo.out, by rw [hts.out]; exact es.out, hBE.out⟩
      case measure => simp [intOf]; omega
    · obtain rfl : k = l.length := by omega
      rw [← hsr.out] at h1
      rw [setA_zero] at h0
      obtain ⟨c0, c1, c2, c3, _⟩ := Blk.four (show Blk wr (w.heap.size + 1) #[_, _, _, _] 24 from h1)
      obtain ⟨d0, d1, d2, d3, g0, g1, g2, g3⟩ := h0.four
      go_wp2
      refine bodyPost_ret (v := .agg #[_, _, _, _]) (by simp [results, Try.results36, go_sem, *]) rfl ⟨rfl, ?_⟩
      exact gfour hB (by omega) _ _ _ _

set_option maxHeartbeats 1000000 in
theorem fromSpans_none (w : World) : Calls Try.prog 36 #[.slice none 0 0] w fun e w' => e = .returned (setV 0) ∧ Gr w.heap.size w w' := by
  rw [setV_zero]
  go_enter Try.func36, Try.ntmps36
  go_wp2
  refine wp_loop_once ?_
  go_wp2
  refine bodyPost_ret (v := .agg #[_, _, _, _]) (by simp [results, Try.results36, go_sem]) rfl ⟨rfl, ?_⟩
  exact gr2 w _ _

set_option maxHeartbeats 1000000 in
theorem of_none (w : World) : Calls Try.prog 21 #[.slice none 0 0] w fun e w' => e = .returned (setV 0) ∧ Gr w.heap.size w w' := by
  rw [setV_zero]
  go_enter Try.func21, Try.ntmps21
  go_wp2
  refine wp_loop_once ?_
  go_wp2
  refine bodyPost_ret (v := .agg #[_, _, _, _]) (by simp [results, Try.results21, go_sem]) rfl ⟨rfl, ?_⟩
  exact gr2 w _ _

/-- Of, at every slice of bytes. -/
theorem of_any (v : Value) (l : List Nat) (hl : ∀ c ∈ l, c < 256) (w : World) (h : Sl w v 1 l.length (l.map byteV)) (hlen : l.length ≤ maxLen) :
    Calls Try.prog 21 #[v] w fun e w' => e = .returned (setV (Sx.ofL l)) ∧ Gr w.heap.size w w' := by
  obtain ⟨_, ⟨rfl, h0⟩ | ⟨b, o, cap, rfl, hlt, hc⟩⟩ := h
  · obtain rfl : l = [] := List.eq_nil_of_length_eq_zero h0
    exact of_none w
  · exact of_some b o cap l hl w hlt (fun i hi => hc i (by omega)) hlen

/-- FromSpans, at every slice of spans. -/
theorem fromSpans_any (v : Value) (l : List (Nat × Nat)) (hl : ∀ x ∈ l, x.1 < 256 ∧ x.2 < 256) (w : World) (h : Sl w v 2 l.length (spanCells l)) (hlen : l.length * 2 ≤ 140737488355328) :
    Calls Try.prog 36 #[v] w fun e w' => e = .returned (setV (ofSpans l)) ∧ Gr w.heap.size w w' := by
  obtain ⟨_, ⟨rfl, h0⟩ | ⟨b, o, cap, rfl, hlt, hc⟩⟩ := h
  · obtain rfl : l = [] := List.eq_nil_of_length_eq_zero h0
    exact fromSpans_none w
  · exact fromSpans_some b o cap l hl w hlt hc hlen
end Go.Proofs.Ytojmkgllbhbeiaa
