/-
  Bytes and Spans of the reference.
-/
import Derived.Test.YtojmkgllbhbeiaaRh
import Derived.Test.YtojmkgllbhbeiaaSrt
import Derived.Test.YtojmkgllbhbeiaaSp
namespace Go.Proofs.Ytojmkgllbhbeiaa
open Go.RowKit

/-- Behind an append of one cell to an owned row. -/
theorem grown_one {base : Nat} {wr w1 : World} {e : TypeId} {k n : Nat} {v : Value} {xs : List Value} {o : Obj} (hrow : wr.ownsRow base e k v n xs) (hg : (wr.alloc o).grownBy w1 v.ownBlock) (h : base ≤ wr.heap.size) : Below base wr w1 :=
  (below1 wr o).mono h |>.trans (below_grown (hrow.alloc o) hg (by simp; omega))

set_option maxRecDepth 100000 in
set_option maxHeartbeats 2000000 in
theorem refBytes_any (s : Nat) (w : World) : Calls Try.prog 83 #[refV s] w (RetBytes s w) := by
  obtain ⟨i0, hi, hz0, hz1, hz2⟩ := info_parts info5
  unfold refV
  go_enter Try.func83, Try.ntmps83
  go_wp2
  go_loopw [3, 4] (fun v i wr => ∃ k : Nat, k ≤ 256 ∧ i = .int .i64 k ∧ wr.ownsRow (w.heap.size + 1) 5 1 v (upto s k).length ((upto s k).map byteV) ∧ Hid (v = .slice none 0 0 ↔ (upto s k).length = 0) ∧ Blk wr w.heap.size (A256 (bitI s)) 94 ∧ Below w.heap.size w wr ∧ w.heap.size + 1 ≤ wr.heap.size) (fun _ i _ => 256 - (intOf i).toNat)
  case atStart => exact ⟨0, by omega, rfl, World.ownsRow_nil _ _ _ _, by show _ ↔ _; simp [upto], blkOf1 w _ _, below1 w _, by simp⟩
  case round =>
    obtain ⟨k, hk, rfl, hrow, hnil, h0, hB, hsz⟩ := hrel
    by_cases hlt : k < 256
    · have c0 := (h0.cell k).trans (refA_get s hlt)
      have hlen := upto_len s k
      rcases bitI_cases s k with ⟨e, b⟩ | ⟨e, b⟩ <;> rw [e] at c0 <;> clear e
      · have hu := Lib.hid (upto_yes b)
        generalize upto s k = l at hrow hnil hu hlen
        clear b
        go_wp2_with (at_builtin; refine wpList_append_own _ rfl _ _ 44 rfl (w.heap.size + 1) 5 i0 (.int .u8 0) 1 1 Try.underlying44 hi hz0 hz1 hz2 rfl (by decide) _ _ _ rfl (hrow.alloc _) ⟨wr.heap.size, 0, none⟩ 1 1 [.int .u8 (k : Nat)] rfl rfl (cell_news _ _ _ _ rfl) (by simp [Value.oneCell']) (by unfold maxLen; omega) (by omega) (by simp; omega) ?_; intro v' w1 hown' hgrow hn')
        have hb := grown_one hrow hgrow (by omega)
        go_roundw
        case rel => exact ⟨k + 1, by omega, by go_num, by rw [hu.out]; simpa [byteV] using hown', by show _ ↔ _; rw [hu.out]; simp [hn'], h0.below hb (by omega), hB.trans (hb.mono (by omega)), Nat.le_trans hsz hb.size⟩
        case measure => first | (simp [intOf]; done) | (simp [intOf]; omega)
      · have hu := Lib.hid (upto_no b)
        clear b
        go_wp2
        go_roundw
        case rel => exact ⟨k + 1, by omega, by go_num, by rw [hu.out]; exact hrow, by show _ ↔ _; rw [hu.out]; exact hnil.out, h0, hB, hsz⟩
        case measure => first | (simp [intOf]; done) | (simp [intOf]; omega)
    · obtain rfl : k = 256 := by omega
      go_wp2
      go_ret
      exact ⟨_, rfl, ⟨owns_mono hrow (by omega), hnil.out⟩, hB⟩

/-- The ends of spans, one after the other. -/
def flat (l : List (Nat × Nat)) : List Nat := l.flatMap fun x => [x.1, x.2]
theorem flat_snoc (l : List (Nat × Nat)) (x : Nat × Nat) : flat (l ++ [x]) = flat l ++ [x.1, x.2] := by simp [flat]
theorem flat_len (l : List (Nat × Nat)) : (flat l).length = l.length * 2 := by
  induction l with
  | nil => rfl
  | cons x l ih => show (_ :: _ :: flat l).length = _; simp [ih]; omega
/-- c begins a span; c ends one. -/
def begins (s c : Nat) : Bool := s.testBit c && (c == 0 || !s.testBit (c - 1))
def endsAt (s c : Nat) : Bool := s.testBit c && (c == 255 || !s.testBit (c + 1))
def ends (s k : Nat) : List Nat := (List.range k).flatMap fun c => (if begins s c then [c] else []) ++ (if endsAt s c then [c] else [])
theorem ends_succ (s k : Nat) : ends s (k + 1) = ends s k ++ ((if begins s k then [k] else []) ++ (if endsAt s k then [k] else [])) := by
  unfold ends; rw [List.range_succ, List.flatMap_append]; simp
theorem ends_len (s k : Nat) : (ends s k).length ≤ 2 * k := by
  induction k with
  | zero => simp [ends]
  | succ k ih =>
    rw [ends_succ, List.length_append, List.length_append]
    have : (if begins s k then [k] else []).length ≤ 1 := by split <;> simp
    have : (if endsAt s k then [k] else []).length ≤ 1 := by split <;> simp
    omega

theorem spStep_far {acc : List (Nat × Nat)} {c : Nat} (h : ∀ x ∈ acc, x.2 + 1 < c) (hc : c < 256) : spStep acc c = acc ++ [(c, c)] := by
  rcases List.eq_nil_or_concat acc with rfl | ⟨l, x, rfl⟩
  · rfl
  · rw [List.concat_eq_append] at h ⊢
    have := h x (by simp)
    unfold spStep
    rw [List.getLast?_concat]
    dsimp only
    rw [if_neg (by omega)]
theorem spStep_near {l : List (Nat × Nat)} {lo hi : Nat} (hc : hi + 1 < 256) : spStep (l ++ [(lo, hi)]) (hi + 1) = l ++ [(lo, hi + 1)] := by
  unfold spStep
  rw [List.getLast?_concat]
  dsimp only
  rw [if_pos (by omega), List.dropLast_concat]

theorem ends_inv (s k : Nat) (hk : k ≤ 256) :
    ((0 < k ∧ k < 256 ∧ s.testBit (k - 1) = true ∧ s.testBit k = true) ∧ ∃ l lo, spansOf (upto s k) = l ++ [(lo, k - 1)] ∧ ends s k = flat l ++ [lo]) ∨
    (¬ (0 < k ∧ k < 256 ∧ s.testBit (k - 1) = true ∧ s.testBit k = true) ∧ ends s k = flat (spansOf (upto s k)) ∧ ∀ x ∈ spansOf (upto s k), x.2 < k ∧ (x.2 + 1 < k ∨ s.testBit (k - 1) = true)) := by
  induction k with
  | zero => exact .inr ⟨by simp, by simp [ends, upto, spansOf, flat], by simp [upto, spansOf]⟩
  | succ k ih =>
    have hk1 : k + 1 - 1 = k := by omega
    rw [hk1]
    cases hb : s.testBit k with
    | false =>
      have hnb : begins s k = false := by simp [begins, hb]
      have hne : endsAt s k = false := by simp [endsAt, hb]
      rw [ends_succ, hnb, hne, upto_no hb]
      simp only [Bool.false_eq_true, if_false, List.append_nil]
      rcases ih (by omega) with ⟨⟨_, _, _, h⟩, _⟩ | ⟨_, h1, h2⟩
      · rw [hb] at h; cases h
      · exact .inr ⟨by simp, h1, fun x hx => ⟨by have := h2 x hx; omega, .inl (by have := h2 x hx; omega)⟩⟩
    | true =>
      rw [ends_succ, upto_yes hb, spansOf_snoc, Nat.mod_eq_of_lt (by omega)]
      have hend : endsAt s k = (k == 255 || !s.testBit (k + 1)) := by simp [endsAt, hb]
      rcases ih (by omega) with ⟨⟨h0, _, h1, _⟩, l, lo, h2, h3⟩ | ⟨h0, h1, h2⟩
      · have hnb : begins s k = false := by
          simp [begins, h1]; omega
        obtain ⟨j, rfl⟩ : ∃ j, k = j + 1 := ⟨k - 1, by omega⟩
        rw [Nat.add_sub_cancel] at h2
        rw [h2, h3, hnb, spStep_near (by omega)]
        simp only [Bool.false_eq_true, if_false, List.nil_append]
        by_cases he : j + 1 + 1 < 256 ∧ s.testBit (j + 1 + 1) = true
        · have hne : endsAt s (j + 1) = false := by rw [hend, he.2]; simp; omega
          rw [hne]
          exact .inl ⟨⟨by omega, he.1, trivial, he.2⟩, l, lo, rfl, by simp⟩
        · have hne : endsAt s (j + 1) = true := by
            rw [hend]
            by_cases h255 : j + 1 = 255
            · simp [h255]
            · have : s.testBit (j + 1 + 1) = false := by
                cases hq : s.testBit (j + 1 + 1) with
                | false => rfl
                | true => exact (he ⟨by omega, hq⟩).elim
              simp [this]
          rw [hne]
          refine .inr ⟨fun h => he ⟨h.2.1, h.2.2.2⟩, by rw [flat_snoc]; simp, fun x hx => ?_⟩
          refine ⟨?_, .inr trivial⟩
          rcases List.mem_append.1 hx with hx | hx
          · have hok := (spInv s (j + 1) (by omega)).ok
            rw [h2] at hok
            have := hok.1 x (List.mem_append_left _ hx); omega
          · rw [List.mem_singleton.1 hx]; dsimp only; omega
      · have hprev : k = 0 ∨ s.testBit (k - 1) = false := by
          by_cases hz : k = 0
          · exact .inl hz
          · refine .inr ?_
            cases hq : s.testBit (k - 1) with
            | false => rfl
            | true => exact (h0 ⟨by omega, by omega, hq, hb⟩).elim
        have hnb : begins s k = true := by
          rcases hprev with h | h
          · have : (k == 0) = true := by simp [h]
            unfold begins; rw [hb, this]; rfl
          · simp [begins, hb, h]
        have hfar : ∀ x ∈ spansOf (upto s k), x.2 + 1 < k := fun x hx => by
          have := h2 x hx
          rcases hprev with h | h
          · omega
          · rw [h] at this
            rcases this with ⟨_, h | h⟩
            · exact h
            · cases h
        rw [h1, hnb, spStep_far hfar (by omega)]
        simp only [if_true]
        by_cases he : k + 1 < 256 ∧ s.testBit (k + 1) = true
        · have hne : endsAt s k = false := by rw [hend, he.2]; simp; omega
          rw [hne]
          exact .inl ⟨⟨by omega, he.1, trivial, he.2⟩, _, k, rfl, by simp⟩
        · have hne : endsAt s k = true := by
            rw [hend]
            by_cases h255 : k = 255
            · simp [h255]
            · have : s.testBit (k + 1) = false := by
                cases hq : s.testBit (k + 1) with
                | false => rfl
                | true => exact (he ⟨by omega, hq⟩).elim
              simp [this]
          rw [hne]
          refine .inr ⟨fun h => he ⟨h.2.1, h.2.2.2⟩, by rw [flat_snoc]; simp, fun x hx => ?_⟩
          refine ⟨?_, .inr trivial⟩
          rcases List.mem_append.1 hx with hx | hx
          · have := h2 x hx; omega
          · rw [List.mem_singleton.1 hx]; dsimp only; omega
theorem ends_all (s : Nat) : ends s 256 = flat (spansOf (elems s)) := by
  rcases ends_inv s 256 (Nat.le_refl _) with ⟨⟨_, h, _⟩, _⟩ | ⟨_, h, _⟩
  · omega
  · exact h

def intV (n : Nat) : Value := .int .i64 n
theorem info3 : (Try.prog.info? 3).map (fun i => (i.zero, i.size, i.bytes)) = some (some (.int .i64 0), 1, 8) := by kernel_rfl
def RetEnds (s : Nat) (w : World) (e : Ending) (w' : World) : Prop := ∃ v, e = .returned v ∧ Fresh w.heap.size w' v 3 1 (ends s 256).length ((ends s 256).map intV) ∧ Below w.heap.size w w'

set_option maxRecDepth 100000 in
set_option maxHeartbeats 4000000 in
theorem refSpans_any (s : Nat) (w : World) : Calls Try.prog 85 #[refV s] w (RetEnds s w) := by
  obtain ⟨i0, hi, hz0, hz1, hz2⟩ := info_parts info3
  unfold refV
  go_enter Try.func85, Try.ntmps85
  go_wp2
  go_loopw [3, 4] (fun v i wr => ∃ k : Nat, k ≤ 256 ∧ i = .int .i64 k ∧ wr.ownsRow (w.heap.size + 1) 3 1 v (ends s k).length ((ends s k).map intV) ∧ Hid (v = .slice none 0 0 ↔ (ends s k).length = 0) ∧ Blk wr w.heap.size (A256 (bitI s)) 94 ∧ Below w.heap.size w wr ∧ w.heap.size + 1 ≤ wr.heap.size) (fun _ i _ => 256 - (intOf i).toNat)
  case atStart => exact ⟨0, by omega, rfl, World.ownsRow_nil _ _ _ _, by show _ ↔ _; simp [ends], blkOf1 w _ _, below1 w _, by simp⟩
  case round =>
    obtain ⟨k, hk, rfl, hrow, hnil, h0, hB, hsz⟩ := hrel
    by_cases hlt : k < 256
    · have c0 := (h0.cell k).trans (refA_get s hlt)
      have hlen := ends_len s k
      have hes := Lib.hid (ends_succ s k)
      rcases bitI_cases s k with ⟨e, b⟩ | ⟨e, b⟩ <;> rw [e] at c0 <;> clear e
      · -- the byte is in the set
        have hS : (k = 0 ∧ Hid (begins s k = true)) ∨ (0 < k ∧ ((wr.cell? ⟨w.heap.size, k - 1, none⟩ = some (.int .i64 0) ∧ Hid (begins s k = true)) ∨ (wr.cell? ⟨w.heap.size, k - 1, none⟩ = some (.int .i64 1) ∧ Hid (begins s k = false)))) := by
          rcases Nat.eq_zero_or_pos k with h | h
          · refine .inl ⟨h, ?_⟩
            show _ = _
            have : (k == 0) = true := by simp [h]
            unfold begins; rw [b, this]; rfl
          · refine .inr ⟨h, ?_⟩
            have hz : (k == 0) = false := by simp; omega
            have c1 := (h0.cell (k - 1)).trans (refA_get s (by omega))
            rcases bitI_cases s (k - 1) with ⟨e, b1⟩ | ⟨e, b1⟩ <;> rw [e] at c1
            · exact .inr ⟨c1, by show _ = _; unfold begins; rw [b, b1, hz]; rfl⟩
            · exact .inl ⟨c1, by show _ = _; unfold begins; rw [b, b1, hz]; rfl⟩
        have hE : (k = 255 ∧ Hid (endsAt s k = true)) ∨ (k < 255 ∧ ((wr.cell? ⟨w.heap.size, k + 1, none⟩ = some (.int .i64 0) ∧ Hid (endsAt s k = true)) ∨ (wr.cell? ⟨w.heap.size, k + 1, none⟩ = some (.int .i64 1) ∧ Hid (endsAt s k = false)))) := by
          by_cases h : k = 255
          · refine .inl ⟨h, ?_⟩
            show _ = _
            have : (k == 255) = true := by simp [h]
            unfold endsAt; rw [b, this]; rfl
          · refine .inr ⟨by omega, ?_⟩
            have c1 := (h0.cell (k + 1)).trans (refA_get s (by omega))
            have h255 : (k == 255) = false := by simp [h]
            rcases bitI_cases s (k + 1) with ⟨e, b1⟩ | ⟨e, b1⟩ <;> rw [e] at c1
            · exact .inr ⟨c1, by show _ = _; unfold endsAt; rw [b, b1, h255]; rfl⟩
            · exact .inl ⟨c1, by show _ = _; unfold endsAt; rw [b, b1, h255]; rfl⟩
        clear b
        rcases hS with ⟨rfl, hS⟩ | ⟨hpk, ⟨cj, hS⟩ | ⟨cj, hS⟩⟩
        · rcases hE with ⟨h255, hE⟩ | ⟨h255, ⟨ck, hE⟩ | ⟨ck, hE⟩⟩
          · omega
          · have hes' : Hid (ends s (0 + 1) = ends s (0) ++ [0, 0]) := by show _ = _; rw [hes.out, hS.out, hE.out]; rfl
            clear hes hS hE
            generalize ends s (0) = l at hrow hnil hes' hlen
            go_wp2_with (first | (at_builtin; refine wpList_append_own _ rfl _ _ 55 rfl (w.heap.size + 1) 3 i0 (.int .i64 0) 1 8 Try.underlying55 hi hz0 hz1 hz2 rfl (by decide) _ _ _ rfl (hrow.alloc _) ⟨wr.heap.size, 0, none⟩ 1 1 [intV (0)] rfl rfl (cell_news _ _ _ _ rfl) (by simp [Value.oneCell', intV]) (by unfold maxLen; omega) (by omega) (by simp; omega) ?_; intro v1 w1 hown1 hgrow1 hn1; have hb1 := grown_one hrow hgrow1 (by omega); have hs1 := hb1.size; have c01 := (hb1.cell (p := ⟨w.heap.size, 0, none⟩) (Nat.lt_succ_self _)).trans c0; try have ck1 := (hb1.cell (p := ⟨w.heap.size, 0 + 1, none⟩) (Nat.lt_succ_self _)).trans ck) | (at_builtin; refine wpList_append_own _ rfl _ _ 55 rfl (w.heap.size + 1) 3 i0 (.int .i64 0) 1 8 Try.underlying55 hi hz0 hz1 hz2 rfl (by decide) _ _ _ rfl (hown1.alloc _) ⟨w1.heap.size, 0, none⟩ 1 1 [intV (0)] rfl rfl (cell_news _ _ _ _ rfl) (by simp [Value.oneCell', intV]) (by unfold maxLen; omega) (by omega) (by simp; omega) ?_; intro v2 w2 hown2 hgrow2 hn2))
            have hb2 := grown_one hown1 hgrow2 (by omega)
            have hb := hb1.trans hb2
            go_roundw
            case rel => exact ⟨0 + 1, by omega, by go_num, by rw [hes'.out]; simpa [intV] using hown2, by show _ ↔ _; rw [hes'.out]; simp [hn2], h0.below hb (by omega), hB.trans (hb.mono (by omega)), Nat.le_trans hsz hb.size⟩
            case measure => first | (simp [intOf]; done) | (simp [intOf]; omega)
          · have hes' : Hid (ends s (0 + 1) = ends s (0) ++ [0]) := by show _ = _; rw [hes.out, hS.out, hE.out]; rfl
            clear hes hS hE
            generalize ends s (0) = l at hrow hnil hes' hlen
            go_wp2_with (at_builtin; refine wpList_append_own _ rfl _ _ 55 rfl (w.heap.size + 1) 3 i0 (.int .i64 0) 1 8 Try.underlying55 hi hz0 hz1 hz2 rfl (by decide) _ _ _ rfl (hrow.alloc _) ⟨wr.heap.size, 0, none⟩ 1 1 [intV (0)] rfl rfl (cell_news _ _ _ _ rfl) (by simp [Value.oneCell', intV]) (by unfold maxLen; omega) (by omega) (by simp; omega) ?_; intro v1 w1 hown1 hgrow1 hn1; have hb1 := grown_one hrow hgrow1 (by omega); have hs1 := hb1.size; have c01 := (hb1.cell (p := ⟨w.heap.size, 0, none⟩) (Nat.lt_succ_self _)).trans c0; try have ck1 := (hb1.cell (p := ⟨w.heap.size, 0 + 1, none⟩) (Nat.lt_succ_self _)).trans ck)
            go_roundw
            case rel => exact ⟨0 + 1, by omega, by go_num, by rw [hes'.out]; simpa [intV] using hown1, by show _ ↔ _; rw [hes'.out]; simp [hn1], h0.below hb1 (by omega), hB.trans (hb1.mono (by omega)), Nat.le_trans hsz hb1.size⟩
            case measure => first | (simp [intOf]; done) | (simp [intOf]; omega)
        · rcases hE with ⟨h255, hE⟩ | ⟨h255, ⟨ck, hE⟩ | ⟨ck, hE⟩⟩
          · have h255' : 255 ≤ k := by omega
            clear h255
            have hes' : Hid (ends s (k + 1) = ends s k ++ [k, k]) := by show _ = _; rw [hes.out, hS.out, hE.out]; rfl
            clear hes hS hE
            generalize ends s k = l at hrow hnil hes' hlen
            go_wp2_with (first | (at_builtin; refine wpList_append_own _ rfl _ _ 55 rfl (w.heap.size + 1) 3 i0 (.int .i64 0) 1 8 Try.underlying55 hi hz0 hz1 hz2 rfl (by decide) _ _ _ rfl (hrow.alloc _) ⟨wr.heap.size, 0, none⟩ 1 1 [intV k] rfl rfl (cell_news _ _ _ _ rfl) (by simp [Value.oneCell', intV]) (by unfold maxLen; omega) (by omega) (by simp; omega) ?_; intro v1 w1 hown1 hgrow1 hn1; have hb1 := grown_one hrow hgrow1 (by omega); have hs1 := hb1.size; have c01 := (hb1.cell (p := ⟨w.heap.size, k, none⟩) (Nat.lt_succ_self _)).trans c0; try have ck1 := (hb1.cell (p := ⟨w.heap.size, k + 1, none⟩) (Nat.lt_succ_self _)).trans ck) | (at_builtin; have _q := hown1; go_must (refine wpList_append_own _ rfl _ _ 55 rfl (w.heap.size + 1) 3 i0 (.int .i64 0) 1 8 Try.underlying55 hi hz0 hz1 hz2 rfl (by decide) _ _ _ rfl (hown1.alloc _) ⟨w1.heap.size, 0, none⟩ 1 1 [.int .i64 255] rfl rfl (cell_news _ _ _ _ rfl) (by simp [Value.oneCell']) (by unfold maxLen; omega) (by omega) (by simp; omega) ?_); intro v2 w2 hown2 hgrow2 hn2))
            have hb2 := grown_one hown1 hgrow2 (by omega)
            have hb := hb1.trans hb2
            have h255e : k = 255 := by omega
            go_roundw
            case rel => exact ⟨k + 1, by omega, by go_num, by rw [hes'.out]; simpa [intV, h255e] using hown2, by show _ ↔ _; rw [hes'.out]; simp [hn2], h0.below hb (by omega), hB.trans (hb.mono (by omega)), Nat.le_trans hsz hb.size⟩
            case measure => first | (simp [intOf]; done) | (simp [intOf]; omega)
          · have hes' : Hid (ends s (k + 1) = ends s k ++ [k, k]) := by show _ = _; rw [hes.out, hS.out, hE.out]; rfl
            clear hes hS hE
            generalize ends s k = l at hrow hnil hes' hlen
            go_wp2_with (first | (at_builtin; refine wpList_append_own _ rfl _ _ 55 rfl (w.heap.size + 1) 3 i0 (.int .i64 0) 1 8 Try.underlying55 hi hz0 hz1 hz2 rfl (by decide) _ _ _ rfl (hrow.alloc _) ⟨wr.heap.size, 0, none⟩ 1 1 [intV k] rfl rfl (cell_news _ _ _ _ rfl) (by simp [Value.oneCell', intV]) (by unfold maxLen; omega) (by omega) (by simp; omega) ?_; intro v1 w1 hown1 hgrow1 hn1; have hb1 := grown_one hrow hgrow1 (by omega); have hs1 := hb1.size; have c01 := (hb1.cell (p := ⟨w.heap.size, k, none⟩) (Nat.lt_succ_self _)).trans c0; try have ck1 := (hb1.cell (p := ⟨w.heap.size, k + 1, none⟩) (Nat.lt_succ_self _)).trans ck) | (at_builtin; refine wpList_append_own _ rfl _ _ 55 rfl (w.heap.size + 1) 3 i0 (.int .i64 0) 1 8 Try.underlying55 hi hz0 hz1 hz2 rfl (by decide) _ _ _ rfl (hown1.alloc _) ⟨w1.heap.size, 0, none⟩ 1 1 [intV k] rfl rfl (cell_news _ _ _ _ rfl) (by simp [Value.oneCell', intV]) (by unfold maxLen; omega) (by omega) (by simp; omega) ?_; intro v2 w2 hown2 hgrow2 hn2))
            have hb2 := grown_one hown1 hgrow2 (by omega)
            have hb := hb1.trans hb2
            go_roundw
            case rel => exact ⟨k + 1, by omega, by go_num, by rw [hes'.out]; simpa [intV] using hown2, by show _ ↔ _; rw [hes'.out]; simp [hn2], h0.below hb (by omega), hB.trans (hb.mono (by omega)), Nat.le_trans hsz hb.size⟩
            case measure => first | (simp [intOf]; done) | (simp [intOf]; omega)
          · have hes' : Hid (ends s (k + 1) = ends s k ++ [k]) := by show _ = _; rw [hes.out, hS.out, hE.out]; rfl
            clear hes hS hE
            generalize ends s k = l at hrow hnil hes' hlen
            go_wp2_with (at_builtin; refine wpList_append_own _ rfl _ _ 55 rfl (w.heap.size + 1) 3 i0 (.int .i64 0) 1 8 Try.underlying55 hi hz0 hz1 hz2 rfl (by decide) _ _ _ rfl (hrow.alloc _) ⟨wr.heap.size, 0, none⟩ 1 1 [intV k] rfl rfl (cell_news _ _ _ _ rfl) (by simp [Value.oneCell', intV]) (by unfold maxLen; omega) (by omega) (by simp; omega) ?_; intro v1 w1 hown1 hgrow1 hn1; have hb1 := grown_one hrow hgrow1 (by omega); have hs1 := hb1.size; have c01 := (hb1.cell (p := ⟨w.heap.size, k, none⟩) (Nat.lt_succ_self _)).trans c0; try have ck1 := (hb1.cell (p := ⟨w.heap.size, k + 1, none⟩) (Nat.lt_succ_self _)).trans ck)
            go_roundw
            case rel => exact ⟨k + 1, by omega, by go_num, by rw [hes'.out]; simpa [intV] using hown1, by show _ ↔ _; rw [hes'.out]; simp [hn1], h0.below hb1 (by omega), hB.trans (hb1.mono (by omega)), Nat.le_trans hsz hb1.size⟩
            case measure => first | (simp [intOf]; done) | (simp [intOf]; omega)
        · rcases hE with ⟨h255, hE⟩ | ⟨h255, ⟨ck, hE⟩ | ⟨ck, hE⟩⟩
          · have h255' : 255 ≤ k := by omega
            clear h255
            have hes' : Hid (ends s (k + 1) = ends s k ++ [k]) := by show _ = _; rw [hes.out, hS.out, hE.out]; rfl
            clear hes hS hE
            generalize ends s k = l at hrow hnil hes' hlen
            go_wp2_with (at_builtin; refine wpList_append_own _ rfl _ _ 55 rfl (w.heap.size + 1) 3 i0 (.int .i64 0) 1 8 Try.underlying55 hi hz0 hz1 hz2 rfl (by decide) _ _ _ rfl (hrow.alloc _) ⟨wr.heap.size, 0, none⟩ 1 1 [.int .i64 255] rfl rfl (cell_news _ _ _ _ rfl) (by simp [Value.oneCell']) (by unfold maxLen; omega) (by omega) (by simp; omega) ?_; intro v1 w1 hown1 hgrow1 hn1; have hb1 := grown_one hrow hgrow1 (by omega); have hs1 := hb1.size; have c01 := (hb1.cell (p := ⟨w.heap.size, k, none⟩) (Nat.lt_succ_self _)).trans c0; try have ck1 := (hb1.cell (p := ⟨w.heap.size, k + 1, none⟩) (Nat.lt_succ_self _)).trans ck)
            have h255e : k = 255 := by omega
            go_roundw
            case rel => exact ⟨k + 1, by omega, by go_num, by rw [hes'.out]; simpa [intV, h255e] using hown1, by show _ ↔ _; rw [hes'.out]; simp [hn1], h0.below hb1 (by omega), hB.trans (hb1.mono (by omega)), Nat.le_trans hsz hb1.size⟩
            case measure => first | (simp [intOf]; done) | (simp [intOf]; omega)
          · have hes' : Hid (ends s (k + 1) = ends s k ++ [k]) := by show _ = _; rw [hes.out, hS.out, hE.out]; rfl
            clear hes hS hE
            generalize ends s k = l at hrow hnil hes' hlen
            go_wp2_with (at_builtin; refine wpList_append_own _ rfl _ _ 55 rfl (w.heap.size + 1) 3 i0 (.int .i64 0) 1 8 Try.underlying55 hi hz0 hz1 hz2 rfl (by decide) _ _ _ rfl (hrow.alloc _) ⟨wr.heap.size, 0, none⟩ 1 1 [intV k] rfl rfl (cell_news _ _ _ _ rfl) (by simp [Value.oneCell', intV]) (by unfold maxLen; omega) (by omega) (by simp; omega) ?_; intro v1 w1 hown1 hgrow1 hn1; have hb1 := grown_one hrow hgrow1 (by omega); have hs1 := hb1.size; have c01 := (hb1.cell (p := ⟨w.heap.size, k, none⟩) (Nat.lt_succ_self _)).trans c0; try have ck1 := (hb1.cell (p := ⟨w.heap.size, k + 1, none⟩) (Nat.lt_succ_self _)).trans ck)
            go_roundw
            case rel => exact ⟨k + 1, by omega, by go_num, by rw [hes'.out]; simpa [intV] using hown1, by show _ ↔ _; rw [hes'.out]; simp [hn1], h0.below hb1 (by omega), hB.trans (hb1.mono (by omega)), Nat.le_trans hsz hb1.size⟩
            case measure => first | (simp [intOf]; done) | (simp [intOf]; omega)
          · have hes' : Hid (ends s (k + 1) = ends s k ++ []) := by show _ = _; rw [hes.out, hS.out, hE.out]; rfl
            clear hes hS hE
            generalize ends s k = l at hrow hnil hes' hlen
            go_wp2
            go_roundw
            case rel => exact ⟨k + 1, by omega, by go_num, by rw [hes'.out, List.append_nil]; exact hrow, by show _ ↔ _; rw [hes'.out, List.append_nil]; exact hnil.out, h0, hB, hsz⟩
            case measure => first | (simp [intOf]; done) | (simp [intOf]; omega)
      · have hes' : Hid (ends s (k + 1) = ends s k) := by
          show _ = _
          rw [hes.out]; simp [begins, endsAt, b]
        clear b hes
        go_wp2
        go_roundw
        case rel => exact ⟨k + 1, by omega, by go_num, by rw [hes'.out]; exact hrow, by show _ ↔ _; rw [hes'.out]; exact hnil.out, h0, hB, hsz⟩
        case measure => first | (simp [intOf]; done) | (simp [intOf]; omega)
    · obtain rfl : k = 256 := by omega
      go_wp2
      go_ret
      exact ⟨_, rfl, ⟨owns_mono hrow (by omega), hnil.out⟩, hB⟩
end Go.Proofs.Ytojmkgllbhbeiaa
