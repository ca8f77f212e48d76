/-
  WALKS of package sets: Spans.
-/
import Derived.Test.YtojmkgllbhbeiaaW6
namespace Go.Proofs.Ytojmkgllbhbeiaa
open Go.RowKit Go.Shelf
attribute [local go_sem] Oper.semAt_some wide_fn wide_depth

/-- One byte more. -/
def spStep (acc : List (Nat × Nat)) (c : Nat) : List (Nat × Nat) :=
  match acc.getLast? with
  | some x => if x.2 = (c + 255) % 256 then acc.dropLast ++ [(x.1, c)] else acc ++ [(c, c)]
  | none => [(c, c)]
def spansOf (l : List Nat) : List (Nat × Nat) := (l.map (· % 256)).foldl spStep []
theorem spansOf_snoc (l : List Nat) (x : Nat) : spansOf (l ++ [x]) = spStep (spansOf l) (x % 256) := by simp [spansOf]
theorem spStep_len (acc : List (Nat × Nat)) (c : Nat) : (spStep acc c).length ≤ acc.length + 1 := by
  unfold spStep
  cases h : acc.getLast? with
  | none => simp
  | some x => dsimp only; split <;> simp
theorem spansOf_len (l : List Nat) : (spansOf l).length ≤ l.length := by
  unfold spansOf
  suffices ∀ (l : List Nat) (acc : List (Nat × Nat)), (l.foldl spStep acc).length ≤ acc.length + l.length by
    have := this (l.map (· % 256)) []; simpa using this
  intro l
  induction l with
  | nil => intro acc; simp
  | cons c l ih => intro acc; have := ih (spStep acc c); have := spStep_len acc c; simp only [List.foldl_cons, List.length_cons]; omega
theorem spanCells_snoc (l : List (Nat × Nat)) (x : Nat × Nat) : spanCells (l ++ [x]) = spanCells l ++ [byteV x.1, byteV x.2] := by simp [spanCells]

theorem owns_set {w : World} {base : Nat} {e : TypeId} {k n g cap : Nat} {xs : List Value} (h : w.ownsRow base e k (.slice (some ⟨g, 0, none⟩) n cap) n xs) (j : Nat) (u : Value) :
    (w.setCell ⟨g, j, none⟩ u).ownsRow base e k (.slice (some ⟨g, 0, none⟩) n cap) n (xs.set j u) := by
  obtain ⟨hl, ⟨h1, _⟩ | ⟨g', cap', cur, hv, hb, hg, hn, hm, hs, ht⟩⟩ := h
  · cases h1
  · cases hv
    have hblk : Blk w g cur e := hg
    refine ⟨by simpa using hl, .inr ⟨g, cap, _, rfl, hb, hblk.set j u, hn, hm, by simpa using hs, ?_⟩⟩
    rw [Array.toList_setIfInBounds, ← ht, List.take_set]

theorem cell_news (W : World) (cs : Array Value) (t : TypeId) (l : List Value) (h : cs.toList = l) : ∀ j u, l[j]? = some u → (W.alloc (.cells cs t)).cell? ((⟨W.heap.size, 0, none⟩ : Addr).add j) = some u := by
  intro j u hu
  have hadd : (⟨W.heap.size, 0, none⟩ : Addr).add j = ⟨W.heap.size, j, none⟩ := by unfold Addr.add; split <;> simp_all
  rw [hadd, (Blk.new W cs t).cell j, ← Array.getElem?_toList, h, hu]
theorem owns_cell {w : World} {base : Nat} {e : TypeId} {k n g cap : Nat} {xs : List Value} (h : w.ownsRow base e k (.slice (some ⟨g, 0, none⟩) n cap) n xs) (j : Nat) (u : Value) (hu : xs[j]? = some u) :
    w.cell? ⟨g, j, none⟩ = some u ∧ w.frozen? ⟨g, j, none⟩ = false := by
  obtain ⟨hl, ⟨h1, _⟩ | ⟨g', cap', cur, hv, hb, hg, hn, hm, hs, ht⟩⟩ := h
  · cases h1
  · cases hv
    have hblk : Blk w g cur e := hg
    refine ⟨?_, hblk.frozen j⟩
    rw [hblk.cell j, ← Array.getElem?_toList]
    rw [← ht, List.getElem?_take] at hu
    split at hu
    · exact hu
    · cases hu

theorem info49 : (Try.prog.info? 49).map (fun i => (i.zero, i.size, i.bytes)) = some (some (.agg #[.int .u8 0, .int .u8 0]), 2, 2) := by kernel_rfl

set_option maxRecDepth 100000 in
set_option maxHeartbeats 2000000 in
theorem spans_in (s : Nat) (w : World) :
    CallsIn Fence.wide 9 Try.prog 35 #[setV s] w fun e W' =>
      ∃ v, e = .returned v ∧ W'.ownsRow w.heap.size 49 2 v (spansOf (elems s)).length (spanCells (spansOf (elems s))) ∧ (v = .slice none 0 0 ↔ spansOf (elems s) = []) ∧ Below w.heap.size w W' := by
  obtain ⟨i0, hi, hz0, hz1, hz2⟩ := info_parts info49
  refine callsIn_of_wp_marks Try.func35 rfl trivial ?_
  unfold setV setA
  simp only [Try.ntmps35, List.size_toArray, List.length_cons, List.length_nil, Nat.reduceAdd, Nat.reduceSub, Array.replicate_succ, Array.replicate_zero, List.push_toArray, List.append_toArray, List.nil_append, List.cons_append]
  gi_wp2_with fail
  refine wpIn_wide.2 (wp_scope_straight ((wpIn_wide (n := 9)).1 ?_))
  gi_wp2_with fail
  refine wpIn_label ?_
  gi_wp2_with fail
  refine (callsIn_wide.2 (iter_any s _)).mono ?_
  rintro e w0 ⟨rfl, hb, hs⟩
  have bO : Boxed w0 (w.heap.size + 1) 42 (.slice none 0 0) := (blkOf2 w _ _ _).later hb
  have hB0 := bthen (below2 w _ _) hb.below
  simp only [World.size_alloc] at hs
  clear hb
  have hlt := bO.lt
  have hlt3 := hs.lt
  gi_wp2
  refine wpIn_range (gf := 114) (lb := #[.pointer (some ⟨w.heap.size + 1 + 1, 0, none⟩)]) rfl (enters_of Try.func114 (by kernel_rfl) rfl)
    (all_stops 8 (w.heap.size + 1 + 1) s _ hs) (fun _ _ _ => keepB_t) (fun _ _ _ hl => World.putObj_heap_other (by omega)) (fun _ => rfl)
    (fun pre W => (∃ v, Boxed W (w.heap.size + 1) 42 v ∧ W.ownsRow w0.heap.size 49 2 v (spansOf pre).length (spanCells (spansOf pre)) ∧ (v = .slice none 0 0 ↔ spansOf pre = [])) ∧ KeepB (w.heap.size + 1 + 1) w0 W ∧ Below w.heap.size w W ∧ w0.heap.size ≤ W.heap.size)
    (fun _ _ _ => False) ?own
    (fun _ => Inv.no)
    ⟨⟨_, bO, World.ownsRow_nil _ _ _ _, by simp [spansOf]⟩, rfl, hB0, Nat.le_refl _⟩
    (fun x => { tmps := #[.agg #[.int .u64 (Sx.wd s 0), .int .u64 (Sx.wd s 1), .int .u64 (Sx.wd s 2), .int .u64 (Sx.wd s 3)], .pointer (some ⟨w.heap.size, 0, none⟩), .slice none 0 0, .pointer (some ⟨w.heap.size + 1, 0, none⟩), byteV (x % 256), undef, .agg #[.int .u64 (Sx.wd s 0), .int .u64 (Sx.wd s 1), .int .u64 (Sx.wd s 2), .int .u64 (Sx.wd s 3)], .func (.func 114) #[] #[.pointer (some ⟨w.heap.size + 1 + 1, 0, none⟩)], byteV (x % 256), undef, undef, undef, undef, undef, undef, undef, undef, undef, undef, undef, undef, undef, undef, undef, undef, undef, undef, undef, undef, undef, undef, undef, undef, undef, undef, undef, undef], defers := [] }) ?assign ?body ?done ?stop
  case own =>
    exact (Inv.row w0.heap.size (w.heap.size + 1) 42 49 2 (fun pre => (spansOf pre).length) (fun pre => spanCells (spansOf pre)) (fun pre v => v = .slice none 0 0 ↔ spansOf pre = [])).and
      ((Inv.keepB hlt3 hlt3).and ((Inv.below (Nat.le_refl _) (show w.heap.size ≤ w0.heap.size by omega)).and (Inv.size _)))
  case assign =>
    intro l x W K hK
    gi_wp2
    exact hK
  case body =>
    rintro l pre x W ⟨⟨v, hv, hrow, hnil⟩, hk, hB, hsz⟩ hlt2
    have hc := hv.cell
    have hcl : x % 256 < 256 := Nat.mod_lt _ (by decide)
    have hstep := Lib.hid (spansOf_snoc pre x)
    have hlen := spansOf_len pre
    unfold byteV
    generalize x % 256 = c at hcl hstep
    rcases List.eq_nil_or_concat (spansOf pre) with he | ⟨acc, ⟨lo, hh⟩, he⟩
    · rw [he] at hrow
      obtain rfl := hnil.2 he
      replace hrow : W.ownsRow w0.heap.size 49 2 (.slice none 0 0) 0 [] := hrow
      clear hnil
      have HS : Hid (spansOf (pre ++ [x]) = [(c, c)]) := by rw [hstep.out, he]; exact rfl
      clear hstep he hlen
      gi_wp2_with (gi_at_builtin; go_must (refine wpListIn_append_own _ rfl _ _ 42 rfl w0.heap.size 49 i0 (.agg #[.int .u8 0, .int .u8 0]) 2 2 Try.underlying42 hi hz0 hz1 hz2 rfl (by decide) _ _ _ rfl (hrow.alloc _) ⟨W.heap.size, 0, none⟩ 1 1 [.int .u8 (c : Nat), .int .u8 (c : Nat)] rfl rfl (cell_news _ _ _ _ rfl) (by simp [Value.oneCell']) (by unfold maxLen; omega) (by omega) (by simp; omega) ?_); intro v' w1 hown' hgrow _; obtain ⟨g', cap', rfl⟩ := ownsRow_succ hown'; obtain ⟨hv1, hv2, hr2, hk2, hb2, hkb⟩ := appended hv (by decide) hrow hsz (show w.heap.size ≤ w0.heap.size by omega) (show w.heap.size ≤ w.heap.size + 1 by omega) hown' hgrow; have hc1 := hv1.cell; have hf1 := hv1.frozen)
      have hkB := hkb (w.heap.size + 1 + 1) hlt3 (by omega)
      exact ⟨hk2.from _, hkB, ⟨⟨_, hv2, by rw [HS.out]; exact hr2, by rw [HS.out]; simp⟩, keepB_t hk hkB, hB.trans hb2, Nat.le_trans hsz hk2.size⟩⟩
    · have hl2 : (spansOf pre).length = acc.length + 1 := by rw [he]; simp
      have hcl2 : spanCells (spansOf pre) = spanCells acc ++ [byteV lo, byteV hh] := by rw [he, List.concat_eq_append, spanCells_snoc]
      rw [hl2, hcl2] at hrow
      have hsl := spanCells_len acc
      obtain ⟨g, cap, rfl⟩ := ownsRow_succ hrow
      obtain ⟨hcc, hff⟩ := owns_cell hrow (acc.length * 2 + 1) (byteV hh) (by rw [← hsl, List.getElem?_append_right (by omega)]; simp)
      unfold byteV at hcc
      have hml : acc.length < 256 := by omega
      by_cases heq : hh = (c + 255) % 256
      · have HS : Hid (spansOf (pre ++ [x]) = acc ++ [(lo, c)]) := by
          rw [hstep.out, he, List.concat_eq_append, spStep, List.getLast?_concat]; dsimp only; rw [if_pos heq, List.dropLast_concat]; exact rfl
        have hbt : (((hh : Nat) : Int) == ((c : Int) - 1) % 256) = true := by rw [beq_iff_eq]; omega
        clear hstep he hl2 hcl2 hnil heq
        gi_wp2
        have hgb := (hrow.lt g rfl).1
        have hne : w.heap.size + 1 ≠ g := fun e => hv.not_row (by decide) hrow (by rw [e]; rfl)
        have hr2 := owns_set hrow (acc.length * 2 + 1) (.int .u8 (c : Nat))
        have hset : (spanCells acc ++ [byteV lo, byteV hh]).set (acc.length * 2 + 1) (.int .u8 (c : Nat)) = spanCells (acc ++ [(lo, c)]) := by
          rw [spanCells_snoc, List.set_append, if_neg (by omega), hsl, Nat.add_sub_cancel_left]; rfl
        rw [hset] at hr2
        have hkB : KeepB (w.heap.size + 1 + 1) W (W.setCell ⟨g, acc.length * 2 + 1, none⟩ (.int .u8 (c : Nat))) := keepB_set _ (by show _ ≠ g; omega)
        exact ⟨(KeepsOthers.setCell _ _ _).from _, hkB, ⟨⟨_, Blk.other (show Blk W (w.heap.size + 1) _ 42 from hv) (p := ⟨g, acc.length * 2 + 1, none⟩) hne _, by rw [HS.out, List.length_append]; exact hr2, by rw [HS.out]; simp⟩, keepB_t hk hkB, hB.setCell (by show _ ≤ g; omega) _, by simpa using hsz⟩⟩
      · have HS : Hid (spansOf (pre ++ [x]) = acc ++ [(lo, hh)] ++ [(c, c)]) := by
          rw [hstep.out, he, List.concat_eq_append, spStep, List.getLast?_concat]; dsimp only; rw [if_neg heq]; exact rfl
        have hbt : (((hh : Nat) : Int) == ((c : Int) - 1) % 256) = false := by rw [beq_eq_false_iff_ne]; omega
        clear hstep he hl2 hcl2 hnil heq
        gi_wp2_with (gi_at_builtin; go_must (refine wpListIn_append_own _ rfl _ _ 42 rfl w0.heap.size 49 i0 (.agg #[.int .u8 0, .int .u8 0]) 2 2 Try.underlying42 hi hz0 hz1 hz2 rfl (by decide) _ _ _ rfl (hrow.alloc _) ⟨W.heap.size, 0, none⟩ 1 1 [.int .u8 (c : Nat), .int .u8 (c : Nat)] rfl rfl (cell_news _ _ _ _ rfl) (by simp [Value.oneCell']) (by unfold maxLen; omega) (by omega) (by simp; omega) ?_); intro v' w1 hown' hgrow _; obtain ⟨g', cap', rfl⟩ := ownsRow_succ hown'; obtain ⟨hv1, hv2, hr2, hk2, hb2, hkb⟩ := appended hv (by decide) hrow hsz (show w.heap.size ≤ w0.heap.size by omega) (show w.heap.size ≤ w.heap.size + 1 by omega) hown' hgrow; have hc1 := hv1.cell; have hf1 := hv1.frozen)
        have hkB := hkb (w.heap.size + 1 + 1) hlt3 (by omega)
        have hr3 := hr2
        rw [List.append_assoc] at hr3
        exact ⟨hk2.from _, hkB, ⟨⟨_, hv2, by rw [HS.out, spanCells_snoc, spanCells_snoc]; simpa [byteV] using hr2, by rw [HS.out]; simp⟩, keepB_t hk hkB, hB.trans hb2, Nat.le_trans hsz hk2.size⟩⟩
  case done =>
    rintro D W hD ⟨⟨v, hv, hrow, hnil⟩, hk, hB, hsz⟩ hK
    have hc := hv.cell
    gi_wp2
    rw [Exit.noGoto_ret]
    refine ⟨by simp, .inl ⟨_, _, rfl, run_takeDeferred hK, ?_⟩⟩
    refine ⟨_, results_tmp rfl _ _ _, v, rfl, ?_, hnil, hB.trans (belowPut _ (by omega))⟩
    obtain ⟨hl, h | ⟨g, cap, cur, hv', hg, h⟩⟩ := ownsRow_putObj hrow (.deferred none) hK rfl
    · exact ⟨hl, .inl h⟩
    · exact ⟨hl, .inr ⟨g, cap, cur, hv', by omega, h⟩⟩
  case stop =>
    rintro D c pre W _ _ h _
    exact h.elim

def RetSpans (s : Nat) (w : World) (e : Ending) (w' : World) : Prop := ∃ v, e = .returned v ∧ Fresh w.heap.size w' v 49 2 (spansOf (elems s)).length (spanCells (spansOf (elems s))) ∧ Below w.heap.size w w'
theorem spans_any (s : Nat) (w : World) : Calls Try.prog 35 #[setV s] w (RetSpans s w) :=
  (callsIn_wide.1 (spans_in s w)).mono fun _ _ ⟨v, he, hr, hn, hB⟩ => ⟨v, he, ⟨hr, by rw [hn, List.length_eq_zero_iff]⟩, hB⟩
end Go.Proofs.Ytojmkgllbhbeiaa
