/-
  WALKS of package sets: Bytes, and the library's Collect and AppendSeq beneath it.
-/
import Derived.Test.YtojmkgllbhbeiaaW5
namespace Go.Proofs.Ytojmkgllbhbeiaa
open Go.RowKit Go.Shelf
attribute [local go_sem] Oper.semAt_some wide_fn wide_depth

theorem info5 : (Try.prog.info? 5).map (fun i => (i.zero, i.size, i.bytes)) = some (some (.int .u8 0), 1, 1) := by kernel_rfl
def modV (x : Nat) : Value := byteV (x % 256)

set_option maxRecDepth 100000 in
set_option maxHeartbeats 2000000 in
theorem appendSeq_in (s Bn : Nat) (w : World) (hBn : Blk w Bn (setA s) 24) :
    CallsIn Fence.wide 8 Try.prog 116 #[.slice none 0 0, .func (.func 114) #[] #[.pointer (some ⟨Bn, 0, none⟩)]] w fun e W' =>
      ∃ v, e = .returned v ∧ W'.ownsRow w.heap.size 5 1 v (elems s).length ((elems s).map modV) ∧ (v = .slice none 0 0 ↔ elems s = []) ∧ Below w.heap.size w W' := by
  obtain ⟨i0, hi, hz0, hz1, hz2⟩ := info_parts info5
  refine callsIn_of_wp_marks Try.func116 rfl trivial ?_
  simp only [Try.ntmps116, List.size_toArray, List.length_cons, List.length_nil, Nat.reduceAdd, Nat.reduceSub, Array.replicate_succ, Array.replicate_zero, List.push_toArray, List.append_toArray, List.nil_append, List.cons_append]
  have hlt := hBn.lt
  gi_wp2
  have bO := Boxed.new w 44 (.slice none 0 0)
  have hB0 := below1 w (.cells #[.slice none 0 0] 44)
  have hs := hBn.alloc (.cells #[.slice none 0 0] 44)
  refine wpIn_range (gf := 114) (lb := #[.pointer (some ⟨Bn, 0, none⟩)]) rfl (enters_of Try.func114 (by kernel_rfl) rfl)
    (all_stops 7 Bn s _ hs) (fun _ _ _ => keepB_t) (fun _ _ _ hl => World.putObj_heap_other (by simp at hl; omega)) (fun _ => rfl)
    (fun pre W => (∃ v, Boxed W w.heap.size 44 v ∧ W.ownsRow w.heap.size 5 1 v pre.length (pre.map modV) ∧ (v = .slice none 0 0 ↔ pre = [])) ∧ Below w.heap.size w W)
    (fun _ _ _ => False)
    ((Inv.row w.heap.size w.heap.size 44 5 1 (fun pre => pre.length) (fun pre => pre.map modV) (fun pre v => v = .slice none 0 0 ↔ pre = [])).and (Inv.below (Nat.le_refl _) (by simp)))
    (fun _ => Inv.no)
    ⟨⟨_, bO, World.ownsRow_nil _ _ _ _, by simp⟩, hB0⟩
    (fun x => { tmps := #[.slice none 0 0, .func (.func 114) #[] #[.pointer (some ⟨Bn, 0, none⟩)], .pointer (some ⟨w.heap.size, 0, none⟩), undef, .slice none 0 0, byteV (x % 256), .func (.func 114) #[] #[.pointer (some ⟨Bn, 0, none⟩)], byteV (x % 256), undef, undef, undef, undef, undef], defers := [] }) ?assign ?body ?done ?stop
  case assign =>
    intro l x W K hK
    gi_wp2
    exact hK
  case body =>
    rintro l pre x W ⟨⟨v, hv, hrow, hnil⟩, hB⟩ hlt2
    have hc := hv.cell
    unfold byteV
    have HM : Hid (modV x = .int .u8 ((x % 256 : Nat) : Int)) := Lib.hid rfl
    gi_wp2_with (gi_at_builtin; refine wpListIn_append_own _ rfl _ _ 44 rfl w.heap.size 5 i0 (.int .u8 0) 1 1 Try.underlying44 hi hz0 hz1 hz2 rfl (by decide) _ _ _ rfl (hrow.alloc _) ⟨W.heap.size, 0, none⟩ 1 1 [.int .u8 ((x % 256 : Nat) : Int)] rfl rfl (cell_one_new _ _ _) (by simp [Value.oneCell']) (by unfold maxLen; omega) (by omega) (by have := hB.size; simp; omega) ?_; intro v' w1 hown' hgrow _; obtain ⟨g', cap', rfl⟩ := ownsRow_succ hown'; obtain ⟨hv1, hv2, hr2, hk2, hb2⟩ := hv.appended (by decide) hrow hB.size (Nat.le_refl _) hown' hgrow; have hc1 := hv1.cell; have hf1 := hv1.frozen)
    exact ⟨hk2.from _, keepB_below hb2 hlt, ⟨_, hv2, by rw [List.map_append, List.map_singleton, HM.out, List.length_append]; exact hr2, by simp⟩, hB.trans hb2⟩
  case done =>
    rintro D W hD ⟨⟨v, hv, hrow, hnil⟩, hB⟩ hK
    have hc := hv.cell
    gi_wp2
    refine ⟨by simp, .inl ⟨_, _, rfl, run_takeDeferred hK, ?_⟩⟩
    exact ⟨_, results_tmp rfl _ _ _, v, rfl, ownsRow_putObj hrow _ hK rfl, hnil, hB.trans (belowPut _ (by simp at hD; omega))⟩
  case stop =>
    rintro D c pre W _ _ h _
    exact h.elim

theorem map_modV (s : Nat) : (elems s).map modV = (elems s).map byteV := by
  refine List.map_congr_left fun c hc => ?_
  unfold modV; rw [Nat.mod_eq_of_lt (elems_lt hc)]

/-- What an owned row is, as a slice that reads. -/
theorem sl_of_owns {w : World} {base : Nat} {e : TypeId} {k n : Nat} {v : Value} {xs : List Value} (h : w.ownsRow base e k v n xs) : Sl w v k n xs := by
  obtain ⟨hl, ⟨rfl, h0⟩ | ⟨g, cap, cur, rfl, _, hg, _, _, _, ht⟩⟩ := h
  · exact ⟨hl, .inl ⟨rfl, h0⟩⟩
  · refine ⟨hl, .inr ⟨g, 0, cap, rfl, (Array.getElem?_eq_some_iff.1 hg).1, fun i hi => ?_⟩⟩
    have hb : Blk w g cur e := hg
    rw [Nat.zero_add, hb.cell i, ← ht, List.getElem?_take, if_pos hi, Array.getElem?_toList]

/-- A fresh slice: a row of the call's own. -/
def Fresh (B : Nat) (w : World) (v : Value) (e : TypeId) (k n : Nat) (xs : List Value) : Prop := w.ownsRow B e k v n xs ∧ (v = .slice none 0 0 ↔ n = 0)

theorem owns_mono {w : World} {base base' : Nat} {e : TypeId} {k n : Nat} {v : Value} {xs : List Value} (h : w.ownsRow base e k v n xs) (hb : base' ≤ base) : w.ownsRow base' e k v n xs := by
  obtain ⟨hl, h | ⟨g, cap, cur, hv, hg, h⟩⟩ := h
  · exact ⟨hl, .inl h⟩
  · exact ⟨hl, .inr ⟨g, cap, cur, hv, Nat.le_trans hb hg, h⟩⟩

/-- Behind an append to a row whose slice lies in box B: what is kept. -/
theorem appended {W w1 : World} {n₀ n₁ B : Nat} {t e : TypeId} {size : Nat} {v v' : Value} {k m : Nat} {xs ys : List Value} {tmp : Obj}
    (hv : Boxed W B t v) (hte : t ≠ e) (hrow : W.ownsRow n₀ e size v k xs) (hn₀ : n₀ ≤ W.heap.size) (h1 : n₁ ≤ n₀) (hB : n₁ ≤ B)
    (hown' : w1.ownsRow n₀ e size v' m ys) (hgrow : (W.alloc tmp).grownBy w1 v.ownBlock) :
    Boxed w1 B t v ∧ Boxed (w1.setCell ⟨B, 0, none⟩ v') B t v' ∧ (w1.setCell ⟨B, 0, none⟩ v').ownsRow n₀ e size v' m ys ∧ KeepsOthers W (w1.setCell ⟨B, 0, none⟩ v') ∧ Below n₁ W (w1.setCell ⟨B, 0, none⟩ v') ∧
      ∀ b, b < n₀ → b ≠ B → KeepB b W (w1.setCell ⟨B, 0, none⟩ v') := by
  obtain ⟨a1, a2, _, a4, a5⟩ := hv.appended hte (owns_mono hrow h1) (Nat.le_trans h1 hn₀) hB (owns_mono hown' h1) hgrow
  refine ⟨a1, a2, hown'.kept (grownBy_setCell' w1 B v') (.inr (a1.not_row hte hown').symm), a4, a5, fun b hb hne => ?_⟩
  refine keepB_t ?_ (keepB_set (p := ⟨B, 0, none⟩) v' hne)
  refine (hgrow.block b (by simp; omega) fun e' => ?_).trans (Below.heap_alloc W tmp b (by omega))
  have := ((hrow.alloc tmp).lt b e'.symm).1
  omega

def RetBytes (s : Nat) (w : World) (e : Ending) (w' : World) : Prop := ∃ v, e = .returned v ∧ Fresh w.heap.size w' v 5 1 (elems s).length ((elems s).map byteV) ∧ Below w.heap.size w w'

set_option maxHeartbeats 1000000 in
theorem collect_any (s Bn : Nat) (w : World) (hBn : Blk w Bn (setA s) 24) :
    Calls Try.prog 92 #[.func (.func 114) #[] #[.pointer (some ⟨Bn, 0, none⟩)]] w (RetBytes s w) := by
  have H := Lib.hid (callsIn_wide.1 (appendSeq_in s Bn w hBn))
  go_enter Try.func92, Try.ntmps92
  go_wp2_with fail
  refine H.out.mono ?_
  rintro e w1 ⟨v, rfl, hrow, hnil, hB⟩
  clear H
  go_wp2
  go_ret
  exact ⟨v, rfl, ⟨by rw [← map_modV]; exact hrow, by rw [hnil, List.length_eq_zero_iff]⟩, hB⟩

set_option maxHeartbeats 1000000 in
theorem bytes_any (s : Nat) (w : World) : Calls Try.prog 34 #[setV s] w (RetBytes s w) := by
  unfold setV setA
  go_enter Try.func34, Try.ntmps34
  go_wp2_with fail
  refine (iter_any s _).mono ?_
  rintro e w0 ⟨rfl, hb, hs⟩
  have hB := bthen (below1 w _) hb.below
  clear hb
  simp only [World.size_alloc] at hs
  go_wp2_with fail
  refine (collect_any s _ w0 hs).mono ?_
  rintro e w1 ⟨v, rfl, ⟨⟨hl, hrow⟩, hnil⟩, hB1⟩
  clear hs
  go_wp2
  go_ret
  refine ⟨v, rfl, ⟨⟨hl, ?_⟩, hnil⟩, bthen hB hB1⟩
  rcases hrow with h | ⟨g, cap, cur, hv, hg, h⟩
  · exact .inl h
  · exact .inr ⟨g, cap, cur, hv, Nat.le_trans hB.size hg, h⟩
end Go.Proofs.Ytojmkgllbhbeiaa
