/-
  WALKS of package sets: the iterator 'all'.
  WALKS of package sets: Size, First, Next.
  WALKS of package sets: Next, Compare, FromSpans.
  WALKS of package sets: Bytes, and the library's Collect and AppendSeq beneath it.
  WALKS of package sets: Spans.
  Regions that draw their order, and whose operations may make memory: each operation is walked ONCE, in any world in which the facts of the operations that it waits for hold; the facts must outlive every other step. No order is enumerated.
  The order of sets: a strict weak order; total on sets.
-/
import Derived.Test.YtojmkgllbhbeiaaK1
import Derived.Shelf.SlSortCmp.WholeK
namespace Go.Proofs.Ytojmkgllbhbeiaa
open Go.RowKit Go.Shelf
attribute [local go_sem] Oper.semAt_some

theorem wide_fn (f : Nat) : Fence.wide.fn f = True := rfl
theorem wide_depth : Fence.wide.depth = none := rfl
attribute [local go_sem] wide_fn wide_depth

set_option maxHeartbeats 1000000 in
theorem iter_any (s : Nat) (w : World) : Calls Try.prog 89 #[setV s] w fun e w' => e = .returned (.func (.func 114) #[] #[.pointer (some ⟨w.heap.size, 0, none⟩)]) ∧ Gr w.heap.size w w' ∧ Blk w' w.heap.size (setA s) 24 := by
  unfold setV setA
  go_enter Try.func89, Try.ntmps89
  go_wp2
  go_ret
  exact ⟨rfl, gr1 w _, blkOf1 w _ _⟩

set_option maxRecDepth 100000 in
set_option maxHeartbeats 1000000 in
theorem all1_in (n : Nat) (l Bn s : Nat) (J Jx : List Nat → World → Prop)
    (hY : ∀ pre x W, J pre W → pre.length < 256 → YieldAt Fence.wide (n - 1) Try.prog l #[byteV (x % 256)] W fun e W' =>
      (e = .returned (.bool true) ∧ J (pre ++ [x]) W' ∧ KeepB Bn W W') ∨ (e = .returned (.bool false) ∧ Jx (pre ++ [x]) W'))
    (W : World) (hJ : ∀ s A C, J s A → Gr A.heap.size A C → J s C) (hBn : Blk W Bn (setA s) 24) (h0 : J [] W) :
    CallsIn Fence.wide n Try.prog 114 #[.func (.yield l) #[] #[], .pointer (some ⟨Bn, 0, none⟩)] W fun e W' => (∃ v, e = .returned v) ∧
      (J (elems s) W' ∨ (∃ pre, pre <+: elems s ∧ Jx pre W')) := by
  have HY := Lib.hid hY; clear hY
  have HA := Lib.hid hJ; clear hJ
  refine callsIn_of_wp Try.func114 rfl trivial ?_
  simp only [Try.ntmps114, List.size_toArray, List.length_cons, List.length_nil, Nat.reduceAdd, Nat.reduceSub, Array.replicate_succ, Array.replicate_zero, List.push_toArray, List.append_toArray, List.nil_append, List.cons_append]
  gi_wp2
  gi_loopw [4] (fun i wr => ∃ k : Nat, k ≤ 256 ∧ i = .int .i64 k ∧ Blk wr Bn (setA s) 24 ∧ J (upto s k) wr) (fun i _ => 256 - (intOf i).toNat)
  case atStart =>
    exact ⟨0, by omega, rfl, hBn, h0⟩
  case round =>
    obtain ⟨k, hk, rfl, hb, hJs⟩ := hrel
    by_cases hlt : k < 256
    · have H4 := Blk.four (show Blk wr Bn #[_, _, _, _] 24 from hb)
      obtain ⟨c0, c1, c2, c3, _⟩ := H4
      gi_wp2_with fail
      refine (callsIn_wide.2 (has_any s k hlt wr)).mono ?_
      rintro e w1 ⟨rfl, hbw⟩
      have hJ1 : J (upto s k) w1 := HA.out _ _ _ hJs hbw
      have hb1 := hb.later hbw
      clear hb c0 c1 c2 c3 hbw hJs
      by_cases ht : s.testBit k = true
      · obtain ⟨fn, tmps, assign, body, hy, hR⟩ := HY.out (upto s k) k w1 hJ1 (Nat.lt_of_le_of_lt (upto_len s k) hlt)
        rw [Nat.mod_eq_of_lt hlt] at hy
        unfold byteV at hy
        have hup := Lib.hid (upto_yes ht)
        have HR := Lib.hid hR; clear hR
        rw [ht]
        clear ht
        gi_wp2
        refine HR.out.mono ?_
        rintro e W3 (⟨rfl, hJ3, hk3⟩ | ⟨rfl, hJx3⟩)
        · have hb3 := Lib.hid (hb1.keep hk3)
          clear hk3 hy HR hb1 hJ1
          gi_wp2
          go_roundw
          case rel => exact ⟨k + 1, by omega, by go_num, hb3.out, by rw [hup.out]; exact hJ3⟩
          case measure => simp [intOf]; omega
        · gi_wp2
          refine bodyPost_ret (results_none rfl _ _ _) rfl ?_
          refine ⟨⟨_, rfl⟩, .inr ⟨_, ?_, hJx3⟩⟩
          rw [← hup.out]
          exact upto_prefix s (by omega)
      · have hup := Lib.hid (upto_no (by simpa using ht))
        rw [show s.testBit k = false by simpa using ht]
        clear ht
        gi_wp2
        go_roundw
        case rel => exact ⟨k + 1, by omega, by go_num, hb1, by rw [hup.out]; exact hJ1⟩
        case measure => simp [intOf]; omega
    · obtain rfl : k = 256 := by omega
      gi_wp2
      go_end0
      exact ⟨⟨_, rfl⟩, .inl hJs⟩

/-- The iterator's contract. -/
theorem all_stops (n : Nat) (Bn s : Nat) (w : World) (hb : Blk w Bn (setA s) 24) :
    SeqD n Try.prog 114 #[.pointer (some ⟨Bn, 0, none⟩)] (fun x : Nat => #[byteV (x % 256)]) (KeepB Bn) (elems s) 256 w := fun l J Jx W hW hJ _ hY h0 =>
  all1_in n l Bn s J Jx hY W hJ (hb.later hW) h0
end Go.Proofs.Ytojmkgllbhbeiaa
namespace Go.Proofs.Ytojmkgllbhbeiaa
open Go.RowKit Go.Shelf
attribute [local go_sem] Oper.semAt_some wide_fn wide_depth

set_option maxRecDepth 100000 in
set_option maxHeartbeats 2000000 in
theorem size_in (s : Nat) (w : World) : CallsIn Fence.wide 9 Try.prog 30 #[setV s] w fun e W' => e = .returned (.int .i64 (elems s).length) ∧ Gr w.heap.size w W' := by
  refine callsIn_of_wp_marks Try.func30 rfl trivial ?_
  unfold setV setA
  simp only [Try.ntmps30, List.size_toArray, List.length_cons, List.length_nil, Nat.reduceAdd, Nat.reduceSub, Array.replicate_succ, Array.replicate_zero, List.push_toArray, List.append_toArray, List.nil_append, List.cons_append]
  gi_wp2_with fail
  refine (callsIn_wide.2 (iter_any s _)).mono ?_
  rintro e w0 ⟨rfl, hb, hs⟩
  have bn := (blkOf2 w _ _ _).later hb
  have hB := gthen (gr2 w _ _) hb
  simp only [World.size_alloc] at hs
  clear hb
  have h1 : w.heap.size + 1 < w0.heap.size := bn.lt
  gi_wp2
  refine wpIn_range (gf := 114) (lb := #[.pointer (some ⟨w.heap.size + 1 + 1, 0, none⟩)]) rfl (enters_of Try.func114 (by kernel_rfl) rfl)
    (all_stops 8 (w.heap.size + 1 + 1) s w0 hs) (fun _ _ _ => keepB_t) (fun _ _ _ hl => World.putObj_heap_other (by have := hs.lt; omega)) (fun _ => rfl)
    (fun pre W => Blk W (w.heap.size + 1) #[.int .i64 pre.length] 3 ∧ Gr w.heap.size w W)
    (fun _ _ _ => False)
    ((Inv.blk _ _ _).and (Inv.gr (Nat.le_refl _) (by omega)))
    (fun _ => Inv.no)
    ⟨bn, hB⟩
    (fun x => { tmps := #[.agg #[.int .u64 (Sx.wd s 0), .int .u64 (Sx.wd s 1), .int .u64 (Sx.wd s 2), .int .u64 (Sx.wd s 3)], .pointer (some ⟨w.heap.size, 0, none⟩), .int .i64 0, .pointer (some ⟨w.heap.size + 1, 0, none⟩), .agg #[.int .u64 (Sx.wd s 0), .int .u64 (Sx.wd s 1), .int .u64 (Sx.wd s 2), .int .u64 (Sx.wd s 3)], .func (.func 114) #[] #[.pointer (some ⟨w.heap.size + 1 + 1, 0, none⟩)], byteV (x % 256), undef, undef, undef], defers := [] }) ?assign ?body ?done ?stop
  case assign =>
    intro l x W K hK
    gi_wp2
    simpa using hK
  case body =>
    rintro l pre x W ⟨hc, hBW⟩ hlt
    have c0 := hc.cell 0
    have f0 := hc.frozen 0
    gi_wp2
    have hset := hc.set 0 (.int .i64 ((pre.length : Int) + 1))
    exact ⟨(KeepsOthers.setCell _ _ _).from _, keepB_set _ (by show _ ≠ w.heap.size + 1; omega), by simpa using hset, hBW.setCell (by show _ ≤ w.heap.size + 1; omega) _⟩
  case done =>
    rintro D W hD ⟨hc, hBW⟩ hK
    have c0 := hc.cell 0
    gi_wp2
    refine ⟨by simp, .inl ⟨_, _, rfl, run_takeDeferred hK, ?_⟩⟩
    exact ⟨_, results_tmp rfl _ _ _, rfl, grPut hBW _ (by omega)⟩
  case stop =>
    rintro D c pre W hD _ h _
    exact h.elim

theorem size_any (s : Nat) (w : World) : Calls Try.prog 30 #[setV s] w fun e w' => e = .returned (.int .i64 (elems s).length) ∧ Gr w.heap.size w w' := callsIn_wide.1 (size_in s w)

theorem head_prefix {s : Nat} {pre : List Nat} (hp : pre <+: elems s) (hne : pre ≠ []) : (elems s).headD 0 = pre.headD 0 % 256 ∧ (elems s).isEmpty = false := by
  obtain ⟨t, ht⟩ := hp
  cases pre with
  | nil => exact absurd rfl hne
  | cons x pre =>
    have hx : x < 256 := elems_lt (s := s) (by rw [← ht]; simp)
    rw [← ht]
    simp [Nat.mod_eq_of_lt hx]

set_option maxRecDepth 100000 in
set_option maxHeartbeats 2000000 in
theorem first_in (s : Nat) (w : World) : CallsIn Fence.wide 9 Try.prog 32 #[setV s] w fun e W' => e = .returned (.tuple #[byteV ((elems s).headD 0), .bool (!(elems s).isEmpty)]) ∧ Gr w.heap.size w W' := by
  refine callsIn_of_wp_marks Try.func32 rfl trivial ?_
  unfold setV setA
  simp only [Try.ntmps32, List.size_toArray, List.length_cons, List.length_nil, Nat.reduceAdd, Nat.reduceSub, Array.replicate_succ, Array.replicate_zero, List.push_toArray, List.append_toArray, List.nil_append, List.cons_append]
  gi_wp2_with fail
  refine (callsIn_wide.2 (iter_any s _)).mono ?_
  rintro e w0 ⟨rfl, hb, hs⟩
  have b1 := ((blkOf2 w _ _ _).alloc _).later hb
  have b2 := (blkOf3 w _ _ _ _).later hb
  have hB := gthen (gr3 w _ _ _) hb
  simp only [World.size_alloc] at hs
  clear hb
  have h1 : w.heap.size + 1 + 1 < w0.heap.size := b2.lt
  gi_wp2
  refine wpIn_range (gf := 114) (lb := #[.pointer (some ⟨w.heap.size + 1 + 1 + 1, 0, none⟩)]) rfl (enters_of Try.func114 (by kernel_rfl) rfl)
    (all_stops 8 (w.heap.size + 1 + 1 + 1) s w0 hs) (fun _ _ _ => keepB_t) (fun _ _ _ hl => World.putObj_heap_other (by have := hs.lt; omega)) (fun _ => rfl)
    (fun pre W => Blk W (w.heap.size + 1) #[byteV 0] 5 ∧ Blk W (w.heap.size + 1 + 1) #[.bool false] 4 ∧ pre = [] ∧ Gr w.heap.size w W)
    (fun c pre W => c = .ret ∧ Blk W (w.heap.size + 1) #[byteV (pre.headD 0 % 256)] 5 ∧ Blk W (w.heap.size + 1 + 1) #[.bool true] 4 ∧ pre ≠ [] ∧ Gr w.heap.size w W)
    ((Inv.blk _ _ (fun _ => _)).and ((Inv.blk _ _ (fun _ => _)).and ((Inv.pure fun pre => pre = []).and (Inv.gr (Nat.le_refl _) (by omega)))))
    (fun c => (Inv.pure fun _ => c = .ret).and ((Inv.blk _ _ (fun pre => #[byteV (pre.headD 0 % 256)])).and ((Inv.blk _ _ (fun _ => _)).and ((Inv.pure fun pre => pre ≠ []).and (Inv.gr (Nat.le_refl _) (by omega))))))
    ⟨b1, b2, rfl, hB⟩
    (fun x => { tmps := #[.agg #[.int .u64 (Sx.wd s 0), .int .u64 (Sx.wd s 1), .int .u64 (Sx.wd s 2), .int .u64 (Sx.wd s 3)], .pointer (some ⟨w.heap.size, 0, none⟩), .pointer (some ⟨w.heap.size + 1, 0, none⟩), .pointer (some ⟨w.heap.size + 1 + 1, 0, none⟩), byteV (x % 256), .agg #[.int .u64 (Sx.wd s 0), .int .u64 (Sx.wd s 1), .int .u64 (Sx.wd s 2), .int .u64 (Sx.wd s 3)], .func (.func 114) #[] #[.pointer (some ⟨w.heap.size + 1 + 1 + 1, 0, none⟩)], byteV (x % 256), undef], defers := [] }) ?assign ?body ?done ?stop
  case assign =>
    intro l x W K hK
    gi_wp2
    simpa using hK
  case body =>
    rintro l pre x W ⟨hc, hd, rfl, hBW⟩ hlt
    have c0 := hc.cell 0
    have f0 := hc.frozen 0
    have c1 := hd.cell 0
    have f1 := hd.frozen 0
    unfold byteV at *
    gi_wp2
    have e0 := (hc.set 0 (.int .u8 ((x : Int) % 256))).other (p := ⟨w.heap.size + 1 + 1, 0, none⟩) (by show _ ≠ w.heap.size + 1 + 1; omega) (.bool true)
    have e1 := (hd.other (p := ⟨w.heap.size + 1, 0, none⟩) (by show _ ≠ w.heap.size + 1; omega) (.int .u8 ((x : Int) % 256))).set 0 (.bool true)
    exact ⟨((KeepsOthers.setCell _ _ _).trans (KeepsOthers.setCell _ _ _)).from _, rfl, e0, e1, by simp, (hBW.setCell (by show _ ≤ w.heap.size + 1; omega) _).setCell (by show _ ≤ w.heap.size + 1 + 1; omega) _⟩
  case done =>
    rintro D W hD ⟨hc, hd, hp, hBW⟩ hK
    have c0 := hc.cell 0
    have f0 := hc.frozen 0
    have c1 := hd.cell 0
    have f1 := hd.frozen 0
    have HP := Lib.hid hp
    clear hp
    unfold byteV at *
    gi_wp2
    have hK2 := ((KeepsOthers.setCell W ⟨w.heap.size + 1, 0, none⟩ (.int .u8 0)).trans (KeepsOthers.setCell _ ⟨w.heap.size + 1 + 1, 0, none⟩ (.bool false))).same D _ hK rfl
    have e0 := ((hc.set 0 (.int .u8 0)).other (p := ⟨w.heap.size + 1 + 1, 0, none⟩) (by show _ ≠ w.heap.size + 1 + 1; omega) (.bool false)).putObj (D := D) (.deferred none) (by omega)
    have e1 := ((hd.other (p := ⟨w.heap.size + 1, 0, none⟩) (by show _ ≠ w.heap.size + 1; omega) (.int .u8 0)).set 0 (.bool false)).putObj (D := D) (.deferred none) (by omega)
    have l0 := e0.cell 0
    have l1 := e1.cell 0
    have hBE := grPut (l := D) ((hBW.setCell (p := ⟨w.heap.size + 1, 0, none⟩) (by show _ ≤ w.heap.size + 1; omega) (.int .u8 0)).setCell (p := ⟨w.heap.size + 1 + 1, 0, none⟩) (by show _ ≤ w.heap.size + 1 + 1; omega) (.bool false)) (.deferred none) (by omega)
    refine ⟨by simp, .inl ⟨_, _, rfl, run_takeDeferred hK2, ?_⟩⟩
    rw [HP.out]
    refine ⟨.tuple #[.int .u8 0, .bool false], ?_, rfl, hBE⟩
    clear e0 e1 hBE hK2 hK hc hd c0 c1 f0 f1
    simp [results, Try.results32, go_sem, *]
  case stop =>
    rintro D c pre W hD hp ⟨rfl, hc, hd, hne, hBW⟩ hK
    have e0 := hc.putObj (D := D) (.deferred none) (by omega)
    have e1 := hd.putObj (D := D) (.deferred none) (by omega)
    have hBE := grPut (l := D) hBW (.deferred none) (by omega)
    obtain ⟨q1, q2⟩ := head_prefix hp hne
    generalize pre.headD 0 % 256 = y at q1 e0 hc
    have Q1 := Lib.hid q1
    have Q2 := Lib.hid q2
    clear hp hne q1 q2
    gi_wp2
    refine ⟨by simp, .inl ⟨_, _, rfl, run_takeDeferred hK, ?_⟩⟩
    rw [Q1.out, Q2.out]
    refine ⟨.tuple #[byteV y, .bool true], ?_, rfl, hBE⟩
    have l0 := e0.cell 0
    have l1 := e1.cell 0
    clear e0 e1 hBE hK hc hd b1 b2
    simp [results, Try.results32, go_sem, *]

theorem first_any (s : Nat) (w : World) : Calls Try.prog 32 #[setV s] w fun e w' => e = .returned (.tuple #[byteV ((elems s).headD 0), .bool (!(elems s).isEmpty)]) ∧ Gr w.heap.size w w' := callsIn_wide.1 (first_in s w)
end Go.Proofs.Ytojmkgllbhbeiaa
namespace Go.Proofs.Ytojmkgllbhbeiaa
open Go.RowKit

/-- The least byte of s above c. -/
def nextB (s c : Nat) : Nat × Bool := if c = 255 then (0, false) else ((elems (Sx.and s (Sx.range (c + 1) 255))).headD 0, !(elems (Sx.and s (Sx.range (c + 1) 255))).isEmpty)

set_option maxHeartbeats 1000000 in
theorem next_any (s c : Nat) (hc : c < 256) (w : World) : Calls Try.prog 37 #[setV s, .int .u8 c] w fun e w' => e = .returned (.tuple #[byteV (nextB s c).1, .bool (nextB s c).2]) ∧ Gr w.heap.size w w' := by
  by_cases h255 : c = 255
  · subst h255
    unfold setV setA
    go_enter Try.func37, Try.ntmps37
    go_wp2
    go_ret2
    exact ⟨rfl, gr1 w _⟩
  · have hn : nextB s c = ((elems (Sx.and s (Sx.range (c + 1) 255))).headD 0, !(elems (Sx.and s (Sx.range (c + 1) 255))).isEmpty) := by simp [nextB, h255]
    rw [hn]
    have C1 := fun w => range_any (c + 1) 255 (by omega) (by omega) w
    have C2 := fun w => and_any s (Sx.range (c + 1) 255) w
    have C3 := fun w => first_any (Sx.and s (Sx.range (c + 1) 255)) w
    generalize (elems (Sx.and s (Sx.range (c + 1) 255))).headD 0 = y at C3 ⊢
    generalize (!(elems (Sx.and s (Sx.range (c + 1) 255))).isEmpty) = bb at C3 ⊢
    generalize Sx.and s (Sx.range (c + 1) 255) = u at C2 C3
    generalize Sx.range (c + 1) 255 = r at C1 C2
    have H1 := Lib.hid C1; have H2 := Lib.hid C2; have H3 := Lib.hid C3
    clear C1 C2 C3 hn
    have hlt : c < 255 := by omega
    clear h255 hc
    obtain ⟨W0, hW0⟩ : ∃ W0, W0 = w.alloc (.cells (setA s) 24) := ⟨_, rfl⟩
    have b0 : Blk W0 w.heap.size (setA s) 24 := by rw [hW0]; exact blkOf1 w _ _
    have hB0 : Gr w.heap.size w W0 := by rw [hW0]; exact gr1 w _
    unfold setV setA byteV at *
    go_enter Try.func37, Try.ntmps37
    go_wp2
    rw [← hW0]
    clear hW0
    obtain ⟨c0, c1, c2, c3, _⟩ := b0.four
    have q0 := cellG c0
    have q1 := cellG c1
    have q2 := cellG c2
    have q3 := cellG c3
    refine wp_region_quiet_grown mixed (by kernel_rfl) ?_
    iterate 3 go_big_quiet_step (fail)
    go_big_quiet_step (exact callsG (H1.out _))
    go_big_quiet_step (exact callsG (H2.out _))
    go_big_quiet_step (exact callsG (H3.out _))
    repeat (go_big_quiet_step (fail))
    refine wpQuiet_nil ?_
    intro w1 hw'
    obtain ⟨⟨d, os⟩, hw''⟩ := hw'
    have hb := gr_grown W0 d os
    rw [← hw''] at hb
    clear hw'' q0 q1 q2 q3
    go_wp2
    go_ret2
    exact ⟨rfl, gthen hB0 hb⟩

/-- The order of sets. -/
def cmpS (s t : Nat) : Int := if (elems (Sx.or (Sx.less s t) (Sx.less t s))).isEmpty then 0 else if s.testBit ((elems (Sx.or (Sx.less s t) (Sx.less t s))).headD 0) then -1 else 1

set_option maxHeartbeats 1000000 in
theorem compare_any (s t : Nat) (w : World) : Calls Try.prog 19 #[setV s, setV t] w fun e w' => e = .returned (.int .i64 (cmpS s t)) ∧ Gr w.heap.size w w' := by
  have hlt : (elems (Sx.or (Sx.less s t) (Sx.less t s))).headD 0 < 256 := by
    cases he : elems (Sx.or (Sx.less s t) (Sx.less t s)) with
    | nil => decide
    | cons x l => exact elems_lt (s := Sx.or (Sx.less s t) (Sx.less t s)) (by rw [he]; simp)
  have H1 := Lib.hid fun w => less_any s t w
  have H2 := Lib.hid fun w => less_any t s w
  have H3 := Lib.hid fun w => or_any (Sx.less s t) (Sx.less t s) w
  have H4 := Lib.hid fun w => first_any (Sx.or (Sx.less s t) (Sx.less t s)) w
  have H5 := Lib.hid fun w => has_any s ((elems (Sx.or (Sx.less s t) (Sx.less t s))).headD 0) hlt w
  have hc : Hid (cmpS s t = if (elems (Sx.or (Sx.less s t) (Sx.less t s))).isEmpty then 0 else if s.testBit ((elems (Sx.or (Sx.less s t) (Sx.less t s))).headD 0) then -1 else 1) := Lib.hid rfl
  generalize cmpS s t = r at hc ⊢
  generalize (elems (Sx.or (Sx.less s t) (Sx.less t s))).headD 0 = y at H4 H5 hc
  generalize (elems (Sx.or (Sx.less s t) (Sx.less t s))).isEmpty = bb at H4 hc
  generalize Sx.or (Sx.less s t) (Sx.less t s) = u at H3 H4
  generalize Sx.less s t = v1 at H1 H3
  generalize Sx.less t s = v2 at H2 H3
  clear hlt
  obtain ⟨W0, hW0⟩ : ∃ W0, W0 = (w.alloc (.cells (setA s) 24)).alloc (.cells (setA t) 24) := ⟨_, rfl⟩
  have b0 : Blk W0 w.heap.size (setA s) 24 := by rw [hW0]; exact (blkOf1 w _ _).alloc _
  have b1 : Blk W0 (w.heap.size + 1) (setA t) 24 := by rw [hW0]; exact blkOf2 w _ _ _
  have hB0 : Gr w.heap.size w W0 := by rw [hW0]; exact gr2 w _ _
  unfold setV setA byteV at *
  go_enter Try.func19, Try.ntmps19
  go_wp2
  rw [← hW0]
  clear hW0
  obtain ⟨c0, c1, c2, c3, _⟩ := b0.four
  obtain ⟨d0, d1, d2, d3, _⟩ := b1.four
  have q0 := cellG c0
  have q1 := cellG c1
  have q2 := cellG c2
  have q3 := cellG c3
  have r0 := cellG d0
  have r1 := cellG d1
  have r2 := cellG d2
  have r3 := cellG d3
  refine wp_region_quiet_grown mixed (by kernel_rfl) ?_
  iterate 2 go_big_quiet_step (fail)
  go_big_quiet_step (exact callsG (H1.out _))
  iterate 2 go_big_quiet_step (fail)
  go_big_quiet_step (exact callsG (H2.out _))
  go_big_quiet_step (exact callsG (H3.out _))
  go_big_quiet_step (exact callsG (H4.out _))
  repeat (go_big_quiet_step (fail))
  refine wpQuiet_nil ?_
  intro w1 hw'
  obtain ⟨⟨d, os⟩, hw''⟩ := hw'
  have hb := gr_grown W0 d os
  rw [← hw''] at hb
  clear hw'' q0 q1 q2 q3 r0 r1 r2 r3 c0 c1 c2 c3 d0 d1 d2 d3
  obtain ⟨c0, c1, c2, c3, _⟩ := (b0.later hb).four
  have hB1 := gthen hB0 hb
  clear b0 b1 hb hB0
  cases bb with
  | true =>
    go_wp2
    go_ret
    exact ⟨by rw [hc.out]; rfl, hB1⟩
  | false =>
    go_wp2_with fail
    refine (H5.out _).mono ?_
    rintro e w2 ⟨rfl, hb⟩
    cases ht : s.testBit y with
    | true =>
      have hr : Hid (r = -1) := by rw [hc.out, ht]; exact rfl
      clear hc ht
      go_wp2
      go_ret
      exact ⟨by rw [hr.out]; rfl, gthen hB1 hb⟩
    | false =>
      have hr : Hid (r = 1) := by rw [hc.out, ht]; exact rfl
      clear hc ht
      go_wp2
      go_ret
      exact ⟨by rw [hr.out]; rfl, gthen hB1 hb⟩

/-- The set of all bytes in spans. -/
def ofSpans : List (Nat × Nat) → Nat
  | [] => 0
  | x :: l => Sx.or (Sx.range x.1 x.2) (ofSpans l)
theorem ofSpans_snoc (l : List (Nat × Nat)) (x : Nat × Nat) : ofSpans (l ++ [x]) = Sx.or (ofSpans l) (Sx.range x.1 x.2) := by
  induction l with
  | nil => refine Nat.eq_of_testBit_eq fun d => ?_; simp [ofSpans, Sx.tb_or]
  | cons y l ih =>
    refine Nat.eq_of_testBit_eq fun d => ?_
    have := congrArg (fun n => n.testBit d) ih
    simp only [Sx.tb_or] at this
    simp only [List.cons_append, ofSpans, Sx.tb_or, this, Bool.or_assoc]
/-- The cells of spans. -/
def spanCells (l : List (Nat × Nat)) : List Value := l.flatMap fun x => [byteV x.1, byteV x.2]
theorem spanCells_len (l : List (Nat × Nat)) : (spanCells l).length = l.length * 2 := by
  induction l with
  | nil => rfl
  | cons x l ih => simp only [spanCells, List.flatMap_cons, List.length_append] at ih ⊢; rw [ih]; simp; omega
theorem spanCells_get (l : List (Nat × Nat)) (k : Nat) (h : k < l.length) : (spanCells l)[k * 2]? = some (byteV l[k].1) ∧ (spanCells l)[k * 2 + 1]? = some (byteV l[k].2) := by
  induction l generalizing k with
  | nil => cases h
  | cons x l ih =>
    cases k with
    | zero => exact ⟨rfl, rfl⟩
    | succ k =>
      have := ih k (by simpa using h)
      have e : (k + 1) * 2 = k * 2 + 1 + 1 := by omega
      rw [e]
      simpa [spanCells] using this

set_option maxHeartbeats 1000000 in
theorem fromSpans_some (b o cap : Nat) (l : List (Nat × Nat)) (hl : ∀ x ∈ l, x.1 < 256 ∧ x.2 < 256) (w : World) (hb : b < w.heap.size) (hc : ∀ i, i < l.length * 2 → w.cell? ⟨b, o + i, none⟩ = (spanCells l)[i]?) (hlen : l.length * 2 ≤ 140737488355328) :
    Calls Try.prog 36 #[.slice (some ⟨b, o, none⟩) l.length cap] w fun e w' => e = .returned (setV (ofSpans l)) ∧ Gr w.heap.size w w' := by
  have hsr : Hid (ofSpans l = ofSpans (l.take l.length)) := Lib.hid (by rw [List.take_length])
  generalize ofSpans l = t at hsr ⊢
  unfold setV
  go_enter Try.func36, Try.ntmps36
  go_wp2
  go_loopw [8] (fun i wr => ∃ k : Nat, k ≤ l.length ∧ i = .int .i64 k ∧ Blk wr w.heap.size (setA 0) 24 ∧ Blk wr (w.heap.size + 1) (setA (ofSpans (l.take k))) 24 ∧ Gr w.heap.size w wr) (fun i _ => l.length - (intOf i).toNat)
  case atStart =>
    refine ⟨0, by omega, rfl, ?_, ?_, gr2 w _ _⟩
    · rw [setA_zero]; exact (blkOf1 w _ _).alloc _
    · rw [List.take_zero, ofSpans, setA_zero]; exact blkOf2 w _ _ _
  case round =>
    obtain ⟨k, hk, rfl, h0, h1, hB⟩ := hrel
    by_cases hlt : k < l.length
    · obtain ⟨g1, g2⟩ := spanCells_get l k hlt
      have ca : wr.cell? ⟨b, o + k * 2, none⟩ = some (.int .u8 (l[k].1 : Nat)) := by
        rw [hB.cell (p := ⟨b, o + k * 2, none⟩) hb, hc (k * 2) (by omega), g1]; rfl
      have cb : wr.cell? ⟨b, o + k * 2 + 1, none⟩ = some (.int .u8 (l[k].2 : Nat)) := by
        rw [hB.cell (p := ⟨b, o + k * 2 + 1, none⟩) hb, Nat.add_assoc, hc (k * 2 + 1) (by omega), g2]; rfl
      obtain ⟨hx, hy⟩ := hl _ (List.getElem_mem hlt)
      have hts : Hid (ofSpans (l.take (k + 1)) = Sx.or (ofSpans (l.take k)) (Sx.range l[k].1 l[k].2)) := by rw [List.take_succ_eq_append_getElem hlt, ofSpans_snoc]; exact rfl
      clear g1 g2
      generalize l[k].1 = lo at ca hx hts
      generalize l[k].2 = hi at cb hy hts
      have H1 := fun w => range_any lo hi hx hy w
      have H2 := fun w => or_any (ofSpans (l.take k)) (Sx.range lo hi) w
      generalize Sx.or (ofSpans (l.take k)) (Sx.range lo hi) = u at H2 hts
      generalize ofSpans (l.take k) = s at h1 H2
      generalize Sx.range lo hi = r at H1 H2
      clear hx hy
      unfold setV setA at H1 H2
      replace H1 := Lib.hid H1
      replace H2 := Lib.hid H2
      go_wp2
      obtain ⟨W0, hW0⟩ : ∃ W0, W0 = wr.alloc (.cells #[.int .u8 lo, .int .u8 hi] 49) := ⟨_, rfl⟩
      have bx : Blk W0 wr.heap.size #[.int .u8 lo, .int .u8 hi] 49 := by rw [hW0]; exact blkOf1 wr _ _
      have hB0 : Gr wr.heap.size wr W0 := by rw [hW0]; exact gr1 wr _
      rw [← hW0]
      clear hW0 ca cb
      have h0' := h0.later hB0
      have h1' := h1.later hB0
      have hB1 := gthen hB hB0
      clear h0 h1 hB hB0
      have q0 := cellG (bx.cell 0)
      have q1 := cellG (bx.cell 1)
      obtain ⟨d0, d1, d2, d3, _⟩ := Blk.four (show Blk W0 (w.heap.size + 1) #[_, _, _, _] 24 from h1')
      have r0 := cellG d0
      have r1 := cellG d1
      have r2 := cellG d2
      have r3 := cellG d3
      clear d0 d1 d2 d3
      refine wp_region_gr_tail 7 mixed (by kernel_rfl) ?_
      simp only [List.take_succ_cons, List.take_zero, List.drop_succ_cons, List.drop_zero]
      iterate 5 go_big_quiet_step (fail)
      go_big_quiet_step (exact callsG (H1.out _))
      go_big_quiet_step (exact callsG (H2.out _))
      refine wpQuiet_nil ?_
      intro w1 hw'
      obtain ⟨⟨d, os⟩, hw''⟩ := hw'
      have hb1 := gr_grown W0 d os
      rw [← hw''] at hb1
      clear hw'' q0 q1 r0 r1 r2 r3
      have e1 := h1'.later hb1
      have e0 := h0'.later hb1
      have hB2 := gthen hB1 hb1
      clear h1' h0' hb1 hB1 bx
      obtain ⟨d0, d1, d2, d3, f0, f1, f2, f3⟩ := Blk.four (show Blk w1 (w.heap.size + 1) #[_, _, _, _] 24 from e1)
      have es := Lib.hid (Blk.setFour (show Blk w1 (w.heap.size + 1) #[_, _, _, _] 24 from e1) (.int .u64 (Sx.wd u 0)) (.int .u64 (Sx.wd u 1)) (.int .u64 (Sx.wd u 2)) (.int .u64 (Sx.wd u 3)))
      have eo := Lib.hid (e0.otherFour (b' := w.heap.size + 1) (by omega) (.int .u64 (Sx.wd u 0)) (.int .u64 (Sx.wd u 1)) (.int .u64 (Sx.wd u 2)) (.int .u64 (Sx.wd u 3)))
      have hBE := Lib.hid (gfour hB2 (b := w.heap.size + 1) (by omega) (.int .u64 (Sx.wd u 0)) (.int .u64 (Sx.wd u 1)) (.int .u64 (Sx.wd u 2)) (.int .u64 (Sx.wd u 3)))
      clear e0 e1 hB2 H1 H2
      go_wp2
      go_roundw
      case rel => exact ⟨k + 1, by omega, by go_num, eo.out, by rw [hts.out]; exact es.out, hBE.out⟩
      case measure => simp [intOf]; omega
    · obtain rfl : k = l.length := by omega
      rw [← hsr.out] at h1
      rw [setA_zero] at h0
      obtain ⟨c0, c1, c2, c3, _⟩ := Blk.four (show Blk wr (w.heap.size + 1) #[_, _, _, _] 24 from h1)
      obtain ⟨d0, d1, d2, d3, g0, g1, g2, g3⟩ := h0.four
      go_wp2
      refine bodyPost_ret (v := .agg #[_, _, _, _]) (by simp [results, Try.results36, go_sem, *]) rfl ⟨rfl, ?_⟩
      exact gfour hB (by omega) _ _ _ _

set_option maxHeartbeats 1000000 in
theorem fromSpans_none (w : World) : Calls Try.prog 36 #[.slice none 0 0] w fun e w' => e = .returned (setV 0) ∧ Gr w.heap.size w w' := by
  rw [setV_zero]
  go_enter Try.func36, Try.ntmps36
  go_wp2
  refine wp_loop_once ?_
  go_wp2
  refine bodyPost_ret (v := .agg #[_, _, _, _]) (by simp [results, Try.results36, go_sem]) rfl ⟨rfl, ?_⟩
  exact gr2 w _ _

set_option maxHeartbeats 1000000 in
theorem of_none (w : World) : Calls Try.prog 21 #[.slice none 0 0] w fun e w' => e = .returned (setV 0) ∧ Gr w.heap.size w w' := by
  rw [setV_zero]
  go_enter Try.func21, Try.ntmps21
  go_wp2
  refine wp_loop_once ?_
  go_wp2
  refine bodyPost_ret (v := .agg #[_, _, _, _]) (by simp [results, Try.results21, go_sem]) rfl ⟨rfl, ?_⟩
  exact gr2 w _ _

/-- Of, at every slice of bytes. -/
theorem of_any (v : Value) (l : List Nat) (hl : ∀ c ∈ l, c < 256) (w : World) (h : Sl w v 1 l.length (l.map byteV)) (hlen : l.length ≤ maxLen) :
    Calls Try.prog 21 #[v] w fun e w' => e = .returned (setV (Sx.ofL l)) ∧ Gr w.heap.size w w' := by
  obtain ⟨_, ⟨rfl, h0⟩ | ⟨b, o, cap, rfl, hlt, hc⟩⟩ := h
  · obtain rfl : l = [] := List.eq_nil_of_length_eq_zero h0
    exact of_none w
  · exact of_some b o cap l hl w hlt (fun i hi => hc i (by omega)) hlen

/-- FromSpans, at every slice of spans. -/
theorem fromSpans_any (v : Value) (l : List (Nat × Nat)) (hl : ∀ x ∈ l, x.1 < 256 ∧ x.2 < 256) (w : World) (h : Sl w v 2 l.length (spanCells l)) (hlen : l.length * 2 ≤ 140737488355328) :
    Calls Try.prog 36 #[v] w fun e w' => e = .returned (setV (ofSpans l)) ∧ Gr w.heap.size w w' := by
  obtain ⟨_, ⟨rfl, h0⟩ | ⟨b, o, cap, rfl, hlt, hc⟩⟩ := h
  · obtain rfl : l = [] := List.eq_nil_of_length_eq_zero h0
    exact fromSpans_none w
  · exact fromSpans_some b o cap l hl w hlt hc hlen
end Go.Proofs.Ytojmkgllbhbeiaa
namespace Go.Proofs.Ytojmkgllbhbeiaa
open Go.RowKit Go.Shelf
attribute [local go_sem] Oper.semAt_some wide_fn wide_depth

theorem info5 : (Try.prog.info? 5).map (fun i => (i.zero, i.size, i.bytes)) = some (some (.int .u8 0), 1, 1) := by kernel_rfl
def modV (x : Nat) : Value := byteV (x % 256)

set_option maxRecDepth 100000 in
set_option maxHeartbeats 2000000 in
theorem appendSeq_in (s Bn : Nat) (w : World) (hBn : Blk w Bn (setA s) 24) :
    CallsIn Fence.wide 8 Try.prog 116 #[.slice none 0 0, .func (.func 114) #[] #[.pointer (some ⟨Bn, 0, none⟩)]] w fun e W' =>
      ∃ v, e = .returned v ∧ W'.ownsRow w.heap.size 5 1 v (elems s).length ((elems s).map modV) ∧ (v = .slice none 0 0 ↔ elems s = []) ∧ Below w.heap.size w W' := by
  obtain ⟨i0, hi, hz0, hz1, hz2⟩ := info_parts info5
  refine callsIn_of_wp_marks Try.func116 rfl trivial ?_
  simp only [Try.ntmps116, List.size_toArray, List.length_cons, List.length_nil, Nat.reduceAdd, Nat.reduceSub, Array.replicate_succ, Array.replicate_zero, List.push_toArray, List.append_toArray, List.nil_append, List.cons_append]
  have hlt := hBn.lt
  gi_wp2
  have bO := Boxed.new w 44 (.slice none 0 0)
  have hB0 := below1 w (.cells #[.slice none 0 0] 44)
  have hs := hBn.alloc (.cells #[.slice none 0 0] 44)
  refine wpIn_range (gf := 114) (lb := #[.pointer (some ⟨Bn, 0, none⟩)]) rfl (enters_of Try.func114 (by kernel_rfl) rfl)
    (all_stops 7 Bn s _ hs) (fun _ _ _ => keepB_t) (fun _ _ _ hl => World.putObj_heap_other (by simp at hl; omega)) (fun _ => rfl)
    (fun pre W => (∃ v, Boxed W w.heap.size 44 v ∧ W.ownsRow w.heap.size 5 1 v pre.length (pre.map modV) ∧ (v = .slice none 0 0 ↔ pre = [])) ∧ Below w.heap.size w W)
    (fun _ _ _ => False)
    ((Inv.row w.heap.size w.heap.size 44 5 1 (fun pre => pre.length) (fun pre => pre.map modV) (fun pre v => v = .slice none 0 0 ↔ pre = [])).and (Inv.below (Nat.le_refl _) (by simp)))
    (fun _ => Inv.no)
    ⟨⟨_, bO, World.ownsRow_nil _ _ _ _, by simp⟩, hB0⟩
    (fun x => { tmps := #[.slice none 0 0, .func (.func 114) #[] #[.pointer (some ⟨Bn, 0, none⟩)], .pointer (some ⟨w.heap.size, 0, none⟩), undef, .slice none 0 0, byteV (x % 256), .func (.func 114) #[] #[.pointer (some ⟨Bn, 0, none⟩)], byteV (x % 256), undef, undef, undef, undef, undef], defers := [] }) ?assign ?body ?done ?stop
  case assign =>
    intro l x W K hK
    gi_wp2
    exact hK
  case body =>
    rintro l pre x W ⟨⟨v, hv, hrow, hnil⟩, hB⟩ hlt2
    have hc := hv.cell
    unfold byteV
    have HM : Hid (modV x = .int .u8 ((x % 256 : Nat) : Int)) := Lib.hid rfl
    gi_wp2_with (gi_at_builtin; refine wpListIn_append_own _ rfl _ _ 44 rfl w.heap.size 5 i0 (.int .u8 0) 1 1 Try.underlying44 hi hz0 hz1 hz2 rfl (by decide) _ _ _ rfl (hrow.alloc _) ⟨W.heap.size, 0, none⟩ 1 1 [.int .u8 ((x % 256 : Nat) : Int)] rfl rfl (cell_one_new _ _ _) (by simp [Value.oneCell']) (by unfold maxLen; omega) (by omega) (by have := hB.size; simp; omega) ?_; intro v' w1 hown' hgrow _; obtain ⟨g', cap', rfl⟩ := ownsRow_succ hown'; obtain ⟨hv1, hv2, hr2, hk2, hb2⟩ := hv.appended (by decide) hrow hB.size (Nat.le_refl _) hown' hgrow; have hc1 := hv1.cell; have hf1 := hv1.frozen)
    exact ⟨hk2.from _, keepB_below hb2 hlt, ⟨_, hv2, by rw [List.map_append, List.map_singleton, HM.out, List.length_append]; exact hr2, by simp⟩, hB.trans hb2⟩
  case done =>
    rintro D W hD ⟨⟨v, hv, hrow, hnil⟩, hB⟩ hK
    have hc := hv.cell
    gi_wp2
    refine ⟨by simp, .inl ⟨_, _, rfl, run_takeDeferred hK, ?_⟩⟩
    exact ⟨_, results_tmp rfl _ _ _, v, rfl, ownsRow_putObj hrow _ hK rfl, hnil, hB.trans (belowPut _ (by simp at hD; omega))⟩
  case stop =>
    rintro D c pre W _ _ h _
    exact h.elim

theorem map_modV (s : Nat) : (elems s).map modV = (elems s).map byteV := by
  refine List.map_congr_left fun c hc => ?_
  unfold modV; rw [Nat.mod_eq_of_lt (elems_lt hc)]

/-- What an owned row is, as a slice that reads. -/
theorem sl_of_owns {w : World} {base : Nat} {e : TypeId} {k n : Nat} {v : Value} {xs : List Value} (h : w.ownsRow base e k v n xs) : Sl w v k n xs := by
  obtain ⟨hl, ⟨rfl, h0⟩ | ⟨g, cap, cur, rfl, _, hg, _, _, _, ht⟩⟩ := h
  · exact ⟨hl, .inl ⟨rfl, h0⟩⟩
  · refine ⟨hl, .inr ⟨g, 0, cap, rfl, (Array.getElem?_eq_some_iff.1 hg).1, fun i hi => ?_⟩⟩
    have hb : Blk w g cur e := hg
    rw [Nat.zero_add, hb.cell i, ← ht, List.getElem?_take, if_pos hi, Array.getElem?_toList]

/-- A fresh slice: a row of the call's own. -/
def Fresh (B : Nat) (w : World) (v : Value) (e : TypeId) (k n : Nat) (xs : List Value) : Prop := w.ownsRow B e k v n xs ∧ (v = .slice none 0 0 ↔ n = 0)

theorem owns_mono {w : World} {base base' : Nat} {e : TypeId} {k n : Nat} {v : Value} {xs : List Value} (h : w.ownsRow base e k v n xs) (hb : base' ≤ base) : w.ownsRow base' e k v n xs := by
  obtain ⟨hl, h | ⟨g, cap, cur, hv, hg, h⟩⟩ := h
  · exact ⟨hl, .inl h⟩
  · exact ⟨hl, .inr ⟨g, cap, cur, hv, Nat.le_trans hb hg, h⟩⟩

/-- Behind an append to a row whose slice lies in box B: what is kept. -/
theorem appended {W w1 : World} {n₀ n₁ B : Nat} {t e : TypeId} {size : Nat} {v v' : Value} {k m : Nat} {xs ys : List Value} {tmp : Obj}
    (hv : Boxed W B t v) (hte : t ≠ e) (hrow : W.ownsRow n₀ e size v k xs) (hn₀ : n₀ ≤ W.heap.size) (h1 : n₁ ≤ n₀) (hB : n₁ ≤ B)
    (hown' : w1.ownsRow n₀ e size v' m ys) (hgrow : (W.alloc tmp).grownBy w1 v.ownBlock) :
    Boxed w1 B t v ∧ Boxed (w1.setCell ⟨B, 0, none⟩ v') B t v' ∧ (w1.setCell ⟨B, 0, none⟩ v').ownsRow n₀ e size v' m ys ∧ KeepsOthers W (w1.setCell ⟨B, 0, none⟩ v') ∧ Below n₁ W (w1.setCell ⟨B, 0, none⟩ v') ∧
      ∀ b, b < n₀ → b ≠ B → KeepB b W (w1.setCell ⟨B, 0, none⟩ v') := by
  obtain ⟨a1, a2, _, a4, a5⟩ := hv.appended hte (owns_mono hrow h1) (Nat.le_trans h1 hn₀) hB (owns_mono hown' h1) hgrow
  refine ⟨a1, a2, hown'.kept (grownBy_setCell' w1 B v') (.inr (a1.not_row hte hown').symm), a4, a5, fun b hb hne => ?_⟩
  refine keepB_t ?_ (keepB_set (p := ⟨B, 0, none⟩) v' hne)
  refine (hgrow.block b (by simp; omega) fun e' => ?_).trans (Below.heap_alloc W tmp b (by omega))
  have := ((hrow.alloc tmp).lt b e'.symm).1
  omega

def RetBytes (s : Nat) (w : World) (e : Ending) (w' : World) : Prop := ∃ v, e = .returned v ∧ Fresh w.heap.size w' v 5 1 (elems s).length ((elems s).map byteV) ∧ Below w.heap.size w w'

set_option maxHeartbeats 1000000 in
theorem collect_any (s Bn : Nat) (w : World) (hBn : Blk w Bn (setA s) 24) :
    Calls Try.prog 92 #[.func (.func 114) #[] #[.pointer (some ⟨Bn, 0, none⟩)]] w (RetBytes s w) := by
  have H := Lib.hid (callsIn_wide.1 (appendSeq_in s Bn w hBn))
  go_enter Try.func92, Try.ntmps92
  go_wp2_with fail
  refine H.out.mono ?_
  rintro e w1 ⟨v, rfl, hrow, hnil, hB⟩
  clear H
  go_wp2
  go_ret
  exact ⟨v, rfl, ⟨by rw [← map_modV]; exact hrow, by rw [hnil, List.length_eq_zero_iff]⟩, hB⟩

set_option maxHeartbeats 1000000 in
theorem bytes_any (s : Nat) (w : World) : Calls Try.prog 34 #[setV s] w (RetBytes s w) := by
  unfold setV setA
  go_enter Try.func34, Try.ntmps34
  go_wp2_with fail
  refine (iter_any s _).mono ?_
  rintro e w0 ⟨rfl, hb, hs⟩
  have hB := bthen (below1 w _) hb.below
  clear hb
  simp only [World.size_alloc] at hs
  go_wp2_with fail
  refine (collect_any s _ w0 hs).mono ?_
  rintro e w1 ⟨v, rfl, ⟨⟨hl, hrow⟩, hnil⟩, hB1⟩
  clear hs
  go_wp2
  go_ret
  refine ⟨v, rfl, ⟨⟨hl, ?_⟩, hnil⟩, bthen hB hB1⟩
  rcases hrow with h | ⟨g, cap, cur, hv, hg, h⟩
  · exact .inl h
  · exact .inr ⟨g, cap, cur, hv, Nat.le_trans hB.size hg, h⟩
end Go.Proofs.Ytojmkgllbhbeiaa
namespace Go.Proofs.Ytojmkgllbhbeiaa
open Go.RowKit Go.Shelf
attribute [local go_sem] Oper.semAt_some wide_fn wide_depth

/-- One byte more. -/
def spStep (acc : List (Nat × Nat)) (c : Nat) : List (Nat × Nat) :=
  match acc.getLast? with
  | some x => if x.2 = (c + 255) % 256 then acc.dropLast ++ [(x.1, c)] else acc ++ [(c, c)]
  | none => [(c, c)]
def spansOf (l : List Nat) : List (Nat × Nat) := (l.map (· % 256)).foldl spStep []
theorem spansOf_snoc (l : List Nat) (x : Nat) : spansOf (l ++ [x]) = spStep (spansOf l) (x % 256) := by simp [spansOf]
theorem spStep_len (acc : List (Nat × Nat)) (c : Nat) : (spStep acc c).length ≤ acc.length + 1 := by
  unfold spStep
  cases h : acc.getLast? with
  | none => simp
  | some x => dsimp only; split <;> simp
theorem spansOf_len (l : List Nat) : (spansOf l).length ≤ l.length := by
  unfold spansOf
  suffices ∀ (l : List Nat) (acc : List (Nat × Nat)), (l.foldl spStep acc).length ≤ acc.length + l.length by
    have := this (l.map (· % 256)) []; simpa using this
  intro l
  induction l with
  | nil => intro acc; simp
  | cons c l ih => intro acc; have := ih (spStep acc c); have := spStep_len acc c; simp only [List.foldl_cons, List.length_cons]; omega
theorem spanCells_snoc (l : List (Nat × Nat)) (x : Nat × Nat) : spanCells (l ++ [x]) = spanCells l ++ [byteV x.1, byteV x.2] := by simp [spanCells]

theorem owns_set {w : World} {base : Nat} {e : TypeId} {k n g cap : Nat} {xs : List Value} (h : w.ownsRow base e k (.slice (some ⟨g, 0, none⟩) n cap) n xs) (j : Nat) (u : Value) :
    (w.setCell ⟨g, j, none⟩ u).ownsRow base e k (.slice (some ⟨g, 0, none⟩) n cap) n (xs.set j u) := by
  obtain ⟨hl, ⟨h1, _⟩ | ⟨g', cap', cur, hv, hb, hg, hn, hm, hs, ht⟩⟩ := h
  · cases h1
  · cases hv
    have hblk : Blk w g cur e := hg
    refine ⟨by simpa using hl, .inr ⟨g, cap, _, rfl, hb, hblk.set j u, hn, hm, by simpa using hs, ?_⟩⟩
    rw [Array.toList_setIfInBounds, ← ht, List.take_set]

theorem cell_news (W : World) (cs : Array Value) (t : TypeId) (l : List Value) (h : cs.toList = l) : ∀ j u, l[j]? = some u → (W.alloc (.cells cs t)).cell? ((⟨W.heap.size, 0, none⟩ : Addr).add j) = some u := by
  intro j u hu
  have hadd : (⟨W.heap.size, 0, none⟩ : Addr).add j = ⟨W.heap.size, j, none⟩ := by unfold Addr.add; split <;> simp_all
  rw [hadd, (Blk.new W cs t).cell j, ← Array.getElem?_toList, h, hu]
theorem owns_cell {w : World} {base : Nat} {e : TypeId} {k n g cap : Nat} {xs : List Value} (h : w.ownsRow base e k (.slice (some ⟨g, 0, none⟩) n cap) n xs) (j : Nat) (u : Value) (hu : xs[j]? = some u) :
    w.cell? ⟨g, j, none⟩ = some u ∧ w.frozen? ⟨g, j, none⟩ = false := by
  obtain ⟨hl, ⟨h1, _⟩ | ⟨g', cap', cur, hv, hb, hg, hn, hm, hs, ht⟩⟩ := h
  · cases h1
  · cases hv
    have hblk : Blk w g cur e := hg
    refine ⟨?_, hblk.frozen j⟩
    rw [hblk.cell j, ← Array.getElem?_toList]
    rw [← ht, List.getElem?_take] at hu
    split at hu
    · exact hu
    · cases hu

theorem info49 : (Try.prog.info? 49).map (fun i => (i.zero, i.size, i.bytes)) = some (some (.agg #[.int .u8 0, .int .u8 0]), 2, 2) := by kernel_rfl

set_option maxRecDepth 100000 in
set_option maxHeartbeats 2000000 in
theorem spans_in (s : Nat) (w : World) :
    CallsIn Fence.wide 9 Try.prog 35 #[setV s] w fun e W' =>
      ∃ v, e = .returned v ∧ W'.ownsRow w.heap.size 49 2 v (spansOf (elems s)).length (spanCells (spansOf (elems s))) ∧ (v = .slice none 0 0 ↔ spansOf (elems s) = []) ∧ Below w.heap.size w W' := by
  obtain ⟨i0, hi, hz0, hz1, hz2⟩ := info_parts info49
  refine callsIn_of_wp_marks Try.func35 rfl trivial ?_
  unfold setV setA
  simp only [Try.ntmps35, List.size_toArray, List.length_cons, List.length_nil, Nat.reduceAdd, Nat.reduceSub, Array.replicate_succ, Array.replicate_zero, List.push_toArray, List.append_toArray, List.nil_append, List.cons_append]
  gi_wp2_with fail
  refine wpIn_wide.2 (wp_scope_straight ((wpIn_wide (n := 9)).1 ?_))
  gi_wp2_with fail
  refine wpIn_label ?_
  gi_wp2_with fail
  refine (callsIn_wide.2 (iter_any s _)).mono ?_
  rintro e w0 ⟨rfl, hb, hs⟩
  have bO : Boxed w0 (w.heap.size + 1) 42 (.slice none 0 0) := (blkOf2 w _ _ _).later hb
  have hB0 := bthen (below2 w _ _) hb.below
  simp only [World.size_alloc] at hs
  clear hb
  have hlt := bO.lt
  have hlt3 := hs.lt
  gi_wp2
  refine wpIn_range (gf := 114) (lb := #[.pointer (some ⟨w.heap.size + 1 + 1, 0, none⟩)]) rfl (enters_of Try.func114 (by kernel_rfl) rfl)
    (all_stops 8 (w.heap.size + 1 + 1) s _ hs) (fun _ _ _ => keepB_t) (fun _ _ _ hl => World.putObj_heap_other (by omega)) (fun _ => rfl)
    (fun pre W => (∃ v, Boxed W (w.heap.size + 1) 42 v ∧ W.ownsRow w0.heap.size 49 2 v (spansOf pre).length (spanCells (spansOf pre)) ∧ (v = .slice none 0 0 ↔ spansOf pre = [])) ∧ KeepB (w.heap.size + 1 + 1) w0 W ∧ Below w.heap.size w W ∧ w0.heap.size ≤ W.heap.size)
    (fun _ _ _ => False) ?own
    (fun _ => Inv.no)
    ⟨⟨_, bO, World.ownsRow_nil _ _ _ _, by simp [spansOf]⟩, rfl, hB0, Nat.le_refl _⟩
    (fun x => { tmps := #[.agg #[.int .u64 (Sx.wd s 0), .int .u64 (Sx.wd s 1), .int .u64 (Sx.wd s 2), .int .u64 (Sx.wd s 3)], .pointer (some ⟨w.heap.size, 0, none⟩), .slice none 0 0, .pointer (some ⟨w.heap.size + 1, 0, none⟩), byteV (x % 256), undef, .agg #[.int .u64 (Sx.wd s 0), .int .u64 (Sx.wd s 1), .int .u64 (Sx.wd s 2), .int .u64 (Sx.wd s 3)], .func (.func 114) #[] #[.pointer (some ⟨w.heap.size + 1 + 1, 0, none⟩)], byteV (x % 256), undef, undef, undef, undef, undef, undef, undef, undef, undef, undef, undef, undef, undef, undef, undef, undef, undef, undef, undef, undef, undef, undef, undef, undef, undef, undef, undef, undef], defers := [] }) ?assign ?body ?done ?stop
  case own =>
    exact (Inv.row w0.heap.size (w.heap.size + 1) 42 49 2 (fun pre => (spansOf pre).length) (fun pre => spanCells (spansOf pre)) (fun pre v => v = .slice none 0 0 ↔ spansOf pre = [])).and
      ((Inv.keepB hlt3 hlt3).and ((Inv.below (Nat.le_refl _) (show w.heap.size ≤ w0.heap.size by omega)).and (Inv.size _)))
  case assign =>
    intro l x W K hK
    gi_wp2
    exact hK
  case body =>
    rintro l pre x W ⟨⟨v, hv, hrow, hnil⟩, hk, hB, hsz⟩ hlt2
    have hc := hv.cell
    have hcl : x % 256 < 256 := Nat.mod_lt _ (by decide)
    have hstep := Lib.hid (spansOf_snoc pre x)
    have hlen := spansOf_len pre
    unfold byteV
    generalize x % 256 = c at hcl hstep
    rcases List.eq_nil_or_concat (spansOf pre) with he | ⟨acc, ⟨lo, hh⟩, he⟩
    · rw [he] at hrow
      obtain rfl := hnil.2 he
      replace hrow : W.ownsRow w0.heap.size 49 2 (.slice none 0 0) 0 [] := hrow
      clear hnil
      have HS : Hid (spansOf (pre ++ [x]) = [(c, c)]) := by rw [hstep.out, he]; exact rfl
      clear hstep he hlen
      gi_wp2_with (gi_at_builtin; go_must (refine wpListIn_append_own _ rfl _ _ 42 rfl w0.heap.size 49 i0 (.agg #[.int .u8 0, .int .u8 0]) 2 2 Try.underlying42 hi hz0 hz1 hz2 rfl (by decide) _ _ _ rfl (hrow.alloc _) ⟨W.heap.size, 0, none⟩ 1 1 [.int .u8 (c : Nat), .int .u8 (c : Nat)] rfl rfl (cell_news _ _ _ _ rfl) (by simp [Value.oneCell']) (by unfold maxLen; omega) (by omega) (by simp; omega) ?_); intro v' w1 hown' hgrow _; obtain ⟨g', cap', rfl⟩ := ownsRow_succ hown'; obtain ⟨hv1, hv2, hr2, hk2, hb2, hkb⟩ := appended hv (by decide) hrow hsz (show w.heap.size ≤ w0.heap.size by omega) (show w.heap.size ≤ w.heap.size + 1 by omega) hown' hgrow; have hc1 := hv1.cell; have hf1 := hv1.frozen)
      have hkB := hkb (w.heap.size + 1 + 1) hlt3 (by omega)
      exact ⟨hk2.from _, hkB, ⟨⟨_, hv2, by rw [HS.out]; exact hr2, by rw [HS.out]; simp⟩, keepB_t hk hkB, hB.trans hb2, Nat.le_trans hsz hk2.size⟩⟩
    · have hl2 : (spansOf pre).length = acc.length + 1 := by rw [he]; simp
      have hcl2 : spanCells (spansOf pre) = spanCells acc ++ [byteV lo, byteV hh] := by rw [he, List.concat_eq_append, spanCells_snoc]
      rw [hl2, hcl2] at hrow
      have hsl := spanCells_len acc
      obtain ⟨g, cap, rfl⟩ := ownsRow_succ hrow
      obtain ⟨hcc, hff⟩ := owns_cell hrow (acc.length * 2 + 1) (byteV hh) (by rw [← hsl, List.getElem?_append_right (by omega)]; simp)
      unfold byteV at hcc
      have hml : acc.length < 256 := by omega
      by_cases heq : hh = (c + 255) % 256
      · have HS : Hid (spansOf (pre ++ [x]) = acc ++ [(lo, c)]) := by
          rw [hstep.out, he, List.concat_eq_append, spStep, List.getLast?_concat]; dsimp only; rw [if_pos heq, List.dropLast_concat]; exact rfl
        have hbt : (((hh : Nat) : Int) == ((c : Int) - 1) % 256) = true := by rw [beq_iff_eq]; omega
        clear hstep he hl2 hcl2 hnil heq
        gi_wp2
        have hgb := (hrow.lt g rfl).1
        have hne : w.heap.size + 1 ≠ g := fun e => hv.not_row (by decide) hrow (by rw [e]; rfl)
        have hr2 := owns_set hrow (acc.length * 2 + 1) (.int .u8 (c : Nat))
        have hset : (spanCells acc ++ [byteV lo, byteV hh]).set (acc.length * 2 + 1) (.int .u8 (c : Nat)) = spanCells (acc ++ [(lo, c)]) := by
          rw [spanCells_snoc, List.set_append, if_neg (by omega), hsl, Nat.add_sub_cancel_left]; rfl
        rw [hset] at hr2
        have hkB : KeepB (w.heap.size + 1 + 1) W (W.setCell ⟨g, acc.length * 2 + 1, none⟩ (.int .u8 (c : Nat))) := keepB_set _ (by show _ ≠ g; omega)
        exact ⟨(KeepsOthers.setCell _ _ _).from _, hkB, ⟨⟨_, Blk.other (show Blk W (w.heap.size + 1) _ 42 from hv) (p := ⟨g, acc.length * 2 + 1, none⟩) hne _, by rw [HS.out, List.length_append]; exact hr2, by rw [HS.out]; simp⟩, keepB_t hk hkB, hB.setCell (by show _ ≤ g; omega) _, by simpa using hsz⟩⟩
      · have HS : Hid (spansOf (pre ++ [x]) = acc ++ [(lo, hh)] ++ [(c, c)]) := by
          rw [hstep.out, he, List.concat_eq_append, spStep, List.getLast?_concat]; dsimp only; rw [if_neg heq]; exact rfl
        have hbt : (((hh : Nat) : Int) == ((c : Int) - 1) % 256) = false := by rw [beq_eq_false_iff_ne]; omega
        clear hstep he hl2 hcl2 hnil heq
        gi_wp2_with (gi_at_builtin; go_must (refine wpListIn_append_own _ rfl _ _ 42 rfl w0.heap.size 49 i0 (.agg #[.int .u8 0, .int .u8 0]) 2 2 Try.underlying42 hi hz0 hz1 hz2 rfl (by decide) _ _ _ rfl (hrow.alloc _) ⟨W.heap.size, 0, none⟩ 1 1 [.int .u8 (c : Nat), .int .u8 (c : Nat)] rfl rfl (cell_news _ _ _ _ rfl) (by simp [Value.oneCell']) (by unfold maxLen; omega) (by omega) (by simp; omega) ?_); intro v' w1 hown' hgrow _; obtain ⟨g', cap', rfl⟩ := ownsRow_succ hown'; obtain ⟨hv1, hv2, hr2, hk2, hb2, hkb⟩ := appended hv (by decide) hrow hsz (show w.heap.size ≤ w0.heap.size by omega) (show w.heap.size ≤ w.heap.size + 1 by omega) hown' hgrow; have hc1 := hv1.cell; have hf1 := hv1.frozen)
        have hkB := hkb (w.heap.size + 1 + 1) hlt3 (by omega)
        have hr3 := hr2
        rw [List.append_assoc] at hr3
        exact ⟨hk2.from _, hkB, ⟨⟨_, hv2, by rw [HS.out, spanCells_snoc, spanCells_snoc]; simpa [byteV] using hr2, by rw [HS.out]; simp⟩, keepB_t hk hkB, hB.trans hb2, Nat.le_trans hsz hk2.size⟩⟩
  case done =>
    rintro D W hD ⟨⟨v, hv, hrow, hnil⟩, hk, hB, hsz⟩ hK
    have hc := hv.cell
    gi_wp2
    rw [Exit.noGoto_ret]
    refine ⟨by simp, .inl ⟨_, _, rfl, run_takeDeferred hK, ?_⟩⟩
    refine ⟨_, results_tmp rfl _ _ _, v, rfl, ?_, hnil, hB.trans (belowPut _ (by omega))⟩
    obtain ⟨hl, h | ⟨g, cap, cur, hv', hg, h⟩⟩ := ownsRow_putObj hrow (.deferred none) hK rfl
    · exact ⟨hl, .inl h⟩
    · exact ⟨hl, .inr ⟨g, cap, cur, hv', by omega, h⟩⟩
  case stop =>
    rintro D c pre W _ _ h _
    exact h.elim

def RetSpans (s : Nat) (w : World) (e : Ending) (w' : World) : Prop := ∃ v, e = .returned v ∧ Fresh w.heap.size w' v 49 2 (spansOf (elems s)).length (spanCells (spansOf (elems s))) ∧ Below w.heap.size w w'
theorem spans_any (s : Nat) (w : World) : Calls Try.prog 35 #[setV s] w (RetSpans s w) :=
  (callsIn_wide.1 (spans_in s w)).mono fun _ _ ⟨v, he, hr, hn, hB⟩ => ⟨v, he, ⟨hr, by rw [hn, List.length_eq_zero_iff]⟩, hB⟩
end Go.Proofs.Ytojmkgllbhbeiaa
namespace Go.Proofs.Ytojmkgllbhbeiaa
open Go.RowKit

def got (o : Oper) (a : Act) : Value := match o.dst with | some d => a.tmps.getD d undef | none => undef
def putAll (vs : Nat → Value) : List Oper → Nat → Act → Act
  | [], _, a => a
  | o :: l, k, a => putAll vs l (k + 1) (a.put o.dst (vs k))
def preds (o : Oper) : List Nat := (o.after.toList.filter (fun e => Region.binds .any e)).map (·.on)
def upd (vs : Nat → Value) (i : Nat) (v : Value) : Nat → Value := fun k => if k = i then v else vs k
def monoB (n : Nat) : List Oper → Nat → Bool
  | [], _ => true
  | o :: l, k => ((preds o).all (fun e => decide (e < k)) && (match o.dst with | some d => decide (d < n) && l.all (fun o' => o'.dst != some d) | none => true)) && monoB n l (k + 1)
def oneV (a : Act) (G : Value → World → Prop) (o : Oper) : Exit → Act → World → Prop
  | .normal, a', w' => ∃ v, a' = a.put o.dst v ∧ G v w'
  | _, _, _ => False

theorem upd_same (vs : Nat → Value) (i : Nat) (v : Value) : upd vs i v i = v := by simp [upd]
theorem upd_ne (vs : Nat → Value) (i : Nat) (v : Value) {k : Nat} (h : k ≠ i) : upd vs i v k = vs k := by simp [upd, h]

theorem put_got (a : Act) (o : Oper) : a.put o.dst (got o a) = a := by
  unfold got Act.put
  cases o.dst with
  | none => rfl
  | some d =>
    cases a with
    | mk t ds =>
      simp only [Act.mk.injEq, and_true]
      apply Array.ext
      · simp
      · intro i h1 h2
        rw [Array.getElem_setIfInBounds]
        split
        · rename_i h; subst h; simp [h2]
        · rfl
theorem put_put (a : Act) (d : Option Tmp) (u v : Value) : (a.put d u).put d v = a.put d v := by
  unfold Act.put
  cases d with
  | none => rfl
  | some d => simp only [Array.setIfInBounds_setIfInBounds]
theorem got_put {n : Nat} (a : Act) (o : Oper) (v : Value) (hsz : a.tmps.size = n) (h : ∀ d, o.dst = some d → d < n) : a.put o.dst (got o (a.put o.dst v)) = a.put o.dst v := by
  unfold got Act.put
  cases hd : o.dst with
  | none => rfl
  | some d => have := h d hd; subst hsz; simp [this]

theorem putAll_start (l : List Oper) (a : Act) : ∀ k (vs : Nat → Value), (∀ j, (h : j < l.length) → vs (k + j) = got l[j] a) → putAll vs l k a = a := by
  induction l with
  | nil => intro k vs h; rfl
  | cons o l ih =>
    intro k vs h
    have h0 := h 0 (by simp)
    simp only [Nat.add_zero, List.getElem_cons_zero] at h0
    rw [putAll, h0, put_got]
    exact ih (k + 1) vs fun j hj => by have := h (j + 1) (by simpa using hj); rw [show k + 1 + j = k + (j + 1) by omega, this]; simp
theorem putAll_congr (l : List Oper) (a : Act) : ∀ k (vs vs' : Nat → Value), (∀ j, k ≤ j → vs j = vs' j) → putAll vs l k a = putAll vs' l k a := by
  induction l generalizing a with
  | nil => intro k vs vs' h; rfl
  | cons o l ih => intro k vs vs' h; rw [putAll, putAll, h k (Nat.le_refl _)]; exact ih _ _ _ _ fun j hj => h j (by omega)
theorem putAll_put_far (l : List Oper) (d : Option Tmp) (v : Value) : ∀ (k : Nat) (vs : Nat → Value) (a : Act), (∀ o ∈ l, ∀ x, o.dst = some x → d ≠ some x) → (putAll vs l k a).put d v = putAll vs l k (a.put d v) := by
  induction l with
  | nil => intro k vs a h; rfl
  | cons o l ih =>
    intro k vs a h
    rw [putAll, putAll, ih _ _ _ (fun o' ho' => h o' (List.mem_cons_of_mem _ ho'))]
    rw [Act.put_comm a (vs k) v (fun x hx => h o List.mem_cons_self x hx)]
theorem putAll_upd {n : Nat} (l : List Oper) : ∀ (k i : Nat) (vs : Nat → Value) (a : Act) (v : Value), monoB n l k = true → (hi : i < l.length) → (putAll vs l k a).put l[i].dst v = putAll (upd vs (k + i) v) l k a := by
  induction l with
  | nil => intro k i vs a v h hi; cases hi
  | cons o l ih =>
    intro k i vs a v h hi
    simp only [monoB, Bool.and_eq_true] at h
    obtain ⟨⟨_, h1⟩, h2⟩ := h
    cases i with
    | zero =>
      simp only [List.getElem_cons_zero, Nat.add_zero]
      rw [putAll, putAll, upd_same, putAll_put_far, put_put]
      · exact putAll_congr _ _ _ _ _ fun j hj => (upd_ne _ _ _ (by omega)).symm
      · intro o' ho' x hx he
        rw [he] at h1
        simp only [Bool.and_eq_true, List.all_eq_true] at h1
        have := h1.2 o' ho'
        rw [hx] at this
        simp at this
    | succ i =>
      simp only [List.getElem_cons_succ]
      rw [putAll, putAll, upd_ne _ _ _ (by omega), ih (k + 1) i _ _ _ h2 (by simpa using hi), show k + 1 + i = k + (i + 1) by omega]
theorem putAll_size (l : List Oper) : ∀ (k : Nat) (vs : Nat → Value) (a : Act), (putAll vs l k a).tmps.size = a.tmps.size ∧ (putAll vs l k a).defers = a.defers := by
  induction l with
  | nil => intro k vs a; exact ⟨rfl, rfl⟩
  | cons o l ih =>
    intro k vs a
    rw [putAll]
    obtain ⟨h1, h2⟩ := ih (k + 1) vs (a.put o.dst (vs k))
    rw [h1, h2]
    unfold Act.put
    cases o.dst <;> simp
theorem monoB_at {n : Nat} (l : List Oper) : ∀ (k i : Nat), monoB n l k = true → (hi : i < l.length) → (∀ e ∈ preds l[i], e < k + i) ∧ ∀ d, l[i].dst = some d → d < n := by
  induction l with
  | nil => intro k i h hi; cases hi
  | cons o l ih =>
    intro k i h hi
    simp only [monoB, Bool.and_eq_true, List.all_eq_true, decide_eq_true_eq] at h
    obtain ⟨⟨h0, h1⟩, h2⟩ := h
    cases i with
    | zero =>
      refine ⟨fun e he => by simpa using h0 e he, fun d hd => ?_⟩
      simp only [List.getElem_cons_zero] at hd
      rw [hd] at h1
      simp only [Bool.and_eq_true, decide_eq_true_eq] at h1
      exact h1.1
    | succ i =>
      have := ih (k + 1) i h2 (by simpa using hi)
      rw [show k + 1 + i = k + (i + 1) by omega] at this
      exact this

def dstAt (l : List Oper) (j : Nat) : Option Tmp := (l[j]?).bind (·.dst)
def freeOf (l : List Oper) (t : Tmp) : Bool := l.all fun o => o.dst != some t

theorem putAll_far (l : List Oper) (t : Tmp) : ∀ (k : Nat) (vs : Nat → Value) (a : Act), (∀ o ∈ l, o.dst ≠ some t) → (putAll vs l k a).tmps.getD t undef = a.tmps.getD t undef := by
  induction l with
  | nil => intro k vs a h; rfl
  | cons o l ih =>
    intro k vs a h
    rw [putAll, ih _ _ _ (fun o' ho' => h o' (List.mem_cons_of_mem _ ho'))]
    have h0 := h o List.mem_cons_self
    unfold Act.put
    cases hd : o.dst with
    | none => rfl
    | some d =>
      have : d ≠ t := fun e => h0 (by rw [hd, e])
      simp [Array.getElem?_setIfInBounds_ne this]
theorem putAll_near {n : Nat} (l : List Oper) : ∀ (k j : Nat) (vs : Nat → Value) (a : Act) (t : Tmp), monoB n l k = true → a.tmps.size = n → dstAt l j = some t → (putAll vs l k a).tmps.getD t undef = vs (k + j) := by
  induction l with
  | nil => intro k j vs a t _ _ h; simp [dstAt] at h
  | cons o l ih =>
    intro k j vs a t h hsz hd
    simp only [monoB, Bool.and_eq_true] at h
    obtain ⟨⟨_, h1⟩, h2⟩ := h
    cases j with
    | zero =>
      simp only [dstAt, List.getElem?_cons_zero, Option.bind_some] at hd
      rw [putAll, putAll_far]
      · rw [hd] at h1
        simp only [Bool.and_eq_true, decide_eq_true_eq] at h1
        unfold Act.put
        rw [hd]
        subst hsz
        simp [h1.1]
      · intro o' ho' he
        rw [hd] at h1
        simp only [Bool.and_eq_true, List.all_eq_true] at h1
        have := h1.2 o' ho'
        rw [he] at this
        simp at this
    | succ j =>
      rw [putAll, ih (k + 1) j vs _ t h2 (by unfold Act.put; cases o.dst <;> simpa using hsz) (by simpa [dstAt] using hd), show k + 1 + j = k + (j + 1) by omega]

/-- The steps, one by one; 'a' is whatever frame there is: the step is told what it holds. -/
def MonoSteps (P : Program) (l : List Oper) (a0 : Act) (R : World → Prop) (T : World → World → Prop) (F : Nat → (Nat → Value) → World → Prop) : List Oper → Nat → Prop
  | [], _ => True
  | o :: rest, i => (∀ (vs : Nat → Value) (a : Act) (w : World), R w → (∀ j ∈ preds o, F j vs w) → (∀ j t, dstAt l j = some t → a.tmps.getD t undef = vs j) → (∀ t, freeOf l t = true → a.tmps.getD t undef = a0.tmps.getD t undef) →
      (∀ j t, dstAt l j = some t → (a.tmps[t]?) = some (vs j)) →
      wpList P l.toArray (oneV a (fun v w' => R w' ∧ T w w' ∧ F i (upd vs i v) w') o) [o] a w) ∧ MonoSteps P l a0 R T F rest (i + 1)

theorem MonoSteps.at {P : Program} {l : List Oper} {a0 : Act} {R : World → Prop} {T : World → World → Prop} {F : Nat → (Nat → Value) → World → Prop} (l' : List Oper) : ∀ (k i : Nat), MonoSteps P l a0 R T F l' k → (hi : i < l'.length) →
    ∀ (vs : Nat → Value) (a : Act) (w : World), R w → (∀ j ∈ preds l'[i], F j vs w) → (∀ j t, dstAt l j = some t → a.tmps.getD t undef = vs j) → (∀ t, freeOf l t = true → a.tmps.getD t undef = a0.tmps.getD t undef) →
      (∀ j t, dstAt l j = some t → (a.tmps[t]?) = some (vs j)) →
      wpList P l.toArray (oneV a (fun v w' => R w' ∧ T w w' ∧ F (k + i) (upd vs (k + i) v) w') l'[i]) [l'[i]] a w := by
  induction l' with
  | nil => intro k i _ hi; cases hi
  | cons o l' ih =>
    intro k i h hi
    cases i with
    | zero => exact h.1
    | succ i =>
      have := ih (k + 1) i h.2 (by simpa using hi)
      rw [show k + 1 + i = k + (i + 1) by omega] at this
      exact this

theorem wp_of_one {P : Program} {o : Oper} {a : Act} {w : World} {G : Value → World → Prop} {ops : Array Oper} {i : Nat} {Q : Exit → Act → World → Prop} {K : Act → World → Prop}
    (ho : ops[i]? = some o) (hK : ∀ v w', G v w' → K (a.put o.dst v) w') (h : wpList P ops (oneV a G o) [o] a w) : wpOp P ops Q i K a w := by
  have hnl : ¬ LetsOut (oneV a G o) := fun ⟨_, _, h⟩ => h
  unfold wpList at h
  unfold wpOp
  simp only [ho]
  have hput : ∀ a' w', wpList P ops (oneV a G o) [] a' w' → K a' w' := fun a' w' ⟨v, he, hG⟩ => by
    rw [he]; exact hK v w' hG
  by_cases hw : Region.wanted o (yielded ops a.tmps) = true
  · simp only [hw, if_true] at h ⊢
    rcases h with h | ⟨_, h⟩
    · refine .inl ?_
      unfold Oper.wp at h ⊢
      generalize (execOp a.eval o).run P w = r at h
      cases r with
      | halt x w' => cases x <;> simp only [Oper.upon] at h ⊢ <;> first | exact h.elim | exact h
      | ok nx w' =>
        cases nx <;> simp only [Oper.upon] at h ⊢
        case value v => exact hput _ _ h
        case skip => exact hput _ _ h
        case defer d => exact hput _ _ h
        case enter f args =>
          refine h.mono fun e w'' he => ?_
          cases e with
          | returned v => exact hput _ _ he
          | panicked c => exact he.elim
          | outgrown => exact (hnl he).elim
        case row r args => exact h.mono fun v w'' he => hput _ _ he
    · exact (hnl h).elim
  · simp only [hw] at h ⊢
    exact hput _ _ h

/-- How many are not listed yet. -/
def undone (l : List Bool) : Nat := l.count false
theorem undone_set (l : List Bool) : ∀ i, l.getD i true = false → undone (l.set i true) + 1 = undone l := by
  unfold undone
  induction l with
  | nil => intro i h; simp at h
  | cons b l ih =>
    intro i h
    cases i with
    | zero => simp at h; subst h; simp
    | succ i =>
      have := ih i (by simpa using h)
      simp only [List.set_cons_succ, List.count_cons]
      omega
theorem undone_pos (l : List Bool) (h : undone l = 0) : ∀ i, l.getD i true = true := by
  intro i
  unfold undone at h
  rw [List.count_eq_zero] at h
  by_cases hi : i < l.length
  · simp only [List.getD_eq_getElem?_getD, List.getElem?_eq_getElem hi, Option.getD_some]
    cases hb : l[i] with
    | true => rfl
    | false => exact absurd (hb ▸ List.getElem_mem hi) h
  · simp [List.getElem?_eq_none (by omega : l.length ≤ i)]

theorem wpAny_mono {P : Program} {n : Nat} {l : List Oper} {a0 : Act} {R : World → Prop} {T : World → World → Prop} {F : Nat → (Nat → Value) → World → Prop} {Q : Exit → Act → World → Prop}
    (hB : monoB n l 0 = true) (hsz : a0.tmps.size = n)
    (hloc : ∀ k (hk : k < l.length) vs vs' w, vs k = vs' k → (∀ j ∈ preds l[k], vs j = vs' j) → F k vs w → F k vs' w)
    (hst : ∀ k vs w w', R w → T w w' → F k vs w → F k vs w')
    (hsteps : MonoSteps P l a0 R T F l 0)
    (hend : ∀ vs w, R w → (∀ k, k < l.length → F k vs w) → Q .normal (putAll vs l 0 a0) w) :
    ∀ (f : Nat) (listed : Array Bool) (vs : Nat → Value) (w : World), listed.size = l.length → undone listed.toList = f → R w → (∀ k (hk : k < l.length), listed.getD k true = true → F k vs w ∧ ∀ j ∈ preds l[k], listed.getD j true = true) →
      wpAny P .any l.toArray Q f listed (putAll vs l 0 a0) w := by
  have hgl : ∀ (A : Array Bool) i, A.getD i true = A.toList.getD i true := fun A i => by simp
  have hget : ∀ i (hi : i < l.length), l.toArray[i]? = some l[i] := fun i hi => by simp [hi]
  have hbt : ∀ (A : Array Bool) i, i < l.length → A.size = l.length → (A.getD i false = true ↔ A.getD i true = true) := fun A i hi hA => by
    have : i < A.size := by omega
    simp [this]
  have hpre : ∀ (A : Array Bool) i (hi : i < l.length), A.size = l.length → ((∀ j ∈ preds l[i], A.getD j true = true) ↔ ∀ e ∈ l[i].after, Region.binds .any e = true → A.getD e.on false = true) := fun A i hi hA => by
    have hlt := (monoB_at l 0 i hB hi).1
    constructor
    · intro h e he hb
      have hm : e.on ∈ preds l[i] := List.mem_map.2 ⟨e, List.mem_filter.2 ⟨by simpa using he, hb⟩, rfl⟩
      exact (hbt A _ (by have := hlt _ hm; omega) hA).2 (h _ hm)
    · intro h j hj
      have := hlt j hj
      obtain ⟨e, he, rfl⟩ := List.mem_map.1 hj
      obtain ⟨he, hb⟩ := List.mem_filter.1 he
      exact (hbt A _ (by omega) hA).1 (h e (by simpa using he) hb)
  have hnone : ∀ (A : Array Bool), A.size = l.length → Region.ready .any l.toArray A = [] → ∀ k, k < l.length → A.getD k true = true := fun A hA h0 k => by
    induction k using Nat.strongRecOn with
    | ind k ih =>
      intro hk
      cases hc : A.getD k true with
      | true => rfl
      | false =>
        exfalso
        have : k ∈ Region.ready .any l.toArray A := mem_ready.2 ⟨hc, _, hget k hk, (hpre A k hk hA).1 fun j hj => ih j (by have := (monoB_at l 0 k hB hk).1 j hj; omega) (by have := (monoB_at l 0 k hB hk).1 j hj; omega)⟩
        rw [h0] at this
        cases this
  intro f
  induction f with
  | zero =>
    intro listed vs w hs hu hR hF
    have hall := undone_pos _ hu
    refine ⟨?_, hend vs w hR fun k hk => (hF k hk (by rw [hgl]; exact hall k)).1⟩
    rw [List.eq_nil_iff_forall_not_mem]
    intro i hi
    have := (mem_ready.1 hi).1
    rw [hgl, hall] at this
    cases this
  | succ f ih =>
    intro listed vs w hs hu hR hF
    refine ⟨fun h0 => hend vs w hR fun k hk => (hF k hk (hnone listed hs h0 k hk)).1, fun i hi => ?_⟩
    obtain ⟨hun, oi, hoi, hall⟩ := mem_ready.1 hi
    have hil : i < l.length := by
      have := (Array.getElem?_eq_some_iff.1 hoi).1
      simpa using this
    have hoi' := hget i hil
    have hpr := (hpre listed i hil hs).2 (by rw [hoi'] at hoi; cases hoi; exact hall)
    have hat := monoB_at l 0 i hB hil
    have hnear := fun j t h => by have := putAll_near l 0 j vs a0 t hB hsz h; rwa [Nat.zero_add] at this
    have hone := hsteps.at l 0 i hil vs (putAll vs l 0 a0) w hR (fun j hj => (hF j (by have := hat.1 j hj; omega) (hpr j hj)).1) hnear (fun t ht => putAll_far l t 0 vs a0 fun o ho => by
      have := List.all_eq_true.1 ht o ho
      simpa using this) fun j t h => by
        have h1 := hnear j t h
        have hlt : t < (putAll vs l 0 a0).tmps.size := by
          rw [(putAll_size l 0 vs a0).1, hsz]
          unfold dstAt at h
          cases hj : l[j]? with
          | none => rw [hj] at h; cases h
          | some o =>
            obtain ⟨hjl, hje⟩ := List.getElem?_eq_some_iff.1 hj
            rw [hj] at h
            exact (monoB_at l 0 j hB hjl).2 t (by rw [hje]; exact h)
        rw [Array.getD_eq_getD_getElem?, Array.getElem?_eq_getElem hlt, Option.getD_some] at h1
        rw [Array.getElem?_eq_getElem hlt, h1]
    rw [Nat.zero_add] at hone
    refine wp_of_one hoi' (fun v w' hG => ?_) hone
    obtain ⟨hR', hT, hFi⟩ := hG
    rw [putAll_upd l 0 i vs a0 v hB hil, Nat.zero_add]
    refine ih _ _ _ (by simpa using hs) ?_ hR' fun k hk hkl => ?_
    · have := undone_set listed.toList i (by rw [← hgl]; exact hun)
      rw [Array.toList_setIfInBounds]
      omega
    · by_cases hki : k = i
      · subst hki
        refine ⟨hFi, fun j hj => ?_⟩
        rw [getD_set_ne true (by have := hat.1 j hj; omega : k ≠ j)]
        exact hpr j hj
      · rw [getD_set_ne true (Ne.symm hki)] at hkl
        obtain ⟨h1, h2⟩ := hF k hk hkl
        have hne : ∀ j ∈ preds l[k], j ≠ i := fun j hj he => by have := h2 j hj; rw [he, hun] at this; cases this
        refine ⟨hloc k hk vs _ w' (upd_ne _ _ _ hki).symm (fun j hj => (upd_ne _ _ _ (hne j hj)).symm) (hst k vs w w' hR hT h1), fun j hj => ?_⟩
        rw [getD_set_ne true (Ne.symm (hne j hj))]
        exact h2 j hj

/-- THE LAW. -/
theorem wp_region_mono {P : Program} {id n : Nat} {l : List Oper} {a0 : Act} {w0 : World} {Q : Exit → Act → World → Prop} (R : World → Prop) (T : World → World → Prop) (F : Nat → (Nat → Value) → World → Prop)
    (hm : P.follows .mixedOrders = true) (hsz : a0.tmps.size = n) (hB : monoB n l 0 = true) (h0 : R { w0 with drawn := w0.drawn + 1 })
    (hloc : ∀ k (hk : k < l.length) vs vs' w, vs k = vs' k → (∀ j ∈ preds l[k], vs j = vs' j) → F k vs w → F k vs' w)
    (hst : ∀ k vs w w', R w → T w w' → F k vs w → F k vs w')
    (hsteps : MonoSteps P l a0 R T F l 0)
    (hend : ∀ vs w, R w → (∀ k, k < l.length → F k vs w) → Q .normal (putAll vs l 0 a0) w) : (Code.region id l.toArray true).wp P Q a0 w0 := by
  refine wp_region_any hm ?_
  have hst0 : putAll (fun k => (l[k]?).elim undef (fun o => got o a0)) l 0 a0 = a0 := putAll_start l a0 0 _ fun j hj => by simp [hj]
  have := wpAny_mono (P := P) (Q := Q) hB hsz hloc hst hsteps hend l.length (Array.replicate l.length false) (fun k => (l[k]?).elim undef (fun o => got o a0)) _ (by simp) (by simp [undone]) h0 (fun k hk h => by
    simp [hk] at h)
  rw [hst0] at this
  simpa using this

/-- The plain form: each operation's fact looks at its own value; what is done makes memory and draws, and leaves what was there. -/
theorem wp_region_up {P : Program} {id : Nat} {l : List Oper} {a0 : Act} {w0 : World} {Q : Exit → Act → World → Prop} (n : Nat) (F : List (Value → World → Prop))
    (hm : P.follows .mixedOrders = true) (hsz : a0.tmps.size = n) (hB : monoB n l 0 = true)
    (hst : ∀ w w', Below w0.heap.size w0 w → Below w.heap.size w w' → ∀ v, ∀ f ∈ F, f v w → f v w')
    (hsteps : MonoSteps P l a0 (fun w => Below w0.heap.size w0 w) (fun w w' => Below w.heap.size w w') (fun k vs w => (F.getD k (fun _ _ => True)) (vs k) w) l 0)
    (hend : ∀ vs w, Below w0.heap.size w0 w → (∀ k, k < l.length → (F.getD k (fun _ _ => True)) (vs k) w) → Q .normal (putAll vs l 0 a0) w) : (Code.region id l.toArray true).wp P Q a0 w0 := by
  refine wp_region_mono _ _ _ hm hsz hB ?_ ?_ ?_ hsteps hend
  · exact (gr_grown w0 1 #[]).below
  · intro k hk vs vs' w h _ hF; rw [← h]; exact hF
  · intro k vs w w' hR hT hF
    by_cases hk : k < F.length
    · simp only [List.getD_eq_getElem?_getD, List.getElem?_eq_getElem hk, Option.getD_some] at hF ⊢
      exact hst w w' hR hT _ _ (List.getElem_mem hk) hF
    · simp only [List.getD_eq_getElem?_getD, List.getElem?_eq_none (Nat.not_lt.1 hk), Option.getD_none]


end Go.Proofs.Ytojmkgllbhbeiaa
namespace Go.Proofs.Ytojmkgllbhbeiaa
open Go.RowKit

/-- s comes ahead of t at the byte c. -/
def Ahead (s t c : Nat) : Prop := c < 256 ∧ s.testBit c = true ∧ t.testBit c = false ∧ ∀ d, d < c → s.testBit d = t.testBit d

theorem diff_tb (s t c : Nat) : (Sx.or (Sx.less s t) (Sx.less t s)).testBit c = (s.testBit c != t.testBit c) := by
  rw [Sx.tb_or, Sx.tb_less, Sx.tb_less]
  cases s.testBit c <;> cases t.testBit c <;> rfl

theorem upto_sorted (s k : Nat) : (upto s k).Pairwise (· < ·) := (List.pairwise_lt_range (n := k)).filter _
theorem head_least {s c : Nat} {l : List Nat} (h : elems s = c :: l) : s.testBit c = true ∧ c < 256 ∧ ∀ d, d < c → s.testBit d = false := by
  have hm : c ∈ elems s := by rw [h]; simp
  obtain ⟨h1, h2⟩ := mem_elems.1 hm
  refine ⟨h2, h1, fun d hd => ?_⟩
  cases ht : s.testBit d with
  | false => rfl
  | true =>
    have hdm : d ∈ elems s := mem_elems.2 ⟨by omega, ht⟩
    have hs : (elems s).Pairwise (· < ·) := upto_sorted s 256
    rw [h] at hdm hs
    rcases List.mem_cons.1 hdm with rfl | hdl
    · omega
    · have := (List.pairwise_cons.1 hs).1 d hdl
      omega

/-- The three cases of Compare. -/
theorem cmpS_cases (s t : Nat) : (cmpS s t = 0 ∧ ∀ c, c < 256 → s.testBit c = t.testBit c) ∨ (cmpS s t = -1 ∧ ∃ c, Ahead s t c) ∨ (cmpS s t = 1 ∧ ∃ c, Ahead t s c) := by
  cases he : elems (Sx.or (Sx.less s t) (Sx.less t s)) with
  | nil =>
    refine .inl ⟨by unfold cmpS; rw [he]; rfl, fun c hc => ?_⟩
    have : c ∉ elems (Sx.or (Sx.less s t) (Sx.less t s)) := by rw [he]; simp
    rw [mem_elems, diff_tb] at this
    simp only [hc, true_and, bne_iff_ne, ne_eq, Classical.not_not] at this
    exact this
  | cons c l =>
    obtain ⟨h1, h2, h3⟩ := head_least he
    rw [diff_tb] at h1
    have h4 : ∀ d, d < c → s.testBit d = t.testBit d := fun d hd => by
      have := h3 d hd
      rw [diff_tb] at this
      simpa using this
    have hv : cmpS s t = if s.testBit c = true then -1 else 1 := by unfold cmpS; rw [he]; rfl
    rw [hv]
    by_cases hs : s.testBit c = true
    · rw [hs] at h1
      rw [if_pos hs]
      exact .inr (.inl ⟨rfl, c, h2, hs, by simpa using h1, h4⟩)
    · rw [if_neg hs]
      rw [Bool.not_eq_true] at hs
      rw [hs] at h1
      exact .inr (.inr ⟨rfl, c, h2, by simpa using h1, hs, fun d hd => (h4 d hd).symm⟩)

theorem Ahead.not_both {s t c d : Nat} (h : Ahead s t c) (k : Ahead t s d) : False := by
  obtain ⟨_, a1, a2, a3⟩ := h
  obtain ⟨_, b1, b2, b3⟩ := k
  rcases Nat.lt_trichotomy c d with hl | rfl | hl
  · rw [b3 c hl, a1] at a2; cases a2
  · rw [a1] at b2; cases b2
  · rw [a3 d hl, b1] at b2; cases b2
theorem Ahead.not_same {s t c : Nat} (h : Ahead s t c) (k : ∀ c, c < 256 → s.testBit c = t.testBit c) : False := by
  obtain ⟨h0, h1, h2, _⟩ := h
  rw [k c h0, h2] at h1; cases h1
theorem Ahead.trans {s t u c d : Nat} (h : Ahead s t c) (k : Ahead t u d) : Ahead s u (min c d) := by
  obtain ⟨a0, a1, a2, a3⟩ := h
  obtain ⟨b0, b1, b2, b3⟩ := k
  rcases Nat.lt_trichotomy c d with hl | rfl | hl
  · rw [Nat.min_eq_left (Nat.le_of_lt hl)]
    exact ⟨a0, a1, by rw [← b3 c hl]; exact a2, fun e he => (a3 e he).trans (b3 e (by omega))⟩
  · rw [a2] at b1; cases b1
  · rw [Nat.min_eq_right (Nat.le_of_lt hl)]
    exact ⟨b0, by rw [a3 d hl]; exact b1, b2, fun e he => (a3 e (by omega)).trans (b3 e he)⟩
theorem Ahead.congr {s t s' t' c : Nat} (h : Ahead s t c) (hs : ∀ c, c < 256 → s.testBit c = s'.testBit c) (ht : ∀ c, c < 256 → t.testBit c = t'.testBit c) : Ahead s' t' c := by
  obtain ⟨a0, a1, a2, a3⟩ := h
  exact ⟨a0, by rw [← hs c a0]; exact a1, by rw [← ht c a0]; exact a2, fun d hd => by rw [← hs d (by omega), ← ht d (by omega)]; exact a3 d hd⟩

theorem cmpS_lt {s t : Nat} : cmpS s t < 0 ↔ ∃ c, Ahead s t c := by
  rcases cmpS_cases s t with ⟨h, k⟩ | ⟨h, k⟩ | ⟨h, c, k⟩
  · exact ⟨fun h' => by omega, fun ⟨c, hc⟩ => (hc.not_same k).elim⟩
  · exact ⟨fun _ => k, fun _ => by omega⟩
  · exact ⟨fun h' => by omega, fun ⟨d, hd⟩ => (hd.not_both k).elim⟩
theorem cmpS_nlt {s t : Nat} : ¬ cmpS s t < 0 ↔ (∃ c, Ahead t s c) ∨ ∀ c, c < 256 → s.testBit c = t.testBit c := by
  rcases cmpS_cases s t with ⟨h, k⟩ | ⟨h, c, k⟩ | ⟨h, k⟩
  · exact ⟨fun _ => .inr k, fun _ => by omega⟩
  · exact ⟨fun h' => absurd (by omega) h', fun h' => h'.elim (fun ⟨d, hd⟩ => (hd.not_both k).elim) (fun h' => (k.not_same h').elim)⟩
  · exact ⟨fun _ => .inl k, fun _ => by omega⟩

open Go.Lib Go.Sort Go.Shelf in
theorem swoS : SWO (ltOf cmpS) where
  irrefl x := by
    unfold ltOf
    rw [decide_eq_false_iff_not, cmpS_nlt]
    exact .inr fun _ _ => rfl
  trans x y z h1 h2 := by
    unfold ltOf at *
    rw [decide_eq_true_eq, cmpS_lt] at *
    obtain ⟨c, hc⟩ := h1
    obtain ⟨d, hd⟩ := h2
    exact ⟨_, hc.trans hd⟩
  ntrans x y z h1 h2 := by
    unfold ltOf at *
    rw [decide_eq_false_iff_not, cmpS_nlt] at *
    rcases h1 with ⟨c, hc⟩ | h1
    · rcases h2 with ⟨d, hd⟩ | h2
      · exact .inl ⟨_, hd.trans hc⟩
      · exact .inl ⟨c, hc.congr h2 fun _ _ => rfl⟩
    · rcases h2 with ⟨d, hd⟩ | h2
      · exact .inl ⟨d, hd.congr (fun _ _ => rfl) fun c hc => (h1 c hc).symm⟩
      · exact .inr fun c hc => (h1 c hc).trans (h2 c hc)

/-- Sets of the same order are the same. -/
theorem cmpS_zero {s t : Nat} (hs : s < 2 ^ 256) (ht : t < 2 ^ 256) : cmpS s t = 0 ↔ s = t := by
  rcases cmpS_cases s t with ⟨h, k⟩ | ⟨h, c, k⟩ | ⟨h, c, k⟩
  · exact ⟨fun _ => Sx.ext hs ht k, fun _ => h⟩
  · exact ⟨fun h' => by omega, fun e => by subst e; exact (k.not_same fun _ _ => rfl).elim⟩
  · exact ⟨fun h' => by omega, fun e => by subst e; exact (k.not_same fun _ _ => rfl).elim⟩
theorem cmpS_neg (s t : Nat) : cmpS t s = - cmpS s t := by
  rcases cmpS_cases s t with ⟨h, k⟩ | ⟨h, c, k⟩ | ⟨h, c, k⟩ <;> rcases cmpS_cases t s with ⟨h', k'⟩ | ⟨h', d, k'⟩ | ⟨h', d, k'⟩
  · omega
  · exact (k'.not_same fun c hc => (k c hc).symm).elim
  · exact (k'.not_same k).elim
  · exact (k.not_same fun c hc => (k' c hc).symm).elim
  · exact (k'.not_both k).elim
  · omega
  · exact (k.not_same k').elim
  · omega
  · exact (k'.not_both k).elim
end Go.Proofs.Ytojmkgllbhbeiaa
