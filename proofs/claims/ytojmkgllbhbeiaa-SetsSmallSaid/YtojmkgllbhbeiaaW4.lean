/-
  WALKS of package sets: Size, First, Next.
-/
import Derived.Test.YtojmkgllbhbeiaaW3
namespace Go.Proofs.Ytojmkgllbhbeiaa
open Go.RowKit Go.Shelf
attribute [local go_sem] Oper.semAt_some wide_fn wide_depth

set_option maxRecDepth 100000 in
set_option maxHeartbeats 2000000 in
theorem size_in (s : Nat) (w : World) : CallsIn Fence.wide 9 Try.prog 30 #[setV s] w fun e W' => e = .returned (.int .i64 (elems s).length) ∧ Gr w.heap.size w W' := by
  refine callsIn_of_wp_marks Try.func30 rfl trivial ?_
  unfold setV setA
  simp only [Try.ntmps30, List.size_toArray, List.length_cons, List.length_nil, Nat.reduceAdd, Nat.reduceSub, Array.replicate_succ, Array.replicate_zero, List.push_toArray, List.append_toArray, List.nil_append, List.cons_append]
  gi_wp2_with fail
  refine (callsIn_wide.2 (iter_any s _)).mono ?_
  rintro e w0 ⟨rfl, hb, hs⟩
  have bn := (blkOf2 w _ _ _).later hb
  have hB := gthen (gr2 w _ _) hb
  simp only [World.size_alloc] at hs
  clear hb
  have h1 : w.heap.size + 1 < w0.heap.size := bn.lt
  gi_wp2
  refine wpIn_range (gf := 114) (lb := #[.pointer (some ⟨w.heap.size + 1 + 1, 0, none⟩)]) rfl (enters_of Try.func114 (by kernel_rfl) rfl)
    (all_stops 8 (w.heap.size + 1 + 1) s w0 hs) (fun _ _ _ => keepB_t) (fun _ _ _ hl => World.putObj_heap_other (by have := hs.lt; omega)) (fun _ => rfl)
    (fun pre W => Blk W (w.heap.size + 1) #[.int .i64 pre.length] 3 ∧ Gr w.heap.size w W)
    (fun _ _ _ => False)
    ((Inv.blk _ _ _).and (Inv.gr (Nat.le_refl _) (by omega)))
    (fun _ => Inv.no)
    ⟨bn, hB⟩
    (fun x => { tmps := #[.agg #[.int .u64 (Sx.wd s 0), .int .u64 (Sx.wd s 1), .int .u64 (Sx.wd s 2), .int .u64 (Sx.wd s 3)], .pointer (some ⟨w.heap.size, 0, none⟩), .int .i64 0, .pointer (some ⟨w.heap.size + 1, 0, none⟩), .agg #[.int .u64 (Sx.wd s 0), .int .u64 (Sx.wd s 1), .int .u64 (Sx.wd s 2), .int .u64 (Sx.wd s 3)], .func (.func 114) #[] #[.pointer (some ⟨w.heap.size + 1 + 1, 0, none⟩)], byteV (x % 256), undef, undef, undef], defers := [] }) ?assign ?body ?done ?stop
  case assign =>
    intro l x W K hK
    gi_wp2
    simpa using hK
  case body =>
    rintro l pre x W ⟨hc, hBW⟩ hlt
    have c0 := hc.cell 0
    have f0 := hc.frozen 0
    gi_wp2
    have hset := hc.set 0 (.int .i64 ((pre.length : Int) + 1))
    exact ⟨(KeepsOthers.setCell _ _ _).from _, keepB_set _ (by show _ ≠ w.heap.size + 1; omega), by simpa using hset, hBW.setCell (by show _ ≤ w.heap.size + 1; omega) _⟩
  case done =>
    rintro D W hD ⟨hc, hBW⟩ hK
    have c0 := hc.cell 0
    gi_wp2
    refine ⟨by simp, .inl ⟨_, _, rfl, run_takeDeferred hK, ?_⟩⟩
    exact ⟨_, results_tmp rfl _ _ _, rfl, grPut hBW _ (by omega)⟩
  case stop =>
    rintro D c pre W hD _ h _
    exact h.elim

theorem size_any (s : Nat) (w : World) : Calls Try.prog 30 #[setV s] w fun e w' => e = .returned (.int .i64 (elems s).length) ∧ Gr w.heap.size w w' := callsIn_wide.1 (size_in s w)

theorem head_prefix {s : Nat} {pre : List Nat} (hp : pre <+: elems s) (hne : pre ≠ []) : (elems s).headD 0 = pre.headD 0 % 256 ∧ (elems s).isEmpty = false := by
  obtain ⟨t, ht⟩ := hp
  cases pre with
  | nil => exact absurd rfl hne
  | cons x pre =>
    have hx : x < 256 := elems_lt (s := s) (by rw [← ht]; simp)
    rw [← ht]
    simp [Nat.mod_eq_of_lt hx]

set_option maxRecDepth 100000 in
set_option maxHeartbeats 2000000 in
theorem first_in (s : Nat) (w : World) : CallsIn Fence.wide 9 Try.prog 32 #[setV s] w fun e W' => e = .returned (.tuple #[byteV ((elems s).headD 0), .bool (!(elems s).isEmpty)]) ∧ Gr w.heap.size w W' := by
  refine callsIn_of_wp_marks Try.func32 rfl trivial ?_
  unfold setV setA
  simp only [Try.ntmps32, List.size_toArray, List.length_cons, List.length_nil, Nat.reduceAdd, Nat.reduceSub, Array.replicate_succ, Array.replicate_zero, List.push_toArray, List.append_toArray, List.nil_append, List.cons_append]
  gi_wp2_with fail
  refine (callsIn_wide.2 (iter_any s _)).mono ?_
  rintro e w0 ⟨rfl, hb, hs⟩
  have b1 := ((blkOf2 w _ _ _).alloc _).later hb
  have b2 := (blkOf3 w _ _ _ _).later hb
  have hB := gthen (gr3 w _ _ _) hb
  simp only [World.size_alloc] at hs
  clear hb
  have h1 : w.heap.size + 1 + 1 < w0.heap.size := b2.lt
  gi_wp2
  refine wpIn_range (gf := 114) (lb := #[.pointer (some ⟨w.heap.size + 1 + 1 + 1, 0, none⟩)]) rfl (enters_of Try.func114 (by kernel_rfl) rfl)
    (all_stops 8 (w.heap.size + 1 + 1 + 1) s w0 hs) (fun _ _ _ => keepB_t) (fun _ _ _ hl => World.putObj_heap_other (by have := hs.lt; omega)) (fun _ => rfl)
    (fun pre W => Blk W (w.heap.size + 1) #[byteV 0] 5 ∧ Blk W (w.heap.size + 1 + 1) #[.bool false] 4 ∧ pre = [] ∧ Gr w.heap.size w W)
    (fun c pre W => c = .ret ∧ Blk W (w.heap.size + 1) #[byteV (pre.headD 0 % 256)] 5 ∧ Blk W (w.heap.size + 1 + 1) #[.bool true] 4 ∧ pre ≠ [] ∧ Gr w.heap.size w W)
    ((Inv.blk _ _ (fun _ => _)).and ((Inv.blk _ _ (fun _ => _)).and ((Inv.pure fun pre => pre = []).and (Inv.gr (Nat.le_refl _) (by omega)))))
    (fun c => (Inv.pure fun _ => c = .ret).and ((Inv.blk _ _ (fun pre => #[byteV (pre.headD 0 % 256)])).and ((Inv.blk _ _ (fun _ => _)).and ((Inv.pure fun pre => pre ≠ []).and (Inv.gr (Nat.le_refl _) (by omega))))))
    ⟨b1, b2, rfl, hB⟩
    (fun x => { tmps := #[.agg #[.int .u64 (Sx.wd s 0), .int .u64 (Sx.wd s 1), .int .u64 (Sx.wd s 2), .int .u64 (Sx.wd s 3)], .pointer (some ⟨w.heap.size, 0, none⟩), .pointer (some ⟨w.heap.size + 1, 0, none⟩), .pointer (some ⟨w.heap.size + 1 + 1, 0, none⟩), byteV (x % 256), .agg #[.int .u64 (Sx.wd s 0), .int .u64 (Sx.wd s 1), .int .u64 (Sx.wd s 2), .int .u64 (Sx.wd s 3)], .func (.func 114) #[] #[.pointer (some ⟨w.heap.size + 1 + 1 + 1, 0, none⟩)], byteV (x % 256), undef], defers := [] }) ?assign ?body ?done ?stop
  case assign =>
    intro l x W K hK
    gi_wp2
    simpa using hK
  case body =>
    rintro l pre x W ⟨hc, hd, rfl, hBW⟩ hlt
    have c0 := hc.cell 0
    have f0 := hc.frozen 0
    have c1 := hd.cell 0
    have f1 := hd.frozen 0
    unfold byteV at *
    gi_wp2
    have e0 := (hc.set 0 (.int .u8 ((x : Int) % 256))).other (p := ⟨w.heap.size + 1 + 1, 0, none⟩) (by show _ ≠ w.heap.size + 1 + 1; omega) (.bool true)
    have e1 := (hd.other (p := ⟨w.heap.size + 1, 0, none⟩) (by show _ ≠ w.heap.size + 1; omega) (.int .u8 ((x : Int) % 256))).set 0 (.bool true)
    exact ⟨((KeepsOthers.setCell _ _ _).trans (KeepsOthers.setCell _ _ _)).from _, rfl, e0, e1, by simp, (hBW.setCell (by show _ ≤ w.heap.size + 1; omega) _).setCell (by show _ ≤ w.heap.size + 1 + 1; omega) _⟩
  case done =>
    rintro D W hD ⟨hc, hd, hp, hBW⟩ hK
    have c0 := hc.cell 0
    have f0 := hc.frozen 0
    have c1 := hd.cell 0
    have f1 := hd.frozen 0
    have HP := Lib.hid hp
    clear hp
    unfold byteV at *
    gi_wp2
    have hK2 := ((KeepsOthers.setCell W ⟨w.heap.size + 1, 0, none⟩ (.int .u8 0)).trans (KeepsOthers.setCell _ ⟨w.heap.size + 1 + 1, 0, none⟩ (.bool false))).same D _ hK rfl
    have e0 := ((hc.set 0 (.int .u8 0)).other (p := ⟨w.heap.size + 1 + 1, 0, none⟩) (by show _ ≠ w.heap.size + 1 + 1; omega) (.bool false)).putObj (D := D) (.deferred none) (by omega)
    have e1 := ((hd.other (p := ⟨w.heap.size + 1, 0, none⟩) (by show _ ≠ w.heap.size + 1; omega) (.int .u8 0)).set 0 (.bool false)).putObj (D := D) (.deferred none) (by omega)
    have l0 := e0.cell 0
    have l1 := e1.cell 0
    have hBE := grPut (l := D) ((hBW.setCell (p := ⟨w.heap.size + 1, 0, none⟩) (by show _ ≤ w.heap.size + 1; omega) (.int .u8 0)).setCell (p := ⟨w.heap.size + 1 + 1, 0, none⟩) (by show _ ≤ w.heap.size + 1 + 1; omega) (.bool false)) (.deferred none) (by omega)
    refine ⟨by simp, .inl ⟨_, _, rfl, run_takeDeferred hK2, ?_⟩⟩
    rw [HP.out]
    refine ⟨.tuple #[.int .u8 0, .bool false], ?_, rfl, hBE⟩
    clear e0 e1 hBE hK2 hK hc hd c0 c1 f0 f1
    simp [results, Try.results32, go_sem, *]
  case stop =>
    rintro D c pre W hD hp ⟨rfl, hc, hd, hne, hBW⟩ hK
    have e0 := hc.putObj (D := D) (.deferred none) (by omega)
    have e1 := hd.putObj (D := D) (.deferred none) (by omega)
    have hBE := grPut (l := D) hBW (.deferred none) (by omega)
    obtain ⟨q1, q2⟩ := head_prefix hp hne
    generalize pre.headD 0 % 256 = y at q1 e0 hc
    have Q1 := Lib.hid q1
    have Q2 := Lib.hid q2
    clear hp hne q1 q2
    gi_wp2
    refine ⟨by simp, .inl ⟨_, _, rfl, run_takeDeferred hK, ?_⟩⟩
    rw [Q1.out, Q2.out]
    refine ⟨.tuple #[byteV y, .bool true], ?_, rfl, hBE⟩
    have l0 := e0.cell 0
    have l1 := e1.cell 0
    clear e0 e1 hBE hK hc hd b1 b2
    simp [results, Try.results32, go_sem, *]

theorem first_any (s : Nat) (w : World) : Calls Try.prog 32 #[setV s] w fun e w' => e = .returned (.tuple #[byteV ((elems s).headD 0), .bool (!(elems s).isEmpty)]) ∧ Gr w.heap.size w w' := callsIn_wide.1 (first_in s w)
end Go.Proofs.Ytojmkgllbhbeiaa
