/-
  WALKS of package sets: the words' operations, Or, And, Less, Not, Has.
-/
import Derived.Test.YtojmkgllbhbeiaaProg
import Derived.Test.YtojmkgllbhbeiaaEq
namespace Go.Proofs.Ytojmkgllbhbeiaa
open Go.RowKit

/-- A function of two words that computes f and leaves the world alone. -/
def WordFn (g : Nat) (f : Nat → Nat → Nat) : Prop := ∀ (x y : Nat) (w : World), x < 18446744073709551616 → y < 18446744073709551616 →
  Calls Try.prog g #[.int .u64 x, .int .u64 y] w fun e w' => e = .returned (.int .u64 (f x y : Nat)) ∧ w' = w

theorem lessW : WordFn 76 fun x y => x ^^^ (x &&& y) := by
  intro x y w hx hy
  have hb := bits_andNot64 x y hx hy
  go_enter Try.func76, Try.ntmps76
  go_wp2
  go_ret
  exact ⟨rfl, rfl⟩
theorem orW : WordFn 86 fun x y => x ||| y := by
  intro x y w hx hy
  have hb := bits_or64 x y hx hy
  go_enter Try.func86, Try.ntmps86
  go_wp2
  go_ret
  exact ⟨rfl, rfl⟩
theorem andW : WordFn 87 fun x y => x &&& y := by
  intro x y w hx hy
  have hb := bits_and64 x y hx hy
  go_enter Try.func87, Try.ntmps87
  go_wp2
  go_ret
  exact ⟨rfl, rfl⟩
theorem notW : WordFn 88 fun x _ => 18446744073709551615 ^^^ x := by
  intro x y w hx hy
  have hb : bits .xor .u64 IntKind.u64.max (x : Int) = ((18446744073709551615 ^^^ x : Nat) : Int) := bits_xor_u64_nat 18446744073709551615 x (by decide) hx
  go_enter Try.func88, Try.ntmps88
  go_wp2
  go_ret
  exact ⟨rfl, rfl⟩

/-- The cells after k rounds of 'each': the first k words are made. -/
def eachA (f : Nat → Nat → Nat) (s t k : Nat) : Array Value :=
  #[.int .u64 (if 0 < k then f (Sx.wd s 0) (Sx.wd t 0) else 0 : Nat), .int .u64 (if 1 < k then f (Sx.wd s 1) (Sx.wd t 1) else 0 : Nat),
    .int .u64 (if 2 < k then f (Sx.wd s 2) (Sx.wd t 2) else 0 : Nat), .int .u64 (if 3 < k then f (Sx.wd s 3) (Sx.wd t 3) else 0 : Nat)]

theorem mixed : Try.prog.follows .mixedOrders = true := by kernel_rfl

theorem eachA_zero (f : Nat → Nat → Nat) (s t : Nat) : eachA f s t 0 = #[.int .u64 0, .int .u64 0, .int .u64 0, .int .u64 0] := rfl
theorem eachA_get (f : Nat → Nat → Nat) (s t k : Nat) (h : k < 4) : (eachA f s t k)[k]? = some (.int .u64 0) := by
  have : k = 0 ∨ k = 1 ∨ k = 2 ∨ k = 3 := by omega
  rcases this with rfl | rfl | rfl | rfl <;> rfl
theorem eachA_succ (f : Nat → Nat → Nat) (s t k : Nat) (h : k < 4) : (eachA f s t k).setIfInBounds k (.int .u64 (f (Sx.wd s k) (Sx.wd t k) : Nat)) = eachA f s t (k + 1) := by
  have : k = 0 ∨ k = 1 ∨ k = 2 ∨ k = 3 := by omega
  rcases this with rfl | rfl | rfl | rfl <;> rfl

set_option maxHeartbeats 1000000 in
theorem each_any (g : Nat) (f : Nat → Nat → Nat) (hf : WordFn g f) (eg : ∀ args w, (callFunc g args).run Try.prog w = .ok (.enter g args) w) (s t r : Nat) (hr : eachA f s t 4 = setA r) (w : World) :
    Calls Try.prog 75 #[setV s, setV t, .func (.func g) #[] #[]] w fun e w' => e = .returned (setV r) ∧ Gr w.heap.size w w' := by
  have H := Lib.hid hf; clear hf
  have HR := Lib.hid hr; clear hr
  unfold setV setA
  go_enter Try.func75, Try.ntmps75
  go_wp2
  go_loopw [9] (fun i wr => ∃ k : Nat, k ≤ 4 ∧ i = .int .i64 k ∧ Blk wr w.heap.size (setA s) 24 ∧ Blk wr (w.heap.size + 1) (setA t) 24 ∧ Blk wr (w.heap.size + 1 + 1) #[.int .u64 0, .int .u64 0, .int .u64 0, .int .u64 0] 24 ∧ Blk wr (w.heap.size + 1 + 1 + 1) (eachA f s t k) 24 ∧ Gr w.heap.size w wr) (fun i _ => 4 - (intOf i).toNat)
  case atStart =>
    have b0 := Blk.new w (setA s) 24
    have b1 := Blk.new (w.alloc (.cells (setA s) 24)) (setA t) 24
    have b2 := Blk.new ((w.alloc (.cells (setA s) 24)).alloc (.cells (setA t) 24)) #[.int .u64 0, .int .u64 0, .int .u64 0, .int .u64 0] 24
    have b3 := Blk.new (((w.alloc (.cells (setA s) 24)).alloc (.cells (setA t) 24)).alloc (.cells #[.int .u64 0, .int .u64 0, .int .u64 0, .int .u64 0] 24)) #[.int .u64 0, .int .u64 0, .int .u64 0, .int .u64 0] 24
    simp only [World.size_alloc] at b0 b1 b2 b3
    exact ⟨0, by omega, rfl, ((b0.alloc _).alloc _).alloc _, (b1.alloc _).alloc _, b2.alloc _, b3, gr4 w _ _ _ _⟩
  case round =>
    obtain ⟨k, hk, rfl, h0, h1, h2, h3, hB⟩ := hrel
    by_cases hlt : k < 4
    · have c0 := (h0.cell k).trans (setA_get s hlt)
      have c1 := (h1.cell k).trans (setA_get t hlt)
      have c3 := (h3.cell k).trans (eachA_get f s t k hlt)
      have f3 := h3.frozen k
      go_wp2
      have q0 := cellG c0
      have q1 := cellG c1
      refine wp_region_gr_tail 10 mixed (by kernel_rfl) ?_
      simp only [List.take_succ_cons, List.take_zero, List.drop_succ_cons, List.drop_zero]
      repeat (go_big_quiet_step (exact callsSame (H.out _ _ _ (Sx.wd_lt _ _) (Sx.wd_lt _ _))))
      refine wpQuiet_nil ?_
      intro w1 hw'
      obtain ⟨⟨d, os⟩, hw''⟩ := hw'
      have hb := gr_grown wr d os
      rw [← hw''] at hb
      clear hw'' q0 q1 c0 c1
      have e3 := h3.later hb
      have c4 := (e3.cell k).trans (eachA_get f s t k hlt)
      have f4 := e3.frozen k
      have hs0 := (h0.later hb).other (p := ⟨w.heap.size + 1 + 1 + 1, k, none⟩) (by show _ ≠ w.heap.size + 1 + 1 + 1; omega) (.int .u64 (f (Sx.wd s k) (Sx.wd t k) : Nat))
      have hs1 := (h1.later hb).other (p := ⟨w.heap.size + 1 + 1 + 1, k, none⟩) (by show _ ≠ w.heap.size + 1 + 1 + 1; omega) (.int .u64 (f (Sx.wd s k) (Sx.wd t k) : Nat))
      have hs2 := (h2.later hb).other (p := ⟨w.heap.size + 1 + 1 + 1, k, none⟩) (by show _ ≠ w.heap.size + 1 + 1 + 1; omega) (.int .u64 (f (Sx.wd s k) (Sx.wd t k) : Nat))
      have hs3 := e3.set k (.int .u64 (f (Sx.wd s k) (Sx.wd t k) : Nat))
      rw [eachA_succ f s t k hlt] at hs3
      have hB1 := (hB.trans (hb.mono hB.size)).setCell (p := ⟨w.heap.size + 1 + 1 + 1, k, none⟩) (by show _ ≤ w.heap.size + 1 + 1 + 1; omega) (.int .u64 (f (Sx.wd s k) (Sx.wd t k) : Nat))
      go_wp2
      go_roundw
      case rel => exact ⟨k + 1, by omega, by go_num, hs0, hs1, hs2, hs3, hB1⟩
      case measure => simp [intOf]; omega
    · obtain rfl : k = 4 := by omega
      rw [HR.out] at h3
      obtain ⟨c0, c1, c2, c3, _⟩ := Blk.four (show Blk wr (w.heap.size + 1 + 1 + 1) #[_, _, _, _] 24 from h3)
      obtain ⟨d0, d1, d2, d3, g0, g1, g2, g3⟩ := h2.four
      clear h0 h1 H HR eg
      go_wp2
      refine bodyPost_ret (v := .agg #[.int .u64 (Sx.wd r 0), .int .u64 (Sx.wd r 1), .int .u64 (Sx.wd r 2), .int .u64 (Sx.wd r 3)]) (by simp [results, Try.results75, go_sem, *]) rfl ⟨rfl, ?_⟩
      exact (((hB.setCell (p := ⟨w.heap.size + 1 + 1, 0, none⟩) (by show _ ≤ w.heap.size + 1 + 1; omega) _).setCell (p := ⟨w.heap.size + 1 + 1, 1, none⟩) (by show _ ≤ w.heap.size + 1 + 1; omega) _).setCell (p := ⟨w.heap.size + 1 + 1, 2, none⟩) (by show _ ≤ w.heap.size + 1 + 1; omega) _).setCell (p := ⟨w.heap.size + 1 + 1, 3, none⟩) (by show _ ≤ w.heap.size + 1 + 1; omega) _


set_option maxHeartbeats 1000000 in
theorem less_any (s t : Nat) (w : World) : Calls Try.prog 20 #[setV s, setV t] w fun e w' => e = .returned (setV (Sx.less s t)) ∧ Gr w.heap.size w w' := by
  have hr : eachA (fun x y => x ^^^ (x &&& y)) s t 4 = setA (Sx.less s t) := by simp [eachA, setA, Sx.wd_less]
  have HC := fun w => each_any 76 _ lessW (enters_of Try.func76 (by kernel_rfl) rfl) s t (Sx.less s t) hr w
  clear hr
  unfold setV setA at HC ⊢
  go_enter Try.func20, Try.ntmps20
  go_wp2_with fail
  refine (HC _).mono ?_
  clear HC
  rintro e w1 ⟨rfl, hb⟩
  have h2 := (blkOf3 w _ _ _ _).later hb
  obtain ⟨d0, d1, d2, d3, g0, g1, g2, g3⟩ := h2.four
  have hB := gthen (gr3 w _ _ _) hb
  clear hb
  go_wp2
  refine bodyPost_ret (v := .agg #[_, _, _, _]) (by simp [results, Try.results20, go_sem, *]) rfl ⟨rfl, ?_⟩
  exact gfour hB (by omega) _ _ _ _

set_option maxHeartbeats 1000000 in
theorem or_any (s t : Nat) (w : World) : Calls Try.prog 24 #[setV s, setV t] w fun e w' => e = .returned (setV (Sx.or s t)) ∧ Gr w.heap.size w w' := by
  have hr : eachA (fun x y => x ||| y) s t 4 = setA (Sx.or s t) := by simp [eachA, setA, Sx.wd_or]
  have HC := fun w => each_any 86 _ orW (enters_of Try.func86 (by kernel_rfl) rfl) s t (Sx.or s t) hr w
  clear hr
  unfold setV setA at HC ⊢
  go_enter Try.func24, Try.ntmps24
  go_wp2_with fail
  refine (HC _).mono ?_
  clear HC
  rintro e w1 ⟨rfl, hb⟩
  have h2 := (blkOf3 w _ _ _ _).later hb
  obtain ⟨d0, d1, d2, d3, g0, g1, g2, g3⟩ := h2.four
  have hB := gthen (gr3 w _ _ _) hb
  clear hb
  go_wp2
  refine bodyPost_ret (v := .agg #[_, _, _, _]) (by simp [results, Try.results24, go_sem, *]) rfl ⟨rfl, ?_⟩
  exact gfour hB (by omega) _ _ _ _

set_option maxHeartbeats 1000000 in
theorem and_any (s t : Nat) (w : World) : Calls Try.prog 25 #[setV s, setV t] w fun e w' => e = .returned (setV (Sx.and s t)) ∧ Gr w.heap.size w w' := by
  have hr : eachA (fun x y => x &&& y) s t 4 = setA (Sx.and s t) := by simp [eachA, setA, Sx.wd_and]
  have HC := fun w => each_any 87 _ andW (enters_of Try.func87 (by kernel_rfl) rfl) s t (Sx.and s t) hr w
  clear hr
  unfold setV setA at HC ⊢
  go_enter Try.func25, Try.ntmps25
  go_wp2_with fail
  refine (HC _).mono ?_
  clear HC
  rintro e w1 ⟨rfl, hb⟩
  have h2 := (blkOf3 w _ _ _ _).later hb
  obtain ⟨d0, d1, d2, d3, g0, g1, g2, g3⟩ := h2.four
  have hB := gthen (gr3 w _ _ _) hb
  clear hb
  go_wp2
  refine bodyPost_ret (v := .agg #[_, _, _, _]) (by simp [results, Try.results25, go_sem, *]) rfl ⟨rfl, ?_⟩
  exact gfour hB (by omega) _ _ _ _

set_option maxHeartbeats 1000000 in
theorem not_any (s : Nat) (w : World) : Calls Try.prog 26 #[setV s] w fun e w' => e = .returned (setV (Sx.not s)) ∧ Gr w.heap.size w w' := by
  have hr : eachA (fun x _ => 18446744073709551615 ^^^ x) s s 4 = setA (Sx.not s) := by simp [eachA, setA, Sx.wd_not]
  have HC := fun w => each_any 88 _ notW (enters_of Try.func88 (by kernel_rfl) rfl) s s (Sx.not s) hr w
  clear hr
  unfold setV setA at HC ⊢
  go_enter Try.func26, Try.ntmps26
  go_wp2_with fail
  refine (HC _).mono ?_
  clear HC
  rintro e w1 ⟨rfl, hb⟩
  have h2 := (blkOf2 w _ _ _).later hb
  obtain ⟨d0, d1, d2, d3, g0, g1, g2, g3⟩ := h2.four
  have hB := gthen (gr2 w _ _) hb
  clear hb
  go_wp2
  refine bodyPost_ret (v := .agg #[_, _, _, _]) (by simp [results, Try.results26, go_sem, *]) rfl ⟨rfl, ?_⟩
  exact gfour hB (by omega) _ _ _ _

theorem setV_zero : setV 0 = .agg #[.int .u64 0, .int .u64 0, .int .u64 0, .int .u64 0] := by simp [setV, setA, Sx.wd_zero]

set_option maxHeartbeats 1000000 in
theorem all_any (w : World) : Calls Try.prog 27 #[] w fun e w' => e = .returned (setV Sx.full) ∧ Gr w.heap.size w w' := by
  have HC := fun w => not_any 0 w
  rw [setV_zero, show Sx.not 0 = Sx.full from by decide] at HC
  unfold setV setA at HC ⊢
  go_enter Try.func27, Try.ntmps27
  go_wp2_with fail
  refine (HC _).mono ?_
  clear HC
  rintro e w1 ⟨rfl, hb⟩
  have h2 := (blkOf1 w _ _).later hb
  obtain ⟨d0, d1, d2, d3, g0, g1, g2, g3⟩ := h2.four
  have hB := gthen (gr1 w _) hb
  clear hb
  go_wp2
  refine bodyPost_ret (v := .agg #[_, _, _, _]) (by simp [results, Try.results27, go_sem, *]) rfl ⟨rfl, ?_⟩
  exact gfour hB (by omega) _ _ _ _

theorem guardSet (op : BinOp) (a b : Operand) (xs ys : Array Value) (w : World) : (eqGuard op 24 a b (.agg xs) (.agg ys)).run Try.prog w = .ok () w := run_eqGuard_agg w op 24 a b xs ys (by kernel_rfl)

theorem words_eq {s t : Nat} (hs : s < 2 ^ 256) (ht : t < 2 ^ 256) : decide (s = t) = true ↔ ∀ i, i < 4 → ((Sx.wd s i : Nat) : Int) = ((Sx.wd t i : Nat) : Int) := by
  rw [decide_eq_true_eq]
  refine ⟨fun h i _ => by rw [h], fun h => ?_⟩
  exact Sx.wd_ext hs ht (Int.ofNat_inj.1 (h 0 (by decide))) (Int.ofNat_inj.1 (h 1 (by decide))) (Int.ofNat_inj.1 (h 2 (by decide))) (Int.ofNat_inj.1 (h 3 (by decide)))
theorem eqlSet {s t : Nat} (hs : s < 2 ^ 256) (ht : t < 2 ^ 256) (w : World) : (binOp .eql 24 (setV s) (setV t)).run Try.prog w = .ok (.bool (decide (s = t))) w :=
  run_eql_arr w 24 22 4 .u64 .u64 Try.underlying24 Try.underlying22 Try.isAgg22 Try.sizeOf22 (setA s) (setA t) (fun i => (Sx.wd s i : Nat)) (fun i => (Sx.wd t i : Nat)) (fun _ hi => setA_get s hi) (fun _ hi => setA_get t hi) _ (words_eq hs ht)
theorem neqSet {s t : Nat} (hs : s < 2 ^ 256) (ht : t < 2 ^ 256) (w : World) : (binOp .neq 24 (setV s) (setV t)).run Try.prog w = .ok (.bool (!decide (s = t))) w :=
  run_neq_arr w 24 22 4 .u64 .u64 Try.underlying24 Try.underlying22 Try.isAgg22 Try.sizeOf22 (setA s) (setA t) (fun i => (Sx.wd s i : Nat)) (fun i => (Sx.wd t i : Nat)) (fun _ hi => setA_get s hi) (fun _ hi => setA_get t hi) _ (words_eq hs ht)

set_option maxHeartbeats 1000000 in
theorem within_any (s t : Nat) (hs : s < 2 ^ 256) (w : World) : Calls Try.prog 28 #[setV s, setV t] w fun e w' => e = .returned (.bool (decide (Sx.less s t = 0))) ∧ Gr w.heap.size w w' := by
  have HC := fun w => less_any s t w
  have HE := fun w => eqlSet (Sx.less_lt t hs) (show 0 < 2 ^ 256 by decide) w
  have HG := guardSet
  rw [setV_zero] at HE
  unfold setV setA at HC HE ⊢
  go_enter Try.func28, Try.ntmps28
  go_wp2_with fail
  refine (HC _).mono ?_
  clear HC
  rintro e w1 ⟨rfl, hb⟩
  have hB := gthen (gr2 w _ _) hb
  clear hb
  go_wp2
  go_ret
  exact ⟨rfl, hB⟩

set_option maxHeartbeats 1000000 in
theorem meets_any (s t : Nat) (hs : s < 2 ^ 256) (w : World) : Calls Try.prog 29 #[setV s, setV t] w fun e w' => e = .returned (.bool (!decide (Sx.and s t = 0))) ∧ Gr w.heap.size w w' := by
  have HC := fun w => and_any s t w
  have HE := fun w => neqSet (Sx.and_lt t hs) (show 0 < 2 ^ 256 by decide) w
  have HG := guardSet
  rw [setV_zero] at HE
  unfold setV setA at HC HE ⊢
  go_enter Try.func29, Try.ntmps29
  go_wp2_with fail
  refine (HC _).mono ?_
  clear HC
  rintro e w1 ⟨rfl, hb⟩
  have hB := gthen (gr2 w _ _) hb
  clear hb
  go_wp2
  go_ret
  exact ⟨rfl, hB⟩

theorem has_word (s c : Nat) : (bits .and .u64 (((Sx.wd s (c / 64) : Nat) : Int) / 2 ^ (c % 64)) 1 == 1) = s.testBit c := by
  have h64 : Sx.wd s (c / 64) / 2 ^ (c % 64) < 18446744073709551616 := Nat.lt_of_le_of_lt (Nat.div_le_self _ _) (Sx.wd_lt _ _)
  have e2 : (((Sx.wd s (c / 64) : Nat) : Int) / 2 ^ (c % 64)) = ((Sx.wd s (c / 64) / 2 ^ (c % 64) : Nat) : Int) := by
    rw [Int.natCast_ediv]; rfl
  have e3 := bits_and64 (Sx.wd s (c / 64) / 2 ^ (c % 64)) 1 h64 (by decide)
  rw [e2, show (1 : Int) = ((1 : Nat) : Int) from rfl, e3, Sx.tb_word, Nat.and_one_is_mod, Bool.eq_iff_iff]
  simp only [beq_iff_eq]
  omega

set_option maxHeartbeats 1000000 in
theorem has_any (s c : Nat) (hc : c < 256) (w : World) : Calls Try.prog 22 #[setV s, .int .u8 c] w fun e w' => e = .returned (.bool (s.testBit c)) ∧ Gr w.heap.size w w' := by
  have HW := Lib.hid (has_word s c)
  have hg : (setA s).toList[c / 64]? = some (.int .u64 (Sx.wd s (c / 64))) := by
    rw [Array.getElem?_toList]; exact setA_get s (by omega)
  have hy := Sx.wd_lt s (c / 64)
  generalize Sx.wd s (c / 64) = y at HW hg hy
  unfold setV setA at *
  go_enter Try.func22, Try.ntmps22
  go_wp2
  go_ret
  refine ⟨?_, gr1 w _⟩
  show Ending.returned (.bool _) = _
  rw [← HW.out]
end Go.Proofs.Ytojmkgllbhbeiaa
