/-
  WALKS of package sets: the iterator 'all'.
-/
import Derived.Test.YtojmkgllbhbeiaaW2
import Derived.Test.YtojmkgllbhbeiaaRng
import Derived.Test.YtojmkgllbhbeiaaPt
namespace Go.Proofs.Ytojmkgllbhbeiaa
open Go.RowKit Go.Shelf
attribute [local go_sem] Oper.semAt_some

theorem wide_fn (f : Nat) : Fence.wide.fn f = True := rfl
theorem wide_depth : Fence.wide.depth = none := rfl
attribute [local go_sem] wide_fn wide_depth

set_option maxHeartbeats 1000000 in
theorem iter_any (s : Nat) (w : World) : Calls Try.prog 89 #[setV s] w fun e w' => e = .returned (.func (.func 114) #[] #[.pointer (some ⟨w.heap.size, 0, none⟩)]) ∧ Gr w.heap.size w w' ∧ Blk w' w.heap.size (setA s) 24 := by
  unfold setV setA
  go_enter Try.func89, Try.ntmps89
  go_wp2
  go_ret
  exact ⟨rfl, gr1 w _, blkOf1 w _ _⟩

set_option maxRecDepth 100000 in
set_option maxHeartbeats 1000000 in
theorem all1_in (n : Nat) (l Bn s : Nat) (J Jx : List Nat → World → Prop)
    (hY : ∀ pre x W, J pre W → pre.length < 256 → YieldAt Fence.wide (n - 1) Try.prog l #[byteV (x % 256)] W fun e W' =>
      (e = .returned (.bool true) ∧ J (pre ++ [x]) W' ∧ KeepB Bn W W') ∨ (e = .returned (.bool false) ∧ Jx (pre ++ [x]) W'))
    (W : World) (hJ : ∀ s A C, J s A → Gr A.heap.size A C → J s C) (hBn : Blk W Bn (setA s) 24) (h0 : J [] W) :
    CallsIn Fence.wide n Try.prog 114 #[.func (.yield l) #[] #[], .pointer (some ⟨Bn, 0, none⟩)] W fun e W' => (∃ v, e = .returned v) ∧
      (J (elems s) W' ∨ (∃ pre, pre <+: elems s ∧ Jx pre W')) := by
  have HY := Lib.hid hY; clear hY
  have HA := Lib.hid hJ; clear hJ
  refine callsIn_of_wp Try.func114 rfl trivial ?_
  simp only [Try.ntmps114, List.size_toArray, List.length_cons, List.length_nil, Nat.reduceAdd, Nat.reduceSub, Array.replicate_succ, Array.replicate_zero, List.push_toArray, List.append_toArray, List.nil_append, List.cons_append]
  gi_wp2
  gi_loopw [4] (fun i wr => ∃ k : Nat, k ≤ 256 ∧ i = .int .i64 k ∧ Blk wr Bn (setA s) 24 ∧ J (upto s k) wr) (fun i _ => 256 - (intOf i).toNat)
  case atStart =>
    exact ⟨0, by omega, rfl, hBn, h0⟩
  case round =>
    obtain ⟨k, hk, rfl, hb, hJs⟩ := hrel
    by_cases hlt : k < 256
    · have H4 := Blk.four (show Blk wr Bn #[_, _, _, _] 24 from hb)
      obtain ⟨c0, c1, c2, c3, _⟩ := H4
      gi_wp2_with fail
      refine (callsIn_wide.2 (has_any s k hlt wr)).mono ?_
      rintro e w1 ⟨rfl, hbw⟩
      have hJ1 : J (upto s k) w1 := HA.out _ _ _ hJs hbw
      have hb1 := hb.later hbw
      clear hb c0 c1 c2 c3 hbw hJs
      by_cases ht : s.testBit k = true
      · obtain ⟨fn, tmps, assign, body, hy, hR⟩ := HY.out (upto s k) k w1 hJ1 (Nat.lt_of_le_of_lt (upto_len s k) hlt)
        rw [Nat.mod_eq_of_lt hlt] at hy
        unfold byteV at hy
        have hup := Lib.hid (upto_yes ht)
        have HR := Lib.hid hR; clear hR
        rw [ht]
        clear ht
        gi_wp2
        refine HR.out.mono ?_
        rintro e W3 (⟨rfl, hJ3, hk3⟩ | ⟨rfl, hJx3⟩)
        · have hb3 := Lib.hid (hb1.keep hk3)
          clear hk3 hy HR hb1 hJ1
          gi_wp2
          go_roundw
          case rel => exact ⟨k + 1, by omega, by go_num, hb3.out, by rw [hup.out]; exact hJ3⟩
          case measure => simp [intOf]; omega
        · gi_wp2
          refine bodyPost_ret (results_none rfl _ _ _) rfl ?_
          refine ⟨⟨_, rfl⟩, .inr ⟨_, ?_, hJx3⟩⟩
          rw [← hup.out]
          exact upto_prefix s (by omega)
      · have hup := Lib.hid (upto_no (by simpa using ht))
        rw [show s.testBit k = false by simpa using ht]
        clear ht
        gi_wp2
        go_roundw
        case rel => exact ⟨k + 1, by omega, by go_num, hb1, by rw [hup.out]; exact hJ1⟩
        case measure => simp [intOf]; omega
    · obtain rfl : k = 256 := by omega
      gi_wp2
      go_end0
      exact ⟨⟨_, rfl⟩, .inl hJs⟩

/-- The iterator's contract. -/
theorem all_stops (n : Nat) (Bn s : Nat) (w : World) (hb : Blk w Bn (setA s) 24) :
    SeqD n Try.prog 114 #[.pointer (some ⟨Bn, 0, none⟩)] (fun x : Nat => #[byteV (x % 256)]) (KeepB Bn) (elems s) 256 w := fun l J Jx W hW hJ _ hY h0 =>
  all1_in n l Bn s J Jx hY W hJ (hb.later hW) h0
end Go.Proofs.Ytojmkgllbhbeiaa
