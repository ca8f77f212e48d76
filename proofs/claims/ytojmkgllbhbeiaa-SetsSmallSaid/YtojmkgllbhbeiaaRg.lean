/-
  Both, Size, Next, Compare of the reference; is; SameBytes.
-/
import Derived.Test.YtojmkgllbhbeiaaRf
import Derived.Deep.QuietTactic
namespace Go.Proofs.Ytojmkgllbhbeiaa
open Go.RowKit

/-- 0 Or, 1 And, 2 Less. -/
def bothF (how : Nat) (s t : Nat) : Nat := if how = 0 then Sx.or s t else if how = 1 then Sx.and s t else Sx.less s t
theorem bothF_bit (how s t c : Nat) : (bothF how s t).testBit c = if how = 0 then (s.testBit c || t.testBit c) else if how = 1 then (s.testBit c && t.testBit c) else (s.testBit c && !t.testBit c) := by
  unfold bothF
  by_cases h0 : how = 0
  · rw [if_pos h0, if_pos h0, Sx.tb_or]
  · rw [if_neg h0, if_neg h0]
    by_cases h1 : how = 1
    · rw [if_pos h1, if_pos h1, Sx.tb_and]
    · rw [if_neg h1, if_neg h1, Sx.tb_less]

theorem Gr.drewN {B : Nat} {a w : World} (h : Gr B a w) (n : Nat) : Gr B a (w.drewN n) :=
  ⟨⟨h.below.os, h.below.tape, h.below.output, h.below.size, h.below.block⟩, Nat.le_trans h.drawn (Nat.le_add_right _ _)⟩

set_option maxRecDepth 100000 in
set_option maxHeartbeats 4000000 in
theorem both_any (how : Nat) (hh : how ≤ 2) (hI : Int) (he : hI = how) (s t : Nat) (w : World) : Calls Try.prog 80 #[refV s, refV t, .int .i64 hI] w fun e w' => e = .returned (refV (bothF how s t)) ∧ Gr w.heap.size w w' := by
  have hbits : ∀ c, Hid (bitI (bothF how s t) c = if how = 0 then (if s.testBit c || t.testBit c then 1 else 0) else if how = 1 then (if s.testBit c && t.testBit c then 1 else 0) else (if s.testBit c && !t.testBit c then 1 else 0)) := fun c => by
    show _ = _
    unfold bitI; rw [bothF_bit]
    by_cases h0 : how = 0
    · simp [h0]
    · by_cases h1 : how = 1
      · simp [h1]
      · simp [h0, h1]
  generalize bothF how s t = r at hbits ⊢
  have hz := zero94
  have he' := Lib.hid he
  clear he
  have he := he'
  clear he'
  unfold refV
  go_enter Try.func80, Try.ntmps80
  go_wp2
  go_loopw [8] (fun i wr => ∃ k : Nat, k ≤ 256 ∧ i = .int .i64 k ∧ Blk wr w.heap.size (A256 (bitI s)) 94 ∧ Blk wr (w.heap.size + 1) (A256 (bitI t)) 94 ∧ Blk wr (w.heap.size + 1 + 1) (A256 fun _ => 0) 94 ∧ Blk wr (w.heap.size + 1 + 1 + 1) (part (bitI r) k) 94 ∧ Gr w.heap.size w wr) (fun i _ => 256 - (intOf i).toNat)
  case atStart =>
    refine ⟨0, by omega, rfl, ?_, ?_, ?_, ?_, gr4 w _ _ _ _⟩
    · exact (((blkOf1 w _ _).alloc _).alloc _).alloc _
    · exact ((blkOf2 w _ _ _).alloc _).alloc _
    · exact (blkOf3 w _ _ _ _).alloc _
    · rw [part_zero]; exact blkOf4 w _ _ _ _ _
  case round =>
    obtain ⟨k, hk, rfl, h0, h1, h2, h3, hB⟩ := hrel
    by_cases hlt : k < 256
    · have hr := hbits k
      clear hbits
      have c0 := (h0.cell k).trans (refA_get s hlt)
      have c1 := (h1.cell k).trans (refA_get t hlt)
      have c3 := (h3.cell k).trans (part_get (bitI r) k hlt)
      have f3 := h3.frozen k
      have hyes : bitI r k = 1 → Hid (Blk (wr.setCell ⟨w.heap.size + 1 + 1 + 1, k, none⟩ (.int .i64 1)) (w.heap.size + 1 + 1 + 1) (part (bitI r) (k + 1)) 94) := fun h => by
        show Blk _ _ _ _
        rw [← part_set _ hlt, h]; exact h3.set k _
      have hno : bitI r k = 0 → Hid (Blk wr (w.heap.size + 1 + 1 + 1) (part (bitI r) (k + 1)) 94) := fun h => by
        show Blk _ _ _ _
        rw [part_skip _ h]; exact h3
      have o0 := fun v => Lib.hid (h0.other (p := ⟨w.heap.size + 1 + 1 + 1, k, none⟩) (by show _ ≠ w.heap.size + 1 + 1 + 1; omega) v)
      have o1 := fun v => Lib.hid (h1.other (p := ⟨w.heap.size + 1 + 1 + 1, k, none⟩) (by show _ ≠ w.heap.size + 1 + 1 + 1; omega) v)
      have o2 := fun v => Lib.hid (h2.other (p := ⟨w.heap.size + 1 + 1 + 1, k, none⟩) (by show _ ≠ w.heap.size + 1 + 1 + 1; omega) v)
      clear h3
      rcases bitI_cases s k with ⟨es, bs⟩ | ⟨es, bs⟩ <;> rcases bitI_cases t k with ⟨et, bt⟩ | ⟨et, bt⟩ <;> rw [es] at c0 <;> rw [et] at c1 <;> rw [bs, bt] at hr <;> clear es bs et bt <;>
        obtain ⟨rfl, rfl⟩ | ⟨rfl, rfl⟩ | ⟨rfl, rfl⟩ : (how = 0 ∧ hI = 0) ∨ (how = 1 ∧ hI = 1) ∨ (how = 2 ∧ hI = 2) := by have := he.out; omega
      all_goals
        have hr := hr.out
        simp at hr
        first | replace hyes := hyes hr | replace hno := hno hr
        clear hr
        go_wp2
        go_quiet (fail)
        go_wp2
        try (go_quiet (fail); go_wp2)
        go_roundw
        case rel => first | exact ⟨k + 1, by omega, by go_num, (o0 _).out, (o1 _).out, (o2 _).out, hyes.out, (hB.setCell (by show _ ≤ w.heap.size + 1 + 1 + 1; omega) _).drewN _⟩ | exact ⟨k + 1, by omega, by go_num, h0, h1, h2, hno.out, hB.drewN _⟩
        case measure => simp [intOf]; omega
    · obtain rfl : k = 256 := by omega
      rw [part_full] at h3
      clear hbits
      go_wp2_with (first | with_reducible refine wp_load94 rfl _ rfl (w.heap.size + 1 + 1 + 1) rfl _ h3 ?_ | with_reducible refine wp_store94 rfl _ _ rfl (w.heap.size + 1 + 1) rfl _ _ rfl h2 ?_)
      exact bodyPost_ret (v := refV r) (res94 rfl _ _ (w.heap.size + 1 + 1) _ rfl (h2.setRow _)) rfl ⟨rfl, hB.setRow (by omega) _⟩

theorem upto_succ_len (s k : Nat) : ((upto s (k + 1)).length : Int) = (upto s k).length + bitI s k := by
  rcases bitI_cases s k with ⟨e, b⟩ | ⟨e, b⟩
  · rw [e, upto_yes b]; simp
  · rw [e, upto_no b]; simp

set_option maxRecDepth 100000 in
set_option maxHeartbeats 2000000 in
theorem refSize_any (s : Nat) (w : World) : Calls Try.prog 79 #[refV s] w fun e w' => e = .returned (.int .i64 (elems s).length) ∧ Gr w.heap.size w w' := by
  unfold refV
  go_enter Try.func79, Try.ntmps79
  go_wp2
  go_loop [3, 4] (fun n i => ∃ k : Nat, k ≤ 256 ∧ i = .int .i64 k ∧ n = .int .i64 (upto s k).length) (fun _ i => 256 - (intOf i).toNat)
  case atStart => exact ⟨0, by omega, rfl, by simp [upto]⟩
  case round =>
    obtain ⟨k, hk, rfl, rfl⟩ := hrel
    by_cases hlt : k < 256
    · have c0 := ((blkOf1 w (A256 (bitI s)) 94).cell k).trans (refA_get s hlt)
      have hs := Lib.hid (upto_succ_len s k)
      have hle := upto_len s k
      have hb : 0 ≤ bitI s k ∧ bitI s k ≤ 1 := by rcases bitI_cases s k with ⟨e, _⟩ | ⟨e, _⟩ <;> omega
      generalize bitI s k = x at c0 hs hb
      generalize (upto s k).length = n at hs hle
      go_wp2
      go_round
      case rel => exact ⟨k + 1, by omega, by go_num, by rw [hs.out]⟩
      case measure => simp [intOf]; omega
    · obtain rfl : k = 256 := by omega
      go_wp2
      go_ret
      exact ⟨rfl, gr1 w _⟩

/-- The least byte from one on. -/
def nextI (s k : Nat) : Int := match (elems s).find? (fun d => decide (k ≤ d)) with | some d => (d : Int) | none => -1
theorem upto_from (s k : Nat) (h : ∀ d, k ≤ d → d < 256 → s.testBit d = false) : nextI s k = -1 := by
  unfold nextI
  rw [List.find?_eq_none.2]
  intro d hd
  obtain ⟨h1, h2⟩ := mem_elems.1 hd
  simp only [decide_eq_true_eq]
  intro hkd
  have := h d hkd h1
  rw [h2] at this; cases this
theorem nextI_yes {s k d : Nat} (hkd : k ≤ d) (hd : d < 256) (hb : s.testBit d = true) (h : ∀ e, k ≤ e → e < d → s.testBit e = false) : nextI s k = d := by
  unfold nextI
  have hm : d ∈ elems s := mem_elems.2 ⟨hd, hb⟩
  cases hf : (elems s).find? (fun d => decide (k ≤ d)) with
  | none =>
    rw [List.find?_eq_none] at hf
    have := hf d hm
    simp at this; omega
  | some e =>
    have h1 := List.find?_some hf
    have h2 := List.mem_of_find?_eq_some hf
    obtain ⟨h3, h4⟩ := mem_elems.1 h2
    have h1 : k ≤ e := by simpa using h1
    dsimp only
    have hpw := (List.pairwise_lt_range (n := 256)).filter s.testBit
    have hde : e ≤ d := by
      rcases Nat.lt_or_ge d e with hlt | hge
      · exfalso
        obtain ⟨pre, post, hsp, hno⟩ := List.find?_eq_some_iff_append.1 hf |>.2
        have hdm : d ∈ pre ++ e :: post := by rw [← hsp]; exact hm
        rcases List.mem_append.1 hdm with h5 | h5
        · have := hno d h5
          simp at this; omega
        · rcases List.mem_cons.1 h5 with rfl | h5
          · omega
          · have hp : (pre ++ e :: post).Pairwise (· < ·) := by rw [← hsp]; exact hpw
            have := (List.pairwise_append.1 hp).2.1
            have := (List.pairwise_cons.1 this).1 d h5
            omega
      · exact hge
    by_cases he : e = d
    · rw [he]
    · have := h e h1 (by omega)
      rw [h4] at this; cases this

set_option maxRecDepth 100000 in
set_option maxHeartbeats 2000000 in
theorem refNext_any (s k0 : Nat) (hk0 : k0 ≤ 256) (w : World) : Calls Try.prog 84 #[refV s, .int .i64 k0] w fun e w' => e = .returned (.int .i64 (nextI s k0)) ∧ Gr w.heap.size w w' := by
  unfold refV
  go_enter Try.func84, Try.ntmps84
  go_wp2
  go_loop [5] (fun i => ∃ k : Nat, k ≤ 256 ∧ i = .int .i64 k ∧ k0 ≤ k ∧ Hid (∀ d, k0 ≤ d → d < k → s.testBit d = false)) (fun i => 256 - (intOf i).toNat)
  case atStart => exact ⟨k0, hk0, rfl, Nat.le_refl _, fun d h1 h2 => by omega⟩
  case round =>
    obtain ⟨k, hk, rfl, hkk, hno⟩ := hrel
    by_cases hlt : k < 256
    · have c0 := ((blkOf1 w (A256 (bitI s)) 94).cell k).trans (refA_get s hlt)
      rcases bitI_cases s k with ⟨e, b⟩ | ⟨e, b⟩ <;> rw [e] at c0 <;> clear e
      · have hn := Lib.hid (nextI_yes hkk hlt b hno.out)
        clear b
        go_wp2
        go_ret
        rw [hn.out]
        exact ⟨rfl, gr1 w _⟩
      · have hno' : Hid (∀ d, k0 ≤ d → d < k + 1 → s.testBit d = false) := by
          show ∀ d, _ → _ → _
          intro d h1 h2
          by_cases e : d = k
          · rw [e]; exact b
          · exact hno.out d h1 (by omega)
        clear b
        go_wp2
        go_round
        case rel => exact ⟨k + 1, by omega, by go_num, by omega, hno'⟩
        case measure => simp [intOf]; omega
    · obtain rfl : k = 256 := by omega
      have hn := Lib.hid (upto_from s k0 hno.out)
      go_wp2
      go_ret
      rw [hn.out]
      exact ⟨rfl, gr1 w _⟩
end Go.Proofs.Ytojmkgllbhbeiaa
