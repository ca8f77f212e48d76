/-
  WALKS: SetsLists.
-/
import Derived.Test.YtojmkgllbhbeiaaL2
import Derived.Test.YtojmkgllbhbeiaaL3
import Derived.Test.YtojmkgllbhbeiaaL4
namespace Go.Proofs.Ytojmkgllbhbeiaa
open Go.RowKit

set_option maxRecDepth 100000 in
set_option maxHeartbeats 1000000 in
theorem lists_big (a1 a2 : Option Addr) (n1 c1 n2 c2 : Nat) (h : 40 < n1 ∨ 12 < n2) (w : World) : Calls Try.prog 33 #[.slice a1 n1 c1, .slice a2 n2 c2] w fun e w' => e = .returned (.bool true) ∧ w' = w := by
  by_cases h1 : 40 < n1
  · clear h
    go_enter Try.func33, Try.ntmps33
    go_wp2
    go_ret
    exact ⟨rfl, rfl⟩
  · have h2 : 12 < n2 := by omega
    clear h
    go_enter Try.func33, Try.ntmps33
    go_wp2
    go_ret
    exact ⟨rfl, rfl⟩

theorem lists_any (v1 v2 : Value) (l1 : List (Nat × Nat)) (ss : List Nat) (hl1 : ∀ x ∈ l1, x.1 < 256 ∧ x.2 < 256) (hss : ∀ s ∈ ss, s < 2 ^ 256) (w : World) (h1 : Sl w v1 2 l1.length (spanCells l1)) (h2 : Sl w v2 4 ss.length (setCells ss)) :
    Calls Try.prog 33 #[v1, v2] w fun e w' => e = .returned (.bool true) ∧ Below w.heap.size w w' := by
  by_cases hbig : 40 < l1.length ∨ 12 < ss.length
  · obtain ⟨_, h1⟩ := h1
    obtain ⟨_, h2⟩ := h2
    have e1 : ∃ a c, v1 = .slice a l1.length c := by
      rcases h1 with ⟨rfl, e⟩ | ⟨b, o, cap, rfl, _⟩
      · rw [e]; exact ⟨_, _, rfl⟩
      · exact ⟨_, _, rfl⟩
    have e2 : ∃ a c, v2 = .slice a ss.length c := by
      rcases h2 with ⟨rfl, e⟩ | ⟨b, o, cap, rfl, _⟩
      · rw [e]; exact ⟨_, _, rfl⟩
      · exact ⟨_, _, rfl⟩
    obtain ⟨a1, c1, rfl⟩ := e1
    obtain ⟨a2, c2, rfl⟩ := e2
    exact (lists_big a1 a2 _ c1 _ c2 hbig w).mono fun e w' ⟨he, hw⟩ => ⟨he, by rw [hw]; exact Below.refl _ _⟩
  · have n1 : l1.length ≤ 40 := by omega
    have n2 : ss.length ≤ 12 := by omega
    clear hbig
    obtain ⟨_, ⟨rfl, e1⟩ | ⟨b1, o1, cap1, rfl, hb1, hc1⟩⟩ := h1
    · obtain ⟨_, ⟨rfl, e2⟩ | ⟨b2, o2, cap2, rfl, hb2, hc2⟩⟩ := h2
      · exact lists_nn w
      · rcases Nat.eq_zero_or_pos ss.length with e | hpos
        · rw [e]; exact lists_nz b2 o2 cap2 w
        · exact lists_ns b2 o2 cap2 ss hss n2 hpos w hb2 hc2
    · obtain ⟨_, ⟨rfl, e2⟩ | ⟨b2, o2, cap2, rfl, hb2, hc2⟩⟩ := h2
      · exact lists_sn b1 o1 cap1 l1 hl1 n1 w hb1 hc1
      · rcases Nat.eq_zero_or_pos ss.length with e | hpos
        · rw [e]; exact lists_sz b1 o1 cap1 b2 o2 cap2 l1 hl1 n1 w hb1 hc1
        · exact lists_ss b1 o1 cap1 b2 o2 cap2 l1 ss hl1 n1 hss n2 hpos w hb1 hc1 hb2 hc2

set_option maxHeartbeats 1000000 in
theorem setsLists_any (v1 v2 : Value) (l1 : List (Nat × Nat)) (ss : List Nat) (hl1 : ∀ x ∈ l1, x.1 < 256 ∧ x.2 < 256) (hss : ∀ s ∈ ss, s < 2 ^ 256) (w : World) (h1 : Sl w v1 2 l1.length (spanCells l1)) (h2 : Sl w v2 4 ss.length (setCells ss)) :
    Calls Try.prog 7 #[v1, v2] w fun e w' => e = .returned (.bool true) ∧ Below w.heap.size w w' := by
  have HL := Lib.hid (lists_any v1 v2 l1 ss hl1 hss w h1 h2)
  have HA := fun w => awake_any w
  clear hl1 hss h1 h2
  go_enter Try.func7, Try.ntmps7
  go_wp2_with fail
  refine HL.out.mono ?_
  rintro e w1 ⟨rfl, hB⟩
  clear HL
  go_wp2_with fail
  refine (HA _).mono ?_
  rintro e w2 ⟨rfl, hb⟩
  have hB2 := bthen hB hb
  clear hb HA hB
  go_wp2
  go_ret
  exact ⟨rfl, hB2⟩
end Go.Proofs.Ytojmkgllbhbeiaa
