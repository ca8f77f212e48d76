/-
  WALKS: SetsTells.
-/
import Derived.Test.YtojmkgllbhbeiaaT1
namespace Go.Proofs.Ytojmkgllbhbeiaa
open Go.RowKit

set_option maxHeartbeats 1000000 in
theorem setsTells_any (s t c d : Nat) (hs : s < 2 ^ 256) (ht : t < 2 ^ 256) (hc : c < 256) (hd : d < 256) (w : World) : Calls Try.prog 4 #[setV s, setV t, .int .u8 c, .int .u8 d] w fun e w' => e = .returned (.bool true) ∧ Below w.heap.size w w' := by
  have HT := fun w => tells_any s t c d hs ht hc hd w
  have HA := fun w => awake_any w
  unfold setV setA at HT ⊢
  go_enter Try.func4, Try.ntmps4
  go_wp2_with fail
  refine (HT _).mono ?_
  rintro e w1 ⟨rfl, hb⟩
  have hB := bthen (below2 w _ _) hb
  clear hb HT
  go_wp2_with fail
  refine (HA _).mono ?_
  rintro e w2 ⟨rfl, hb⟩
  have hB2 := bthen hB (hb.mono (Nat.le_refl _))
  clear hb HA
  go_wp2
  go_ret
  exact ⟨rfl, hB2⟩
end Go.Proofs.Ytojmkgllbhbeiaa
