/-
  How a set that comes in is opened.
-/
import Derived.Test.YtojmkgllbhbeiaaRows
import Derived.Test.YtojmkgllbhbeiaaBase
import Derived.ProofKit
import Derived.OpenShut
import Derived.ChangeOld
import Derived.WideKeyArr2
namespace Go.Proofs.Ytojmkgllbhbeiaa
open Go.ChangeShapes Go.WideShapes Go.ChangeAt Go.RowKit
open Go.WideMaps (ArrKey okWide_arr)

theorem own : ownKnob Try.prog.godebug = none := by kernel_rfl
theorem laidOut : laidOutB Try.prog = true := by kernel_rfl
theorem arr24 : ArrKey Try.prog 24 22 4 := ⟨by kernel_rfl, by kernel_rfl, by kernel_rfl, by kernel_rfl⟩

theorem wf_u64 {n : Int} (h : (Lit.int .u64 n).wf = true) : ∃ a : Nat, n = (a : Int) ∧ a < 18446744073709551616 := by
  have h : 0 ≤ n ∧ n ≤ 18446744073709551615 := by simpa [Lit.wf, IntKind.min, IntKind.max, IntKind.bits, IntKind.signed] using h
  exact ⟨n.toNat, by omega, by omega⟩

theorem wf_u8 {n : Int} (h : (Lit.int .u8 n).wf = true) : ∃ a : Nat, n = (a : Int) ∧ a < 256 := by
  have h : 0 ≤ n ∧ n ≤ 255 := by simpa [Lit.wf, IntKind.min, IntKind.max, IntKind.bits, IntKind.signed] using h
  exact ⟨n.toNat, by omega, by omega⟩

set_option maxRecDepth 100000 in
theorem open_set {H : Type} {enc : TypeId × Value → H} {W : World} {r : Reach} {b0 : Nat} {sp : Nat → Bool} {held : Bool} {base : Nat} {v : Value} {d : DataW H} {ps : List MemPlace}
    (hv : Value.okWide Try.prog W r b0 24 v) (hd : DataW.Trod enc Try.prog W base sp held 24 v d ps) : ∃ s, s < 2 ^ 256 ∧ v = setV s := by
  obtain ⟨xs, rfl, hn⟩ := okWide_arr arr24 hv
  obtain ⟨fuel, hf⟩ := hd
  obtain ⟨ys, m, _, _, hl, hy, hall⟩ := DataW.trod_array arr24.hu hf
  obtain ⟨xs⟩ := xs
  have hn' : xs.length = 4 := by simpa using hn
  have hone : ∀ i, i < 4 → ∃ a : Nat, xs[i]? = some (.int .u64 (a : Int)) ∧ a < 18446744073709551616 := fun i hi => by
    have h := hall i hi
    have hyi : i < ys.length := by omega
    rw [List.getElem?_eq_getElem hyi] at h
    obtain ⟨n, e, _, hw⟩ := DataW.trod_int (k := .u64) (by kernel_rfl) h
    rw [arr24.one] at e
    obtain ⟨a, rfl, ha⟩ := wf_u64 hw
    refine ⟨a, ?_, ha⟩
    have h0 : ((Value.agg ⟨xs⟩).cells.toList.drop (i * 1)).take 1 = [Value.int .u64 (a : Int)] := e
    have h1 : (xs.drop (i * 1)).take 1 = [Value.int .u64 (a : Int)] := by simpa [Value.cells] using h0
    have h2 : ((xs.drop (i * 1)).take 1)[0]? = some (Value.int .u64 (a : Int)) := by rw [h1]; rfl
    rw [List.getElem?_take, if_pos (by decide), List.getElem?_drop] at h2
    simpa using h2
  obtain ⟨a, ea, la⟩ := hone 0 (by decide)
  obtain ⟨b, eb, lb⟩ := hone 1 (by decide)
  obtain ⟨c, ec, lc⟩ := hone 2 (by decide)
  obtain ⟨e, ee, le⟩ := hone 3 (by decide)
  obtain ⟨x0, x1, x2, x3, rfl⟩ : ∃ x0 x1 x2 x3, xs = [x0, x1, x2, x3] := match xs, hn' with
    | [x0, x1, x2, x3], _ => ⟨x0, x1, x2, x3, rfl⟩
  simp only [List.getElem?_cons_zero, List.getElem?_cons_succ, Option.some.injEq] at ea eb ec ee
  subst ea eb ec ee
  refine ⟨Sx.ofW a b c e, Sx.ofW_lt la lb lc le, ?_⟩
  unfold setV setA
  rw [Sx.wd_ofW0 la, Sx.wd_ofW1 la lb, Sx.wd_ofW2 la lb lc, Sx.wd_ofW3 la lb lc le]
end Go.Proofs.Ytojmkgllbhbeiaa
