/-
  How slices of sets, bytes and integers that come in are opened, with their capacity.
-/
import Derived.Test.YtojmkgllbhbeiaaK9
namespace Go.Proofs.Ytojmkgllbhbeiaa
set_option maxRecDepth 100000
open Go.ChangeShapes Go.WideShapes Go.ChangeAt Go.RowKit

/-- An integer that fits. -/
def InI64 (n : Int) : Prop := -9223372036854775808 ≤ n ∧ n ≤ 9223372036854775807
theorem wf_i64 {n : Int} (h : (Lit.int .i64 n).wf = true) : InI64 n := by
  have h : -9223372036854775808 ≤ n ∧ n ≤ 9223372036854775807 := by simpa [Lit.wf, IntKind.min, IntKind.max, IntKind.bits, IntKind.signed] using h
  exact h
theorem cells3 : Try.prog.cellsOf 3 = 1 := by kernel_rfl
section
variable {H : Type} {enc : TypeId × Value → H} {W : World} {sp : Nat → Bool} {held : Bool} {base : Nat}

theorem open_sets_c {b0 : Nat} {v : Value} {d : DataW H} {ps : List MemPlace} (hv : Value.okWide Try.prog W .any b0 37 v) (hd : DataW.Trod enc Try.prog W base sp held 37 v d ps) :
    ∃ ss : List Nat, (∀ s ∈ ss, s < 2 ^ 256) ∧ SlC W v 4 ss.length (setCells ss) := by
  rcases open_sets hv hd with rfl | ⟨b, o, cap, ss, rfl, hb, hl, _, hin⟩
  · exact ⟨[], by simp, none, 0, rfl, ⟨rfl, .inl ⟨rfl, rfl⟩⟩, Nat.le_refl _, fun _ => rfl⟩
  · exact ⟨ss, hin.lt, some ⟨b, o, none⟩, cap, rfl, ⟨setCells_len _, .inr ⟨b, o, cap, rfl, hb, hin.cells⟩⟩, hl, fun h => nomatch h⟩

theorem open_bytes_c {b0 : Nat} {v : Value} {d : DataW H} {ps : List MemPlace} (hv : Value.okWide Try.prog W .any b0 44 v) (hd : DataW.Trod enc Try.prog W base sp held 44 v d ps) :
    ∃ l : List Nat, (∀ c ∈ l, c < 256) ∧ SlC W v 1 l.length (l.map byteV) := by
  rcases okWide_sl Try.underlying44 hv with rfl | ⟨b, o, len, cap, rfl, hb, hl, hm⟩
  · exact ⟨[], by simp, none, 0, rfl, ⟨rfl, .inl ⟨rfl, rfl⟩⟩, Nat.le_refl _, fun _ => rfl⟩
  · obtain ⟨fuel, hf⟩ := hd
    rcases DataW.trod_slice Try.underlying44 hf with ⟨h, _⟩ | ⟨a, len', cap', elems, rest, n, _, hcs, _, _, _, _, hlen, hel, _⟩
    · cases h
    · have hcs : [Value.slice (some ⟨b, o, none⟩) len cap] = [Value.slice (some a) len' cap'] := hcs
      simp only [List.cons.injEq, Value.slice.injEq, Option.some.injEq, and_true] at hcs
      obtain ⟨rfl, rfl, rfl⟩ := hcs
      have hone : ∀ i, ∃ c : Nat, i < len → c < 256 ∧ W.cell? ⟨b, o + i, none⟩ = some (byteV c) := fun i => by
        by_cases hi : i < len
        · have h := hel i hi
          rw [cells5, List.getElem?_eq_getElem (by omega), Option.bind_eq_some_iff] at h
          obtain ⟨cs', hc, ht⟩ := h
          obtain ⟨_, h1, hat⟩ := World.cells?_some hc
          obtain ⟨n, e, _, wn⟩ := DataW.trod_int Try.underlying5 ht
          obtain ⟨c, rfl, hcl⟩ := wf_u8 wn
          refine ⟨c, fun _ => ⟨hcl, ?_⟩⟩
          have := hat 0 (by decide)
          rw [add_at, add_at, e, Nat.mul_one, Nat.add_zero] at this
          exact this
        · exact ⟨0, fun h => absurd h hi⟩
      obtain ⟨f, hf⟩ := Classical.axiomOfChoice hone
      refine ⟨(List.range len).map f, fun x hx => ?_, some ⟨b, o, none⟩, cap, by simp, ⟨by simp, .inr ⟨b, o, cap, by simp, hb, fun i hi => ?_⟩⟩, by simpa using hl, fun h => nomatch h⟩
      · obtain ⟨i, hi, rfl⟩ := List.mem_map.1 hx
        exact (hf i (List.mem_range.1 hi)).1
      · have hi' : i < len := by simpa using hi
        rw [(hf i hi').2]
        simp [hi']

theorem open_ints_c {b0 : Nat} {v : Value} {d : DataW H} {ps : List MemPlace} (hv : Value.okWide Try.prog W .any b0 55 v) (hd : DataW.Trod enc Try.prog W base sp held 55 v d ps) :
    ∃ l : List Int, (∀ c ∈ l, InI64 c) ∧ SlC W v 1 l.length (l.map intZ) := by
  rcases okWide_sl Try.underlying55 hv with rfl | ⟨b, o, len, cap, rfl, hb, hl, hm⟩
  · exact ⟨[], by simp, none, 0, rfl, ⟨rfl, .inl ⟨rfl, rfl⟩⟩, Nat.le_refl _, fun _ => rfl⟩
  · obtain ⟨fuel, hf⟩ := hd
    rcases DataW.trod_slice Try.underlying55 hf with ⟨h, _⟩ | ⟨a, len', cap', elems, rest, n, _, hcs, _, _, _, _, hlen, hel, _⟩
    · cases h
    · have hcs : [Value.slice (some ⟨b, o, none⟩) len cap] = [Value.slice (some a) len' cap'] := hcs
      simp only [List.cons.injEq, Value.slice.injEq, Option.some.injEq, and_true] at hcs
      obtain ⟨rfl, rfl, rfl⟩ := hcs
      have hone : ∀ i, ∃ c : Int, i < len → InI64 c ∧ W.cell? ⟨b, o + i, none⟩ = some (intZ c) := fun i => by
        by_cases hi : i < len
        · have h := hel i hi
          rw [cells3, List.getElem?_eq_getElem (by omega), Option.bind_eq_some_iff] at h
          obtain ⟨cs', hc, ht⟩ := h
          obtain ⟨_, h1, hat⟩ := World.cells?_some hc
          obtain ⟨n, e, _, wn⟩ := DataW.trod_int Try.underlying3 ht
          refine ⟨n, fun _ => ⟨wf_i64 wn, ?_⟩⟩
          have := hat 0 (by decide)
          rw [add_at, add_at, e, Nat.mul_one, Nat.add_zero] at this
          exact this
        · exact ⟨0, fun h => absurd h hi⟩
      obtain ⟨f, hf⟩ := Classical.axiomOfChoice hone
      refine ⟨(List.range len).map f, fun x hx => ?_, some ⟨b, o, none⟩, cap, by simp, ⟨by simp, .inr ⟨b, o, cap, by simp, hb, fun i hi => ?_⟩⟩, by simpa using hl, fun h => nomatch h⟩
      · obtain ⟨i, hi, rfl⟩ := List.mem_map.1 hx
        exact (hf i (List.mem_range.1 hi)).1
      · have hi' : i < len := by simpa using hi
        rw [(hf i hi').2]
        simp [hi']
end
end Go.Proofs.Ytojmkgllbhbeiaa
