/-
  How slices of spans and of bytes that come in are opened.
-/
import Derived.Test.YtojmkgllbhbeiaaRo2
import Derived.Test.YtojmkgllbhbeiaaW7
namespace Go.Proofs.Ytojmkgllbhbeiaa
open Go.ChangeShapes Go.WideShapes Go.ChangeAt Go.RowKit

theorem fields49 : ∃ f0 f1 : Field, Try.prog.underlying 49 = some (.struct #[f0, f1]) ∧ f0.offset = 0 ∧ f0.type = 5 ∧ f1.offset = 1 ∧ f1.type = 5 := ⟨_, _, Try.underlying49, rfl, rfl, rfl, rfl⟩
theorem cells5 : Try.prog.cellsOf 5 = 1 := by kernel_rfl

section
variable {H : Type} {enc : TypeId × Value → H} {W : World} {sp : Nat → Bool} {held : Bool} {base : Nat}

set_option maxRecDepth 100000 in
theorem cells_span {fuel : Nat} {xs : List Value} {x : DataW H × List MemPlace} (hn' : xs.length = 2) (hf : DataW.trod enc Try.prog W base sp held fuel 49 xs = some x) : ∃ p : Nat × Nat, p.1 < 256 ∧ p.2 < 256 ∧ xs = [byteV p.1, byteV p.2] := by
  obtain ⟨f0, f1, hu, o0, t0, o1, t1⟩ := fields49
  obtain ⟨ys, m, _, _, _, hl, hall⟩ := DataW.trod_struct hu hf
  obtain ⟨x0, x1, rfl⟩ : ∃ x0 x1, xs = [x0, x1] := match xs, hn' with
    | [x0, x1], _ => ⟨x0, x1, rfl⟩
  have hl : ys.length = 2 := hl
  have h0 := hall 0 f0 rfl
  have h1 := hall 1 f1 rfl
  rw [o0, t0, cells5, List.getElem?_eq_getElem (by omega)] at h0
  rw [o1, t1, cells5, List.getElem?_eq_getElem (by omega)] at h1
  obtain ⟨n0, e0, _, w0⟩ := DataW.trod_int Try.underlying5 h0
  obtain ⟨n1, e1, _, w1⟩ := DataW.trod_int Try.underlying5 h1
  obtain ⟨a, rfl, ha⟩ := wf_u8 w0
  obtain ⟨b, rfl, hb⟩ := wf_u8 w1
  simp only [List.drop_zero, List.take_succ_cons, List.take_zero, List.cons.injEq, and_true, List.drop_succ_cons] at e0 e1
  exact ⟨(a, b), ha, hb, by rw [e0, e1]; rfl⟩

set_option maxRecDepth 100000 in
theorem open_spans {b0 : Nat} {v : Value} {d : DataW H} {ps : List MemPlace} (hv : Value.okWide Try.prog W .any b0 42 v) (hd : DataW.Trod enc Try.prog W base sp held 42 v d ps) :
    ∃ l : List (Nat × Nat), (∀ x ∈ l, x.1 < 256 ∧ x.2 < 256) ∧ Sl W v 2 l.length (spanCells l) := by
  rcases okWide_sl Try.underlying42 hv with rfl | ⟨b, o, len, cap, rfl, hb, hl, hm⟩
  · exact ⟨[], by simp, rfl, .inl ⟨rfl, rfl⟩⟩
  · obtain ⟨fuel, hf⟩ := hd
    rcases DataW.trod_slice Try.underlying42 hf with ⟨h, _⟩ | ⟨a, len', cap', elems, rest, n, _, hcs, _, _, _, _, hlen, hel, _⟩
    · cases h
    · have hcs : [Value.slice (some ⟨b, o, none⟩) len cap] = [Value.slice (some a) len' cap'] := hcs
      simp only [List.cons.injEq, Value.slice.injEq, Option.some.injEq, and_true] at hcs
      obtain ⟨rfl, rfl, rfl⟩ := hcs
      have hone : ∀ i, ∃ p : Nat × Nat, i < len → (p.1 < 256 ∧ p.2 < 256) ∧ W.cell? ⟨b, o + i * 2, none⟩ = some (byteV p.1) ∧ W.cell? ⟨b, o + i * 2 + 1, none⟩ = some (byteV p.2) := fun i => by
        by_cases hi : i < len
        · have h := hel i hi
          rw [cells49, List.getElem?_eq_getElem (by omega), Option.bind_eq_some_iff] at h
          obtain ⟨cs', hc, ht⟩ := h
          obtain ⟨_, h4, hat⟩ := World.cells?_some hc
          obtain ⟨p, p1, p2, rfl⟩ := cells_span h4 ht
          refine ⟨p, fun _ => ⟨⟨p1, p2⟩, ?_, ?_⟩⟩
          · have := hat 0 (by decide); rw [add_at, add_at] at this; exact this
          · have := hat 1 (by decide); rw [add_at, add_at] at this; exact this
        · exact ⟨(0, 0), fun h => absurd h hi⟩
      obtain ⟨f, hf⟩ := Classical.axiomOfChoice hone
      refine ⟨(List.range len).map f, fun x hx => ?_, spanCells_len _, .inr ⟨b, o, cap, by simp, hb, fun i hi => ?_⟩⟩
      · obtain ⟨i, hi, rfl⟩ := List.mem_map.1 hx
        exact (hf i (List.mem_range.1 hi)).1
      · have hi' : i < len * 2 := by simpa using hi
        have hk : i / 2 < len := by omega
        obtain ⟨_, h1, h2⟩ := hf (i / 2) hk
        obtain ⟨g1, g2⟩ := spanCells_get ((List.range len).map f) (i / 2) (by simpa using hk)
        have hge : ((List.range len).map f)[i / 2]'(by simpa using hk) = f (i / 2) := by simp
        rw [hge] at g1 g2
        rcases Nat.mod_two_eq_zero_or_one i with hm | hm
        · rw [show i / 2 * 2 = i by omega] at h1 g1
          rw [h1, g1]
        · rw [show o + i / 2 * 2 + 1 = o + i by omega] at h2
          rw [show i / 2 * 2 + 1 = i by omega] at g2
          rw [h2, g2]

set_option maxRecDepth 100000 in
theorem open_sets_sl {b0 : Nat} {v : Value} {d : DataW H} {ps : List MemPlace} (hv : Value.okWide Try.prog W .any b0 37 v) (hd : DataW.Trod enc Try.prog W base sp held 37 v d ps) :
    ∃ ss : List Nat, (∀ s ∈ ss, s < 2 ^ 256) ∧ Sl W v 4 ss.length (setCells ss) := by
  rcases open_sets hv hd with rfl | ⟨b, o, cap, ss, rfl, hb, _, _, hin⟩
  · exact ⟨[], by simp, rfl, .inl ⟨rfl, rfl⟩⟩
  · exact ⟨ss, hin.lt, setCells_len _, .inr ⟨b, o, cap, rfl, hb, hin.cells⟩⟩
end
end Go.Proofs.Ytojmkgllbhbeiaa
