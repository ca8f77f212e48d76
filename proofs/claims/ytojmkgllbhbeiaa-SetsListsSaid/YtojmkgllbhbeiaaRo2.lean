/-
  How slices of sets, of spans, of bytes and of integers that come in are opened.
-/
import Derived.Test.YtojmkgllbhbeiaaRow
import Derived.Test.YtojmkgllbhbeiaaSrt
namespace Go.Proofs.Ytojmkgllbhbeiaa
open Go.ChangeShapes Go.WideShapes Go.ChangeAt Go.RowKit

set_option maxRecDepth 100000 in
theorem okWide_sl {t e : TypeId} {W : World} {b0 : Nat} {v : Value} (ht : Try.prog.underlying t = some (.slice e)) (hv : Value.okWide Try.prog W .any b0 t v) :
    v = .slice none 0 0 ∨ ∃ b o len cap, v = .slice (some ⟨b, o, none⟩) len cap ∧ b < W.heap.size ∧ len ≤ cap ∧ cap ≤ 9223372036854775807 := by
  obtain ⟨a, len, cap, rfl⟩ := okWide_slice ht hv
  unfold Value.okWide at hv
  rw [ht] at hv
  dsimp only at hv
  unfold Cell.okWide at hv
  rw [ht] at hv
  dsimp only at hv
  unfold Cell.ok at hv
  rw [ht] at hv
  cases a with
  | none =>
    cases len <;> cases cap <;> simp at hv
    exact .inl rfl
  | some a =>
    obtain ⟨b, o, sp⟩ := a
    obtain ⟨h1, h2, _, h4, row, cells, h5, _⟩ := hv
    dsimp only at h4 h5
    subst h4
    refine .inr ⟨b, o, len, cap, rfl, ?_, h1, ?_⟩
    · unfold World.shape? at h5
      cases hb : W.heap[b]? with
      | none => rw [hb] at h5; simp at h5
      | some x => exact (Array.getElem?_eq_some_iff.1 hb).1
    · have : IntKind.i64.max = 9223372036854775807 := rfl
      omega

section
variable {H : Type} {enc : TypeId × Value → H} {W : World} {sp : Nat → Bool} {held : Bool} {base : Nat}

theorem cells_set {fuel : Nat} {xs : List Value} {x : DataW H × List MemPlace} (hn' : xs.length = 4) (hf : DataW.trod enc Try.prog W base sp held fuel 24 xs = some x) : ∃ s, s < 2 ^ 256 ∧ xs = (setA s).toList := by
  obtain ⟨ys, m, _, _, hl, hy, hall⟩ := DataW.trod_array arr24.hu hf
  have hone : ∀ i, i < 4 → ∃ a : Nat, xs[i]? = some (.int .u64 (a : Int)) ∧ a < 18446744073709551616 := fun i hi => by
    have h := hall i hi
    have hyi : i < ys.length := by omega
    rw [List.getElem?_eq_getElem hyi] at h
    obtain ⟨n, e, _, hw⟩ := DataW.trod_int (k := .u64) (by kernel_rfl) h
    rw [arr24.one] at e
    obtain ⟨a, rfl, ha⟩ := wf_u64 hw
    refine ⟨a, ?_, ha⟩
    have h1 : (xs.drop (i * 1)).take 1 = [Value.int .u64 (a : Int)] := e
    have h2 : ((xs.drop (i * 1)).take 1)[0]? = some (Value.int .u64 (a : Int)) := by rw [h1]; rfl
    rw [List.getElem?_take, if_pos (by decide), List.getElem?_drop] at h2
    simpa using h2
  obtain ⟨a, ea, la⟩ := hone 0 (by decide)
  obtain ⟨b, eb, lb⟩ := hone 1 (by decide)
  obtain ⟨c, ec, lc⟩ := hone 2 (by decide)
  obtain ⟨e, ee, le⟩ := hone 3 (by decide)
  obtain ⟨x0, x1, x2, x3, rfl⟩ : ∃ x0 x1 x2 x3, xs = [x0, x1, x2, x3] := match xs, hn' with
    | [x0, x1, x2, x3], _ => ⟨x0, x1, x2, x3, rfl⟩
  simp only [List.getElem?_cons_zero, List.getElem?_cons_succ, Option.some.injEq] at ea eb ec ee
  subst ea eb ec ee
  refine ⟨Sx.ofW a b c e, Sx.ofW_lt la lb lc le, ?_⟩
  unfold setA
  rw [Sx.wd_ofW0 la, Sx.wd_ofW1 la lb, Sx.wd_ofW2 la lb lc, Sx.wd_ofW3 la lb lc le]

theorem cells24 : Try.prog.cellsOf 24 = 4 := by kernel_rfl
theorem cells49 : Try.prog.cellsOf 49 = 2 := by kernel_rfl

theorem add_at (b o i : Nat) : (⟨b, o, none⟩ : Addr).add i = ⟨b, o + i, none⟩ := by unfold Addr.add; split <;> simp_all
/-- A slice of sets that came in. -/
structure SetsIn (W : World) (b o : Nat) (ss : List Nat) : Prop where
  lt : ∀ s ∈ ss, s < 2 ^ 256
  cells : ∀ i, i < ss.length * 4 → W.cell? ⟨b, o + i, none⟩ = (setCells ss)[i]?

set_option maxRecDepth 100000 in
theorem open_sets {b0 : Nat} {v : Value} {d : DataW H} {ps : List MemPlace} (hv : Value.okWide Try.prog W .any b0 37 v) (hd : DataW.Trod enc Try.prog W base sp held 37 v d ps) :
    v = .slice none 0 0 ∨ ∃ b o cap ss, v = .slice (some ⟨b, o, none⟩) ss.length cap ∧ b < W.heap.size ∧ ss.length ≤ cap ∧ cap ≤ 9223372036854775807 ∧ SetsIn W b o ss := by
  rcases okWide_sl Try.underlying37 hv with rfl | ⟨b, o, len, cap, rfl, hb, hl, hm⟩
  · exact .inl rfl
  · obtain ⟨fuel, hf⟩ := hd
    rcases DataW.trod_slice Try.underlying37 hf with ⟨h, _⟩ | ⟨a, len', cap', elems, rest, n, _, hcs, _, _, _, _, hlen, hel, _⟩
    · cases h
    · have hcs : [Value.slice (some ⟨b, o, none⟩) len cap] = [Value.slice (some a) len' cap'] := hcs
      simp only [List.cons.injEq, Value.slice.injEq, Option.some.injEq, and_true] at hcs
      obtain ⟨rfl, rfl, rfl⟩ := hcs
      have hone : ∀ i, ∃ s, i < len → s < 2 ^ 256 ∧ ∀ j, j < 4 → W.cell? ⟨b, o + i * 4 + j, none⟩ = (setA s).toList[j]? := fun i => by
        by_cases hi : i < len
        · have h := hel i hi
          rw [cells24, List.getElem?_eq_getElem (by omega), Option.bind_eq_some_iff] at h
          obtain ⟨cs', hc, ht⟩ := h
          obtain ⟨_, h4, hat⟩ := World.cells?_some hc
          obtain ⟨s, hs, rfl⟩ := cells_set h4 ht
          exact ⟨s, fun _ => ⟨hs, fun j hj => by have := hat j hj; rw [add_at, add_at] at this; exact this⟩⟩
        · exact ⟨0, fun h => absurd h hi⟩
      obtain ⟨f, hf⟩ := Classical.axiomOfChoice hone
      refine .inr ⟨b, o, cap, (List.range len).map f, by simp, hb, by simpa using hl, hm, ⟨fun s hs => ?_, fun i hi => ?_⟩⟩
      · obtain ⟨i, hi, rfl⟩ := List.mem_map.1 hs
        exact (hf i (List.mem_range.1 hi)).1
      · have hi' : i < len * 4 := by simpa using hi
        have hk : i / 4 < len := by omega
        have h1 := (hf (i / 4) hk).2 (i % 4) (by omega)
        rw [show o + i / 4 * 4 + i % 4 = o + i by omega] at h1
        have h2 := setCells_get ((List.range len).map f) (i / 4) (i % 4) (by simpa using hk) (by omega)
        rw [show i / 4 * 4 + i % 4 = i by omega] at h2
        rw [h1, h2, Array.getElem?_toList, setA_get _ (by omega)]
        simp
end
end Go.Proofs.Ytojmkgllbhbeiaa
