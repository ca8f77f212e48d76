/-
  What tells asks of its callees, in the spelling of its regions.
-/
import Derived.Test.YtojmkgllbhbeiaaRi
import Derived.Test.YtojmkgllbhbeiaaFct
namespace Go.Proofs.Ytojmkgllbhbeiaa
open Go.RowKit

theorem is_same {x y : Nat} (h : x = y) (hx : x < 2 ^ 256) (w : World) : Calls Try.prog 78 #[setV x, refV y] w fun e w' => e = .returned (.bool true) ∧ Below w.heap.size w w' := by
  subst h
  have := is_any x x hx hx w
  rw [decide_eq_true rfl] at this
  exact this
theorem of3 (c d : Nat) : Sx.ofL [c, d, c] = Sx.ofL [c, d] := by
  refine Nat.eq_of_testBit_eq fun i => ?_
  rw [Sx.tb_ofL, Sx.tb_ofL]
  refine decide_eq_decide.2 ?_
  simp only [List.mem_cons, List.not_mem_nil, or_false]
  constructor
  · rintro (h | h | h) <;> simp [h]
  · rintro (h | h) <;> simp [h]
theorem bitI_one (s c : Nat) : (bitI s c == 1) = s.testBit c := by
  unfold bitI; cases s.testBit c <;> rfl

/-- The bytes of a set, as a slice. -/
def byF (s : Nat) : Fact := if elems s = [] then .eq (.slice none 0 0) else .sl 1 (elems s).length ((elems s).map byteV)
def spF (s : Nat) : Fact := if elems s = [] then .eq (.slice none 0 0) else .sl 2 (spansOf (elems s)).length (spanCells (spansOf (elems s)))
def enF (s : Nat) : Fact := if elems s = [] then .eq (.slice none 0 0) else .sl 1 (flat (spansOf (elems s))).length ((flat (spansOf (elems s))).map intV)

theorem spans_nil (s : Nat) : elems s = [] ↔ spansOf (elems s) = [] := by
  constructor
  · intro h; rw [h]; rfl
  · intro h
    have := spans_sum s
    rw [h] at this
    exact List.length_eq_zero_iff.1 this.symm
theorem byF_fresh {B s : Nat} {w : World} {v : Value} (h : Fresh B w v 5 1 (elems s).length ((elems s).map byteV)) : (byF s).says v w := by
  unfold byF
  by_cases he : elems s = []
  · rw [if_pos he]; exact h.2.2 (by rw [he]; rfl)
  · rw [if_neg he]; exact SlN.of_sl (sl_of_owns h.1) (List.length_pos_iff.2 he)
theorem spF_fresh {B s : Nat} {w : World} {v : Value} (h : Fresh B w v 49 2 (spansOf (elems s)).length (spanCells (spansOf (elems s)))) : (spF s).says v w := by
  unfold spF
  by_cases he : elems s = []
  · rw [if_pos he]; exact h.2.2 (by rw [he]; rfl)
  · rw [if_neg he]; exact SlN.of_sl (sl_of_owns h.1) (List.length_pos_iff.2 fun e => he ((spans_nil s).2 e))
theorem enF_fresh {B s : Nat} {w : World} {v : Value} (h : Fresh B w v 3 1 (ends s 256).length ((ends s 256).map intV)) : (enF s).says v w := by
  rw [ends_all] at h
  unfold enF
  by_cases he : elems s = []
  · rw [if_pos he]; exact h.2.2 (by rw [he]; rfl)
  · rw [if_neg he]; exact SlN.of_sl (sl_of_owns h.1) (by rw [flat_len]; have := List.length_pos_iff.2 fun e => he ((spans_nil s).2 e); omega)
theorem same_facts {s : Nat} {v v' : Value} {w0 : World} (h : (byF s).says v w0) (h' : (byF s).says v' w0) (w : World) (hw : w = w0) : Calls Try.prog 82 #[v, v'] w fun e w' => e = .returned (.bool true) ∧ Gr w.heap.size w w' := by
  subst hw
  unfold byF at h h'
  by_cases he : elems s = []
  · rw [if_pos he] at h h'
    obtain rfl : v = _ := h
    obtain rfl : v' = _ := h'
    exact same_none w
  · rw [if_neg he] at h h'
    obtain ⟨b, o, cap, rfl, hb, hc⟩ := h
    obtain ⟨b', o', cap', rfl, hb', hc'⟩ := h'
    exact same_some b o cap b' o' cap' (elems s) w hb hb' (by simpa using hc) (by simpa using hc') (Nat.le_trans (size_le s) (by decide))

/-- A frame of 254 slots, written out. -/
def lit254 (f : Nat → Value) : Array Value := #[f 0, f 1, f 2, f 3, f 4, f 5, f 6, f 7, f 8, f 9, f 10, f 11, f 12, f 13, f 14, f 15, f 16, f 17, f 18, f 19, f 20, f 21, f 22, f 23, f 24, f 25, f 26, f 27, f 28, f 29, f 30, f 31, f 32, f 33, f 34, f 35, f 36, f 37, f 38, f 39, f 40, f 41, f 42, f 43, f 44, f 45, f 46, f 47, f 48, f 49, f 50, f 51, f 52, f 53, f 54, f 55, f 56, f 57, f 58, f 59, f 60, f 61, f 62, f 63, f 64, f 65, f 66, f 67, f 68, f 69, f 70, f 71, f 72, f 73, f 74, f 75, f 76, f 77, f 78, f 79, f 80, f 81, f 82, f 83, f 84, f 85, f 86, f 87, f 88, f 89, f 90, f 91, f 92, f 93, f 94, f 95, f 96, f 97, f 98, f 99, f 100, f 101, f 102, f 103, f 104, f 105, f 106, f 107, f 108, f 109, f 110, f 111, f 112, f 113, f 114, f 115, f 116, f 117, f 118, f 119, f 120, f 121, f 122, f 123, f 124, f 125, f 126, f 127, f 128, f 129, f 130, f 131, f 132, f 133, f 134, f 135, f 136, f 137, f 138, f 139, f 140, f 141, f 142, f 143, f 144, f 145, f 146, f 147, f 148, f 149, f 150, f 151, f 152, f 153, f 154, f 155, f 156, f 157, f 158, f 159, f 160, f 161, f 162, f 163, f 164, f 165, f 166, f 167, f 168, f 169, f 170, f 171, f 172, f 173, f 174, f 175, f 176, f 177, f 178, f 179, f 180, f 181, f 182, f 183, f 184, f 185, f 186, f 187, f 188, f 189, f 190, f 191, f 192, f 193, f 194, f 195, f 196, f 197, f 198, f 199, f 200, f 201, f 202, f 203, f 204, f 205, f 206, f 207, f 208, f 209, f 210, f 211, f 212, f 213, f 214, f 215, f 216, f 217, f 218, f 219, f 220, f 221, f 222, f 223, f 224, f 225, f 226, f 227, f 228, f 229, f 230, f 231, f 232, f 233, f 234, f 235, f 236, f 237, f 238, f 239, f 240, f 241, f 242, f 243, f 244, f 245, f 246, f 247, f 248, f 249, f 250, f 251, f 252, f 253]
set_option maxRecDepth 100000 in
theorem lit254_list (f : Nat → Value) : (lit254 f).toList = (List.range 254).map f := by kernel_rfl
theorem frame254 (T : Array Value) (h : T.size = 254) : T = lit254 fun i => T.getD i undef := by
  have e : T.toList = (lit254 fun i => T.getD i undef).toList := by
    rw [lit254_list]
    apply List.ext_getElem
    · simpa using h
    · intro i h1 h2
      have hi : i < T.size := by simpa using h1
      simp [hi]
  cases T with
  | mk l => 
    generalize (lit254 fun i => (Array.mk l).getD i undef) = B at e
    cases B with
    | mk m => exact congrArg Array.mk e

theorem firstCase (s : Nat) : ∃ (x : Nat) (ok : Bool), x < 256 ∧ (∀ w, Calls Try.prog 32 #[setV s] w fun e w' => e = .returned (.tuple #[.int .u8 x, .bool ok]) ∧ Gr w.heap.size w w') ∧ ((ok = true ∧ nextI s 0 = x) ∨ (ok = false ∧ x = 0 ∧ nextI s 0 = -1)) := by
  refine ⟨_, _, ?_, fun w => first_any s w, ?_⟩
  · cases h : elems s with
    | nil => decide
    | cons x l => exact elems_lt (s := s) (by rw [h]; simp)
  unfold nextI
  cases elems s with
  | nil => exact .inr ⟨rfl, rfl, rfl⟩
  | cons x l => exact .inl ⟨rfl, by simp⟩
theorem nextCase (s c : Nat) (hc : c < 256) : ∃ (x : Nat) (ok : Bool), x < 256 ∧ (∀ w, Calls Try.prog 37 #[setV s, .int .u8 c] w fun e w' => e = .returned (.tuple #[.int .u8 x, .bool ok]) ∧ Gr w.heap.size w w') ∧ ((ok = true ∧ nextI s (c + 1) = x) ∨ (ok = false ∧ x = 0 ∧ nextI s (c + 1) = -1)) := by
  refine ⟨_, _, ?_, fun w => next_any s c hc w, ?_⟩
  · unfold nextB
    by_cases h : c = 255
    · rw [if_pos h]; decide
    · rw [if_neg h]
      dsimp only
      cases h : elems (Sx.and s (Sx.range (c + 1) 255)) with
      | nil => decide
      | cons x l => exact elems_lt (s := Sx.and s (Sx.range (c + 1) 255)) (by rw [h]; simp)
  unfold nextB nextI
  by_cases h : c = 255
  · rw [if_pos h]
    refine .inr ⟨rfl, rfl, ?_⟩
    rw [List.find?_eq_none.2]
    intro d hd
    have := elems_lt hd
    simp; omega
  · rw [if_neg h, elems_above s c]
    dsimp only
    have hf : (elems s).find? (fun d => decide (c + 1 ≤ d)) = ((elems s).filter (fun d => decide (c < d))).head? := by
      rw [List.head?_filter]; rfl
    rw [hf]
    cases (elems s).filter (fun d => decide (c < d)) with
    | nil => exact .inr ⟨rfl, rfl, rfl⟩
    | cons x l => exact .inl ⟨rfl, rfl⟩

theorem pCase (s t : Nat) (hs : s < 2 ^ 256) : ∃ p, (∀ w, Calls Try.prog 28 #[setV s, setV t] w fun e w' => e = .returned (.bool p) ∧ Gr w.heap.size w w') ∧ Hid ((((elems (Sx.less s t)).length : Int) == 0) = p) := by
  refine ⟨_, fun w => within_any s t hs w, ?_⟩
  show _ = _
  rw [Bool.eq_iff_iff, beq_iff_eq, decide_eq_true_eq, ← elems_nil (Sx.less_lt t hs), ← List.length_eq_zero_iff]
  omega
theorem qCase (s t : Nat) (hs : s < 2 ^ 256) : ∃ q, (∀ w, Calls Try.prog 29 #[setV s, setV t] w fun e w' => e = .returned (.bool q) ∧ Gr w.heap.size w w') ∧ Hid (decide (0 < (elems (Sx.and s t)).length) = q) := by
  refine ⟨_, fun w => meets_any s t hs w, ?_⟩
  show _ = _
  rw [Bool.eq_iff_iff, decide_eq_true_eq, Bool.not_eq_true', decide_eq_false_iff_not, ← elems_nil (Sx.and_lt t hs), ← List.length_eq_zero_iff]
  omega

theorem flat_get (l : List (Nat × Nat)) (k : Nat) (h : k < l.length) : (flat l)[2 * k]? = some l[k].1 ∧ (flat l)[2 * k + 1]? = some l[k].2 := by
  induction l generalizing k with
  | nil => cases h
  | cons x l ih =>
    cases k with
    | zero => exact ⟨rfl, rfl⟩
    | succ k =>
      obtain ⟨h1, h2⟩ := ih k (by simpa using h)
      rw [show 2 * (k + 1) = 2 * k + 1 + 1 by omega]
      exact ⟨h1, h2⟩
end Go.Proofs.Ytojmkgllbhbeiaa
