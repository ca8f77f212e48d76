/-
  What lists asks: a slice of one array of the reference; the cells of a slice of them.
-/
import Derived.Test.YtojmkgllbhbeiaaRq
import Derived.Test.YtojmkgllbhbeiaaT0
import Derived.Test.YtojmkgllbhbeiaaTl
import Derived.Great.BuildSlice
import Derived.Laws.AppendOwnNone
namespace Go.Proofs.Ytojmkgllbhbeiaa
open Go.RowKit

theorem info94 : (Try.prog.info? 94).map (fun i => (i.zero, i.size, i.bytes)) = some (some (.agg (A256 fun _ => 0)), 256, 2048) := by kernel_rfl

set_option maxRecDepth 100000 in
theorem fill_one (f : Nat → Int) (zs : Array Value) (hz : zs.size = 1 * 256) : Instr.fill (fun i => some (i * 256, 256)) zs [(0, Value.agg (A256 f))] = some (A256 f) := by
  have := Great.fill_whole (s := 256) (by decide) [Value.agg (A256 f)] zs (fun v hv => by rw [List.mem_singleton.1 hv]; exact A256_size f) hz.symm
  simpa [Value.cells] using this
set_option maxRecDepth 100000 in
theorem wp_build115 {ops : Array Oper} {rest : List Oper} {o : Oper} {a : Act} {w : World} {Q : Exit → Act → World → Prop} (hg : o.guard = none) (x : Operand) (ho : o.op = .buildSlice 115 1 #[(0, x)]) (f : Nat → Int) (hx : a.eval x = .agg (A256 f))
    (h : wpList Try.prog ops Q rest (a.put o.dst (.slice (some ⟨w.heap.size, 0, none⟩) 1 1)) (w.alloc (.cells (A256 f) 94))) : wpList Try.prog ops Q (o :: rest) a w := by
  obtain ⟨i0, hi, hz0, hz1, hz2⟩ := info_parts info94
  refine wpList_buildSlice hg 115 94 1 _ ho (A256 f) i0 _ Try.underlying115 hi hz0 (by rw [hz1]; decide) (by rw [hz1]; decide) ?_ h
  rw [hz1]
  have hp : (#[(0, x)].map fun y => (y.1, a.eval y.2)).toList = [(0, Value.agg (A256 f))] := by simp [hx]
  exact (congrArg _ hp).trans (fill_one f _ (by rw [Array.size_map, Array.size_range]))

theorem zsize94 : (Value.agg (A256 fun _ => 0)).cells.size = 256 := by simp only [Value.cells]; exact A256_size _
/-- The cells of sets of the reference, one behind the other. -/
def refCells (ss : List Nat) : List Value := ss.flatMap fun s => (A256 (bitI s)).toList
theorem refCells_len (ss : List Nat) : (refCells ss).length = ss.length * 256 := by
  induction ss with
  | nil => rfl
  | cons s ss ih => show ((A256 (bitI s)).toList ++ refCells ss).length = _; rw [List.length_append, ih, Array.length_toList, A256_size, List.length_cons]; omega
theorem refCells_snoc (ss : List Nat) (s : Nat) : refCells (ss ++ [s]) = refCells ss ++ (A256 (bitI s)).toList := by simp [refCells]
theorem refCells_get (ss : List Nat) (i c : Nat) (hi : i < ss.length) (hc : c < 256) : (refCells ss)[i * 256 + c]? = some (.int .i64 (bitI ss[i] c)) := by
  induction ss generalizing i with
  | nil => cases hi
  | cons s ss ih =>
    show ((A256 (bitI s)).toList ++ refCells ss)[i * 256 + c]? = _
    cases i with
    | zero => rw [List.getElem?_append_left (by rw [Array.length_toList, A256_size]; omega), Nat.zero_mul, Nat.zero_add, Array.getElem?_toList, A256_get _ hc]; rfl
    | succ i =>
      rw [List.getElem?_append_right (by rw [Array.length_toList, A256_size]; omega), Array.length_toList, A256_size, show (i + 1) * 256 + c - 256 = i * 256 + c by omega, ih i (by simpa using hi)]
      rfl
theorem refCells_of {w : World} {base g cap : Nat} {ss : List Nat} (h : w.ownsRow base 94 256 (.slice (some ⟨g, 0, none⟩) ss.length cap) ss.length (refCells ss)) : RefCells w g 0 ss := fun i hi c hc => by
  have := (owns_cell h (i * 256 + c) _ (refCells_get ss i c hi hc)).1
  rwa [Nat.zero_add]
theorem ofSpans_take {l : List (Nat × Nat)} {k : Nat} (h : k < l.length) : ofSpans (l.take (k + 1)) = Sx.or (ofSpans (l.take k)) (Sx.range l[k].1 l[k].2) := by
  rw [List.take_succ_eq_append_getElem h, ofSpans_snoc]
end Go.Proofs.Ytojmkgllbhbeiaa
