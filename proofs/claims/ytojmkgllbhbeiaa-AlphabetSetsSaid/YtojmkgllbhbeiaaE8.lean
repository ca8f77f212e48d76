/-
  WALKS of the library: slices.Sort and slices.Compact at ints, on a row of the caller's own.
-/
import Derived.Test.YtojmkgllbhbeiaaK9
import Derived.Shelf.Slices.In.SortNone
namespace Go.Proofs.Ytojmkgllbhbeiaa
open Go.RowKit Go.Shelf Go.Sort

/-- A row's block, after another content of the same places. -/
theorem owns_putRow {w : World} {base g cap n : Nat} {xs : List Value} (h : w.ownsRow base 3 1 (.slice (some ⟨g, 0, none⟩) n cap) n xs) (d : Array Int) (hd : d.size = n) (m : Nat) (hm : m ≤ n) :
    (putRow (Value.int .i64) w g 0 d).ownsRow base 3 1 (.slice (some ⟨g, 0, none⟩) m cap) m ((d.toList.take m).map intZ) := by
  obtain ⟨_, ⟨h0, _⟩ | ⟨g', cap', cur, e, hg, hh, hn, hcap, hsz, htk⟩⟩ := h
  · cases h0
  · cases e
    refine ⟨by simp; omega, .inr ⟨g, cap, putCells (Value.int .i64) 0 d cur, rfl, hg, ?_, by omega, hcap, by simp [putCells, hsz], ?_⟩⟩
    · unfold putRow mapBlock
      simp only [Array.getElem?_modify, if_true, hh, Option.map_some, onCells]
    · rw [Nat.mul_one] at hsz ⊢
      refine List.ext_getElem? fun j => ?_
      rw [List.getElem?_take, List.getElem?_map, List.getElem?_take]
      split
      · rename_i hj
        have hj1 : j < cur.size := by omega
        have hj2 : j < d.size := by omega
        rw [Array.getElem?_toList, putCells, Array.getElem?_mapIdx, Array.getElem?_eq_getElem hj1, Option.map_some, if_pos ⟨by omega, by omega⟩]
        simp [intZ, hj2]
      · rfl
theorem grow_below (w : World) (os : Array Obj) : Below w.heap.size w (grow w os) := by
  refine ⟨rfl, rfl, rfl, by simp [grow], fun k hk => ?_⟩
  simp [grow, Array.getElem?_append, hk]
theorem putRow_below {B : Nat} {w : World} {g : Nat} (hg : B ≤ g) (d : Array Int) : Below B w (putRow (Value.int .i64) w g 0 d) := by
  refine ⟨rfl, rfl, rfl, by simp, fun k hk => ?_⟩
  unfold putRow mapBlock
  simp only [Array.getElem?_modify]
  rw [if_neg (by omega)]
theorem holds_own {w : World} {base g cap : Nat} {zs : List Int} (h : w.ownsRow base 3 1 (.slice (some ⟨g, 0, none⟩) zs.length cap) zs.length (zs.map intZ)) : Holds (Value.int .i64) w g 0 zs.toArray := by
  obtain ⟨_, ⟨h0, _⟩ | ⟨g', cap', cur, e, hg, hh, hn, hcap, hsz, htk⟩⟩ := h
  · cases h0
  · cases e
    have hb : Blk w g cur 3 := hh
    intro j hj
    have hj : j < zs.length := by simpa using hj
    rw [Nat.mul_one] at htk
    refine ⟨?_, hb.frozen _⟩
    rw [Nat.zero_add, hb.cell]
    have : cur.toList[j]? = (zs.map intZ)[j]? := by rw [← htk, List.getElem?_take, if_pos hj]
    rw [Array.getElem?_toList] at this
    rw [this]
    simp [hj, intZ]

theorem grow_grown (w : World) (os : Array Obj) (r : Option Nat) : w.grownBy (grow w os) r := ⟨rfl, rfl, rfl, by simp [grow], fun k hk _ => by simp [grow, Array.getElem?_append, hk]⟩
theorem putRow_grown (w : World) (g : Nat) (d : Array Int) : w.grownBy (putRow (Value.int .i64) w g 0 d) (some g) := by
  refine ⟨rfl, rfl, rfl, by simp, fun k hk hne => ?_⟩
  unfold putRow mapBlock
  simp only [Array.getElem?_modify]
  rw [if_neg (fun e => hne (by rw [e]))]
theorem grown_then {a b c : World} {r : Option Nat} (h : a.grownBy b r) (k : b.grownBy c r) : a.grownBy c r :=
  ⟨k.os.trans h.os, k.tape.trans h.tape, k.output.trans h.output, Nat.le_trans h.size k.size, fun i hi hne => (k.block i (Nat.lt_of_lt_of_le hi h.size) hne).trans (h.block i hi hne)⟩
theorem ahead_grown (w : World) (n : Nat) (r : Option Nat) : w.grownBy (Sort.ahead w n) r := ⟨rfl, rfl, rfl, Nat.le_refl _, fun _ _ _ => rfl⟩
theorem Blk.grown {w w' : World} {b : Nat} {cs : Array Value} {t : TypeId} {r : Option Nat} (h : Blk w b cs t) (hg : w.grownBy w' r) (hne : r ≠ some b) : Blk w' b cs t := (hg.block b h.lt (fun e => hne e.symm)).trans h
def sortZ (zs : List Int) : List Int := zs.mergeSort fun x y => decide (x ≤ y)
theorem sortZ_len (zs : List Int) : (sortZ zs).length = zs.length := by unfold sortZ; simp
/-- slices.Sort on a row of the caller's own. -/
theorem sortInts_own (v : Value) (zs : List Int) (base : Nat) (w : World) (h : w.ownsRow base 3 1 v zs.length (zs.map intZ)) (hlen : zs.length ≤ 1000000) :
    Calls Try.prog 53 #[v] w fun e w' => e = .returned (.tuple #[]) ∧ w'.ownsRow base 3 1 v zs.length ((sortZ zs).map intZ) ∧ w.grownBy w' v.ownBlock := by
  have h0 := h
  obtain ⟨_, ⟨rfl, h1⟩ | ⟨g, cap, cur, rfl, hg, hh, hn, hcap, hsz, htk⟩⟩ := h
  · obtain rfl := List.eq_nil_of_length_eq_zero h1
    have := Any.slices_Sort_int_none sortInts none 0 w
    refine this.mono ?_
    rintro e w' ⟨rfl, rfl⟩
    exact ⟨rfl, by rw [show sortZ [] = [] by unfold sortZ; simp]; exact h0, ahead_grown w' 0 _⟩
  · have hb : Blk w g cur 3 := hh
    have := Any.slices_Sort_int sortInts g 0 cap zs w (holds_own h0) hb.lt (by omega)
    refine this.mono ?_
    rintro e w' ⟨rfl, n, os, rfl⟩
    have hd : (sortZ zs).toArray.size = zs.length := by simp [sortZ_len]
    have hA : (Sort.ahead w n).ownsRow base 3 1 (.slice (some ⟨g, 0, none⟩) zs.length cap) zs.length (zs.map intZ) := h0
    have hr := owns_putRow hA (sortZ zs).toArray hd zs.length (Nat.le_refl _)
    rw [show ((sortZ zs).toArray.toList.take zs.length) = sortZ zs by rw [List.toList_toArray, List.take_of_length_le (by rw [sortZ_len]; omega)]] at hr
    exact ⟨rfl, owns_later hr (grow_below _ os), grown_then (ahead_grown w n _) (grown_then (putRow_grown _ g _) (grow_grown _ os _))⟩
/-- slices.Compact on a row of the caller's own. -/
theorem compactInts_own (v : Value) (zs : List Int) (base : Nat) (w : World) (h : w.ownsRow base 3 1 v zs.length (zs.map intZ)) (hlen : zs.length ≤ 1000000) :
    Calls Try.prog 54 #[v] w fun e w' => ∃ v', e = .returned v' ∧ w'.ownsRow base 3 1 v' (Lib.compact zs).length ((Lib.compact zs).map intZ) ∧ v'.ownBlock = v.ownBlock ∧ w.grownBy w' v.ownBlock := by
  have h0 := h
  obtain ⟨_, ⟨rfl, h1⟩ | ⟨g, cap, cur, rfl, hg, hh, hn, hcap, hsz, htk⟩⟩ := h
  · obtain rfl := List.eq_nil_of_length_eq_zero h1
    refine (Any.slices_Compact_int_empty compInts none 0 w).mono ?_
    rintro e w' ⟨rfl, rfl⟩
    exact ⟨_, rfl, World.ownsRow_nil _ _ _ _, rfl, ahead_grown w' 0 _⟩
  · have := Any.slices_Compact_int compInts g 0 cap zs w (holds_own h0) (by omega) hn
    refine this.mono ?_
    rintro e w' ⟨rfl, q, rfl⟩
    have hle : (Lib.compact zs).length ≤ zs.length := by
      unfold Lib.compact Lib.compactUpTo
      rw [List.length_map]
      have := List.length_filter_le (Lib.keeps zs.toArray) (List.range zs.length)
      rwa [List.length_range] at this
    have hd : (Lib.compact zs ++ List.replicate (zs.length - (Lib.compact zs).length) 0).toArray.size = zs.length := by simp; omega
    have hA : (Sort.ahead w q).ownsRow base 3 1 (.slice (some ⟨g, 0, none⟩) zs.length cap) zs.length (zs.map intZ) := h0
    have hr := owns_putRow hA _ hd (Lib.compact zs).length hle
    rw [List.toList_toArray, List.take_left] at hr
    exact ⟨_, rfl, hr, rfl, grown_then (ahead_grown w q _) (putRow_grown _ g _)⟩
end Go.Proofs.Ytojmkgllbhbeiaa
