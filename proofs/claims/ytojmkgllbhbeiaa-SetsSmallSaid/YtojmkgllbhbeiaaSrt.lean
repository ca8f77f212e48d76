/-
  slices.SortFunc at sets.
-/
import Derived.Test.YtojmkgllbhbeiaaW7
import Derived.Test.YtojmkgllbhbeiaaMono
import Derived.Test.YtojmkgllbhbeiaaOrd
import Derived.Test.YtojmkgllbhbeiaaLs
namespace Go.Proofs.Ytojmkgllbhbeiaa
open Go.RowKit
/-- The cells of sets. -/
def setCells (ds : List Nat) : List Value := ds.flatMap fun s => (setA s).toList
theorem setCells_len (ds : List Nat) : (setCells ds).length = ds.length * 4 := by
  induction ds with
  | nil => rfl
  | cons s ds ih => simp only [setCells, List.flatMap_cons, List.length_append, Array.length_toList, setA_size, List.length_cons] at ih ⊢; omega
theorem setCells_app (a b : List Nat) : setCells (a ++ b) = setCells a ++ setCells b := by simp [setCells]
theorem setCells_get (ds : List Nat) (k j : Nat) (h : k < ds.length) (hj : j < 4) : (setCells ds)[k * 4 + j]? = some (.int .u64 (Sx.wd ds[k] j)) := by
  induction ds generalizing k with
  | nil => cases h
  | cons s ds ih =>
    cases k with
    | zero =>
      have : j < (setA s).toList.length := by rw [Array.length_toList, setA_size]; exact hj
      rw [Nat.zero_mul, Nat.zero_add, setCells, List.flatMap_cons, List.getElem?_append_left this, Array.getElem?_toList]
      exact setA_get s hj
    | succ k =>
      have := ih k (by simpa using h)
      rw [setCells, List.flatMap_cons, List.getElem?_append_right (by rw [Array.length_toList, setA_size]; omega), Array.length_toList, setA_size,
        show (k + 1) * 4 + j - 4 = k * 4 + j by omega]
      exact this
/-- The four cells of one of them. -/
theorem setCells_four {w : World} {b o : Nat} (ds : List Nat) (hc : ∀ i, i < ds.length * 4 → w.cell? ⟨b, o + i, none⟩ = (setCells ds)[i]?) (k : Nat) (h : k < ds.length) :
    w.cell? ⟨b, o + k * 4, none⟩ = some (.int .u64 (Sx.wd ds[k] 0)) ∧ w.cell? ⟨b, o + k * 4 + 1, none⟩ = some (.int .u64 (Sx.wd ds[k] 1)) ∧
      w.cell? ⟨b, o + k * 4 + 2, none⟩ = some (.int .u64 (Sx.wd ds[k] 2)) ∧ w.cell? ⟨b, o + k * 4 + 3, none⟩ = some (.int .u64 (Sx.wd ds[k] 3)) := by
  refine ⟨?_, ?_, ?_, ?_⟩
  · have := hc (k * 4) (by omega); rw [this, show k * 4 = k * 4 + 0 from rfl, setCells_get ds k 0 h (by decide)]
  · rw [Nat.add_assoc, hc (k * 4 + 1) (by omega), setCells_get ds k 1 h (by decide)]
  · rw [Nat.add_assoc, hc (k * 4 + 2) (by omega), setCells_get ds k 2 h (by decide)]
  · rw [Nat.add_assoc, hc (k * 4 + 3) (by omega), setCells_get ds k 3 h (by decide)]

theorem split_ne {p s : Nat} (hp : p < 2 ^ 256) (h : p ≠ 0) : split p s ≠ [] := by
  intro he
  have h1 : Sx.and p s = 0 := by
    apply Classical.byContradiction; intro hn
    have : Sx.and p s ∈ split p s := by simp [split, hn]
    rw [he] at this; cases this
  have h2 : Sx.less p s = 0 := by
    apply Classical.byContradiction; intro hn
    have : Sx.less p s ∈ split p s := by simp [split, hn]
    rw [he] at this; cases this
  refine h (Sx.ext hp (by decide) fun c _ => ?_)
  have a := Sx.tb_and p s c
  have b := Sx.tb_less p s c
  rw [h1, Sx.tb_zero] at a
  rw [h2, Sx.tb_zero] at b
  rw [Sx.tb_zero]
  cases hc : p.testBit c
  · rfl
  · rw [hc] at a b; cases hd : s.testBit c <;> simp [hd] at a b
theorem raw_ne (ss : List Nat) : rawParts ss ≠ [] := by
  have h0 : Part [Sx.full] := ⟨fun p hp => by rw [List.mem_singleton.1 hp]; decide, List.pairwise_singleton _ _⟩
  have h1 : [Sx.full] ≠ [] := by simp
  unfold rawParts
  generalize [Sx.full] = ps at h0 h1
  induction ss generalizing ps with
  | nil => exact h1
  | cons s ss ih =>
    refine ih _ (h0.step s) ?_
    cases ps with
    | nil => exact absurd rfl h1
    | cons p ps =>
      have := split_ne (s := s) (h0.1 p List.mem_cons_self).2 (h0.1 p List.mem_cons_self).1
      simp [partStep, this]
theorem owns_slice {W : World} {base : Nat} {e : TypeId} {size : Nat} {v : Value} {n : Nat} {xs : List Value} (hn : 0 < n) (h : W.ownsRow base e size v n xs) : ∃ g cap, v = .slice (some ⟨g, 0, none⟩) n cap := by
  obtain ⟨k, rfl⟩ : ∃ k, n = k + 1 := ⟨n - 1, by omega⟩
  exact ownsRow_succ h

theorem owns_later {w w' : World} {base : Nat} {e : TypeId} {size : Nat} {v : Value} {n : Nat} {xs : List Value} (h : w.ownsRow base e size v n xs) (hb : Below w.heap.size w w') : w'.ownsRow base e size v n xs := by
  obtain ⟨hl, h | ⟨g, cap, cur, hv, hg, hk, h⟩⟩ := h
  · exact ⟨hl, .inl h⟩
  · exact ⟨hl, .inr ⟨g, cap, cur, hv, hg, (hb.block g (Array.getElem?_eq_some_iff.1 hk).1).trans hk, h⟩⟩
theorem below_grown {w w1 : World} {base : Nat} {e : TypeId} {size : Nat} {v : Value} {n : Nat} {xs : List Value} (hrow : w.ownsRow base e size v n xs) (hg : w.grownBy w1 v.ownBlock) (h : base ≤ w.heap.size) : Below base w w1 :=
  ⟨hg.os, hg.tape, hg.output, hg.size, fun k hk => hg.block k (by omega) (fun e => by have := (hrow.lt k e.symm).1; omega)⟩
theorem setCells_two (a b : Nat) : (setA a ++ setA b).toList = setCells [a, b] := by simp [setCells]
theorem blk_cells {w : World} {b : Nat} {ds : List Nat} {cs : Array Value} {t : TypeId} (h : Blk w b cs t) (hc : cs.toList = setCells ds) (i : Nat) (_ : i < ds.length * 4) : w.cell? ⟨b, 0 + i, none⟩ = (setCells ds)[i]? := by
  rw [Nat.zero_add, h.cell i, ← hc, Array.getElem?_toList]
theorem cell_news2 (W : World) (o : Obj) (cs : Array Value) (t : TypeId) (l : List Value) (h : cs.toList = l) : ∀ j u, l[j]? = some u → ((W.alloc o).alloc (.cells cs t)).cell? ((⟨W.heap.size + 1, 0, none⟩ : Addr).add j) = some u := by
  have := cell_news (W.alloc o) cs t l h
  rw [World.size_alloc] at this
  exact this
theorem info24 : (Try.prog.info? 24).map (fun i => (i.zero, i.size, i.bytes)) = some (some (.agg #[.int .u64 0, .int .u64 0, .int .u64 0, .int .u64 0]), 4, 32) := by kernel_rfl

open Go.Shelf Go.Lib Go.Sort
def encS (s : Nat) : List Value := (setA s).toList

theorem flat_sets (ds : List Nat) (j : Nat) (h : j < ds.length * 4) : (flatK encS 4 ds.toArray)[j]! = (setCells ds)[j]?.getD default := by
  rw [get_flatK _ _ _ _ (by simpa using h)]
  have hlt : j / 4 < ds.length := by omega
  have := setCells_get ds (j / 4) (j % 4) hlt (by omega)
  rw [show j / 4 * 4 + j % 4 = j by omega] at this
  rw [this, getElem!_pos ds.toArray (j / 4) (by simpa using hlt), List.getElem_toArray, encS]
  have := setA_get ds[j / 4] (show j % 4 < 4 by omega)
  rw [← Array.getElem?_toList] at this
  rw [List.getElem!_eq_getElem?_getD, this]
theorem setCells_has (ds : List Nat) (j : Nat) (h : j < ds.length * 4) : (setCells ds)[j]? = some ((setCells ds)[j]?.getD default) := by
  have : j < (setCells ds).length := by rw [setCells_len]; exact h
  rw [List.getElem?_eq_getElem this]; rfl

theorem cmpLaysS (blk off size : Nat) (w : World) : CmpLays Try.prog 19 #[] encS 4 cmpS blk off size w := fun _ _ _ _ x y =>
  (compare_any x y _).mono fun _ _ ⟨he, hb⟩ => by
    obtain ⟨p, hp⟩ := grown_of_gr hb
    exact ⟨he, p.n, p.os, hp⟩

theorem enters19 : ∀ args w, (callFunc 19 args).run Try.prog w = .ok (.enter 19 args) w := enters_of Try.func19 (by kernel_rfl) rfl

theorem below_sort {B blk off n : Nat} {w : World} {d : Array Nat} {os : Array Obj} (h : B ≤ blk) (hB : B ≤ w.heap.size) : Below B w (sortWorldK encS 4 w blk off n d os) := by
  have hs : (putRowK encS 4 (Sort.ahead w n) blk off d).heap.size = w.heap.size := by unfold putRowK; rw [size_putRow]; rfl
  refine ⟨rfl, rfl, rfl, ?_, fun k hk => ?_⟩
  · show w.heap.size ≤ (_ ++ os).size
    rw [Array.size_append, hs]; omega
  · show ((putRowK encS 4 (Sort.ahead w n) blk off d).heap ++ os)[k]? = w.heap[k]?
    rw [Array.getElem?_append, if_pos (by rw [hs]; omega)]
    show ((Sort.ahead w n).heap.modify blk _)[k]? = _
    rw [Array.getElem?_modify, if_neg (by omega)]
    rfl

/-- slices.SortFunc at sets. -/
theorem sort_any (blk cap : Nat) (ds : List Nat) (w : World) (hblk : blk < w.heap.size) (hc : ∀ i, i < ds.length * 4 → w.cell? ⟨blk, 0 + i, none⟩ = (setCells ds)[i]? ∧ w.frozen? ⟨blk, 0 + i, none⟩ = false) (hsz : ds.length < 1000000) :
    Calls Try.prog 90 #[.slice (some ⟨blk, 0, none⟩) ds.length cap, .func (.func 19) #[] #[]] w fun e w' =>
      e = .returned (.tuple #[]) ∧ ∃ ds' : List Nat, ds'.Perm ds ∧ (ds'.Pairwise fun a b => ¬ cmpS b a < 0) ∧ Sl w' (.slice (some ⟨blk, 0, none⟩) ds.length cap) 4 ds'.length (setCells ds') ∧ ∀ B, B ≤ blk → B ≤ w.heap.size → Below B w w' := by
  have hH : HoldsK encS 4 w blk 0 ds.toArray := fun j hj => by
    rw [size_flatK] at hj
    have hj' : j < ds.length * 4 := by simpa using hj
    obtain ⟨h1, h2⟩ := hc j hj'
    rw [flat_sets ds j hj']
    exact ⟨by rw [h1]; exact setCells_has ds j hj', h2⟩
  have h := AnyQ.slices_SortFunc sortSets 4 Try.isAgg24 Try.sizeOf24 encS (fun _ => rfl) (fun x v hv => by simp [encS, setA] at hv; rcases hv with rfl | rfl | rfl | rfl <;> rfl) cmpS swoS 19 #[] blk 0 cap ds.toArray w enters19 (cmpLaysS blk 0 _ w) hH hblk (by simp; omega)
  rw [show ds.toArray.size = ds.length from by simp] at h
  refine h.mono ?_
  rintro e w' ⟨rfl, d', n, os, ⟨hs, _, hp⟩, hso, rfl⟩
  have hs' : d'.size = ds.length := by simpa using hs
  refine ⟨rfl, d'.toList, ?_, ?_, ?_, fun B h1 h2 => below_sort h1 h2⟩
  · rw [show d'.extract 0 ds.length = d' from by rw [← hs', Array.extract_size]] at hp
    simpa using hp
  · rw [List.pairwise_iff_getElem]
    intro i j hi hj hij
    have := hso i j (Nat.zero_le _) hij (by simpa [hs'] using hj)
    unfold ltOf at this
    rw [decide_eq_false_iff_not] at this
    rw [getElem!_pos d' j (by simpa using hj), getElem!_pos d' i (by simpa using hi)] at this
    simpa using this
  · refine ⟨setCells_len _, .inr ⟨blk, 0, cap, by simp [hs'], ?_, fun i hi => ?_⟩⟩
    · show blk < ((putRowK encS 4 (Sort.ahead w n) blk 0 d').heap ++ os).size
      rw [Array.size_append, show (putRowK encS 4 (Sort.ahead w n) blk 0 d').heap.size = w.heap.size by unfold putRowK; rw [size_putRow]; rfl]
      omega
    · have hi' : i < d'.size * 4 := by simpa using hi
      have hH2 : Holds id (Sort.ahead w n) blk 0 (flatK encS 4 ds.toArray) := hH
      have hcell := cell?_putRow id (Sort.ahead w n) blk 0 _ (flatK encS 4 d') hH2 (by simp [hs']) i (by simpa using hi')
      have hlt : (⟨blk, 0 + i, none⟩ : Addr).block < (putRow id (Sort.ahead w n) blk 0 (flatK encS 4 d')).heap.size := by rw [size_putRow]; exact hblk
      have hg : (sortWorldK encS 4 w blk 0 n d' os).cell? ⟨blk, 0 + i, none⟩ = (putRow id (Sort.ahead w n) blk 0 (flatK encS 4 d')).cell? ⟨blk, 0 + i, none⟩ := by
        unfold sortWorldK grow putRowK World.cell?
        simp only [Array.getElem?_append, hlt, if_true]
      rw [hg, hcell]
      have := flat_sets d'.toList i (by simpa using hi')
      rw [show d'.toList.toArray = d' from by simp] at this
      rw [id, this]
      exact (setCells_has _ _ (by simpa using hi')).symm
end Go.Proofs.Ytojmkgllbhbeiaa
