/-
  slices.SortFunc at the sets: the library's contract, laid at this program.
  slices.SortFunc at sets.
  How slices of sets, of spans, of bytes and of integers that come in are opened.
  How slices of spans and of bytes that come in are opened.
  WALKS of package sets: Parts.
  Facts of values that outlive growth, and the law of drawn regions over lists of them.
  WALKS: Parts of no sets; Parts of any sets. The plain laws of classes.
  WALKS of package alphabet: none, is, Len, Class, Set, Least.
-/
import Derived.Shelf.SlSortCmp.WholeK
import Derived.Ground.SlsfProg
import Derived.Test.YtojmkgllbhbeiaaProg
import Derived.Test.YtojmkgllbhbeiaaK2
import Derived.Test.YtojmkgllbhbeiaaK1
namespace Go.Proofs.Ytojmkgllbhbeiaa
open Go.Shelf
def sortSets_ren : Go.Shelf.Ren := ⟨fun | 6 => 90 | 15 => 105 | 14 => 115 | 28 => 131 | 29 => 132 | 20 => 134 | 21 => 135 | 22 => 136 | 23 => 137 | 24 => 138 | 25 => 139 | 26 => 140 | 27 => 141 | 46 => 149 | 47 => 145 | 48 => 146 | 49 => 150 | 50 => 151 | 57 => 153 | n => n, fun | 22 => 37 | 24 => 24 | 25 => 26 | 3 => 3 | 39 => 102 | 0 => 0 | 53 => 159 | 55 => 22 | 4 => 4 | 46 => 152 | 45 => 151 | 50 => 156 | 5 => 5 | 9 => 9 | 66 => 167 | 70 => 171 | 76 => 175 | 77 => 176 | n => n, fun | n => n⟩
theorem sortSets : Go.Proofs.SlLaysF0.n6 Try.prog sortSets_ren := {
  mixed := by kernel_rfl
  f6 := ⟨Try.f90.name, by decide, Try.func90.trans (congrArg some (by kernel_rfl))⟩
  f14 := ⟨Try.f115.name, by decide, Try.func115.trans (congrArg some (by kernel_rfl))⟩
  f15 := Try.func105.trans (congrArg some (by kernel_rfl))
  f20 := ⟨Try.f134.name, by decide, Try.func134.trans (congrArg some (by kernel_rfl))⟩
  f21 := ⟨Try.f135.name, by decide, Try.func135.trans (congrArg some (by kernel_rfl))⟩
  f22 := ⟨Try.f136.name, by decide, Try.func136.trans (congrArg some (by kernel_rfl))⟩
  f23 := ⟨Try.f137.name, by decide, Try.func137.trans (congrArg some (by kernel_rfl))⟩
  f24 := ⟨Try.f138.name, by decide, Try.func138.trans (congrArg some (by kernel_rfl))⟩
  f25 := ⟨Try.f139.name, by decide, Try.func139.trans (congrArg some (by kernel_rfl))⟩
  f26 := ⟨Try.f140.name, by decide, Try.func140.trans (congrArg some (by kernel_rfl))⟩
  f27 := ⟨Try.f141.name, by decide, Try.func141.trans (congrArg some (by kernel_rfl))⟩
  f28 := Try.func131.trans (congrArg some (by kernel_rfl))
  f29 := Try.func132.trans (congrArg some (by kernel_rfl))
  f46 := ⟨Try.f149.name, by decide, Try.func149.trans (congrArg some (by kernel_rfl))⟩
  f47 := Try.func145.trans (congrArg some (by kernel_rfl))
  f48 := Try.func146.trans (congrArg some (by kernel_rfl))
  f49 := ⟨Try.f150.name, by decide, Try.func150.trans (congrArg some (by kernel_rfl))⟩
  f50 := ⟨Try.f151.name, by decide, Try.func151.trans (congrArg some (by kernel_rfl))⟩
  f57 := ⟨Try.f153.name, by decide, Try.func153.trans (congrArg some (by kernel_rfl))⟩
  t0 := Try.underlying0
  a0 := Try.isAgg0
  z0 := Try.sizeOf0
  v0 := Try.zeroValue0
  t3 := Try.underlying3
  a3 := Try.isAgg3
  z3 := Try.sizeOf3
  v3 := Try.zeroValue3
  t4 := Try.underlying4
  a4 := Try.isAgg4
  z4 := Try.sizeOf4
  v4 := Try.zeroValue4
  t5 := Try.underlying5
  a5 := Try.isAgg5
  z5 := Try.sizeOf5
  v5 := Try.zeroValue5
  t9 := Try.underlying9
  a9 := Try.isAgg9
  z9 := Try.sizeOf9
  v9 := Try.zeroValue9
  t22 := Try.underlying37
  a22 := Try.isAgg37
  z22 := Try.sizeOf37
  v22 := Try.zeroValue37
  t25 := Try.underlying26
  a25 := Try.isAgg26
  z25 := Try.sizeOf26
  v25 := Try.zeroValue26
  t39 := Try.underlying102
  a39 := Try.isAgg102
  z39 := Try.sizeOf102
  v39 := Try.zeroValue102
  t45 := Try.underlying151
  a45 := Try.isAgg151
  z45 := Try.sizeOf151
  v45 := Try.zeroValue151
  t46 := Try.underlying152
  a46 := Try.isAgg152
  z46 := Try.sizeOf152
  v46 := Try.zeroValue152
  t50 := Try.underlying156
  a50 := Try.isAgg156
  z50 := Try.sizeOf156
  v50 := Try.zeroValue156
  t53 := Try.underlying159
  a53 := Try.isAgg159
  z53 := Try.sizeOf159
  v53 := Try.zeroValue159
  t55 := Try.underlying22
  a55 := Try.isAgg22
  z55 := Try.sizeOf22
  v55 := Try.zeroValue22
  t66 := Try.underlying167
  a66 := Try.isAgg167
  z66 := Try.sizeOf167
  v66 := Try.zeroValue167
  t70 := Try.underlying171
  a70 := Try.isAgg171
  z70 := Try.sizeOf171
  v70 := Try.zeroValue171
  t76 := Try.underlying175
  a76 := Try.isAgg175
  z76 := Try.sizeOf175
  v76 := Try.zeroValue175
  t77 := Try.underlying176
  a77 := Try.isAgg176
  z77 := Try.sizeOf176
  v77 := Try.zeroValue176 }
end Go.Proofs.Ytojmkgllbhbeiaa
namespace Go.Proofs.Ytojmkgllbhbeiaa
open Go.RowKit
/-- The cells of sets. -/
def setCells (ds : List Nat) : List Value := ds.flatMap fun s => (setA s).toList
theorem setCells_len (ds : List Nat) : (setCells ds).length = ds.length * 4 := by
  induction ds with
  | nil => rfl
  | cons s ds ih => simp only [setCells, List.flatMap_cons, List.length_append, Array.length_toList, setA_size, List.length_cons] at ih ⊢; omega
theorem setCells_app (a b : List Nat) : setCells (a ++ b) = setCells a ++ setCells b := by simp [setCells]
theorem setCells_get (ds : List Nat) (k j : Nat) (h : k < ds.length) (hj : j < 4) : (setCells ds)[k * 4 + j]? = some (.int .u64 (Sx.wd ds[k] j)) := by
  induction ds generalizing k with
  | nil => cases h
  | cons s ds ih =>
    cases k with
    | zero =>
      have : j < (setA s).toList.length := by rw [Array.length_toList, setA_size]; exact hj
      rw [Nat.zero_mul, Nat.zero_add, setCells, List.flatMap_cons, List.getElem?_append_left this, Array.getElem?_toList]
      exact setA_get s hj
    | succ k =>
      have := ih k (by simpa using h)
      rw [setCells, List.flatMap_cons, List.getElem?_append_right (by rw [Array.length_toList, setA_size]; omega), Array.length_toList, setA_size,
        show (k + 1) * 4 + j - 4 = k * 4 + j by omega]
      exact this
/-- The four cells of one of them. -/
theorem setCells_four {w : World} {b o : Nat} (ds : List Nat) (hc : ∀ i, i < ds.length * 4 → w.cell? ⟨b, o + i, none⟩ = (setCells ds)[i]?) (k : Nat) (h : k < ds.length) :
    w.cell? ⟨b, o + k * 4, none⟩ = some (.int .u64 (Sx.wd ds[k] 0)) ∧ w.cell? ⟨b, o + k * 4 + 1, none⟩ = some (.int .u64 (Sx.wd ds[k] 1)) ∧
      w.cell? ⟨b, o + k * 4 + 2, none⟩ = some (.int .u64 (Sx.wd ds[k] 2)) ∧ w.cell? ⟨b, o + k * 4 + 3, none⟩ = some (.int .u64 (Sx.wd ds[k] 3)) := by
  refine ⟨?_, ?_, ?_, ?_⟩
  · have := hc (k * 4) (by omega); rw [this, show k * 4 = k * 4 + 0 from rfl, setCells_get ds k 0 h (by decide)]
  · rw [Nat.add_assoc, hc (k * 4 + 1) (by omega), setCells_get ds k 1 h (by decide)]
  · rw [Nat.add_assoc, hc (k * 4 + 2) (by omega), setCells_get ds k 2 h (by decide)]
  · rw [Nat.add_assoc, hc (k * 4 + 3) (by omega), setCells_get ds k 3 h (by decide)]

theorem split_ne {p s : Nat} (hp : p < 2 ^ 256) (h : p ≠ 0) : split p s ≠ [] := by
  intro he
  have h1 : Sx.and p s = 0 := by
    apply Classical.byContradiction; intro hn
    have : Sx.and p s ∈ split p s := by simp [split, hn]
    rw [he] at this; cases this
  have h2 : Sx.less p s = 0 := by
    apply Classical.byContradiction; intro hn
    have : Sx.less p s ∈ split p s := by simp [split, hn]
    rw [he] at this; cases this
  refine h (Sx.ext hp (by decide) fun c _ => ?_)
  have a := Sx.tb_and p s c
  have b := Sx.tb_less p s c
  rw [h1, Sx.tb_zero] at a
  rw [h2, Sx.tb_zero] at b
  rw [Sx.tb_zero]
  cases hc : p.testBit c
  · rfl
  · rw [hc] at a b; cases hd : s.testBit c <;> simp [hd] at a b
theorem raw_ne (ss : List Nat) : rawParts ss ≠ [] := by
  have h0 : Part [Sx.full] := ⟨fun p hp => by rw [List.mem_singleton.1 hp]; decide, List.pairwise_singleton _ _⟩
  have h1 : [Sx.full] ≠ [] := by simp
  unfold rawParts
  generalize [Sx.full] = ps at h0 h1
  induction ss generalizing ps with
  | nil => exact h1
  | cons s ss ih =>
    refine ih _ (h0.step s) ?_
    cases ps with
    | nil => exact absurd rfl h1
    | cons p ps =>
      have := split_ne (s := s) (h0.1 p List.mem_cons_self).2 (h0.1 p List.mem_cons_self).1
      simp [partStep, this]
theorem owns_slice {W : World} {base : Nat} {e : TypeId} {size : Nat} {v : Value} {n : Nat} {xs : List Value} (hn : 0 < n) (h : W.ownsRow base e size v n xs) : ∃ g cap, v = .slice (some ⟨g, 0, none⟩) n cap := by
  obtain ⟨k, rfl⟩ : ∃ k, n = k + 1 := ⟨n - 1, by omega⟩
  exact ownsRow_succ h

theorem owns_later {w w' : World} {base : Nat} {e : TypeId} {size : Nat} {v : Value} {n : Nat} {xs : List Value} (h : w.ownsRow base e size v n xs) (hb : Below w.heap.size w w') : w'.ownsRow base e size v n xs := by
  obtain ⟨hl, h | ⟨g, cap, cur, hv, hg, hk, h⟩⟩ := h
  · exact ⟨hl, .inl h⟩
  · exact ⟨hl, .inr ⟨g, cap, cur, hv, hg, (hb.block g (Array.getElem?_eq_some_iff.1 hk).1).trans hk, h⟩⟩
theorem below_grown {w w1 : World} {base : Nat} {e : TypeId} {size : Nat} {v : Value} {n : Nat} {xs : List Value} (hrow : w.ownsRow base e size v n xs) (hg : w.grownBy w1 v.ownBlock) (h : base ≤ w.heap.size) : Below base w w1 :=
  ⟨hg.os, hg.tape, hg.output, hg.size, fun k hk => hg.block k (by omega) (fun e => by have := (hrow.lt k e.symm).1; omega)⟩
theorem setCells_two (a b : Nat) : (setA a ++ setA b).toList = setCells [a, b] := by simp [setCells]
theorem blk_cells {w : World} {b : Nat} {ds : List Nat} {cs : Array Value} {t : TypeId} (h : Blk w b cs t) (hc : cs.toList = setCells ds) (i : Nat) (_ : i < ds.length * 4) : w.cell? ⟨b, 0 + i, none⟩ = (setCells ds)[i]? := by
  rw [Nat.zero_add, h.cell i, ← hc, Array.getElem?_toList]
theorem cell_news2 (W : World) (o : Obj) (cs : Array Value) (t : TypeId) (l : List Value) (h : cs.toList = l) : ∀ j u, l[j]? = some u → ((W.alloc o).alloc (.cells cs t)).cell? ((⟨W.heap.size + 1, 0, none⟩ : Addr).add j) = some u := by
  have := cell_news (W.alloc o) cs t l h
  rw [World.size_alloc] at this
  exact this
theorem info24 : (Try.prog.info? 24).map (fun i => (i.zero, i.size, i.bytes)) = some (some (.agg #[.int .u64 0, .int .u64 0, .int .u64 0, .int .u64 0]), 4, 32) := by kernel_rfl

open Go.Shelf Go.Lib Go.Sort
def encS (s : Nat) : List Value := (setA s).toList

theorem flat_sets (ds : List Nat) (j : Nat) (h : j < ds.length * 4) : (flatK encS 4 ds.toArray)[j]! = (setCells ds)[j]?.getD default := by
  rw [get_flatK _ _ _ _ (by simpa using h)]
  have hlt : j / 4 < ds.length := by omega
  have := setCells_get ds (j / 4) (j % 4) hlt (by omega)
  rw [show j / 4 * 4 + j % 4 = j by omega] at this
  rw [this, getElem!_pos ds.toArray (j / 4) (by simpa using hlt), List.getElem_toArray, encS]
  have := setA_get ds[j / 4] (show j % 4 < 4 by omega)
  rw [← Array.getElem?_toList] at this
  rw [List.getElem!_eq_getElem?_getD, this]
theorem setCells_has (ds : List Nat) (j : Nat) (h : j < ds.length * 4) : (setCells ds)[j]? = some ((setCells ds)[j]?.getD default) := by
  have : j < (setCells ds).length := by rw [setCells_len]; exact h
  rw [List.getElem?_eq_getElem this]; rfl

theorem cmpLaysS (blk off size : Nat) (w : World) : CmpLays Try.prog 19 #[] encS 4 cmpS blk off size w := fun _ _ _ _ x y =>
  (compare_any x y _).mono fun _ _ ⟨he, hb⟩ => by
    obtain ⟨p, hp⟩ := grown_of_gr hb
    exact ⟨he, p.n, p.os, hp⟩

theorem enters19 : ∀ args w, (callFunc 19 args).run Try.prog w = .ok (.enter 19 args) w := enters_of Try.func19 (by kernel_rfl) rfl

theorem below_sort {B blk off n : Nat} {w : World} {d : Array Nat} {os : Array Obj} (h : B ≤ blk) (hB : B ≤ w.heap.size) : Below B w (sortWorldK encS 4 w blk off n d os) := by
  have hs : (putRowK encS 4 (Sort.ahead w n) blk off d).heap.size = w.heap.size := by unfold putRowK; rw [size_putRow]; rfl
  refine ⟨rfl, rfl, rfl, ?_, fun k hk => ?_⟩
  · show w.heap.size ≤ (_ ++ os).size
    rw [Array.size_append, hs]; omega
  · show ((putRowK encS 4 (Sort.ahead w n) blk off d).heap ++ os)[k]? = w.heap[k]?
    rw [Array.getElem?_append, if_pos (by rw [hs]; omega)]
    show ((Sort.ahead w n).heap.modify blk _)[k]? = _
    rw [Array.getElem?_modify, if_neg (by omega)]
    rfl

/-- slices.SortFunc at sets. -/
theorem sort_any (blk cap : Nat) (ds : List Nat) (w : World) (hblk : blk < w.heap.size) (hc : ∀ i, i < ds.length * 4 → w.cell? ⟨blk, 0 + i, none⟩ = (setCells ds)[i]? ∧ w.frozen? ⟨blk, 0 + i, none⟩ = false) (hsz : ds.length < 1000000) :
    Calls Try.prog 90 #[.slice (some ⟨blk, 0, none⟩) ds.length cap, .func (.func 19) #[] #[]] w fun e w' =>
      e = .returned (.tuple #[]) ∧ ∃ ds' : List Nat, ds'.Perm ds ∧ (ds'.Pairwise fun a b => ¬ cmpS b a < 0) ∧ Sl w' (.slice (some ⟨blk, 0, none⟩) ds.length cap) 4 ds'.length (setCells ds') ∧ ∀ B, B ≤ blk → B ≤ w.heap.size → Below B w w' := by
  have hH : HoldsK encS 4 w blk 0 ds.toArray := fun j hj => by
    rw [size_flatK] at hj
    have hj' : j < ds.length * 4 := by simpa using hj
    obtain ⟨h1, h2⟩ := hc j hj'
    rw [flat_sets ds j hj']
    exact ⟨by rw [h1]; exact setCells_has ds j hj', h2⟩
  have h := AnyQ.slices_SortFunc sortSets 4 Try.isAgg24 Try.sizeOf24 encS (fun _ => rfl) (fun x v hv => by simp [encS, setA] at hv; rcases hv with rfl | rfl | rfl | rfl <;> rfl) cmpS swoS 19 #[] blk 0 cap ds.toArray w enters19 (cmpLaysS blk 0 _ w) hH hblk (by simp; omega)
  rw [show ds.toArray.size = ds.length from by simp] at h
  refine h.mono ?_
  rintro e w' ⟨rfl, d', n, os, ⟨hs, _, hp⟩, hso, rfl⟩
  have hs' : d'.size = ds.length := by simpa using hs
  refine ⟨rfl, d'.toList, ?_, ?_, ?_, fun B h1 h2 => below_sort h1 h2⟩
  · rw [show d'.extract 0 ds.length = d' from by rw [← hs', Array.extract_size]] at hp
    simpa using hp
  · rw [List.pairwise_iff_getElem]
    intro i j hi hj hij
    have := hso i j (Nat.zero_le _) hij (by simpa [hs'] using hj)
    unfold ltOf at this
    rw [decide_eq_false_iff_not] at this
    rw [getElem!_pos d' j (by simpa using hj), getElem!_pos d' i (by simpa using hi)] at this
    simpa using this
  · refine ⟨setCells_len _, .inr ⟨blk, 0, cap, by simp [hs'], ?_, fun i hi => ?_⟩⟩
    · show blk < ((putRowK encS 4 (Sort.ahead w n) blk 0 d').heap ++ os).size
      rw [Array.size_append, show (putRowK encS 4 (Sort.ahead w n) blk 0 d').heap.size = w.heap.size by unfold putRowK; rw [size_putRow]; rfl]
      omega
    · have hi' : i < d'.size * 4 := by simpa using hi
      have hH2 : Holds id (Sort.ahead w n) blk 0 (flatK encS 4 ds.toArray) := hH
      have hcell := cell?_putRow id (Sort.ahead w n) blk 0 _ (flatK encS 4 d') hH2 (by simp [hs']) i (by simpa using hi')
      have hlt : (⟨blk, 0 + i, none⟩ : Addr).block < (putRow id (Sort.ahead w n) blk 0 (flatK encS 4 d')).heap.size := by rw [size_putRow]; exact hblk
      have hg : (sortWorldK encS 4 w blk 0 n d' os).cell? ⟨blk, 0 + i, none⟩ = (putRow id (Sort.ahead w n) blk 0 (flatK encS 4 d')).cell? ⟨blk, 0 + i, none⟩ := by
        unfold sortWorldK grow putRowK World.cell?
        simp only [Array.getElem?_append, hlt, if_true]
      rw [hg, hcell]
      have := flat_sets d'.toList i (by simpa using hi')
      rw [show d'.toList.toArray = d' from by simp] at this
      rw [id, this]
      exact (setCells_has _ _ (by simpa using hi')).symm
end Go.Proofs.Ytojmkgllbhbeiaa
namespace Go.Proofs.Ytojmkgllbhbeiaa
open Go.ChangeShapes Go.WideShapes Go.ChangeAt Go.RowKit

set_option maxRecDepth 100000 in
theorem okWide_sl {t e : TypeId} {W : World} {b0 : Nat} {v : Value} (ht : Try.prog.underlying t = some (.slice e)) (hv : Value.okWide Try.prog W .any b0 t v) :
    v = .slice none 0 0 ∨ ∃ b o len cap, v = .slice (some ⟨b, o, none⟩) len cap ∧ b < W.heap.size ∧ len ≤ cap ∧ cap ≤ 9223372036854775807 := by
  obtain ⟨a, len, cap, rfl⟩ := okWide_slice ht hv
  unfold Value.okWide at hv
  rw [ht] at hv
  dsimp only at hv
  unfold Cell.okWide at hv
  rw [ht] at hv
  dsimp only at hv
  unfold Cell.ok at hv
  rw [ht] at hv
  cases a with
  | none =>
    cases len <;> cases cap <;> simp at hv
    exact .inl rfl
  | some a =>
    obtain ⟨b, o, sp⟩ := a
    obtain ⟨h1, h2, _, h4, row, cells, h5, _⟩ := hv
    dsimp only at h4 h5
    subst h4
    refine .inr ⟨b, o, len, cap, rfl, ?_, h1, ?_⟩
    · unfold World.shape? at h5
      cases hb : W.heap[b]? with
      | none => rw [hb] at h5; simp at h5
      | some x => exact (Array.getElem?_eq_some_iff.1 hb).1
    · have : IntKind.i64.max = 9223372036854775807 := rfl
      omega

section
variable {H : Type} {enc : TypeId × Value → H} {W : World} {sp : Nat → Bool} {held : Bool} {base : Nat}

theorem cells_set {fuel : Nat} {xs : List Value} {x : DataW H × List MemPlace} (hn' : xs.length = 4) (hf : DataW.trod enc Try.prog W base sp held fuel 24 xs = some x) : ∃ s, s < 2 ^ 256 ∧ xs = (setA s).toList := by
  obtain ⟨ys, m, _, _, hl, hy, hall⟩ := DataW.trod_array arr24.hu hf
  have hone : ∀ i, i < 4 → ∃ a : Nat, xs[i]? = some (.int .u64 (a : Int)) ∧ a < 18446744073709551616 := fun i hi => by
    have h := hall i hi
    have hyi : i < ys.length := by omega
    rw [List.getElem?_eq_getElem hyi] at h
    obtain ⟨n, e, _, hw⟩ := DataW.trod_int (k := .u64) (by kernel_rfl) h
    rw [arr24.one] at e
    obtain ⟨a, rfl, ha⟩ := wf_u64 hw
    refine ⟨a, ?_, ha⟩
    have h1 : (xs.drop (i * 1)).take 1 = [Value.int .u64 (a : Int)] := e
    have h2 : ((xs.drop (i * 1)).take 1)[0]? = some (Value.int .u64 (a : Int)) := by rw [h1]; rfl
    rw [List.getElem?_take, if_pos (by decide), List.getElem?_drop] at h2
    simpa using h2
  obtain ⟨a, ea, la⟩ := hone 0 (by decide)
  obtain ⟨b, eb, lb⟩ := hone 1 (by decide)
  obtain ⟨c, ec, lc⟩ := hone 2 (by decide)
  obtain ⟨e, ee, le⟩ := hone 3 (by decide)
  obtain ⟨x0, x1, x2, x3, rfl⟩ : ∃ x0 x1 x2 x3, xs = [x0, x1, x2, x3] := match xs, hn' with
    | [x0, x1, x2, x3], _ => ⟨x0, x1, x2, x3, rfl⟩
  simp only [List.getElem?_cons_zero, List.getElem?_cons_succ, Option.some.injEq] at ea eb ec ee
  subst ea eb ec ee
  refine ⟨Sx.ofW a b c e, Sx.ofW_lt la lb lc le, ?_⟩
  unfold setA
  rw [Sx.wd_ofW0 la, Sx.wd_ofW1 la lb, Sx.wd_ofW2 la lb lc, Sx.wd_ofW3 la lb lc le]

theorem cells24 : Try.prog.cellsOf 24 = 4 := by kernel_rfl
theorem cells49 : Try.prog.cellsOf 49 = 2 := by kernel_rfl

theorem add_at (b o i : Nat) : (⟨b, o, none⟩ : Addr).add i = ⟨b, o + i, none⟩ := by unfold Addr.add; split <;> simp_all
/-- A slice of sets that came in. -/
structure SetsIn (W : World) (b o : Nat) (ss : List Nat) : Prop where
  lt : ∀ s ∈ ss, s < 2 ^ 256
  cells : ∀ i, i < ss.length * 4 → W.cell? ⟨b, o + i, none⟩ = (setCells ss)[i]?

set_option maxRecDepth 100000 in
theorem open_sets {b0 : Nat} {v : Value} {d : DataW H} {ps : List MemPlace} (hv : Value.okWide Try.prog W .any b0 37 v) (hd : DataW.Trod enc Try.prog W base sp held 37 v d ps) :
    v = .slice none 0 0 ∨ ∃ b o cap ss, v = .slice (some ⟨b, o, none⟩) ss.length cap ∧ b < W.heap.size ∧ ss.length ≤ cap ∧ cap ≤ 9223372036854775807 ∧ SetsIn W b o ss := by
  rcases okWide_sl Try.underlying37 hv with rfl | ⟨b, o, len, cap, rfl, hb, hl, hm⟩
  · exact .inl rfl
  · obtain ⟨fuel, hf⟩ := hd
    rcases DataW.trod_slice Try.underlying37 hf with ⟨h, _⟩ | ⟨a, len', cap', elems, rest, n, _, hcs, _, _, _, _, hlen, hel, _⟩
    · cases h
    · have hcs : [Value.slice (some ⟨b, o, none⟩) len cap] = [Value.slice (some a) len' cap'] := hcs
      simp only [List.cons.injEq, Value.slice.injEq, Option.some.injEq, and_true] at hcs
      obtain ⟨rfl, rfl, rfl⟩ := hcs
      have hone : ∀ i, ∃ s, i < len → s < 2 ^ 256 ∧ ∀ j, j < 4 → W.cell? ⟨b, o + i * 4 + j, none⟩ = (setA s).toList[j]? := fun i => by
        by_cases hi : i < len
        · have h := hel i hi
          rw [cells24, List.getElem?_eq_getElem (by omega), Option.bind_eq_some_iff] at h
          obtain ⟨cs', hc, ht⟩ := h
          obtain ⟨_, h4, hat⟩ := World.cells?_some hc
          obtain ⟨s, hs, rfl⟩ := cells_set h4 ht
          exact ⟨s, fun _ => ⟨hs, fun j hj => by have := hat j hj; rw [add_at, add_at] at this; exact this⟩⟩
        · exact ⟨0, fun h => absurd h hi⟩
      obtain ⟨f, hf⟩ := Classical.axiomOfChoice hone
      refine .inr ⟨b, o, cap, (List.range len).map f, by simp, hb, by simpa using hl, hm, ⟨fun s hs => ?_, fun i hi => ?_⟩⟩
      · obtain ⟨i, hi, rfl⟩ := List.mem_map.1 hs
        exact (hf i (List.mem_range.1 hi)).1
      · have hi' : i < len * 4 := by simpa using hi
        have hk : i / 4 < len := by omega
        have h1 := (hf (i / 4) hk).2 (i % 4) (by omega)
        rw [show o + i / 4 * 4 + i % 4 = o + i by omega] at h1
        have h2 := setCells_get ((List.range len).map f) (i / 4) (i % 4) (by simpa using hk) (by omega)
        rw [show i / 4 * 4 + i % 4 = i by omega] at h2
        rw [h1, h2, Array.getElem?_toList, setA_get _ (by omega)]
        simp
end
end Go.Proofs.Ytojmkgllbhbeiaa
namespace Go.Proofs.Ytojmkgllbhbeiaa
open Go.ChangeShapes Go.WideShapes Go.ChangeAt Go.RowKit

theorem fields49 : ∃ f0 f1 : Field, Try.prog.underlying 49 = some (.struct #[f0, f1]) ∧ f0.offset = 0 ∧ f0.type = 5 ∧ f1.offset = 1 ∧ f1.type = 5 := ⟨_, _, Try.underlying49, rfl, rfl, rfl, rfl⟩
theorem cells5 : Try.prog.cellsOf 5 = 1 := by kernel_rfl

section
variable {H : Type} {enc : TypeId × Value → H} {W : World} {sp : Nat → Bool} {held : Bool} {base : Nat}

set_option maxRecDepth 100000 in
theorem cells_span {fuel : Nat} {xs : List Value} {x : DataW H × List MemPlace} (hn' : xs.length = 2) (hf : DataW.trod enc Try.prog W base sp held fuel 49 xs = some x) : ∃ p : Nat × Nat, p.1 < 256 ∧ p.2 < 256 ∧ xs = [byteV p.1, byteV p.2] := by
  obtain ⟨f0, f1, hu, o0, t0, o1, t1⟩ := fields49
  obtain ⟨ys, m, _, _, _, hl, hall⟩ := DataW.trod_struct hu hf
  obtain ⟨x0, x1, rfl⟩ : ∃ x0 x1, xs = [x0, x1] := match xs, hn' with
    | [x0, x1], _ => ⟨x0, x1, rfl⟩
  have hl : ys.length = 2 := hl
  have h0 := hall 0 f0 rfl
  have h1 := hall 1 f1 rfl
  rw [o0, t0, cells5, List.getElem?_eq_getElem (by omega)] at h0
  rw [o1, t1, cells5, List.getElem?_eq_getElem (by omega)] at h1
  obtain ⟨n0, e0, _, w0⟩ := DataW.trod_int Try.underlying5 h0
  obtain ⟨n1, e1, _, w1⟩ := DataW.trod_int Try.underlying5 h1
  obtain ⟨a, rfl, ha⟩ := wf_u8 w0
  obtain ⟨b, rfl, hb⟩ := wf_u8 w1
  simp only [List.drop_zero, List.take_succ_cons, List.take_zero, List.cons.injEq, and_true, List.drop_succ_cons] at e0 e1
  exact ⟨(a, b), ha, hb, by rw [e0, e1]; rfl⟩

set_option maxRecDepth 100000 in
theorem open_spans {b0 : Nat} {v : Value} {d : DataW H} {ps : List MemPlace} (hv : Value.okWide Try.prog W .any b0 42 v) (hd : DataW.Trod enc Try.prog W base sp held 42 v d ps) :
    ∃ l : List (Nat × Nat), (∀ x ∈ l, x.1 < 256 ∧ x.2 < 256) ∧ Sl W v 2 l.length (spanCells l) := by
  rcases okWide_sl Try.underlying42 hv with rfl | ⟨b, o, len, cap, rfl, hb, hl, hm⟩
  · exact ⟨[], by simp, rfl, .inl ⟨rfl, rfl⟩⟩
  · obtain ⟨fuel, hf⟩ := hd
    rcases DataW.trod_slice Try.underlying42 hf with ⟨h, _⟩ | ⟨a, len', cap', elems, rest, n, _, hcs, _, _, _, _, hlen, hel, _⟩
    · cases h
    · have hcs : [Value.slice (some ⟨b, o, none⟩) len cap] = [Value.slice (some a) len' cap'] := hcs
      simp only [List.cons.injEq, Value.slice.injEq, Option.some.injEq, and_true] at hcs
      obtain ⟨rfl, rfl, rfl⟩ := hcs
      have hone : ∀ i, ∃ p : Nat × Nat, i < len → (p.1 < 256 ∧ p.2 < 256) ∧ W.cell? ⟨b, o + i * 2, none⟩ = some (byteV p.1) ∧ W.cell? ⟨b, o + i * 2 + 1, none⟩ = some (byteV p.2) := fun i => by
        by_cases hi : i < len
        · have h := hel i hi
          rw [cells49, List.getElem?_eq_getElem (by omega), Option.bind_eq_some_iff] at h
          obtain ⟨cs', hc, ht⟩ := h
          obtain ⟨_, h4, hat⟩ := World.cells?_some hc
          obtain ⟨p, p1, p2, rfl⟩ := cells_span h4 ht
          refine ⟨p, fun _ => ⟨⟨p1, p2⟩, ?_, ?_⟩⟩
          · have := hat 0 (by decide); rw [add_at, add_at] at this; exact this
          · have := hat 1 (by decide); rw [add_at, add_at] at this; exact this
        · exact ⟨(0, 0), fun h => absurd h hi⟩
      obtain ⟨f, hf⟩ := Classical.axiomOfChoice hone
      refine ⟨(List.range len).map f, fun x hx => ?_, spanCells_len _, .inr ⟨b, o, cap, by simp, hb, fun i hi => ?_⟩⟩
      · obtain ⟨i, hi, rfl⟩ := List.mem_map.1 hx
        exact (hf i (List.mem_range.1 hi)).1
      · have hi' : i < len * 2 := by simpa using hi
        have hk : i / 2 < len := by omega
        obtain ⟨_, h1, h2⟩ := hf (i / 2) hk
        obtain ⟨g1, g2⟩ := spanCells_get ((List.range len).map f) (i / 2) (by simpa using hk)
        have hge : ((List.range len).map f)[i / 2]'(by simpa using hk) = f (i / 2) := by simp
        rw [hge] at g1 g2
        rcases Nat.mod_two_eq_zero_or_one i with hm | hm
        · rw [show i / 2 * 2 = i by omega] at h1 g1
          rw [h1, g1]
        · rw [show o + i / 2 * 2 + 1 = o + i by omega] at h2
          rw [show i / 2 * 2 + 1 = i by omega] at g2
          rw [h2, g2]

set_option maxRecDepth 100000 in
theorem open_sets_sl {b0 : Nat} {v : Value} {d : DataW H} {ps : List MemPlace} (hv : Value.okWide Try.prog W .any b0 37 v) (hd : DataW.Trod enc Try.prog W base sp held 37 v d ps) :
    ∃ ss : List Nat, (∀ s ∈ ss, s < 2 ^ 256) ∧ Sl W v 4 ss.length (setCells ss) := by
  rcases open_sets hv hd with rfl | ⟨b, o, cap, ss, rfl, hb, _, _, hin⟩
  · exact ⟨[], by simp, rfl, .inl ⟨rfl, rfl⟩⟩
  · exact ⟨ss, hin.lt, setCells_len _, .inr ⟨b, o, cap, rfl, hb, hin.cells⟩⟩
end
end Go.Proofs.Ytojmkgllbhbeiaa
namespace Go.Proofs.Ytojmkgllbhbeiaa
open Go.RowKit

theorem owns_cap {w : World} {base g n cap : Nat} {e : TypeId} {size : Nat} {xs : List Value} (h : w.ownsRow base e size (.slice (some ⟨g, 0, none⟩) n cap) n xs) : n ≤ cap ∧ cap ≤ maxLen := by
  obtain ⟨_, ⟨h, _⟩ | ⟨g', cap', cur, hv, _, _, h1, h2, _⟩⟩ := h
  · cases h
  · cases hv; exact ⟨h1, h2⟩
set_option maxRecDepth 100000 in
set_option maxHeartbeats 4000000 in
theorem parts_some (b o cap : Nat) (ss : List Nat) (hss : ∀ s ∈ ss, s < 2 ^ 256) (w : World) (hb : b < w.heap.size) (hc : ∀ i, i < ss.length * 4 → w.cell? ⟨b, o + i, none⟩ = (setCells ss)[i]?) (hlen : ss.length ≤ 1000000) :
    Calls Try.prog 31 #[.slice (some ⟨b, o, none⟩) ss.length cap] w fun e w' => ∃ g cap ds, e = .returned (.slice (some ⟨g, 0, none⟩) ds.length cap) ∧ Sl w' (.slice (some ⟨g, 0, none⟩) ds.length cap) 4 ds.length (setCells ds) ∧ ds.Perm (rawParts ss) ∧ (ds.Pairwise fun a b => ¬ cmpS b a < 0) ∧ Below w.heap.size w w' ∧ ds.length ≤ cap ∧ cap ≤ maxLen := by
  obtain ⟨i0, hi, hz0, hz1, hz2⟩ := info_parts info24
  go_enter Try.func31, Try.ntmps31
  have HC := fun w => all_any w
  unfold setV setA at HC
  go_wp2_with fail
  refine (HC _).mono ?_
  clear HC
  rintro e w0 ⟨rfl, hb0⟩
  have hB0 := hb0.below
  clear hb0
  go_wp2
  go_loopw [15, 3] (fun i v wr => ∃ k : Nat, k ≤ ss.length ∧ i = .int .i64 k ∧ wr.ownsRow w0.heap.size 24 4 v (rawParts (ss.take k)).length (setCells (rawParts (ss.take k))) ∧ Below w.heap.size w wr ∧ w0.heap.size ≤ wr.heap.size) (fun i _ _ => ss.length - (intOf i).toNat)
  case atStart =>
    refine ⟨0, by omega, rfl, ?_, hB0.alloc hB0.size _, by simp⟩
    refine ⟨by rw [setCells_len], .inr ⟨w0.heap.size, 1, _, rfl, Nat.le_refl _, blkOf1 w0 _ _, Nat.le_refl _, by decide, rfl, rfl⟩⟩
  case round =>
    obtain ⟨k, hk, rfl, hrow, hB, hsz⟩ := hrel
    by_cases hlt : k < ss.length
    · have hbB : b < w.heap.size := hb
      obtain ⟨c0, c1, c2, c3⟩ := setCells_four ss hc k hlt
      have d0 : wr.cell? ⟨b, o + k * 4, none⟩ = some (.int .u64 (Sx.wd ss[k] 0)) := by rw [hB.cell (p := ⟨b, o + k * 4, none⟩) hbB, c0]
      have d1 : wr.cell? ⟨b, o + k * 4 + 1, none⟩ = some (.int .u64 (Sx.wd ss[k] 1)) := by rw [hB.cell (p := ⟨b, o + k * 4 + 1, none⟩) hbB, c1]
      have d2 : wr.cell? ⟨b, o + k * 4 + 2, none⟩ = some (.int .u64 (Sx.wd ss[k] 2)) := by rw [hB.cell (p := ⟨b, o + k * 4 + 2, none⟩) hbB, c2]
      have d3 : wr.cell? ⟨b, o + k * 4 + 3, none⟩ = some (.int .u64 (Sx.wd ss[k] 3)) := by rw [hB.cell (p := ⟨b, o + k * 4 + 3, none⟩) hbB, c3]
      clear c0 c1 c2 c3
      have hx := hss _ (List.getElem_mem hlt)
      have hts : Hid (rawParts (ss.take (k + 1)) = partStep (rawParts (ss.take k)) ss[k]) := by rw [List.take_succ_eq_append_getElem hlt, raw_snoc]; exact rfl
      have hpt := part_raw (ss.take k)
      have hpt2 := part_raw (ss.take (k + 1))
      have hl2 := hpt2.len256
      have hne := raw_ne (ss.take k)
      generalize ss[k] = s at d0 d1 d2 d3 hx hts
      generalize rawParts (ss.take k) = ps at hrow hts hpt hne
      have hl1 := hpt.len256
      have hpos : 0 < ps.length := List.length_pos_iff.2 hne
      obtain ⟨g, cap3, rfl⟩ := owns_slice hpos hrow
      have hgb := hrow.lt g rfl
      have hcell : ∀ i, i < ps.length * 4 → wr.cell? ⟨g, 0 + i, none⟩ = (setCells ps)[i]? := fun i hi => by
        obtain ⟨u, hu⟩ : ∃ u, (setCells ps)[i]? = some u := ⟨_, List.getElem?_eq_getElem (by rw [setCells_len]; exact hi)⟩
        rw [Nat.zero_add, hu]; exact (owns_cell hrow i u hu).1
      replace hrow := Lib.hid hrow
      replace hcell := Lib.hid hcell
      go_wp2
      obtain ⟨W1, hW1⟩ : ∃ W1, W1 = wr.alloc (.cells #[.int .u64 (Sx.wd s 0), .int .u64 (Sx.wd s 1), .int .u64 (Sx.wd s 2), .int .u64 (Sx.wd s 3)] 24) := ⟨_, rfl⟩
      have bs : Blk W1 wr.heap.size #[.int .u64 (Sx.wd s 0), .int .u64 (Sx.wd s 1), .int .u64 (Sx.wd s 2), .int .u64 (Sx.wd s 3)] 24 := by rw [hW1]; exact blkOf1 wr _ _
      have hB1 : Below wr.heap.size wr W1 := by rw [hW1]; exact below1 wr _
      have hS1 : W1.heap.size = wr.heap.size + 1 := by rw [hW1]; simp
      rw [← hW1]
      clear hW1 d0 d1 d2 d3
      obtain ⟨w4, rfl⟩ : ∃ w4, w4 = wr := ⟨_, rfl⟩
      go_loopw [21, 6] (fun i v w6 => ∃ m : Nat, m ≤ ps.length ∧ i = .int .i64 m ∧ w6.ownsRow W1.heap.size 24 4 v (partStep (ps.take m) s).length (setCells (partStep (ps.take m) s)) ∧ Below W1.heap.size W1 w6) (fun i _ _ => ps.length - (intOf i).toNat)
      case atStart =>
        exact ⟨0, by omega, rfl, World.ownsRow_nil _ _ _ _, Below.refl _ _⟩
      case round =>
        obtain ⟨m, hm, rfl, hrow6, hB6⟩ := hrel
        by_cases hlt6 : m < ps.length
        · obtain ⟨c0, c1, c2, c3⟩ := setCells_four ps hcell.out m hlt6
          rw [Nat.zero_add] at c0 c1 c2 c3
          have hgl : g < w4.heap.size := hgb.2
          have d0 : wr.cell? ⟨g, m * 4, none⟩ = some (.int .u64 (Sx.wd ps[m] 0)) := by rw [hB6.cell (p := ⟨g, m * 4, none⟩) (by show g < _; omega), hB1.cell (p := ⟨g, m * 4, none⟩) hgl, c0]
          have d1 : wr.cell? ⟨g, m * 4 + 1, none⟩ = some (.int .u64 (Sx.wd ps[m] 1)) := by rw [hB6.cell (p := ⟨g, m * 4 + 1, none⟩) (by show g < _; omega), hB1.cell (p := ⟨g, m * 4 + 1, none⟩) hgl, c1]
          have d2 : wr.cell? ⟨g, m * 4 + 2, none⟩ = some (.int .u64 (Sx.wd ps[m] 2)) := by rw [hB6.cell (p := ⟨g, m * 4 + 2, none⟩) (by show g < _; omega), hB1.cell (p := ⟨g, m * 4 + 2, none⟩) hgl, c2]
          have d3 : wr.cell? ⟨g, m * 4 + 3, none⟩ = some (.int .u64 (Sx.wd ps[m] 3)) := by rw [hB6.cell (p := ⟨g, m * 4 + 3, none⟩) (by show g < _; omega), hB1.cell (p := ⟨g, m * 4 + 3, none⟩) hgl, c3]
          clear c0 c1 c2 c3
          have hmt : Hid (partStep (ps.take (m + 1)) s = partStep (ps.take m) s ++ split ps[m] s) := by rw [List.take_succ_eq_append_getElem hlt6, partStep_snoc]; exact rfl
          have hml : (partStep (ps.take m) s).length ≤ 512 := by
            have := partStep_len (ps.take m) s
            rw [List.length_take] at this; omega
          have hpx := hpt.1 _ (List.getElem_mem hlt6)
          generalize ps[m] = x at d0 d1 d2 d3 hmt hpx
          generalize partStep (ps.take m) s = qs at hrow6 hmt hml
          replace hrow6 := Lib.hid hrow6
          go_wp2
          obtain ⟨W7, hW7⟩ : ∃ W7, W7 = wr.alloc (.cells #[.int .u64 (Sx.wd x 0), .int .u64 (Sx.wd x 1), .int .u64 (Sx.wd x 2), .int .u64 (Sx.wd x 3)] 24) := ⟨_, rfl⟩
          have bx : Blk W7 wr.heap.size #[.int .u64 (Sx.wd x 0), .int .u64 (Sx.wd x 1), .int .u64 (Sx.wd x 2), .int .u64 (Sx.wd x 3)] 24 := by rw [hW7]; exact blkOf1 wr _ _
          have hB7 : Below wr.heap.size wr W7 := by rw [hW7]; exact below1 wr _
          have hS7 : Hid (W7.heap.size = wr.heap.size + 1) := Lib.hid (by rw [hW7]; simp)
          have bs7 : Blk W7 w4.heap.size #[.int .u64 (Sx.wd s 0), .int .u64 (Sx.wd s 1), .int .u64 (Sx.wd s 2), .int .u64 (Sx.wd s 3)] 24 := (bs.below hB6 (by omega)).laterB hB7
          rw [← hW7]
          clear hW7 d0 d1 d2 d3
          have H1 := fun w => and_any x s w
          have H2 := fun w => less_any x s w
          unfold setV setA at H1 H2
          refine wp_region_up 51 [fun v _ => v = .agg (setA x), fun v _ => v = .agg (setA s), fun v _ => v = .agg (setA (Sx.and x s)), fun v _ => v = .agg (setA x), fun v _ => v = .agg (setA s), fun v _ => v = .agg (setA (Sx.less x s)),
            fun v w => ∃ b1, W7.heap.size ≤ b1 ∧ v = .slice (some ⟨b1, 0, none⟩) 2 2 ∧ Blk w b1 (setA (Sx.and x s) ++ setA (Sx.less x s)) 24, fun v _ => v = .int .i64 2, fun v _ => v = .int .i64 0] mixed rfl (by kernel_rfl) ?_ ?_ ?_
          · intro w w' h1 h2 v f hf
            simp only [List.mem_cons, List.not_mem_nil, or_false] at hf
            rcases hf with rfl | rfl | rfl | rfl | rfl | rfl | rfl | rfl | rfl <;> first | exact fun h => h | exact fun ⟨b1, h1, h2, h3⟩ => ⟨b1, h1, h2, h3.laterB ‹_›⟩
          · refine ⟨?_, ?_, ?_, ?_, ?_, ?_, ?_, ?_, ?_, trivial⟩
            all_goals intro vs a w hR H hin hout hget
            · have e := hout 8 (by kernel_rfl)
              obtain ⟨c0, c1, c2, c3, _⟩ := (bx.laterB hR).four
              clear H hin hout hget
              go_wp2
              exact ⟨_, rfl, hR, Below.refl _ _, upd_same _ _ _⟩
            · have e := hout 5 (by kernel_rfl)
              obtain ⟨c0, c1, c2, c3, _⟩ := (bs7.laterB hR).four
              clear H hin hout hget
              go_wp2
              exact ⟨_, rfl, hR, Below.refl _ _, upd_same _ _ _⟩
            · have e0 := (hin 0 25 (by kernel_rfl)).trans (H 0 (by decide))
              have e1 := (hin 1 26 (by kernel_rfl)).trans (H 1 (by decide))
              unfold setA at e0 e1
              clear H hin hout hget
              go_wp2_with fail
              refine (H1 _).mono ?_
              rintro e w1 ⟨rfl, hb⟩
              go_wp2
              exact ⟨_, rfl, hR.trans (hb.below.mono hR.size), hb.below, upd_same _ _ _⟩
            · have e := hout 8 (by kernel_rfl)
              obtain ⟨c0, c1, c2, c3, _⟩ := (bx.laterB hR).four
              clear H hin hout hget
              go_wp2
              exact ⟨_, rfl, hR, Below.refl _ _, upd_same _ _ _⟩
            · have e := hout 5 (by kernel_rfl)
              obtain ⟨c0, c1, c2, c3, _⟩ := (bs7.laterB hR).four
              clear H hin hout hget
              go_wp2
              exact ⟨_, rfl, hR, Below.refl _ _, upd_same _ _ _⟩
            · have e0 := (hin 3 28 (by kernel_rfl)).trans (H 3 (by decide))
              have e1 := (hin 4 29 (by kernel_rfl)).trans (H 4 (by decide))
              unfold setA at e0 e1
              clear H hin hout hget
              go_wp2_with fail
              refine (H2 _).mono ?_
              rintro e w1 ⟨rfl, hb⟩
              go_wp2
              exact ⟨_, rfl, hR.trans (hb.below.mono hR.size), hb.below, upd_same _ _ _⟩
            · have e0 := (hget 2 27 (by kernel_rfl)).trans (congrArg some (H 2 (by decide)))
              have e1 := (hget 5 30 (by kernel_rfl)).trans (congrArg some (H 5 (by decide)))
              unfold setA at e0 e1
              clear H hin hout hget
              go_wp2
              exact ⟨_, rfl, hR.alloc hR.size _, below1 w _, w.heap.size, hR.size, upd_same _ _ _, blkOf1 w _ _⟩
            · obtain ⟨b1, h1, e0, h3⟩ := H 6 (by decide)
              have e6 := (hin 6 31 (by kernel_rfl)).trans e0
              clear H hin hout hget e0
              go_wp2
              exact ⟨_, rfl, hR, Below.refl _ _, upd_same _ _ _⟩
            · clear H hin hout hget
              go_wp2
              exact ⟨_, rfl, hR, Below.refl _ _, upd_same _ _ _⟩
          · intro vs w9 hR H
            obtain ⟨b1, hb1, e6, bb⟩ := H 6 (by decide)
            have e7 := H 7 (by decide)
            have e8 := H 8 (by decide)
            simp only [List.getD_cons_zero, List.getD_cons_succ] at e7 e8
            simp only [putAll, Act.put, List.setIfInBounds_toArray, List.set_cons_succ, List.set_cons_zero, Nat.zero_add, Nat.reduceAdd, e6, e7, e8]
            clear e6 e7 e8 H H1 H2 bx
            generalize vs 0 = y0
            generalize vs 1 = y1
            generalize vs 2 = y2
            generalize vs 3 = y3
            generalize vs 4 = y4
            generalize vs 5 = y5
            have hrow9 := owns_later (owns_later hrow6.out hB7) (hR.mono (by have := hS7.out; omega))
            have hS9 := hR.size
            have hob : u6.ownBlock ≠ some b1 := fun e => by have := (hrow6.out.lt b1 e).2; have := hS7.out; omega
            have hB9 : Below W1.heap.size W1 w9 := hB6.trans ((hB7.trans (hR.mono (by have := hS7.out; omega))).mono hB6.size)
            have hts2 : (setA (Sx.and x s) ++ setA (Sx.less x s)).toList = setCells [Sx.and x s, Sx.less x s] := setCells_two _ _
            have ht2 : ∀ y ∈ [Sx.and x s, Sx.less x s], y < 2 ^ 256 := by
              intro y hy
              simp only [List.mem_cons, List.not_mem_nil, or_false] at hy
              rcases hy with rfl | rfl
              · exact Sx.and_lt _ hpx.2
              · exact Sx.less_lt _ hpx.2
            have hsp : split x s = [Sx.and x s, Sx.less x s].filter (· ≠ 0) := rfl
            have htl : [Sx.and x s, Sx.less x s].length = 2 := rfl
            rw [hsp] at hmt
            generalize setA (Sx.and x s) ++ setA (Sx.less x s) = cs at bb hts2
            generalize [Sx.and x s, Sx.less x s] = two at hts2 ht2 hmt htl
            clear hsp hB7 hS7 hR bs7 hrow6 hB6 hpx
            replace hmt := Lib.hid hmt
            obtain ⟨w6, rfl⟩ : ∃ w6, w6 = wr := ⟨_, rfl⟩
            replace hrow9 := Lib.hid hrow9
            go_wp2
            go_loopw [33, 6] (fun i v wr => ∃ j : Nat, j ≤ 2 ∧ i = .int .i64 j ∧ wr.ownsRow W1.heap.size 24 4 v (qs ++ (two.take j).filter (· ≠ 0)).length (setCells (qs ++ (two.take j).filter (· ≠ 0))) ∧ (j = 0 → v.ownBlock ≠ some b1) ∧ (j < 2 → Blk wr b1 cs 24) ∧ Below W1.heap.size W1 wr) (fun i _ _ => 2 - (intOf i).toNat)
            case atStart =>
              refine ⟨0, by omega, rfl, ?_, fun _ => hob, fun _ => bb, hB9⟩
              simpa using hrow9.out
            case round =>
              obtain ⟨j, hj, rfl, hrow, hob, hbb, hBj⟩ := hrel
              by_cases hltj : j < 2
              · obtain ⟨c0, c1, c2, c3⟩ := setCells_four two (blk_cells (hbb hltj) hts2) j (by omega)
                rw [Nat.zero_add] at c0 c1 c2 c3
                have hy := ht2 _ (List.getElem_mem (show j < two.length by omega))
                have hmt2 : Hid (two.take (j + 1) = two.take j ++ [two[j]'(by omega)]) := Lib.hid (List.take_succ_eq_append_getElem (by omega))
                have htkl : ((two.take j).filter (· ≠ 0)).length ≤ 2 := by
                  have := List.length_filter_le (· ≠ 0) (two.take j)
                  rw [List.length_take] at this; omega
                have hlq : (qs ++ (two.take j).filter (· ≠ 0)).length ≤ 514 := by rw [List.length_append]; omega
                generalize two[j]'(by omega) = y at c0 c1 c2 c3 hy hmt2
                have HE := fun w => neqSet hy (show 0 < 2 ^ 256 by decide) w
                have HG := guardSet
                rw [setV_zero] at HE
                unfold setV setA at HE
                have hxs : Hid ((qs ++ (two.take (j + 1)).filter (· ≠ 0)) = (qs ++ (two.take j).filter (· ≠ 0)) ++ (if y = 0 then [] else [y])) := by
                  rw [hmt2.out, List.filter_append, List.append_assoc]
                  by_cases hy0 : y = 0
                  · simp only [hy0]; exact rfl
                  · rw [if_neg hy0, List.filter_cons_of_pos (by simpa using hy0)]; exact rfl
                clear hmt2
                generalize qs ++ (two.take j).filter (· ≠ 0) = rs at hrow hxs hlq
                replace hrow := Lib.hid hrow
                clear htkl
                by_cases hy0 : y = 0
                · rw [if_pos hy0, List.append_nil] at hxs
                  have hd : decide (y = 0) = true := decide_eq_true hy0
                  clear hy0
                  go_wp2
                  go_roundw
                  case rel => exact ⟨j + 1, by omega, by go_num, by rw [hxs.out]; exact hrow.out.alloc _, fun h => by omega, fun h => (hbb hltj).alloc _, hBj.alloc hBj.size _⟩
                  case measure => simp [intOf]; omega
                · rw [if_neg hy0] at hxs
                  have hd : decide (y = 0) = false := decide_eq_false hy0
                  clear hy0
                  go_wp2_with (at_builtin; go_must (refine wpList_append_own _ rfl _ _ 37 rfl W1.heap.size 24 i0 _ 4 32 Try.underlying37 hi hz0 hz1 hz2 rfl (by decide) _ _ _ rfl ((hrow.out.alloc _).alloc _) ⟨wr.heap.size + 1, 0, none⟩ 1 1 [.int .u64 (Sx.wd y 0 : Nat), .int .u64 (Sx.wd y 1 : Nat), .int .u64 (Sx.wd y 2 : Nat), .int .u64 (Sx.wd y 3 : Nat)] rfl rfl (cell_news2 _ _ _ _ _ rfl) (by simp [Value.oneCell']) (by unfold maxLen; omega) (by omega) (by have := hBj.size; simp; omega) ?_); intro v' w1 hown' hgrow _)
                  go_roundw
                  case rel => 
                    have hB2 : Below W1.heap.size wr w1 := ((below2 wr _ _).mono hBj.size).trans (below_grown ((hrow.out.alloc _).alloc _) hgrow (by have := hBj.size; simp; omega))
                    refine ⟨j + 1, by omega, by go_num, ?_, fun h => by omega, fun h => ?_, hBj.trans hB2⟩
                    · rw [hxs.out, setCells_app, List.length_append]; exact hown'
                    · have hbj := hbb hltj
                      have := hbj.lt
                      exact (hgrow.block b1 (by simp; omega) (fun e => hob (by omega) e.symm)).trans ((hbj.alloc _).alloc _)
                  case measure => simp [intOf]; omega
              · obtain rfl : j = 2 := by omega
                rw [List.take_of_length_le (by omega : two.length ≤ 2), ← hmt.out] at hrow
                go_wp2
                go_roundw
                case rel => exact ⟨m + 1, by omega, by go_num, hrow, hBj⟩
                case measure => simp [intOf]; omega
        · obtain rfl : m = ps.length := by omega
          rw [List.take_length, ← hts.out] at hrow6
          go_wp2
          go_roundw
          case rel => exact ⟨k + 1, by omega, by go_num, owns_mono hrow6 (by omega), hB.trans ((hB1.trans (hB6.mono (by omega))).mono hB.size), by have := hB6.size; omega⟩
          case measure => simp [intOf]; omega
    · obtain rfl : k = ss.length := by omega
      rw [List.take_length] at hrow
      have hpos : 0 < (rawParts ss).length := List.length_pos_iff.2 (raw_ne ss)
      have hl1 := (part_raw ss).len256
      obtain ⟨ps, hps⟩ : ∃ ps, rawParts ss = ps := ⟨_, rfl⟩
      rw [hps] at hrow hpos hl1
      replace hps := Lib.hid hps
      obtain ⟨g, cap3, rfl⟩ := owns_slice hpos hrow
      have hgb := hrow.lt g rfl
      have hcp := Lib.hid (owns_cap hrow)
      have hS := fun hc => sort_any g cap3 ps wr hgb.2 hc (by omega)
      replace hS := hS fun i hi => by
        obtain ⟨u, hu⟩ : ∃ u, (setCells ps)[i]? = some u := ⟨_, List.getElem?_eq_getElem (by rw [setCells_len]; exact hi)⟩
        rw [Nat.zero_add, hu]; exact owns_cell hrow i u hu
      clear hrow
      replace hS := Lib.hid hS
      go_wp2_with fail
      refine hS.out.mono ?_
      clear hS
      rintro e w9 ⟨rfl, ds, hp, hso, hsl, hb9⟩
      have hlen : ps.length = ds.length := hp.length_eq.symm
      have hBf := hB.trans (hb9 w.heap.size (by have := hB0.size; omega) hB.size)
      replace hsl := Lib.hid hsl
      replace hso := Lib.hid hso
      replace hlen := Lib.hid hlen
      go_wp2
      go_ret
      refine ⟨g, cap3, ds, by rw [← hlen.out]; rfl, ?_, by rw [hps.out]; exact hp, hso.out, hBf, by rw [← hlen.out]; exact hcp.out.1, hcp.out.2⟩
      have := hsl.out
      rw [hlen.out] at this
      exact this
end Go.Proofs.Ytojmkgllbhbeiaa
namespace Go.Proofs.Ytojmkgllbhbeiaa
open Go.RowKit

inductive Fact where
  | any
  | eq (v : Value)
  | sl (k n : Nat) (cs : List Value)
  | pt (k : Nat) (cs : List Value)
  | bk (n0 : Nat) (cs : Array Value) (t : TypeId)

def SlN (w : World) (v : Value) (k n : Nat) (cs : List Value) : Prop :=
  ∃ b o cap, v = .slice (some ⟨b, o, none⟩) n cap ∧ b < w.heap.size ∧ ∀ i, i < n * k → w.cell? ⟨b, o + i, none⟩ = cs[i]?
def PtN (w : World) (v : Value) (k : Nat) (cs : List Value) : Prop :=
  ∃ b o, v = .pointer (some ⟨b, o, none⟩) ∧ b < w.heap.size ∧ ∀ i, i < k → w.cell? ⟨b, o + i, none⟩ = cs[i]?

def BkN (w : World) (v : Value) (n0 : Nat) (cs : Array Value) (t : TypeId) : Prop := ∃ b, v = .pointer (some ⟨b, 0, none⟩) ∧ n0 ≤ b ∧ Blk w b cs t

def Fact.says : Fact → Value → World → Prop
  | .any, _, _ => True
  | .eq u, v, _ => v = u
  | .sl k n cs, v, w => SlN w v k n cs
  | .pt k cs, v, w => PtN w v k cs
  | .bk n0 cs t, v, w => BkN w v n0 cs t

theorem SlN.later {w w' : World} {v : Value} {k n : Nat} {cs : List Value} (h : SlN w v k n cs) (hb : Below w.heap.size w w') : SlN w' v k n cs := by
  obtain ⟨b, o, cap, h1, h2, h3⟩ := h
  exact ⟨b, o, cap, h1, Nat.lt_of_lt_of_le h2 hb.size, fun i hi => (hb.cell (p := ⟨b, o + i, none⟩) h2).trans (h3 i hi)⟩
theorem PtN.later {w w' : World} {v : Value} {k : Nat} {cs : List Value} (h : PtN w v k cs) (hb : Below w.heap.size w w') : PtN w' v k cs := by
  obtain ⟨b, o, h1, h2, h3⟩ := h
  exact ⟨b, o, h1, Nat.lt_of_lt_of_le h2 hb.size, fun i hi => (hb.cell (p := ⟨b, o + i, none⟩) h2).trans (h3 i hi)⟩
theorem BkN.later {w w' : World} {v : Value} {n0 : Nat} {cs : Array Value} {t : TypeId} (h : BkN w v n0 cs t) (hb : Below w.heap.size w w') : BkN w' v n0 cs t := by
  obtain ⟨b, h1, h2, h3⟩ := h
  exact ⟨b, h1, h2, h3.laterB hb⟩
theorem Fact.later {w w' : World} {v : Value} (f : Fact) (h : f.says v w) (hb : Below w.heap.size w w') : f.says v w' := by
  cases f with
  | any => trivial
  | eq u => exact h
  | sl k n cs => exact SlN.later h hb
  | pt k cs => exact PtN.later h hb
  | bk n0 cs t => exact BkN.later h hb
theorem SlN.of_sl {w : World} {v : Value} {k n : Nat} {cs : List Value} (h : Sl w v k n cs) (hn : 0 < n) : SlN w v k n cs := by
  obtain ⟨_, ⟨_, h0⟩ | h⟩ := h
  · omega
  · exact h
theorem SlN.sl {w : World} {v : Value} {k n : Nat} {cs : List Value} (h : SlN w v k n cs) (hl : cs.length = n * k) : Sl w v k n cs := ⟨hl, .inr h⟩

/-- An operation's bare form. -/
def bare (o : Oper) : Oper := { dst := o.dst, op := o.op, type := o.type, pos := "", after := #[], guard := none }
theorem exec_bare (ev : Operand → Value) (o : Oper) : execOp ev (bare o) = execOp ev o := by
  cases o with
  | mk dst op type pos after guard => cases op <;> rfl

section
variable {P : Program} {l : List Oper} {o : Oper} {a : Act} {w : World} {G : Value → World → Prop} {vs : Nat → Value}

theorem one_bare (hw : Region.wanted o (yielded l.toArray a.tmps) = true) (h : wpList P #[] (oneV a G (bare o)) [bare o] a w) : wpList P l.toArray (oneV a G o) [o] a w := by
  unfold wpList at h ⊢
  rw [if_pos hw]
  rw [if_pos (by rfl)] at h
  rcases h with h | ⟨_, _, _, h⟩
  · refine .inl ?_
    unfold Oper.wp at h ⊢
    rw [exec_bare] at h
    exact h
  · exact h.elim
theorem one_free (hg : o.guard = none) (h : wpList P #[] (oneV a G (bare o)) [bare o] a w) : wpList P l.toArray (oneV a G o) [o] a w :=
  one_bare (by unfold Region.wanted; rw [hg]) h
theorem one_guard (g : Nat) (b : Bool) (t : Tmp) (hg : o.guard = some (g, b)) (hd : dstAt l g = some t) (hv : a.tmps[t]? = some (.bool b)) (h : wpList P #[] (oneV a G (bare o)) [bare o] a w) : wpList P l.toArray (oneV a G o) [o] a w := by
  refine one_bare ?_ h
  unfold Region.wanted yielded
  unfold dstAt at hd
  rw [hg]
  simp [hd, hv]
theorem one_skip (g : Nat) (b : Bool) (t : Tmp) (hg : o.guard = some (g, b)) (hd : dstAt l g = some t) (hv : a.tmps[t]? = some (.bool (!b))) (h : G undef w) : wpList P l.toArray (oneV a G o) [o] a w := by
  unfold wpList
  rw [if_neg]
  · exact ⟨undef, rfl, h⟩
  · unfold Region.wanted yielded
    unfold dstAt at hd
    rw [hg]
    cases b <;> simp [hd, hv]
end

/-- Facts for each operation; what is done makes memory and draws, and leaves what was there. -/
theorem wp_region_facts {P : Program} {id : Nat} {l : List Oper} {a0 : Act} {w0 : World} {Q : Exit → Act → World → Prop} (n : Nat) (F : List Fact)
    (hm : P.follows .mixedOrders = true) (hsz : a0.tmps.size = n) (hB : monoB n l 0 = true)
    (hsteps : MonoSteps P l a0 (fun w => Below w0.heap.size w0 w) (fun w w' => Below w.heap.size w w') (fun k vs w => (F.getD k .any).says (vs k) w) l 0)
    (hend : ∀ vs w, Below w0.heap.size w0 w → (∀ k, k < l.length → (F.getD k .any).says (vs k) w) → Q .normal (putAll vs l 0 a0) w) : (Code.region id l.toArray true).wp P Q a0 w0 :=
  wp_region_mono (fun w => Below w0.heap.size w0 w) (fun w w' => Below w.heap.size w w') (fun k vs w => (F.getD k .any).says (vs k) w) hm hsz hB (gr_grown w0 1 #[]).below (fun _ _ _ _ _ h _ hF => by rw [← h]; exact hF) (fun _ _ _ _ _ hT hF => Fact.later _ hF hT) hsteps hend

/-- What a step shows. -/
theorem shows {w0 w w' : World} {vs : Nat → Value} {i : Nat} {v : Value} {f : Fact} (hR : Below w0.heap.size w0 w) (hb : Below w.heap.size w w') (h : f.says v w') :
    Below w0.heap.size w0 w' ∧ Below w.heap.size w w' ∧ f.says (upd vs i v i) w' := ⟨hR.trans (hb.mono hR.size), hb, by rw [upd_same]; exact h⟩
theorem shows0 {w0 w : World} {vs : Nat → Value} {i : Nat} {v : Value} {f : Fact} (hR : Below w0.heap.size w0 w) (h : f.says v w) :
    Below w0.heap.size w0 w ∧ Below w.heap.size w w ∧ f.says (upd vs i v i) w := shows hR (Below.refl _ _) h
end Go.Proofs.Ytojmkgllbhbeiaa
namespace Go.Proofs.Ytojmkgllbhbeiaa
open Go.RowKit

/-- The classes of sets, in their order, as a slice. -/
def RetParts (ss : List Nat) (w : World) (e : Ending) (w' : World) : Prop :=
  ∃ g cap ds, e = .returned (.slice (some ⟨g, 0, none⟩) ds.length cap) ∧ Sl w' (.slice (some ⟨g, 0, none⟩) ds.length cap) 4 ds.length (setCells ds) ∧ ds.Perm (rawParts ss) ∧ (ds.Pairwise fun a b => ¬ cmpS b a < 0) ∧ Below w.heap.size w w' ∧ ds.length ≤ cap ∧ cap ≤ maxLen

set_option maxRecDepth 100000 in
set_option maxHeartbeats 2000000 in
theorem parts_none (w : World) : Calls Try.prog 31 #[.slice none 0 0] w (RetParts [] w) := by
  obtain ⟨i0, hi, hz0, hz1, hz2⟩ := info_parts info24
  go_enter Try.func31, Try.ntmps31
  have HC := fun w => all_any w
  unfold setV setA at HC
  go_wp2_with fail
  refine (HC _).mono ?_
  clear HC
  rintro e w0 ⟨rfl, hb0⟩
  have hB0 := hb0.below
  clear hb0
  go_wp2
  go_loopw [15, 3] (fun i v wr => i = .int .i64 0 ∧ wr.ownsRow w0.heap.size 24 4 v [Sx.full].length (setCells [Sx.full]) ∧ Below w.heap.size w wr ∧ w0.heap.size ≤ wr.heap.size) (fun _ _ _ => 0)
  case atStart =>
    refine ⟨rfl, ?_, hB0.alloc hB0.size _, by simp⟩
    refine ⟨by rw [setCells_len], .inr ⟨w0.heap.size, 1, _, rfl, Nat.le_refl _, blkOf1 w0 _ _, Nat.le_refl _, by decide, rfl, rfl⟩⟩
  case round =>
    obtain ⟨rfl, hrow, hB, hsz⟩ := hrel
    obtain ⟨ps, hps⟩ : ∃ ps, [Sx.full] = ps := ⟨_, rfl⟩
    have hpos : 0 < ps.length := by rw [← hps]; decide
    have hl1 : ps.length ≤ 256 := by rw [← hps]; decide
    rw [hps] at hrow
    replace hps := Lib.hid hps
    obtain ⟨g, cap3, rfl⟩ := owns_slice hpos hrow
    have hgb := hrow.lt g rfl
    have hcp := Lib.hid (owns_cap hrow)
    have hS := fun hc => sort_any g cap3 ps wr hgb.2 hc (by omega)
    replace hS := hS fun i hi => by
      obtain ⟨u, hu⟩ : ∃ u, (setCells ps)[i]? = some u := ⟨_, List.getElem?_eq_getElem (by rw [setCells_len]; exact hi)⟩
      rw [Nat.zero_add, hu]; exact owns_cell hrow i u hu
    clear hrow
    replace hS := Lib.hid hS
    go_wp2_with fail
    refine hS.out.mono ?_
    clear hS
    rintro e w9 ⟨rfl, ds, hp, hso, hsl, hb9⟩
    have hlen : ps.length = ds.length := hp.length_eq.symm
    have hBf := hB.trans (hb9 w.heap.size (by have := hB0.size; omega) hB.size)
    replace hsl := Lib.hid hsl
    replace hso := Lib.hid hso
    replace hlen := Lib.hid hlen
    go_wp2
    go_ret
    refine ⟨g, cap3, ds, by rw [← hlen.out]; rfl, ?_, by rw [← hps.out] at hp; exact hp, hso.out.imp fun h => by omega, hBf, by rw [← hlen.out]; exact hcp.out.1, hcp.out.2⟩
    have := hsl.out
    rw [hlen.out] at this
    exact this

theorem parts_any (v : Value) (ss : List Nat) (hss : ∀ s ∈ ss, s < 2 ^ 256) (w : World) (h : Sl w v 4 ss.length (setCells ss)) (hlen : ss.length ≤ 1000000) : Calls Try.prog 31 #[v] w (RetParts ss w) := by
  obtain ⟨_, ⟨rfl, h0⟩ | ⟨b, o, cap, rfl, hb, hc⟩⟩ := h
  · obtain rfl := List.eq_nil_of_length_eq_zero h0
    exact parts_none w
  · exact parts_some b o cap ss hss w hb hc hlen

/-! The plain laws. -/
theorem orAll_step (ps : List Nat) (s : Nat) : orAll (partStep ps s) = orAll ps := by
  refine Nat.eq_of_testBit_eq fun c => ?_
  rw [tb_orAll, tb_orAll, Bool.eq_iff_iff, List.any_eq_true, List.any_eq_true]
  constructor
  · rintro ⟨q, hq, hc⟩
    obtain ⟨p, hp, hqp⟩ := List.mem_flatMap.1 hq
    exact ⟨p, hp, split_sub hqp hc⟩
  · rintro ⟨p, hp, hc⟩
    cases hs : s.testBit c with
    | true =>
      have hq : (Sx.and p s).testBit c = true := by rw [Sx.tb_and, hc, hs]; rfl
      refine ⟨Sx.and p s, List.mem_flatMap.2 ⟨p, hp, ?_⟩, hq⟩
      simp only [split, List.mem_filter, List.mem_cons, List.not_mem_nil, or_false, decide_eq_true_eq]
      exact ⟨.inl trivial, fun e => by rw [e, Sx.tb_zero] at hq; cases hq⟩
    | false =>
      have hq : (Sx.less p s).testBit c = true := by rw [Sx.tb_less, hc, hs]; rfl
      refine ⟨Sx.less p s, List.mem_flatMap.2 ⟨p, hp, ?_⟩, hq⟩
      simp only [split, List.mem_filter, List.mem_cons, List.not_mem_nil, or_false, decide_eq_true_eq]
      exact ⟨.inr trivial, fun e => by rw [e, Sx.tb_zero] at hq; cases hq⟩
theorem orAll_raw (ss : List Nat) : orAll (rawParts ss) = Sx.full := by
  have h0 : orAll [Sx.full] = Sx.full := by decide
  unfold rawParts
  generalize [Sx.full] = ps at h0
  induction ss generalizing ps with
  | nil => exact h0
  | cons s ss ih => exact ih _ (by rw [orAll_step]; exact h0)

/-- A set is on one side of each of some sets. -/
def Whole (ss : List Nat) (p : Nat) : Prop := ∀ s ∈ ss, Sx.and p s = 0 ∨ Sx.less p s = 0
theorem sub_and_zero {p q s : Nat} (h : ∀ c, q.testBit c = true → p.testBit c = true) (hz : Sx.and p s = 0) : Sx.and q s = 0 := by
  rw [and_zero] at hz ⊢
  exact fun c ⟨a, b⟩ => hz c ⟨h c a, b⟩
theorem less_zero' {p s : Nat} : Sx.less p s = 0 ↔ ∀ c, p.testBit c = true → s.testBit c = true := by
  constructor
  · intro h c hc
    have := Sx.tb_less p s c
    rw [h, Sx.tb_zero, hc] at this
    cases hs : s.testBit c with
    | true => rfl
    | false => rw [hs] at this; cases this
  · intro h
    refine Nat.eq_of_testBit_eq fun c => ?_
    rw [Sx.tb_less, Nat.zero_testBit]
    cases hp : p.testBit c with
    | false => rfl
    | true => rw [h c hp]; rfl
theorem sub_less_zero {p q s : Nat} (h : ∀ c, q.testBit c = true → p.testBit c = true) (hz : Sx.less p s = 0) : Sx.less q s = 0 := by
  rw [less_zero'] at hz ⊢
  exact fun c hc => hz c (h c hc)
theorem split_side {p s q : Nat} (h : q ∈ split p s) : Sx.and q s = 0 ∨ Sx.less q s = 0 := by
  rcases (mem_split h).2 with rfl | rfl
  · refine .inr (less_zero'.2 fun c hc => ?_)
    rw [Sx.tb_and, Bool.and_eq_true] at hc; exact hc.2
  · refine .inl (and_zero.2 fun c ⟨hc, hs⟩ => ?_)
    rw [Sx.tb_less, hs] at hc; simp at hc
/-- Two sets are told apart by one of some sets. -/
def Apart (ss : List Nat) (p q : Nat) : Prop := ∃ s ∈ ss, decide (Sx.less p s = 0) ≠ decide (Sx.less q s = 0)

theorem not_within {q s : Nat} (hq : q ≠ 0) (h : Sx.and q s = 0) : Sx.less q s ≠ 0 := by
  intro e
  refine hq (Nat.eq_of_testBit_eq fun c => ?_)
  rw [Nat.zero_testBit]
  cases hc : q.testBit c with
  | false => rfl
  | true => exact (and_zero.1 h c ⟨hc, less_zero'.1 e c hc⟩).elim

structure RawOk (ss ps : List Nat) : Prop where
  whole : ∀ p ∈ ps, Whole ss p
  apart : ps.Pairwise (Apart ss)

theorem apart_sub {ss : List Nat} {p q p' q' : Nat} (hp : Whole ss p) (hq : Whole ss q) (h : Apart ss p q) (hp' : p' ≠ 0) (hq' : q' ≠ 0) (sp : ∀ c, p'.testBit c = true → p.testBit c = true) (sq : ∀ c, q'.testBit c = true → q.testBit c = true) : Apart ss p' q' := by
  obtain ⟨s, hs, hne⟩ := h
  refine ⟨s, hs, ?_⟩
  by_cases h1 : Sx.less p s = 0
  · have h2 : ¬ Sx.less q s = 0 := fun e => hne (by rw [decide_eq_true h1, decide_eq_true e])
    have h3 : Sx.and q s = 0 := (hq s hs).resolve_right h2
    rw [decide_eq_true (sub_less_zero sp h1), decide_eq_false (not_within hq' (sub_and_zero sq h3))]
    decide
  · have h2 : Sx.less q s = 0 := by
      by_cases e : Sx.less q s = 0
      · exact e
      · exact (hne (by rw [decide_eq_false h1, decide_eq_false e])).elim
    have h3 : Sx.and p s = 0 := (hp s hs).resolve_right h1
    rw [decide_eq_false (not_within hp' (sub_and_zero sp h3)), decide_eq_true (sub_less_zero sq h2)]
    decide

theorem RawOk.step {ss ps : List Nat} (h : RawOk ss ps) (s : Nat) : RawOk (ss ++ [s]) (partStep ps s) := by
  refine ⟨fun q hq => ?_, ?_⟩
  · obtain ⟨p, hp, hqp⟩ := List.mem_flatMap.1 hq
    intro t ht
    rcases List.mem_append.1 ht with ht | ht
    · rcases h.whole p hp t ht with e | e
      · exact .inl (sub_and_zero (fun c => split_sub hqp) e)
      · exact .inr (sub_less_zero (fun c => split_sub hqp) e)
    · rw [List.mem_singleton.1 ht]; exact split_side hqp
  · unfold partStep
    rw [List.pairwise_flatMap]
    refine ⟨fun p _ => ?_, ?_⟩
    · unfold split
      have hpair : [Sx.and p s, Sx.less p s].Pairwise fun a b => a ≠ 0 → b ≠ 0 → Apart (ss ++ [s]) a b := by
        refine List.pairwise_pair.2 fun h1 h2 => ⟨s, by simp, ?_⟩
        have e1 : Sx.less (Sx.and p s) s = 0 := less_zero'.2 fun c hc => by rw [Sx.tb_and, Bool.and_eq_true] at hc; exact hc.2
        have e2 : Sx.and (Sx.less p s) s = 0 := and_zero.2 fun c ⟨hc, hs⟩ => by rw [Sx.tb_less, hs] at hc; simp at hc
        rw [decide_eq_true e1, decide_eq_false (not_within h2 e2)]
        decide
      have := hpair.filter (fun x => decide (x ≠ 0))
      refine this.imp_of_mem fun {a b} ha hb hab => ?_
      have ha := (List.mem_filter.1 ha).2
      have hb := (List.mem_filter.1 hb).2
      exact hab (of_decide_eq_true ha) (of_decide_eq_true hb)
    · refine h.apart.imp_of_mem fun {p p'} hp hp' hd q hq q' hq' => ?_
      have := apart_sub (h.whole p hp) (h.whole p' hp') hd (mem_split hq).1 (mem_split hq').1 (fun c => split_sub hq) (fun c => split_sub hq')
      obtain ⟨t, ht, hne⟩ := this
      exact ⟨t, List.mem_append_left _ ht, hne⟩
theorem raw_ok (ss : List Nat) : RawOk ss (rawParts ss) := by
  suffices H : ∀ (rest done ps : List Nat), RawOk done ps → RawOk (done ++ rest) (rest.foldl partStep ps) by
    have := H ss [] [Sx.full] ⟨(fun p _ s hs => by cases hs), List.pairwise_singleton _ _⟩
    simpa [rawParts] using this
  intro rest
  induction rest with
  | nil => intro done ps h; simpa using h
  | cons s rest ih =>
    intro done ps h
    have := ih (done ++ [s]) _ (h.step s)
    simpa using this

/-- The least byte of a set. -/
def least (p : Nat) : Nat := (elems p).headD 0
theorem least_at {p : Nat} (hp : p < 2 ^ 256) (h : p ≠ 0) : (elems p).isEmpty = false ∧ least p < 256 ∧ p.testBit (least p) = true ∧ ∀ d, d < least p → p.testBit d = false := by
  unfold least
  cases he : elems p with
  | nil => exact (h ((elems_nil hp).1 he)).elim
  | cons c l =>
    obtain ⟨h1, h2, h3⟩ := head_least he
    exact ⟨rfl, h2, h1, h3⟩
theorem least_lt {p q : Nat} (hp : p < 2 ^ 256) (hq : q < 2 ^ 256) (p0 : p ≠ 0) (q0 : q ≠ 0) (hd : Sx.and p q = 0) (h : ¬ cmpS q p < 0) : least p < least q := by
  obtain ⟨_, l1, l2, l3⟩ := least_at hp p0
  obtain ⟨_, m1, m2, m3⟩ := least_at hq q0
  rw [and_zero] at hd
  rcases cmpS_nlt.1 h with ⟨c, h1, h2, h3, h4⟩ | h5
  · have hc : least p ≤ c := by
      rcases Nat.lt_or_ge c (least p) with hlt | hge
      · rw [l3 c hlt] at h2; cases h2
      · exact hge
    rcases Nat.lt_or_ge (least p) (least q) with hlt | hge
    · exact hlt
    · exfalso
      by_cases e : least q = c
      · rw [e] at m2; rw [h3] at m2; cases m2
      · have := h4 (least q) (by omega)
        rw [m2] at this
        exact hd _ ⟨this, m2⟩
  · have := h5 (least p) l1
    rw [l2] at this
    exact (hd _ ⟨l2, this⟩).elim

/-- What the classes are, in their order. -/
structure PartsOk (ss ds : List Nat) : Prop where
  lt : ∀ p ∈ ds, p ≠ 0 ∧ p < 2 ^ 256
  order : ds.Pairwise fun p q => least p < least q
  disj : ds.Pairwise fun p q => Sx.and p q = 0
  whole : ∀ p ∈ ds, Whole ss p
  apart : ds.Pairwise (Apart ss)
  all : orAll ds = Sx.full
theorem Apart.symm {ss : List Nat} {p q : Nat} (h : Apart ss p q) : Apart ss q p := by
  obtain ⟨s, hs, hne⟩ := h; exact ⟨s, hs, hne.symm⟩
theorem and_symm {p q : Nat} (h : Sx.and p q = 0) : Sx.and q p = 0 := by
  rw [and_zero] at h ⊢; exact fun c ⟨a, b⟩ => h c ⟨b, a⟩
theorem orAll_perm {a b : List Nat} (h : a.Perm b) : orAll a = orAll b := by
  refine Nat.eq_of_testBit_eq fun c => ?_
  rw [tb_orAll, tb_orAll, Bool.eq_iff_iff, List.any_eq_true, List.any_eq_true]
  exact ⟨fun ⟨x, hx, hc⟩ => ⟨x, h.mem_iff.1 hx, hc⟩, fun ⟨x, hx, hc⟩ => ⟨x, h.mem_iff.2 hx, hc⟩⟩
theorem parts_ok {ss ds : List Nat} (hp : ds.Perm (rawParts ss)) (hs : ds.Pairwise fun a b => ¬ cmpS b a < 0) : PartsOk ss ds := by
  have h1 := part_raw ss
  have h2 := raw_ok ss
  have hlt : ∀ p ∈ ds, p ≠ 0 ∧ p < 2 ^ 256 := fun p hm => h1.1 p (hp.mem_iff.1 hm)
  have hdis : ds.Pairwise fun p q => Sx.and p q = 0 := (hp.symm.pairwise_iff (fun h => and_symm h)).1 h1.2
  refine ⟨hlt, ?_, hdis, fun p hm => h2.whole p (hp.mem_iff.1 hm), (hp.symm.pairwise_iff (fun h => h.symm)).1 h2.apart, by rw [orAll_perm hp, orAll_raw]⟩
  exact (hdis.and hs).imp_of_mem fun {a b} ha hb ⟨h3, h4⟩ => least_lt (hlt a ha).2 (hlt b hb).2 (hlt a ha).1 (hlt b hb).1 h3 h4
theorem orAll_snoc (l : List Nat) (p : Nat) : orAll (l ++ [p]) = Sx.or (orAll l) p := by
  refine Nat.eq_of_testBit_eq fun c => ?_
  rw [Sx.tb_or, tb_orAll, tb_orAll]
  simp
theorem meets_take {ds : List Nat} (h : ds.Pairwise fun p q => Sx.and p q = 0) {k : Nat} (hk : k < ds.length) : Sx.and (orAll (ds.take k)) ds[k] = 0 := by
  rw [and_zero]
  rintro c ⟨a, b⟩
  rw [tb_orAll, List.any_eq_true] at a
  obtain ⟨q, hq, hc⟩ := a
  obtain ⟨i, hi, rfl⟩ := List.mem_take_iff_getElem.1 hq
  have := List.pairwise_iff_getElem.1 h i k (by omega) hk (by omega)
  exact and_zero.1 this c ⟨hc, b⟩
end Go.Proofs.Ytojmkgllbhbeiaa
namespace Go.Proofs.Ytojmkgllbhbeiaa
open Go.RowKit

/-- Which class has a byte. -/
def cls (ds : List Nat) (c : Nat) : Nat := ds.findIdx fun p => p.testBit c

/-- An alphabet in memory: the class of each byte, then the list of classes. -/
structure Alph (w : World) (b : Nat) (ds : List Nat) : Prop where
  lt : b < w.heap.size
  table : ∀ c, c < 256 → w.cell? ⟨b, c, none⟩ = some (.int .u8 (cls ds c))
  list : ∃ g cap, w.cell? ⟨b, 256, none⟩ = some (.slice (some ⟨g, 0, none⟩) ds.length cap) ∧ g < w.heap.size ∧ (∀ i, i < ds.length * 4 → w.cell? ⟨g, 0 + i, none⟩ = (setCells ds)[i]?) ∧ ds.length ≤ cap ∧ cap ≤ 9223372036854775807
theorem Alph.later {w w' : World} {b : Nat} {ds : List Nat} (h : Alph w b ds) (hb : Below w.heap.size w w') : Alph w' b ds := by
  obtain ⟨h1, h2, g, cap, h3, h4, h5, h6⟩ := h
  exact ⟨Nat.lt_of_lt_of_le h1 hb.size, fun c hc => (hb.cell (p := ⟨b, c, none⟩) h1).trans (h2 c hc), g, cap, (hb.cell (p := ⟨b, 256, none⟩) h1).trans h3, Nat.lt_of_lt_of_le h4 hb.size, fun i hi => (hb.cell (p := ⟨g, 0 + i, none⟩) h4).trans (h5 i hi), h6⟩

theorem four_in {W W' : World} {b o : Nat} {l : List Nat} (hc : ∀ i, i < l.length * 4 → W.cell? ⟨b, o + i, none⟩ = (setCells l)[i]?) (hb : b < W.heap.size) (h : Below W.heap.size W W') {k : Nat} (hk : k < l.length) :
    W'.cell? ⟨b, o + k * 4, none⟩ = some (.int .u64 (Sx.wd l[k] 0)) ∧ W'.cell? ⟨b, o + k * 4 + 1, none⟩ = some (.int .u64 (Sx.wd l[k] 1)) ∧ W'.cell? ⟨b, o + k * 4 + 2, none⟩ = some (.int .u64 (Sx.wd l[k] 2)) ∧ W'.cell? ⟨b, o + k * 4 + 3, none⟩ = some (.int .u64 (Sx.wd l[k] 3)) := by
  obtain ⟨c0, c1, c2, c3⟩ := setCells_four l hc k hk
  exact ⟨(h.cell (p := ⟨b, o + k * 4, none⟩) hb).trans c0, (h.cell (p := ⟨b, o + k * 4 + 1, none⟩) hb).trans c1, (h.cell (p := ⟨b, o + k * 4 + 2, none⟩) hb).trans c2, (h.cell (p := ⟨b, o + k * 4 + 3, none⟩) hb).trans c3⟩

theorem none_yes (w : World) : Calls Try.prog 94 #[.pointer none] w fun e w' => e = .returned (.bool true) ∧ w = w' := by
  go_enter Try.func94, Try.ntmps94
  go_wp2
  go_ret
  exact ⟨rfl, rfl⟩
theorem none_any {b g n cap : Nat} {w : World} (h : w.cell? ⟨b, 256, none⟩ = some (.slice (some ⟨g, 0, none⟩) n cap)) (hn : 0 < n) : Calls Try.prog 94 #[.pointer (some ⟨b, 0, none⟩)] w fun e w' => e = .returned (.bool false) ∧ w = w' := by
  have hz : ((n : Int) == 0) = false := by simp; omega
  go_enter Try.func94, Try.ntmps94
  go_wp2
  go_ret
  exact ⟨rfl, rfl⟩
theorem len_any {b : Nat} {ds : List Nat} {w : World} (h : Alph w b ds) (hn : 0 < ds.length) : Calls Try.prog 41 #[.pointer (some ⟨b, 0, none⟩)] w fun e w' => e = .returned (.int .i64 ds.length) ∧ w = w' := by
  obtain ⟨g, cap, h1, _⟩ := h.list
  generalize ds.length = n at h1 hn ⊢
  clear h
  go_enter Try.func41, Try.ntmps41
  go_wp2_with fail
  refine (none_any h1 hn).mono ?_
  rintro e w' ⟨rfl, rfl⟩
  go_wp2
  go_ret
  exact ⟨rfl, rfl⟩
theorem isK_any {b g n cap : Nat} {w : World} (h : w.cell? ⟨b, 256, none⟩ = some (.slice (some ⟨g, 0, none⟩) n cap)) (hn : 0 < n) (k : Int) : Calls Try.prog 97 #[.pointer (some ⟨b, 0, none⟩), .int .i64 k] w fun e w' => e = .returned (.bool (decide (0 ≤ k) && decide (k < n))) ∧ w = w' := by
  by_cases h0 : 0 ≤ k
  · by_cases h1 : k < n
    · rw [decide_eq_true h0, decide_eq_true h1]
      go_enter Try.func97, Try.ntmps97
      go_wp2_with fail
      refine (none_any h hn).mono ?_
      rintro e w' ⟨rfl, rfl⟩
      go_wp2
      go_ret
      exact ⟨rfl, rfl⟩
    · rw [decide_eq_true h0, decide_eq_false h1]
      replace h1 : (n : Int) ≤ k := by omega
      go_enter Try.func97, Try.ntmps97
      go_wp2_with fail
      refine (none_any h hn).mono ?_
      rintro e w' ⟨rfl, rfl⟩
      go_wp2
      go_ret
      exact ⟨congrArg (fun q => Ending.returned (.bool q)) (decide_eq_false (by omega)), rfl⟩
  · rw [decide_eq_false h0]
    go_enter Try.func97, Try.ntmps97
    go_wp2_with fail
    refine (none_any h hn).mono ?_
    rintro e w' ⟨rfl, rfl⟩
    go_wp2
    go_ret
    exact ⟨rfl, rfl⟩
theorem class_any {b c : Nat} {ds : List Nat} {w : World} (h : Alph w b ds) (hn : 0 < ds.length) (hc : c < 256) (hcl : cls ds c < 256) : Calls Try.prog 58 #[.pointer (some ⟨b, 0, none⟩), .int .u8 c] w fun e w' => e = .returned (.int .i64 (cls ds c)) ∧ w = w' := by
  obtain ⟨g, cap, h1, _⟩ := h.list
  have h2 := h.table c hc
  generalize cls ds c = x at h2 hcl ⊢
  generalize ds.length = n at h1 hn
  clear h
  go_enter Try.func58, Try.ntmps58
  go_wp2_with fail
  refine (none_any h1 hn).mono ?_
  rintro e w' ⟨rfl, rfl⟩
  go_wp2
  go_ret
  exact ⟨rfl, rfl⟩

/-- The k-th class, if there is one. -/
def setAt (ds : List Nat) (k : Int) : Nat := if 0 ≤ k ∧ k < ds.length then ds.getD k.toNat 0 else 0
def isAt (ds : List Nat) (k : Int) : Bool := decide (0 ≤ k) && decide (k < ds.length)
set_option maxHeartbeats 1000000 in
theorem set_any {b : Nat} {ds : List Nat} {w : World} (h : Alph w b ds) (hn : 0 < ds.length) (k : Int) : Calls Try.prog 46 #[.pointer (some ⟨b, 0, none⟩), .int .i64 k] w fun e w' => e = .returned (.tuple #[setV (setAt ds k), .bool (isAt ds k)]) ∧ Below w.heap.size w w' := by
  obtain ⟨g, cap, h1, h4, h5, _⟩ := h.list
  have HI : ∀ w', Below w.heap.size w w' → Calls Try.prog 97 #[.pointer (some ⟨b, 0, none⟩), .int .i64 k] w' fun e w'' => e = .returned (.bool (isAt ds k)) ∧ w' = w'' := fun w' hw => isK_any ((hw.cell (p := ⟨b, 256, none⟩) h.lt).trans h1) hn k
  have hb := h.lt
  by_cases hk : 0 ≤ k ∧ k < ds.length
  · obtain ⟨i, rfl⟩ : ∃ i : Nat, k = i := ⟨k.toNat, by omega⟩
    have hi : i < ds.length := by omega
    obtain ⟨c0, c1, c2, c3⟩ := four_in h5 h4 (Below.refl _ w) hi
    have hs : setAt ds i = ds[i] := by unfold setAt; rw [if_pos hk, Int.toNat_natCast, List.getD_eq_getElem?_getD, List.getElem?_eq_getElem hi]; rfl
    have hia : isAt ds i = true := by unfold isAt; rw [decide_eq_true hk.1, decide_eq_true hk.2]; rfl
    rw [hs, hia]
    rw [hia] at HI
    rw [Nat.zero_add] at c0 c1 c2 c3
    generalize ds[i] = p at c0 c1 c2 c3 ⊢
    replace HI := HI _ (below1 w (.cells #[.int .u64 0, .int .u64 0, .int .u64 0, .int .u64 0] 24))
    replace HI := Lib.hid HI
    clear h h5 hk hs hia hn
    generalize ds.length = n at h1 hi
    unfold setV setA
    go_enter Try.func46, Try.ntmps46
    go_wp2_with fail
    refine HI.out.mono ?_
    rintro e w' ⟨rfl, rfl⟩
    clear HI
    go_wp2
    refine bodyPost_ret (v := .tuple #[.agg #[_, _, _, _], _]) (by simp [results, Try.results46, go_sem, *]) rfl ⟨rfl, ?_⟩
    exact below1 w _
  · have hs : setAt ds k = 0 := by unfold setAt; rw [if_neg hk]
    have hia : isAt ds k = false := by
      unfold isAt
      by_cases h0 : 0 ≤ k
      · rw [decide_eq_true h0, decide_eq_false (by omega)]; rfl
      · rw [decide_eq_false h0]; rfl
    rw [hs, hia, setV_zero]
    rw [hia] at HI
    replace HI := HI _ (below1 w (.cells #[.int .u64 0, .int .u64 0, .int .u64 0, .int .u64 0] 24))
    replace HI := Lib.hid HI
    clear h h5 hk hs hia hn
    go_enter Try.func46, Try.ntmps46
    go_wp2_with fail
    refine HI.out.mono ?_
    rintro e w' ⟨rfl, rfl⟩
    clear HI
    go_wp2
    refine bodyPost_ret (v := .tuple #[.agg #[_, _, _, _], _]) (by simp [results, Try.results46, go_sem, *]) rfl ⟨rfl, ?_⟩
    exact below1 w _
end Go.Proofs.Ytojmkgllbhbeiaa
