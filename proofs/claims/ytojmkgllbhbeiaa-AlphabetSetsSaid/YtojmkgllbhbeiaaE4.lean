/-
  WALKS of the library: slices.Insert at ints, one value.
-/
import Derived.Test.YtojmkgllbhbeiaaK9
namespace Go.Proofs.Ytojmkgllbhbeiaa
open Go.RowKit Go.Shelf

theorem below_cells {B b : Nat} {a : World} (hb : B ≤ b) : ∀ (vs : List Value) (o : Nat) {w : World}, Below B a w → Below B a (w.setCells b o vs)
  | [], _, _, h => h
  | v :: vs, o, _, h => below_cells hb vs (o + 1) (h.setCell (p := ⟨b, o, none⟩) hb v)
theorem _root_.Go.World.size_setCells (b : Nat) : ∀ (vs : List Value) (o : Nat) (w : World), (w.setCells b o vs).heap.size = w.heap.size
  | [], _, _ => rfl
  | v :: vs, o, w => (Go.World.size_setCells b vs (o + 1) (w.setCell ⟨b, o, none⟩ v)).trans (by simp)
def insAt (l : List Int) (i : Nat) (k : Int) : List Int := l.take i ++ k :: l.drop i
theorem insAt_len {l : List Int} {i : Nat} {k : Int} (hi : i ≤ l.length) : (insAt l i k).length = l.length + 1 := by unfold insAt; simp; omega
theorem insAt_get {l : List Int} {i : Nat} {k : Int} (hi : i ≤ l.length) (j : Nat) : (insAt l i k)[j]? = if j < i then l[j]? else if j = i then some k else l[j - 1]? := by
  unfold insAt
  rw [List.getElem?_append, List.length_take, Nat.min_eq_left hi]
  split
  · rename_i h; rw [List.getElem?_take, if_pos h]
  · rename_i h
    split
    · rename_i e; subst e; simp
    · rename_i e
      rw [List.getElem?_cons, if_neg (by omega), List.getElem?_drop]
      congr 1; omega

/-- A new slice that holds the list. -/
def InsRet (base : Nat) (l : List Int) (i : Nat) (k : Int) (e : Ending) (w w' : World) : Prop :=
  ∃ v', e = .returned v' ∧ Sl w' v' 1 (insAt l i k).length ((insAt l i k).map intZ) ∧ Below base w w'
theorem cells_insAt {w : World} {g cap : Nat} {l : List Int} {i : Nat} {k : Int} (hi : i ≤ l.length) (hg : g < w.heap.size)
    (h1 : ∀ j, j < i → w.cell? ⟨g, j, none⟩ = (l.map intZ)[j]?) (h2 : w.cell? ⟨g, i, none⟩ = some (intZ k)) (h3 : ∀ j, i < j → j ≤ l.length → w.cell? ⟨g, j, none⟩ = (l.map intZ)[j - 1]?) :
    Sl w (.slice (some ⟨g, 0, none⟩) (l.length + 1) cap) 1 (insAt l i k).length ((insAt l i k).map intZ) := by
  refine ⟨by simp, .inr ⟨g, 0, cap, by rw [insAt_len hi], hg, fun j hj => ?_⟩⟩
  rw [insAt_len hi] at hj
  rw [List.getElem?_map, insAt_get hi, Nat.zero_add]
  split
  · rename_i h; rw [h1 j h, List.getElem?_map]
  · split
    · rename_i e; subst e; exact h2
    · rw [h3 j (by omega) (by omega), List.getElem?_map]

theorem int_one (l : List Int) : ∀ v ∈ l.map intZ, v.oneCell' = true := by
  intro v hv
  obtain ⟨x, _, rfl⟩ := List.mem_map.1 hv
  rfl
set_option maxHeartbeats 1000000 in
theorem insInts_any (v : Value) (l : List Int) (i : Nat) (k : Int) (vb base : Nat) (w : World) (hown : w.ownsRow base 3 1 v l.length (l.map intZ)) (hvb : Blk w vb #[.int .i64 k] 3) (hi : i ≤ l.length) (hlen : l.length ≤ 1000000) (hbase : base ≤ w.heap.size) :
    Calls Try.prog 42 #[v, .int .i64 i, .slice (some ⟨vb, 0, none⟩) 1 1] w fun e w' => InsRet base l i k e w w' := by
  have hvs : ∀ j u, [intZ k][j]? = some u → w.cell? ⟨vb, 0 + j, none⟩ = some u := fun j u hj => by
    have hj0 : j = 0 := by
      have := (List.getElem?_eq_some_iff.1 hj).1
      simpa using this
    subst hj0
    rw [hvb.cell]; simpa [intZ] using hj
  have h1v : ∀ u ∈ [intZ k], u.oneCell' = true := fun u hu => by
    rw [List.mem_singleton.1 hu]; rfl
  have hcl : (l.map intZ).length = l.length := by simp
  obtain ⟨_, ⟨rfl, h0⟩ | ⟨g, cap, cur, rfl, hbg, hblk, hn, hcap, hsz, htk⟩⟩ := hown
  · obtain rfl := List.eq_nil_of_length_eq_zero h0
    obtain rfl : i = 0 := by simpa using hi
    have := Any2.slices_Insert_int_end_grow insInts none 0 0 vb 0 1 1 [] [intZ k] w (by decide) (by decide) (by decide) (by decide) rfl rfl (fun _ => rfl) (fun a ha => by cases ha) hvs h1v
    refine this.mono ?_
    rintro e w' ⟨rfl, rfl⟩
    have hb := blkOf1 w.drew (([] ++ [intZ k]).toArray ++ Builtin.zeroCells (Value.int .i64 0).cells (grownCap w (0 + 1) 0 3 - (0 + 1))) 3
    refine ⟨_, rfl, ?_, ((Below.refl base w).drew).alloc hbase _⟩
    exact cells_insAt (l := []) (by decide) hb.lt (fun j hj => by omega) ((hb.cell 0).trans (by simp [Array.getElem?_append])) (fun j h1 h2 => by simp at h2; omega)
  · have hb : Blk w g cur 3 := hblk
    rw [Nat.mul_one] at hsz htk
    have hcs : ∀ j u, (l.map intZ)[j]? = some u → w.cell? ⟨g, 0 + j, none⟩ = some u := fun j u hj => by
      have hjl : j < l.length := by have := (List.getElem?_eq_some_iff.1 hj).1; simpa using this
      rw [Nat.zero_add, hb.cell, ← hj, ← htk, List.getElem?_take, if_pos hjl, Array.getElem?_toList]
    have hce : ∀ j, j < l.length → w.cell? ⟨g, j, none⟩ = (l.map intZ)[j]? := fun j hj => by
      have := hcs j _ (List.getElem?_eq_getElem (by simpa using hj))
      rw [Nat.zero_add] at this
      rw [this, List.getElem?_eq_getElem (by simpa using hj)]
    have hsp : ∀ j, j < cap → (w.cell? ⟨g, 0 + j, none⟩).isSome = true := fun j hj => by
      rw [Nat.zero_add, hb.cell]; simp [hsz, hj]
    have hfz : ∀ j, w.frozen? ⟨g, 0 + j, none⟩ = false := fun j => hb.frozen _
    by_cases hin : i < l.length
    · by_cases hroom : l.length + 1 ≤ cap
      · have hne : vb ≠ g := fun e => by
          subst e
          have := hvb.inj hb
          subst this
          simp at hsz; omega
        have hsa : w.shape? vb = some (3, 1) := by unfold World.shape?; rw [show w.heap[vb]? = _ from hvb]; rfl
        have hsb : w.shape? g = some (3, cur.size) := by unfold World.shape?; rw [hblk]
        have := Any2.slices_Insert_int_shift insInts g 0 l.length cap i vb 0 1 1 (l.map intZ) [intZ k] w hin (by decide) hroom (by unfold maxLen at hcap; omega) hne hcl rfl hcs (fun j hj => hsp j (by omega)) (fun j _ => hfz j) hvs (int_one l) h1v 3 3 1 cur.size hsa hsb (by omega) (hvb.frozen 0) (hvb.frozen 1)
        refine this.mono ?_
        rintro e w' ⟨rfl, rfl⟩
        have hdl : ((l.map intZ).drop i).length = l.length - i := by simp
        have hs1 : ∀ j, j < ((l.map intZ).drop i).length → (w.drew.cell? ⟨g, 0 + (i + 1) + j, none⟩).isSome = true := fun j hj => by
          have := hsp (i + 1 + j) (by omega)
          rw [show 0 + (i + 1 + j) = 0 + (i + 1) + j by omega] at this
          exact this
        have hin1 := World.cell?_setCells_in g ((l.map intZ).drop i) (0 + (i + 1)) w.drew hs1
        have hout1 := World.cell?_setCells_out g ((l.map intZ).drop i) (0 + (i + 1)) w.drew
        have hi2 : ((w.drew.setCells g (0 + (i + 1)) ((l.map intZ).drop i)).cell? ⟨g, 0 + i + 0, none⟩).isSome = true := by
          rw [hout1 ⟨g, 0 + i + 0, none⟩ (fun _ _ => .inl (by simp))]
          exact hsp i (by omega)
        have hin2 := World.cell?_setCells_in g [intZ k] (0 + i) (w.drew.setCells g (0 + (i + 1)) ((l.map intZ).drop i)) (fun j hj => by
          obtain rfl : j = 0 := by simpa using hj
          exact hi2) 0 (by simp)
        have hout2 := World.cell?_setCells_out g [intZ k] (0 + i) (w.drew.setCells g (0 + (i + 1)) ((l.map intZ).drop i))
        refine ⟨_, rfl, ?_, below_cells hbg _ _ (below_cells hbg _ _ (Below.refl base w).drew)⟩
        refine cells_insAt hi ?_ (fun j hj => ?_) ?_ (fun j h1 h2 => ?_)
        · rw [World.size_setCells, World.size_setCells]; exact hb.lt
        · rw [hout2 ⟨g, j, none⟩ (fun _ _ => .inl (by show j < 0 + i; omega)), hout1 ⟨g, j, none⟩ (fun _ _ => .inl (by show j < 0 + (i + 1); omega))]
          exact hce j (by omega)
        · rw [show (0 + i + 0) = i by omega] at hin2
          exact hin2
        · rw [hout2 ⟨g, j, none⟩ (fun _ _ => .inr (by show 0 + i + 1 ≤ j; omega))]
          have := hin1 (j - (i + 1)) (by omega)
          rw [show 0 + (i + 1) + (j - (i + 1)) = j by omega] at this
          rw [this, List.getElem_drop, List.getElem?_eq_getElem (by simp; omega)]
          congr 2; omega
      · have := Any2.slices_Insert_int_grow insInts g 0 l.length cap i vb 0 1 1 (l.map intZ) [intZ k] w hin (by decide) hn (by omega) (by omega) hcl rfl hcs hvs (int_one l) h1v
        refine this.mono ?_
        rintro e w' ⟨rfl, rfl⟩
        generalize grownCap w (l.length + 1) cap (insInts_ren.t 3) = gc
        generalize hC : ((l.map intZ).take i).toArray ++ Builtin.zeroCells (Value.int .i64 0).cells (l.length + 1 - i) ++ Builtin.zeroCells (Value.int .i64 0).cells (gc - (l.length + 1)) = C
        rw [show insInts_ren.t 3 = 3 from rfl]
        have hN := blkOf1 w C 3
        have hCs : l.length + 1 ≤ C.size := by
          rw [← hC]
          simp [Builtin.zeroCells, Value.cells]
          omega
        have hCt : ∀ j, j < i → C[j]? = (l.map intZ)[j]? := fun j hj => by
          rw [← hC, Array.append_assoc, Array.getElem?_append, if_pos (by simp; omega)]
          rw [List.getElem?_toArray, List.getElem?_take, if_pos hj]
        have hcell : ∀ j, ((w.alloc (.cells C 3)).drew).cell? ⟨w.heap.size, j, none⟩ = C[j]? := fun j => hN.cell j
        have hs1 : ∀ j, j < [intZ k].length → (((w.alloc (.cells C 3)).drew).cell? ⟨w.heap.size, i + j, none⟩).isSome = true := fun j hj => by
          have : j = 0 := by simpa using hj
          rw [hcell]; simp; omega
        have hin1 := World.cell?_setCells_in w.heap.size [intZ k] i (w.alloc (.cells C 3)).drew hs1 0 (by simp)
        have hout1 := World.cell?_setCells_out w.heap.size [intZ k] i (w.alloc (.cells C 3)).drew
        have hdl : ((l.map intZ).drop i).length = l.length - i := by simp
        generalize hW1 : (w.alloc (.cells C 3)).drew.setCells w.heap.size i [intZ k] = W1 at hin1 hout1 ⊢
        have hs2 : ∀ j, j < ((l.map intZ).drop i).length → (W1.drew.cell? ⟨w.heap.size, i + 1 + j, none⟩).isSome = true := fun j hj => by
          show (W1.cell? _).isSome = true
          rw [hout1 ⟨w.heap.size, i + 1 + j, none⟩ (fun _ _ => .inr (by show i + 1 ≤ i + 1 + j; omega)), hcell]
          simp; omega
        have hin2 := World.cell?_setCells_in w.heap.size ((l.map intZ).drop i) (i + 1) W1.drew hs2
        have hout2 := World.cell?_setCells_out w.heap.size ((l.map intZ).drop i) (i + 1) W1.drew
        have hB1 : Below base w W1 := by
          rw [← hW1]; exact below_cells hbase _ _ ((below1 w (.cells C 3)).mono hbase).drew
        have hsz1 : w.heap.size < W1.heap.size := by
          rw [← hW1, World.size_setCells]; exact hN.lt
        refine ⟨_, rfl, ?_, below_cells hbase _ _ hB1.drew⟩
        refine cells_insAt hi ?_ (fun j hj => ?_) ?_ (fun j h1 h2 => ?_)
        · rw [World.size_setCells]; exact hsz1
        · rw [hout2 ⟨w.heap.size, j, none⟩ (fun _ _ => .inl (by show j < i + 1; omega))]
          show W1.cell? _ = _
          rw [hout1 ⟨w.heap.size, j, none⟩ (fun _ _ => .inl (by show j < i; omega)), hcell, hCt j hj]
        · rw [hout2 ⟨w.heap.size, i, none⟩ (fun _ _ => .inl (by show i < i + 1; omega))]
          show W1.cell? _ = _
          exact hin1
        · have := hin2 (j - (i + 1)) (by omega)
          rw [show i + 1 + (j - (i + 1)) = j by omega] at this
          rw [this, List.getElem_drop, List.getElem?_eq_getElem (by simp; omega)]
          congr 2; omega
    · obtain rfl : i = l.length := by omega
      by_cases hroom : l.length + 1 ≤ cap
      · have := Any2.slices_Insert_int_end_room insInts g 0 l.length cap vb 0 1 1 [intZ k] w (by decide) hroom (by unfold maxLen at hcap; omega) rfl (fun j hj => by
          have := hsp (l.length + j) (by omega)
          rw [← Nat.add_assoc] at this; exact this) (fun j _ => by have := hfz (l.length + j); rw [← Nat.add_assoc] at this; exact this) hvs h1v
        refine this.mono ?_
        rintro e w' ⟨rfl, rfl⟩
        have hin2 := World.cell?_setCells_in g [intZ k] (0 + l.length) w (fun j hj => by
          have := hsp (l.length + j) (by have : j = 0 := by simpa using hj
                                         omega)
          rw [← Nat.add_assoc] at this; exact this) 0 (by simp)
        have hout2 := World.cell?_setCells_out g [intZ k] (0 + l.length) w
        refine ⟨_, rfl, ?_, below_cells hbg _ _ (Below.refl _ _)⟩
        refine cells_insAt hi ?_ (fun j hj => ?_) ?_ (fun j h1 h2 => by omega)
        · rw [World.size_setCells]; exact hb.lt
        · rw [hout2 ⟨g, j, none⟩ (fun _ _ => .inl (by show j < 0 + l.length; omega))]
          exact hce j hj
        · rw [show 0 + l.length + 0 = l.length by omega] at hin2
          exact hin2
      · have := Any2.slices_Insert_int_end_grow insInts (some ⟨g, 0, none⟩) l.length cap vb 0 1 1 (l.map intZ) [intZ k] w (by decide) hn (by omega) (by omega) hcl rfl (fun h => nomatch h) (fun a ha j u hj => by
          cases ha
          rw [add_at]; exact hcs j u hj) hvs h1v
        refine this.mono ?_
        rintro e w' ⟨rfl, rfl⟩
        generalize hC : (l.map intZ ++ [intZ k]).toArray ++ Builtin.zeroCells (Value.int .i64 0).cells (grownCap w (l.length + 1) cap (insInts_ren.t 3) - (l.length + 1)) = C
        have hN := blkOf1 w.drew C 3
        have hCt : ∀ j, j ≤ l.length → C[j]? = (l.map intZ ++ [intZ k])[j]? := fun j hj => by
          rw [← hC, Array.getElem?_append, if_pos (by simp; omega), List.getElem?_toArray]
        refine ⟨_, rfl, ?_, ((Below.refl base w).drew).alloc hbase _⟩
        refine cells_insAt hi hN.lt (fun j hj => ?_) ?_ (fun j h1 h2 => by omega)
        · refine (hN.cell j).trans ?_
          rw [hCt j (by omega), List.getElem?_append, if_pos (by simpa using hj)]
        · refine (hN.cell l.length).trans ?_
          rw [hCt _ (Nat.le_refl _)]
          simp
end Go.Proofs.Ytojmkgllbhbeiaa
