/-
  WALKS of package alphabet: Of, Word, Least, Classes.
  WALKS of package alphabet: Word of no bytes, Least, Classes, Fits.
  WALKS of package alphabet: Bytes, Fits, Finer.
  WALKS of package alphabet: Together.
  WALKS of package alphabet: Table, Same.
-/
import Derived.Test.YtojmkgllbhbeiaaK5
import Derived.Test.YtojmkgllbhbeiaaK4
import Derived.Deep.MidRow
namespace Go.Proofs.Ytojmkgllbhbeiaa
open Go.RowKit

theorem cells_of_cell {w : World} {g o : Nat} {v : Value} (h : w.cell? ⟨g, o, none⟩ = some v) : ∃ cs t f, w.heap[g]? = some (.cells cs t f) := by
  unfold World.cell? at h
  cases hk : w.heap[g]? with
  | none => rw [hk] at h; simp at h
  | some x =>
    rw [hk] at h
    cases x <;> first | exact ⟨_, _, _, rfl⟩ | simp at h

/-- An alphabet of some sets. -/
def RetAlph (ss : List Nat) (w : World) (e : Ending) (w' : World) : Prop := ∃ b ds, e = .returned (.pointer (some ⟨b, 0, none⟩)) ∧ PartsOk ss ds ∧ 0 < ds.length ∧ ds.length ≤ 256 ∧ Alph w' b ds ∧ w.heap.size ≤ b ∧ Below w.heap.size w w'
theorem PartsOk.pos {ss ds : List Nat} (h : PartsOk ss ds) : 0 < ds.length := by
  rcases Nat.eq_zero_or_pos ds.length with e | e
  · have := h.all
    rw [List.eq_nil_of_length_eq_zero e] at this
    exact absurd this (by decide)
  · exact e
theorem PartsOk.le256 {ss ds : List Nat} (h : PartsOk ss ds) : ds.length ≤ 256 := (show Part ds from ⟨h.lt, h.disj⟩).len256
theorem of_alph (v : Value) (ss : List Nat) (hss : ∀ s ∈ ss, s < 2 ^ 256) (w : World) (h : Sl w v 4 ss.length (setCells ss)) (hlen : ss.length ≤ 1000000) : Calls Try.prog 39 #[v] w (RetAlph ss w) := by
  have HP := Lib.hid (parts_any v ss hss w h hlen)
  clear hss h hlen
  go_enter Try.func39, Try.ntmps39
  go_wp2_with fail
  refine HP.out.mono ?_
  clear HP
  rintro e w1 ⟨g, cap, ds, rfl, hsl, hperm, hsort, hB, hcl, hcm⟩
  have hok := parts_ok hperm hsort
  have hpos := hok.pos
  have hcell : ∃ cs t f, w1.heap[g]? = some (.cells cs t f) := by
    obtain ⟨hl, ⟨hh, _⟩ | ⟨g', o', cap', he, hlt, hc⟩⟩ := hsl
    · cases hh
    · cases he
      have := hc 0 (by omega)
      rw [List.getElem?_eq_getElem (by omega)] at this
      exact cells_of_cell this
  have HM := Lib.hid (made_any hok g cap w1 hsl hcl hcm hcell)
  have hle := hok.le256
  replace hok := Lib.hid hok
  clear hperm hsort hsl hcell hcl hcm
  go_wp2_with fail
  refine HM.out.mono ?_
  clear HM
  rintro e w2 ⟨rfl, hA, hB2⟩
  replace hA := Lib.hid hA
  go_wp2
  go_ret
  exact ⟨_, ds, rfl, hok.out, hpos, hle, hA.out, hB.size, bthen hB hB2⟩

theorem cls_lt {ss ds : List Nat} (h : PartsOk ss ds) (c : Nat) (hc : c < 256) : cls ds c < ds.length := by
  obtain ⟨p, hp, hpc⟩ := h.has hc
  obtain ⟨i, hi, rfl⟩ := List.getElem_of_mem hp
  rw [cls_at h.disj hi hpc]; exact hi

def intN (k : Nat) : Value := .int .i64 k
theorem info3' : (Try.prog.info? 3).map (fun i => (i.zero, i.size, i.bytes)) = some (some (.int .i64 0), 1, 8) := by kernel_rfl
def RetNats (xs : List Nat) (w : World) (e : Ending) (w' : World) : Prop := ∃ v, e = .returned v ∧ Fresh w.heap.size w' v 3 1 xs.length (xs.map intN) ∧ Below w.heap.size w w'

theorem grown_one' {base : Nat} {wr w1 : World} {e : TypeId} {k n : Nat} {v : Value} {xs : List Value} {o : Obj} (hrow : wr.ownsRow base e k v n xs) (hg : (wr.alloc o).grownBy w1 v.ownBlock) (h : base ≤ wr.heap.size) : Below base wr w1 :=
  (below1 wr o).mono h |>.trans (below_grown (hrow.alloc o) hg (by simp; omega))

set_option maxRecDepth 100000 in
set_option maxHeartbeats 2000000 in
theorem word_some {ss ds : List Nat} (hok : PartsOk ss ds) (b b1 o1 cap1 : Nat) (l : List Nat) (hl : ∀ c ∈ l, c < 256) (w : World) (hA : Alph w b ds) (hb1 : b1 < w.heap.size) (hc : ∀ i, i < l.length → w.cell? ⟨b1, o1 + i, none⟩ = (l.map byteV)[i]?) (hlen : l.length * 8 ≤ 140737488355328) :
    Calls Try.prog 60 #[.pointer (some ⟨b, 0, none⟩), .slice (some ⟨b1, o1, none⟩) l.length cap1] w (RetNats (l.map (cls ds)) w) := by
  obtain ⟨i0, hi, hz0, hz1, hz2⟩ := info_parts info3'
  have hpos := hok.pos
  have hle := hok.le256
  obtain ⟨g, cap, hlist, _⟩ := hA.list
  have HN := fun w' (h : Below w.heap.size w w') => none_any ((h.cell (p := ⟨b, 256, none⟩) hA.lt).trans hlist) hpos
  have HC := fun w' (h : Below w.heap.size w w') c (hcc : c < 256) => class_any (hA.later h) hpos hcc (Nat.lt_of_lt_of_le (cls_lt hok c hcc) hle)
  have hcl := fun c hcc => cls_lt hok c hcc
  replace hcl := Lib.hid hcl
  replace HC := Lib.hid HC
  replace HN := Lib.hid HN
  replace hc := Lib.hid hc
  replace hl := Lib.hid hl
  clear hlist hA hok
  go_enter Try.func60, Try.ntmps60
  go_wp2_with fail
  refine (HN.out w (Below.refl _ _)).mono ?_
  rintro e w' ⟨rfl, rfl⟩
  clear HN
  go_wp2_with fail
  go_loopw [12, 5] (fun i v wr => ∃ k : Nat, k ≤ l.length ∧ i = .int .i64 k ∧ wr.ownsRow w.heap.size 3 1 v ((l.take k).map (cls ds)).length (((l.take k).map (cls ds)).map intN) ∧ Hid (v = .slice none 0 0 ↔ k = 0) ∧ Below w.heap.size w wr) (fun i _ _ => l.length - (intOf i).toNat)
  case atStart => exact ⟨0, by omega, rfl, World.ownsRow_nil _ _ _ _, by show _ ↔ _; simp, Below.refl _ _⟩
  case round =>
    obtain ⟨k, hk, rfl, hrow, hnil, hB⟩ := hrel
    by_cases hlt : k < l.length
    · have cb : wr.cell? ⟨b1, o1 + k, none⟩ = some (.int .u8 (l[k] : Nat)) := by
        rw [hB.cell (p := ⟨b1, o1 + k, none⟩) hb1, hc.out k hlt, List.getElem?_map, List.getElem?_eq_getElem hlt]; rfl
      have hlk := hl.out _ (List.getElem_mem hlt)
      have HK := HC.out wr hB _ hlk
      have hx := hcl.out _ hlk
      have htk := Lib.hid (show (l.take (k + 1)).map (cls ds) = (l.take k).map (cls ds) ++ [cls ds l[k]] by rw [List.take_succ_eq_append_getElem hlt, List.map_append]; rfl)
      have htl : ((l.take k).map (cls ds)).length = k := by simp; omega
      generalize cls ds l[k] = x at HK hx htk
      generalize l[k] = c at cb HK hlk
      generalize (l.take k).map (cls ds) = qs at hrow htk htl
      subst htl
      have hsz := hB.size
      replace HK := Lib.hid HK
      go_wp2_with fail
      refine HK.out.mono ?_
      clear HK
      rintro e w' ⟨rfl, rfl⟩
      go_wp2_with (at_builtin; go_must (refine wpList_append_own _ rfl _ _ 55 rfl w.heap.size 3 i0 (.int .i64 0) 1 8 Try.underlying55 hi hz0 hz1 hz2 rfl (by decide) _ _ _ rfl (hrow.alloc _) ⟨wr.heap.size, 0, none⟩ 1 1 [intN x] rfl rfl (cell_news _ _ _ _ rfl) (by simp [Value.oneCell', intN]) (by unfold maxLen; omega) (by omega) (by simp; omega) ?_); intro v1 w1 hown1 hgrow1 hn1)
      have hb1' := grown_one' hrow hgrow1 (by omega)
      go_roundw
      case rel => exact ⟨qs.length + 1, by omega, by go_num, by rw [htk.out]; simpa using hown1, by show _ ↔ _; simp [hn1], hB.trans hb1'⟩
      case measure => simp [intOf]; omega
    · obtain rfl : k = l.length := by omega
      rw [List.take_length] at hrow
      go_wp2
      go_ret
      exact ⟨_, rfl, ⟨hrow, by have := hnil.out; rw [List.length_map]; exact this⟩, hB⟩
end Go.Proofs.Ytojmkgllbhbeiaa
namespace Go.Proofs.Ytojmkgllbhbeiaa
open Go.RowKit

theorem word_none {ss ds : List Nat} (hok : PartsOk ss ds) (b : Nat) (w : World) (hA : Alph w b ds) : Calls Try.prog 60 #[.pointer (some ⟨b, 0, none⟩), .slice none 0 0] w (RetNats [] w) := by
  have hpos := hok.pos
  obtain ⟨g, cap, hlist, _⟩ := hA.list
  have HN := Lib.hid (none_any hlist hpos)
  clear hlist hA hok
  go_enter Try.func60, Try.ntmps60
  go_wp2_with fail
  refine HN.out.mono ?_
  rintro e w' ⟨rfl, rfl⟩
  clear HN
  go_wp2_with fail
  go_loopw [12, 5] (fun i v wr => i = .int .i64 0 ∧ v = .slice none 0 0 ∧ Below w.heap.size w wr) (fun _ _ _ => 0)
  case atStart => exact ⟨rfl, rfl, Below.refl _ _⟩
  case round =>
    obtain ⟨rfl, rfl, hB⟩ := hrel
    go_wp2
    go_ret
    exact ⟨_, rfl, ⟨World.ownsRow_nil _ _ _ _, by show _ ↔ _; simp⟩, hB⟩
theorem word_any {ss ds : List Nat} (hok : PartsOk ss ds) (b : Nat) (v : Value) (l : List Nat) (hl : ∀ c ∈ l, c < 256) (w : World) (hA : Alph w b ds) (h : Sl w v 1 l.length (l.map byteV)) (hlen : l.length * 8 ≤ 140737488355328) :
    Calls Try.prog 60 #[.pointer (some ⟨b, 0, none⟩), v] w (RetNats (l.map (cls ds)) w) := by
  obtain ⟨_, ⟨rfl, h0⟩ | ⟨b1, o1, cap1, rfl, hb, hc⟩⟩ := h
  · obtain rfl := List.eq_nil_of_length_eq_zero h0
    exact word_none hok b w hA
  · exact word_some hok b b1 o1 cap1 l hl w hA hb (by simpa using hc) hlen

set_option maxHeartbeats 1000000 in
theorem least_any {ss ds : List Nat} (hok : PartsOk ss ds) (b : Nat) (k : Int) (w : World) (hA : Alph w b ds) : Calls Try.prog 47 #[.pointer (some ⟨b, 0, none⟩), .int .i64 k] w fun e w' => e = .returned (.tuple #[.int .u8 (least (setAt ds k) : Nat), .bool (isAt ds k)]) ∧ Below w.heap.size w w' := by
  have HS := set_any hA hok.pos k
  by_cases hk : 0 ≤ k ∧ k < ds.length
  · have hia : isAt ds k = true := by unfold isAt; rw [decide_eq_true hk.1, decide_eq_true hk.2]; rfl
    have hs : setAt ds k ∈ ds := by
      unfold setAt; rw [if_pos hk, List.getD_eq_getElem?_getD, List.getElem?_eq_getElem (by omega : k.toNat < ds.length)]
      exact List.getElem_mem _
    obtain ⟨hp0, hp⟩ := hok.lt _ hs
    have HF : ∀ w, Calls Try.prog 32 #[setV (setAt ds k)] w fun e w' => e = .returned (.tuple #[.int .u8 (least (setAt ds k) : Nat), .bool true]) ∧ Gr w.heap.size w w' := fun w => by
      have := first_any (setAt ds k) w
      rw [(least_at hp hp0).1] at this
      exact this
    rw [hia] at HS ⊢
    generalize least (setAt ds k) = x at HF ⊢
    generalize setAt ds k = p at HS HF
    unfold setV setA at HS HF
    replace HS := Lib.hid HS
    clear hk hia hs hp0 hp hok hA
    go_enter Try.func47, Try.ntmps47
    go_wp2_with fail
    refine HS.out.mono ?_
    clear HS
    rintro e w1 ⟨rfl, hB⟩
    go_wp2_with fail
    refine (HF _).mono ?_
    rintro e w2 ⟨rfl, h2⟩
    have hB2 := bthen (bthen hB (below1 w1 _)) (h2.below.mono (by simp))
    clear HF h2
    go_wp2
    go_ret2
    exact ⟨rfl, hB2⟩
  · have hia : isAt ds k = false := by
      unfold isAt
      by_cases h0 : 0 ≤ k
      · rw [decide_eq_true h0, decide_eq_false (by omega)]; rfl
      · rw [decide_eq_false h0]; rfl
    have hs : setAt ds k = 0 := by unfold setAt; rw [if_neg hk]
    have hl0 : least 0 = 0 := by unfold least; rw [elems_zero]; rfl
    rw [hia, hs] at HS
    rw [hia, hs, hl0]
    rw [setV_zero] at HS
    replace HS := Lib.hid HS
    clear hk hia hs hl0 hok hA
    go_enter Try.func47, Try.ntmps47
    go_wp2_with fail
    refine HS.out.mono ?_
    clear HS
    rintro e w1 ⟨rfl, hB⟩
    have hB2 := bthen hB (below1 w1 (.cells #[.int .u64 0, .int .u64 0, .int .u64 0, .int .u64 0] 24))
    go_wp2
    go_ret2
    exact ⟨rfl, hB2⟩

/-- Which classes are in a set; whether no class is partly in it. -/
def inside (ds : List Nat) (s k : Nat) : List Nat := (List.range k).filter fun i => decide (Sx.less (ds.getD i 0) s = 0)
def fitsB (ds : List Nat) (s : Nat) : Bool := ds.all fun p => decide (Sx.less p s = 0) || decide (Sx.and p s = 0)
theorem inside_yes {ds : List Nat} {s k : Nat} (h : Sx.less (ds.getD k 0) s = 0) : inside ds s (k + 1) = inside ds s k ++ [k] := by
  rw [List.getD_eq_getElem?_getD] at h
  unfold inside; rw [List.range_succ, List.filter_append]; simp [h]
theorem inside_no {ds : List Nat} {s k : Nat} (h : ¬ Sx.less (ds.getD k 0) s = 0) : inside ds s (k + 1) = inside ds s k := by
  rw [List.getD_eq_getElem?_getD] at h
  unfold inside; rw [List.range_succ, List.filter_append]; simp [h]
theorem inside_len (ds : List Nat) (s k : Nat) : (inside ds s k).length ≤ k := by
  have := List.length_filter_le (fun i => decide (Sx.less (ds.getD i 0) s = 0)) (List.range k); simpa [inside] using this
def RetClasses (ds : List Nat) (s : Nat) (w : World) (e : Ending) (w' : World) : Prop :=
  if fitsB ds s = true then ∃ v, e = .returned (.tuple #[v, .int .i64 0]) ∧ Fresh w.heap.size w' v 3 1 (inside ds s ds.length).length ((inside ds s ds.length).map intN) ∧ Below w.heap.size w w'
  else e = .returned (.tuple #[.slice none 0 0, .int .i64 160]) ∧ Below w.heap.size w w'

set_option maxRecDepth 100000 in
set_option maxHeartbeats 4000000 in
theorem classes_any {ss ds : List Nat} (hok : PartsOk ss ds) (b s : Nat) (w : World) (hA : Alph w b ds) : Calls Try.prog 55 #[.pointer (some ⟨b, 0, none⟩), setV s] w (RetClasses ds s w) := by
  obtain ⟨i0, hi, hz0, hz1, hz2⟩ := info_parts info3'
  have hpos := hok.pos
  have hle := hok.le256
  obtain ⟨g, cap, hlist, hg, hcells, _⟩ := hA.list
  have HN := fun w' (h : Below w.heap.size w w') => none_any ((h.cell (p := ⟨b, 256, none⟩) hA.lt).trans hlist) hpos
  have hlw := fun w' (h : Below w.heap.size w w') => (h.cell (p := ⟨b, 256, none⟩) hA.lt).trans hlist
  have hlt0 := fun p hp => hok.lt p hp
  replace hlt0 := Lib.hid hlt0
  replace HN := Lib.hid HN
  replace hcells := Lib.hid hcells
  clear hlist hA hok
  unfold setV setA
  go_enter Try.func55, Try.ntmps55
  go_wp2_with fail
  refine (HN.out _ (below1 w _)).mono ?_
  rintro e w' ⟨rfl, rfl⟩
  clear HN
  have hl1 := hlw _ (below1 w (.cells #[.int .u64 (Sx.wd s 0), .int .u64 (Sx.wd s 1), .int .u64 (Sx.wd s 2), .int .u64 (Sx.wd s 3)] 24))
  obtain ⟨W1, hW1, b3, hB1⟩ : ∃ W1, W1 = w.alloc (.cells #[.int .u64 (Sx.wd s 0), .int .u64 (Sx.wd s 1), .int .u64 (Sx.wd s 2), .int .u64 (Sx.wd s 3)] 24) ∧ Blk W1 w.heap.size (setA s) 24 ∧ Below w.heap.size w W1 := ⟨_, rfl, blkOf1 w _ _, below1 w _⟩
  rw [← hW1] at hl1 ⊢
  have hs1 : w.heap.size < W1.heap.size := b3.lt
  clear hW1 hlw
  go_wp2_with fail
  go_loopw [16, 6] (fun i v wr => ∃ k : Nat, k ≤ ds.length ∧ i = .int .i64 k ∧ wr.ownsRow W1.heap.size 3 1 v (inside ds s k).length ((inside ds s k).map intN) ∧ Hid (v = .slice none 0 0 ↔ (inside ds s k).length = 0) ∧ Hid (∀ i, i < k → Sx.less (ds.getD i 0) s = 0 ∨ Sx.and (ds.getD i 0) s = 0) ∧ Below W1.heap.size W1 wr) (fun i _ _ => ds.length - (intOf i).toNat)
  case atStart => exact ⟨0, by omega, rfl, World.ownsRow_nil _ _ _ _, (by show _ ↔ _; simp [inside]), (fun i h => by omega), Below.refl _ _⟩
  case round =>
    obtain ⟨k, hk, rfl, hrow, hnil, hfit, hB⟩ := hrel
    by_cases hlt : k < ds.length
    · have hBw := hB1.trans (hB.mono hB1.size)
      obtain ⟨c0, c1, c2, c3⟩ := four_in hcells.out hg hBw hlt
      rw [Nat.zero_add] at c0 c1 c2 c3
      have hp := hlt0.out _ (List.getElem_mem hlt)
      have hgd : ds.getD k 0 = ds[k] := by rw [List.getD_eq_getElem?_getD, List.getElem?_eq_getElem hlt]; rfl
      have hmem := Lib.hid (List.getElem_mem hlt)
      have hlen := inside_len ds s k
      obtain ⟨a0, a1, a2, a3, _⟩ := (show Blk wr _ #[_, _, _, _] 24 from b3.laterB hB).four
      have hsz := hB.size
      have hyes := @inside_yes ds s k
      have hno := @inside_no ds s k
      rw [hgd] at hyes hno
      generalize ds[k] = p at c0 c1 c2 c3 hp hgd hmem hyes hno
      have HW := fun w => within_any p s hp.2 w
      have HM := fun w => meets_any p s hp.2 w
      have b8 := blkOf1 wr #[.int .u64 (Sx.wd p 0), .int .u64 (Sx.wd p 1), .int .u64 (Sx.wd p 2), .int .u64 (Sx.wd p 3)] 24
      have hB8 := below1 wr (.cells #[.int .u64 (Sx.wd p 0), .int .u64 (Sx.wd p 1), .int .u64 (Sx.wd p 2), .int .u64 (Sx.wd p 3)] 24)
      have hwz : w.heap.size < wr.heap.size := by omega
      replace hgd := Lib.hid hgd
      by_cases h1 : Sx.less p s = 0
      · rw [decide_eq_true h1] at HW
        replace hyes := Lib.hid (hyes h1)
        have hfit' : Hid (∀ i, i < k + 1 → Sx.less (ds.getD i 0) s = 0 ∨ Sx.and (ds.getD i 0) s = 0) := fun i hi => by
          by_cases e : i = k
          · rw [e, hgd.out]; exact .inl h1
          · exact hfit.out i (by omega)
        clear HM h1 hno hp
        unfold setV setA at HW
        generalize inside ds s k = qs at hrow hnil hyes hlen
        go_wp2_with fail
        refine (HW _).mono ?_
        rintro e w1 ⟨rfl, h1⟩
        have hrow1 := owns_later (owns_later hrow hB8) h1.below
        have hBx := hB.trans ((hB8.trans (h1.below.mono (by simp))).mono hB.size)
        have hsx := hBx.size
        clear HW h1 hB8 b8 c0 c1 c2 c3 a0 a1 a2 a3 hrow
        go_wp2_with (at_builtin; go_must (refine wpList_append_own _ rfl _ _ 55 rfl W1.heap.size 3 i0 (.int .i64 0) 1 8 Try.underlying55 hi hz0 hz1 hz2 rfl (by decide) _ _ _ rfl (hrow1.alloc _) ⟨w1.heap.size, 0, none⟩ 1 1 [intN k] rfl rfl (cell_news _ _ _ _ rfl) (by simp [Value.oneCell', intN]) (by unfold maxLen; omega) (by omega) (by simp; omega) ?_); intro v1 w2 hown1 hgrow1 hn1)
        have hb2 := grown_one' hrow1 hgrow1 (by omega)
        go_roundw
        case rel => exact ⟨k + 1, by omega, by go_num, by rw [hyes.out]; simpa using hown1, (by show _ ↔ _; rw [hyes.out]; simp [hn1]), hfit', hBx.trans hb2⟩
        case measure => simp [intOf]; omega
      · rw [decide_eq_false h1] at HW
        replace hno := Lib.hid (hno h1)
        have hb3 := (b3.laterB hB)
        by_cases h2 : Sx.and p s = 0
        · rw [decide_eq_true h2] at HM
          have hfit' : Hid (∀ i, i < k + 1 → Sx.less (ds.getD i 0) s = 0 ∨ Sx.and (ds.getD i 0) s = 0) := fun i hi => by
            by_cases e : i = k
            · rw [e, hgd.out]; exact .inr h2
            · exact hfit.out i (by omega)
          clear h1 h2 hyes hp
          unfold setV setA at HW HM
          go_wp2_with fail
          refine (HW _).mono ?_
          rintro e w1 ⟨rfl, h1⟩
          have b8' := b8.later h1
          have b3' := (hb3.laterB hB8).later h1
          have hB9 := bthen hB8 (h1.below.mono (Nat.le_refl _))
          obtain ⟨d0, d1, d2, d3, _⟩ := b8'.four
          obtain ⟨e0, e1, e2, e3, _⟩ := (show Blk w1 _ #[_, _, _, _] 24 from b3').four
          clear HW h1 hB8 b8 c0 c1 c2 c3 a0 a1 a2 a3
          go_wp2_with fail
          refine (HM _).mono ?_
          rintro e w2 ⟨rfl, h2⟩
          have hB10 := bthen hB9 (h2.below.mono (Nat.le_refl _))
          have hrow2 := owns_later hrow hB10
          have hBx := hB.trans (hB10.mono hB.size)
          clear HM h2 d0 d1 d2 d3 e0 e1 e2 e3
          go_wp2
          go_roundw
          case rel => exact ⟨k + 1, by omega, by go_num, by rw [hno.out]; exact hrow2, (by show _ ↔ _; rw [hno.out]; exact hnil.out), hfit', hBx⟩
          case measure => simp [intOf]; omega
        · rw [decide_eq_false h2] at HM
          have hbad : Hid (fitsB ds s = false) := by
            show _ = _
            rw [← Bool.not_eq_true]
            intro hall
            have := List.all_eq_true.1 hall p hmem.out
            simp [h1, h2] at this
          clear h1 h2 hyes hp
          unfold setV setA at HW HM
          go_wp2_with fail
          refine (HW _).mono ?_
          rintro e w1 ⟨rfl, h1⟩
          have b8' := b8.later h1
          have b3' := (hb3.laterB hB8).later h1
          have hB9 := bthen hB8 (h1.below.mono (Nat.le_refl _))
          obtain ⟨d0, d1, d2, d3, _⟩ := b8'.four
          obtain ⟨e0, e1, e2, e3, _⟩ := (show Blk w1 _ #[_, _, _, _] 24 from b3').four
          clear HW h1 hB8 b8 c0 c1 c2 c3 a0 a1 a2 a3
          go_wp2_with fail
          refine (HM _).mono ?_
          rintro e w2 ⟨rfl, h2⟩
          have hB10 := bthen hB9 (h2.below.mono (Nat.le_refl _))
          have hBx := hBw.trans (hB10.mono hBw.size)
          clear HM h2 d0 d1 d2 d3 e0 e1 e2 e3
          go_wp2
          go_ret2
          unfold RetClasses
          rw [hbad.out]
          exact ⟨rfl, hBx⟩
    · obtain rfl : k = ds.length := by omega
      have hgood : Hid (fitsB ds s = true) := by
        show _ = _
        refine List.all_eq_true.2 fun p hp => ?_
        obtain ⟨i, hi, rfl⟩ := List.getElem_of_mem hp
        have := hfit.out i hi
        rw [List.getD_eq_getElem?_getD, List.getElem?_eq_getElem hi] at this
        simpa using this
      have hBf := hB1.trans (hB.mono hB1.size)
      go_wp2
      go_ret2
      unfold RetClasses
      rw [hgood.out, if_pos rfl]
      exact ⟨_, rfl, ⟨owns_mono hrow (by omega), hnil.out⟩, hBf⟩
end Go.Proofs.Ytojmkgllbhbeiaa
namespace Go.Proofs.Ytojmkgllbhbeiaa
open Go.RowKit

def intZ (k : Int) : Value := .int .i64 k
def leasts (ds : List Nat) (l : List Int) : List Nat := l.map fun k => least (setAt ds k)
def RetLeasts (ds : List Nat) (l : List Int) (w : World) (e : Ending) (w' : World) : Prop :=
  if l.all (isAt ds) = true then ∃ v, e = .returned (.tuple #[v, .int .i64 0]) ∧ Fresh w.heap.size w' v 5 1 (leasts ds l).length ((leasts ds l).map byteV) ∧ Below w.heap.size w w'
  else e = .returned (.tuple #[.slice none 0 0, .int .i64 2]) ∧ Below w.heap.size w w'

set_option maxRecDepth 100000 in
set_option maxHeartbeats 2000000 in
theorem bytesA_some {ss ds : List Nat} (hok : PartsOk ss ds) (b b1 o1 cap1 : Nat) (l : List Int) (w : World) (hA : Alph w b ds) (hb1 : b1 < w.heap.size) (hc : ∀ i, i < l.length → w.cell? ⟨b1, o1 + i, none⟩ = (l.map intZ)[i]?) (hlen : l.length ≤ 140737488355328) :
    Calls Try.prog 45 #[.pointer (some ⟨b, 0, none⟩), .slice (some ⟨b1, o1, none⟩) l.length cap1] w (RetLeasts ds l w) := by
  obtain ⟨i0, hi, hz0, hz1, hz2⟩ := info_parts info5
  have hpos := hok.pos
  obtain ⟨g, cap, hlist, _⟩ := hA.list
  have HN := fun w' (h : Below w.heap.size w w') => none_any ((h.cell (p := ⟨b, 256, none⟩) hA.lt).trans hlist) hpos
  have HL := fun w' (h : Below w.heap.size w w') k => least_any hok b k w' (hA.later h)
  replace HL := Lib.hid HL
  replace HN := Lib.hid HN
  replace hc := Lib.hid hc
  clear hlist hA hok hpos
  go_enter Try.func45, Try.ntmps45
  go_wp2_with fail
  refine (HN.out w (Below.refl _ _)).mono ?_
  rintro e w' ⟨rfl, rfl⟩
  clear HN
  go_wp2_with fail
  go_loopw [15, 6] (fun i v wr => ∃ k : Nat, k ≤ l.length ∧ i = .int .i64 k ∧ wr.ownsRow w.heap.size 5 1 v (leasts ds (l.take k)).length ((leasts ds (l.take k)).map byteV) ∧ Hid (v = .slice none 0 0 ↔ k = 0) ∧ Hid ((l.take k).all (isAt ds) = true) ∧ Below w.heap.size w wr) (fun i _ _ => l.length - (intOf i).toNat)
  case atStart => exact ⟨0, by omega, rfl, World.ownsRow_nil _ _ _ _, (by show _ ↔ _; simp), rfl, Below.refl _ _⟩
  case round =>
    obtain ⟨k, hk, rfl, hrow, hnil, hall, hB⟩ := hrel
    by_cases hlt : k < l.length
    · have cb : wr.cell? ⟨b1, o1 + k, none⟩ = some (.int .i64 l[k]) := by
        rw [hB.cell (p := ⟨b1, o1 + k, none⟩) hb1, hc.out k hlt, List.getElem?_map, List.getElem?_eq_getElem hlt]; rfl
      have HK := HL.out wr hB l[k]
      have htk := Lib.hid (show leasts ds (l.take (k + 1)) = leasts ds (l.take k) ++ [least (setAt ds l[k])] by unfold leasts; rw [List.take_succ_eq_append_getElem hlt, List.map_append]; rfl)
      have htl : (leasts ds (l.take k)).length = k := by unfold leasts; simp; omega
      have hsz := hB.size
      by_cases hia : isAt ds l[k] = true
      · have hall' : Hid ((l.take (k + 1)).all (isAt ds) = true) := by
          show _ = _
          rw [List.take_succ_eq_append_getElem hlt, List.all_append, hall.out]; simpa using hia
        rw [hia] at HK
        generalize least (setAt ds l[k]) = x at HK htk
        generalize l[k] = c at cb HK
        generalize leasts ds (l.take k) = qs at hrow htk htl
        subst htl
        replace HK := Lib.hid HK
        clear hia
        go_wp2_with fail
        refine HK.out.mono ?_
        clear HK
        rintro e w1 ⟨rfl, hB1⟩
        have hB1 := hB1
        have hrow1 := owns_later hrow hB1
        have hB2 := bthen hB hB1
        have hs1 := hB1.size
        clear hrow
        go_wp2_with (at_builtin; go_must (refine wpList_append_own _ rfl _ _ 44 rfl w.heap.size 5 i0 (.int .u8 0) 1 1 Try.underlying44 hi hz0 hz1 hz2 rfl (by decide) _ _ _ rfl (hrow1.alloc _) ⟨w1.heap.size, 0, none⟩ 1 1 [byteV x] rfl rfl (cell_news _ _ _ _ rfl) (by simp [Value.oneCell', byteV]) (by unfold maxLen; omega) (by omega) (by simp; omega) ?_); intro v1 w2 hown1 hgrow1 hn1)
        have hb1' := grown_one' hrow1 hgrow1 (by omega)
        go_roundw
        case rel => exact ⟨qs.length + 1, by omega, by go_num, by rw [htk.out]; simpa using hown1, by show _ ↔ _; simp [hn1], hall', hB2.trans hb1'⟩
        case measure => simp [intOf]; omega
      · have hbad : Hid (l.all (isAt ds) = false) := by
          show _ = _
          rw [← Bool.not_eq_true]
          intro h
          exact hia (List.all_eq_true.1 h _ (List.getElem_mem hlt))
        rw [Bool.not_eq_true] at hia
        rw [hia] at HK
        generalize least (setAt ds l[k]) = x at HK
        generalize l[k] = c at cb HK
        replace HK := Lib.hid HK
        clear hia htk htl
        go_wp2_with fail
        refine HK.out.mono ?_
        clear HK
        rintro e w1 ⟨rfl, hB1⟩
        have hB2 := bthen hB hB1
        go_wp2
        go_ret2
        unfold RetLeasts
        rw [hbad.out]
        exact ⟨rfl, hB2⟩
    · obtain rfl : k = l.length := by omega
      rw [List.take_length] at hrow hall
      go_wp2
      go_ret2
      unfold RetLeasts
      rw [hall.out, if_pos rfl]
      exact ⟨_, rfl, ⟨hrow, by have := hnil.out; unfold leasts; rw [List.length_map]; exact this⟩, hB⟩
theorem bytesA_none {ss ds : List Nat} (hok : PartsOk ss ds) (b : Nat) (w : World) (hA : Alph w b ds) : Calls Try.prog 45 #[.pointer (some ⟨b, 0, none⟩), .slice none 0 0] w (RetLeasts ds [] w) := by
  have hpos := hok.pos
  obtain ⟨g, cap, hlist, _⟩ := hA.list
  have HN := Lib.hid (none_any hlist hpos)
  clear hlist hA hok
  go_enter Try.func45, Try.ntmps45
  go_wp2_with fail
  refine HN.out.mono ?_
  rintro e w' ⟨rfl, rfl⟩
  clear HN
  go_wp2_with fail
  go_loopw [15, 6] (fun i v wr => i = .int .i64 0 ∧ v = .slice none 0 0 ∧ Below w.heap.size w wr) (fun _ _ _ => 0)
  case atStart => exact ⟨rfl, rfl, Below.refl _ _⟩
  case round =>
    obtain ⟨rfl, rfl, hB⟩ := hrel
    go_wp2
    go_ret2
    unfold RetLeasts
    exact ⟨_, rfl, ⟨World.ownsRow_nil _ _ _ _, by show _ ↔ _; simp [leasts]⟩, hB⟩
theorem bytesA_any {ss ds : List Nat} (hok : PartsOk ss ds) (b : Nat) (v : Value) (l : List Int) (w : World) (hA : Alph w b ds) (h : Sl w v 1 l.length (l.map intZ)) (hlen : l.length ≤ 140737488355328) :
    Calls Try.prog 45 #[.pointer (some ⟨b, 0, none⟩), v] w (RetLeasts ds l w) := by
  obtain ⟨_, ⟨rfl, h0⟩ | ⟨b1, o1, cap1, rfl, hb, hc⟩⟩ := h
  · obtain rfl := List.eq_nil_of_length_eq_zero h0
    exact bytesA_none hok b w hA
  · exact bytesA_some hok b b1 o1 cap1 l w hA hb (by simpa using hc) hlen

set_option maxHeartbeats 1000000 in
theorem fits_any {ss ds : List Nat} (hok : PartsOk ss ds) (b s : Nat) (w : World) (hA : Alph w b ds) : Calls Try.prog 59 #[.pointer (some ⟨b, 0, none⟩), setV s] w fun e w' => e = .returned (.bool (fitsB ds s)) ∧ Below w.heap.size w w' := by
  have HC := fun w' (h : Below w.heap.size w w') => classes_any hok b s w' (hA.later h)
  replace HC := Lib.hid (HC _ (below1 w (.cells (setA s) 24)))
  clear hA hok
  unfold setV setA at *
  go_enter Try.func59, Try.ntmps59
  go_wp2_with fail
  refine HC.out.mono ?_
  clear HC
  intro e w1 h
  unfold RetClasses at h
  by_cases hf : fitsB ds s = true
  · rw [if_pos hf] at h
    obtain ⟨v, rfl, _, hB⟩ := h
    replace hf := Lib.hid hf
    have hB2 := bthen (below1 w _) (hB.mono (by simp))
    clear hB
    go_wp2
    go_ret
    exact ⟨by rw [hf.out]; rfl, hB2⟩
  · rw [if_neg hf] at h
    obtain ⟨rfl, hB⟩ := h
    rw [Bool.not_eq_true] at hf
    replace hf := Lib.hid hf
    have hB2 := bthen (below1 w _) (hB.mono (by simp))
    clear hB
    go_wp2
    go_ret
    exact ⟨by rw [hf.out]; rfl, hB2⟩

def finerB (ds ds' : List Nat) : Bool := ds'.all (fitsB ds)
set_option maxRecDepth 100000 in
set_option maxHeartbeats 2000000 in
theorem finer_any {ss ds ss' ds' : List Nat} (hok : PartsOk ss ds) (hok' : PartsOk ss' ds') (b b' : Nat) (w : World) (hA : Alph w b ds) (hA' : Alph w b' ds') : Calls Try.prog 66 #[.pointer (some ⟨b, 0, none⟩), .pointer (some ⟨b', 0, none⟩)] w fun e w' => e = .returned (.bool (finerB ds ds')) ∧ Below w.heap.size w w' := by
  have hpos := hok.pos
  have hpos' := hok'.pos
  have hle' := hok'.le256
  obtain ⟨g0, cap0, hlist0, _⟩ := hA.list
  obtain ⟨g, cap, hlist, hg, hcells, _⟩ := hA'.list
  have HN := Lib.hid (none_any hlist0 hpos)
  have HN' := Lib.hid (none_any hlist hpos')
  have HF := fun w' (h : Below w.heap.size w w') s => fits_any hok b s w' (hA.later h)
  replace HF := Lib.hid HF
  have hlt0 := fun p hp => hok'.lt p hp
  replace hlt0 := Lib.hid hlt0
  replace hcells := Lib.hid hcells
  clear hA hA' hok hok' hlist0
  go_enter Try.func66, Try.ntmps66
  go_wp2_with fail
  refine HN.out.mono ?_
  rintro e w' ⟨rfl, rfl⟩
  clear HN
  go_wp2_with fail
  refine HN'.out.mono ?_
  rintro e w' ⟨rfl, rfl⟩
  clear HN'
  go_wp2_with fail
  go_loopw [18] (fun i wr => ∃ k : Nat, k ≤ ds'.length ∧ i = .int .i64 k ∧ Hid ((ds'.take k).all (fitsB ds) = true) ∧ Below w.heap.size w wr) (fun i _ => ds'.length - (intOf i).toNat)
  case atStart => exact ⟨0, by omega, rfl, rfl, Below.refl _ _⟩
  case round =>
    obtain ⟨k, hk, rfl, hall, hB⟩ := hrel
    by_cases hlt : k < ds'.length
    · obtain ⟨c0, c1, c2, c3⟩ := four_in hcells.out hg hB hlt
      rw [Nat.zero_add] at c0 c1 c2 c3
      have htk := Lib.hid (show (ds'.take (k + 1)).all (fitsB ds) = ((ds'.take k).all (fitsB ds) && fitsB ds ds'[k]) by rw [List.take_succ_eq_append_getElem hlt, List.all_append]; simp)
      have hmem := Lib.hid (List.getElem_mem hlt)
      have HK := fun w' h => HF.out w' h ds'[k]
      have hsz := hB.size
      generalize ds'[k] = p at c0 c1 c2 c3 htk hmem HK
      have hB8 := bthen hB (below1 wr (.cells #[.int .u64 (Sx.wd p 0), .int .u64 (Sx.wd p 1), .int .u64 (Sx.wd p 2), .int .u64 (Sx.wd p 3)] 24))
      replace HK := Lib.hid (HK _ hB8)
      unfold setV setA at HK
      by_cases hf : fitsB ds p = true
      · rw [hf] at HK
        have hall' : Hid ((ds'.take (k + 1)).all (fitsB ds) = true) := by
          show _ = _
          rw [htk.out, hall.out, hf]; rfl
        clear hf htk hmem
        go_wp2_with fail
        refine HK.out.mono ?_
        clear HK
        rintro e w1 ⟨rfl, hB1⟩
        have hB2 := bthen hB8 hB1
        clear hB8 hB1
        go_wp2
        go_roundw
        case rel => exact ⟨k + 1, by omega, by go_num, hall', hB2⟩
        case measure => simp [intOf]; omega
      · rw [Bool.not_eq_true] at hf
        rw [hf] at HK
        have hbad : Hid (finerB ds ds' = false) := by
          show _ = _
          rw [← Bool.not_eq_true]
          intro h
          have := List.all_eq_true.1 h _ hmem.out
          rw [hf] at this; cases this
        clear hf htk hmem
        go_wp2_with fail
        refine HK.out.mono ?_
        clear HK
        rintro e w1 ⟨rfl, hB1⟩
        have hB2 := bthen hB8 hB1
        clear hB8 hB1
        go_wp2
        go_ret
        exact ⟨by rw [hbad.out]; rfl, hB2⟩
    · obtain rfl : k = ds'.length := by omega
      rw [List.take_length] at hall
      go_wp2
      go_ret
      exact ⟨by unfold finerB; rw [hall.out]; rfl, hB⟩
end Go.Proofs.Ytojmkgllbhbeiaa
namespace Go.Proofs.Ytojmkgllbhbeiaa
open Go.RowKit

def orAt (ds : List Nat) (l : List Int) : Nat := l.foldl (fun s k => Sx.or s (setAt ds k)) 0
theorem orAt_snoc (ds : List Nat) (l : List Int) (k : Int) : orAt ds (l ++ [k]) = Sx.or (orAt ds l) (setAt ds k) := by simp [orAt]
def RetTogether (ds : List Nat) (l : List Int) (w : World) (e : Ending) (w' : World) : Prop :=
  Below w.heap.size w w' ∧ if l.all (isAt ds) = true then e = .returned (.tuple #[setV (orAt ds l), .int .i64 0]) else e = .returned (.tuple #[setV 0, .int .i64 2])

set_option maxRecDepth 100000 in
set_option maxHeartbeats 2000000 in
theorem together_some {ss ds : List Nat} (hok : PartsOk ss ds) (b b1 o1 cap1 : Nat) (l : List Int) (w : World) (hA : Alph w b ds) (hb1 : b1 < w.heap.size) (hc : ∀ i, i < l.length → w.cell? ⟨b1, o1 + i, none⟩ = (l.map intZ)[i]?) (hlen : l.length ≤ 140737488355328) :
    Calls Try.prog 44 #[.pointer (some ⟨b, 0, none⟩), .slice (some ⟨b1, o1, none⟩) l.length cap1] w (RetTogether ds l w) := by
  have hpos := hok.pos
  have hbl := hA.lt
  obtain ⟨g, cap, hlist, hg, hcells, _⟩ := hA.list
  have hl0 := fun w' (h : Below w.heap.size w w') => (h.cell (p := ⟨b, 256, none⟩) hA.lt).trans hlist
  have HN := fun w' (h : Below w.heap.size w w') => none_any (hl0 w' h) hpos
  have HK := fun w' (h : Below w.heap.size w w') k => isK_any (hl0 w' h) hpos k
  replace hl0 := Lib.hid hl0
  replace HK := Lib.hid HK
  replace HN := Lib.hid (HN _ (below1 w (.cells #[.int .u64 0, .int .u64 0, .int .u64 0, .int .u64 0] 24)))
  replace hc := Lib.hid hc
  replace hcells := Lib.hid hcells
  clear hlist hA
  go_enter Try.func44, Try.ntmps44
  go_wp2_with fail
  refine HN.out.mono ?_
  rintro e w' ⟨rfl, rfl⟩
  clear HN
  go_wp2_with fail
  go_loopw [14] (fun i wr => ∃ k : Nat, k ≤ l.length ∧ i = .int .i64 k ∧ Blk wr w.heap.size (setA 0) 24 ∧ Blk wr (w.heap.size + 1) (setA (orAt ds (l.take k))) 24 ∧ Hid ((l.take k).all (isAt ds) = true) ∧ Below w.heap.size w wr) (fun i _ => l.length - (intOf i).toNat)
  case atStart => exact ⟨0, by omega, rfl, by rw [setA_zero]; exact (blkOf1 w _ _).alloc _, by rw [show orAt ds (l.take 0) = 0 from rfl, setA_zero]; exact blkOf2 w _ _ _, rfl, below2 w _ _⟩
  case round =>
    obtain ⟨k, hk, rfl, b4, b6, hall, hB⟩ := hrel
    by_cases hlt : k < l.length
    · have cb : wr.cell? ⟨b1, o1 + k, none⟩ = some (.int .i64 l[k]) := by
        rw [hB.cell (p := ⟨b1, o1 + k, none⟩) hb1, hc.out k hlt, List.getElem?_map, List.getElem?_eq_getElem hlt]; rfl
      have hI : isAt ds l[k] = (decide (0 ≤ l[k]) && decide (l[k] < ds.length)) := rfl
      have HKk := HK.out wr hB l[k]
      rw [← hI] at HKk
      replace HKk := Lib.hid HKk
      have hl := hl0.out wr hB
      by_cases hia : isAt ds l[k] = true
      · have hall' : Hid ((l.take (k + 1)).all (isAt ds) = true) := by
          show _ = _
          rw [List.take_succ_eq_append_getElem hlt, List.all_append, hall.out]; simpa using hia
        rw [hia] at HKk hI
        obtain ⟨i, hi⟩ : ∃ i : Nat, l[k] = i := ⟨(l[k]).toNat, by have := hI.symm; simp at this; omega⟩
        have hin : i < ds.length := by rw [hi] at hI; have := hI.symm; simp at this; omega
        have hs : setAt ds l[k] = ds[i] := by unfold setAt; rw [hi, if_pos ⟨by omega, by omega⟩, Int.toNat_natCast, List.getD_eq_getElem?_getD, List.getElem?_eq_getElem hin]; rfl
        have htk := Lib.hid (show orAt ds (l.take (k + 1)) = Sx.or (orAt ds (l.take k)) ds[i] by rw [List.take_succ_eq_append_getElem hlt, orAt_snoc, hs])
        have hcl := fun w' (h : Below wr.heap.size wr w') => four_in hcells.out hg (hB.trans (h.mono hB.size)) hin
        rw [hi] at cb HKk
        have hsz := hB.size
        generalize ds[i] = p at htk hcl
        generalize orAt ds (l.take k) = q at b6 htk
        replace hcl := Lib.hid hcl
        replace htk := Lib.hid htk.out
        clear hia hI hs hi hpos hok
        have hbl' : b < wr.heap.size := by omega
        have hgl' : g < wr.heap.size := by omega
        generalize ds.length = n at hin hl HKk ⊢
        go_wp2_with fail
        refine HKk.out.mono ?_
        clear HKk
        rintro e w1 ⟨rfl, rfl⟩
        go_wp2_with fail
        refine wp_region_last 34 9 [.eq (setV q), .eq (.pointer (some ⟨b, 0, none⟩)), .eq (.pointer (some ⟨b, 0, none⟩)), .eq (.pointer (some ⟨b, 256, none⟩)), .eq (.slice (some ⟨g, 0, none⟩) n cap), .eq (.int .i64 i), .eq (.pointer (some ⟨g, i * 4, none⟩)), .eq (setV p), .eq (setV (Sx.or q p))] mixed rfl (by kernel_rfl) rfl rfl (by kernel_rfl) ?_ ?_
        · refine ⟨?_, ?_, ?_, ?_, ?_, ?_, ?_, ?_, ?_, trivial⟩
          · intro vs a w hR H hin hout hget
            refine one_free rfl ?_
            have e0 := hout 6 (by kernel_rfl)
            obtain ⟨c0, c1, c2, c3, _⟩ := (show Blk w _ #[_, _, _, _] 24 from b6.laterB hR).four
            clear H hin hout hget
            dsimp only [bare]
            go_wp2
            exact ⟨_, rfl, shows0 hR rfl⟩
          · intro vs a w hR H hin hout hget
            refine one_free rfl ?_
            have e0 := hout 0 (by kernel_rfl)
            clear H hin hout hget
            dsimp only [bare]
            go_wp2
            exact ⟨_, rfl, shows0 hR rfl⟩
          · intro vs a w hR H hin hout hget
            refine one_free rfl ?_
            have e0 := (hget 1 24 (by kernel_rfl)).trans (congrArg some (H 1 (by decide)))
            clear H hin hout hget
            dsimp only [bare]
            go_wp2
            exact ⟨_, rfl, shows0 hR rfl⟩
          · intro vs a w hR H hin hout hget
            refine one_free rfl ?_
            have e0 := (hget 2 25 (by kernel_rfl)).trans (congrArg some (H 2 (by decide)))
            clear H hin hout hget
            dsimp only [bare]
            go_wp2
            exact ⟨_, rfl, shows0 hR rfl⟩
          · intro vs a w hR H hin hout hget
            refine one_free rfl ?_
            have e0 := (hget 3 26 (by kernel_rfl)).trans (congrArg some (H 3 (by decide)))
            have hlw := (hR.cell (p := ⟨b, 256, none⟩) hbl').trans hl
            clear H hin hout hget
            dsimp only [bare]
            go_wp2
            exact ⟨_, rfl, shows0 hR rfl⟩
          · intro vs a w hR H hin hout hget
            refine one_free rfl ?_
            have e0 := hout 8 (by kernel_rfl)
            clear H hin hout hget
            dsimp only [bare]
            go_wp2
            exact ⟨_, rfl, shows0 hR rfl⟩
          · intro vs a w hR H hin' hout hget
            refine one_free rfl ?_
            have e0 := (hget 4 27 (by kernel_rfl)).trans (congrArg some (H 4 (by decide)))
            have e1 := (hget 5 28 (by kernel_rfl)).trans (congrArg some (H 5 (by decide)))
            clear H hin' hout hget
            dsimp only [bare]
            go_wp2
            exact ⟨_, rfl, shows0 hR rfl⟩
          · intro vs a w hR H hin hout hget
            refine one_free rfl ?_
            have e0 := (hget 6 29 (by kernel_rfl)).trans (congrArg some (H 6 (by decide)))
            obtain ⟨c0, c1, c2, c3⟩ := hcl.out w hR
            rw [Nat.zero_add] at c0 c1 c2 c3
            clear H hin hout hget
            dsimp only [bare]
            go_wp2
            exact ⟨_, rfl, shows0 hR rfl⟩
          · intro vs a w hR H hin hout hget
            refine one_free rfl ?_
            have e0 := (hget 0 23 (by kernel_rfl)).trans (congrArg some (H 0 (by decide)))
            have e1 := (hget 7 30 (by kernel_rfl)).trans (congrArg some (H 7 (by decide)))
            clear H hin hout hget
            dsimp only [bare]
            go_wp2_with fail
            refine (or_any _ _ w).mono ?_
            rintro e w1 ⟨rfl, hb⟩
            go_wp2
            exact ⟨_, rfl, shows hR hb.below rfl⟩
        · intro vs wa hR H
          have e8 : vs 8 = setV (Sx.or q p) := H 8 (by decide)
          simp only [putAll, Act.put, List.setIfInBounds_toArray, List.set_cons_succ, List.set_cons_zero, Nat.zero_add, Nat.reduceAdd, e8]
          clear H e8
          replace hB := hB.trans (hR.mono hB.size)
          replace b4 := b4.laterB hR
          replace b6 := b6.laterB hR
          clear hR hcl
          generalize Sx.or q p = y at htk ⊢
          obtain ⟨d0, d1, d2, d3, k0, k1, k2, k3⟩ := (show Blk wa _ #[_, _, _, _] 24 from b6).four
          unfold setV setA
          have nb6 := Lib.hid (Blk.setFour (show Blk wa _ #[_, _, _, _] 24 from b6) (.int .u64 (Sx.wd y 0)) (.int .u64 (Sx.wd y 1)) (.int .u64 (Sx.wd y 2)) (.int .u64 (Sx.wd y 3)))
          have nb4 := Lib.hid (b4.otherFour (b' := w.heap.size + 1) (show w.heap.size ≠ w.heap.size + 1 by omega) (.int .u64 (Sx.wd y 0)) (.int .u64 (Sx.wd y 1)) (.int .u64 (Sx.wd y 2)) (.int .u64 (Sx.wd y 3)))
          have nB := Lib.hid (bfour hB (b := w.heap.size + 1) (show w.heap.size ≤ w.heap.size + 1 by omega) (.int .u64 (Sx.wd y 0)) (.int .u64 (Sx.wd y 1)) (.int .u64 (Sx.wd y 2)) (.int .u64 (Sx.wd y 3)))
          clear b4 b6 hB
          go_wp2
          go_roundw
          case rel => exact ⟨k + 1, by omega, by go_num, nb4.out, by rw [htk.out]; exact nb6.out, hall', nB.out⟩
          case measure => simp [intOf]; omega
      · have hbad : Hid (l.all (isAt ds) = false) := by
          show _ = _
          rw [← Bool.not_eq_true]
          intro h
          exact hia (List.all_eq_true.1 h _ (List.getElem_mem hlt))
        rw [Bool.not_eq_true] at hia
        rw [hia] at HKk
        generalize l[k] = c at cb HKk
        obtain ⟨d0, d1, d2, d3, k0, k1, k2, k3⟩ := (show Blk wr _ #[_, _, _, _] 24 from b4).four
        have nB := Lib.hid (bfour hB (b := w.heap.size) (by omega) (.int .u64 0) (.int .u64 0) (.int .u64 0) (.int .u64 0))
        clear hia hI hpos hok
        go_wp2_with fail
        refine HKk.out.mono ?_
        clear HKk
        rintro e w1 ⟨rfl, rfl⟩
        go_wp2
        refine bodyPost_ret (v := .tuple #[.agg #[.int .u64 0, .int .u64 0, .int .u64 0, .int .u64 0], .int .i64 2]) (by simp [results, Try.results44, go_sem, *]) rfl ?_
        refine ⟨nB.out, ?_⟩
        rw [hbad.out]; rw [setV_zero]; rfl
    · obtain rfl : k = l.length := by omega
      rw [List.take_length] at hall b6
      generalize hq : orAt ds l = q at b6
      obtain ⟨d0, d1, d2, d3, k0, k1, k2, k3⟩ := (show Blk wr _ #[_, _, _, _] 24 from b4).four
      obtain ⟨m0, m1, m2, m3, n0, n1, n2, n3⟩ := (show Blk wr _ #[_, _, _, _] 24 from b6).four
      have nB := Lib.hid (bfour hB (b := w.heap.size) (by omega) (.int .u64 (Sx.wd q 0)) (.int .u64 (Sx.wd q 1)) (.int .u64 (Sx.wd q 2)) (.int .u64 (Sx.wd q 3)))
      replace hq := Lib.hid hq
      go_wp2
      refine bodyPost_ret (v := .tuple #[.agg #[.int .u64 (Sx.wd q 0), .int .u64 (Sx.wd q 1), .int .u64 (Sx.wd q 2), .int .u64 (Sx.wd q 3)], .int .i64 0]) (by simp [results, Try.results44, go_sem, *]) rfl ?_
      refine ⟨nB.out, ?_⟩
      rw [hall.out, if_pos rfl, hq.out]; rfl
theorem together_none {ss ds : List Nat} (hok : PartsOk ss ds) (b : Nat) (w : World) (hA : Alph w b ds) : Calls Try.prog 44 #[.pointer (some ⟨b, 0, none⟩), .slice none 0 0] w (RetTogether ds [] w) := by
  have hpos := hok.pos
  obtain ⟨g, cap, hlist, _⟩ := hA.list
  have HN := Lib.hid (none_any (((below1 w (.cells #[.int .u64 0, .int .u64 0, .int .u64 0, .int .u64 0] 24)).cell (p := ⟨b, 256, none⟩) hA.lt).trans hlist) hpos)
  clear hlist hA hok
  go_enter Try.func44, Try.ntmps44
  go_wp2_with fail
  refine HN.out.mono ?_
  rintro e w' ⟨rfl, rfl⟩
  clear HN
  go_wp2_with fail
  go_loopw [14] (fun i wr => i = .int .i64 0 ∧ Blk wr w.heap.size (setA 0) 24 ∧ Blk wr (w.heap.size + 1) (setA 0) 24 ∧ Below w.heap.size w wr) (fun _ _ => 0)
  case atStart => exact ⟨rfl, by rw [setA_zero]; exact (blkOf1 w _ _).alloc _, by rw [setA_zero]; exact blkOf2 w _ _ _, below2 w _ _⟩
  case round =>
    obtain ⟨rfl, b4, b6, hB⟩ := hrel
    obtain ⟨d0, d1, d2, d3, k0, k1, k2, k3⟩ := (show Blk wr _ #[_, _, _, _] 24 from b4).four
    obtain ⟨m0, m1, m2, m3, n0, n1, n2, n3⟩ := (show Blk wr _ #[_, _, _, _] 24 from b6).four
    have nB := Lib.hid (bfour hB (b := w.heap.size) (by omega) (.int .u64 (Sx.wd 0 0)) (.int .u64 (Sx.wd 0 1)) (.int .u64 (Sx.wd 0 2)) (.int .u64 (Sx.wd 0 3)))
    go_wp2
    refine bodyPost_ret (v := .tuple #[.agg #[.int .u64 (Sx.wd 0 0), .int .u64 (Sx.wd 0 1), .int .u64 (Sx.wd 0 2), .int .u64 (Sx.wd 0 3)], .int .i64 0]) (by simp [results, Try.results44, go_sem, *]) rfl ?_
    exact ⟨nB.out, rfl⟩
theorem together_any {ss ds : List Nat} (hok : PartsOk ss ds) (b : Nat) (v : Value) (l : List Int) (w : World) (hA : Alph w b ds) (h : Sl w v 1 l.length (l.map intZ)) (hlen : l.length ≤ 140737488355328) :
    Calls Try.prog 44 #[.pointer (some ⟨b, 0, none⟩), v] w (RetTogether ds l w) := by
  obtain ⟨_, ⟨rfl, h0⟩ | ⟨b1, o1, cap1, rfl, hb, hc⟩⟩ := h
  · obtain rfl := List.eq_nil_of_length_eq_zero h0
    exact together_none hok b w hA
  · exact together_some hok b b1 o1 cap1 l w hA hb (by simpa using hc) hlen
end Go.Proofs.Ytojmkgllbhbeiaa
namespace Go.Proofs.Ytojmkgllbhbeiaa
open Go.RowKit

def tabA (f : Nat → Nat) : Array Value := Array.ofFn (n := 256) fun c => Value.int .u8 (f c : Nat)
theorem tabA_size (f : Nat → Nat) : (tabA f).size = 256 := by simp [tabA]
theorem tabA_get (f : Nat → Nat) {c : Nat} (h : c < 256) : (tabA f)[c]? = some (.int .u8 (f c : Nat)) := by simp [tabA, h]
theorem tabA_one (f : Nat → Nat) : (tabA f).all (·.oneCell') = true := by
  rw [Array.all_eq_true]; intro i hi; simp [tabA, Value.oneCell']
theorem zero82 : ∀ w, (zeroValue 82).run Try.prog w = .ok (.agg (tabA fun _ => 0)) w := fun w => by kernel_rfl
theorem under82 : Try.prog.underlying 82 = some (.array 256 5) := by kernel_rfl
theorem size82 : (Try.prog.info? 82).map (·.size) = some 256 := by kernel_rfl
section
variable {ops : Array Oper} {rest : List Oper} {o : Oper} {a : Act} {w : World} {Q : Exit → Act → World → Prop}
theorem wp_load82 (hgd : o.guard = none) (x : Operand) (ho : o.op = .load 82 x) (b : Nat) (hx : a.eval x = .pointer (some ⟨b, 0, none⟩)) (f : Nat → Nat) (hc : ∀ c, c < 256 → w.cell? ⟨b, c, none⟩ = some (.int .u8 (f c : Nat)))
    (h : wpList Try.prog ops Q rest (a.put o.dst (.agg (tabA f))) w) : wpList Try.prog ops Q (o :: rest) a w := by
  refine wpList_load_mid hgd 82 x ho b 0 hx (tabA f).toList (.array 256 5) ?_ under82 rfl (by rw [size82, Array.length_toList, tabA_size]) ?_
  · intro j v hj
    rw [Array.getElem?_toList] at hj
    have hj2 : j < 256 := by
      have := (Array.getElem?_eq_some_iff.1 hj).1
      rwa [tabA_size] at this
    rw [tabA_get f hj2] at hj
    cases hj
    rw [Nat.zero_add]; exact hc j hj2
  · rw [Array.toArray_toList]; exact h
theorem wp_store82 (hgd : o.guard = none) (x y : Operand) (ho : o.op = .store 82 x y) (g : Nat) (hx : a.eval x = .pointer (some ⟨g, 0, none⟩)) (f f0 : Nat → Nat) (hy : a.eval y = .agg (tabA f)) (hb : Blk w g (tabA f0) 82)
    (h : wpList Try.prog ops Q rest (a.put o.dst undef) (w.setRow g (tabA f))) : wpList Try.prog ops Q (o :: rest) a w :=
  wpList_store_row hgd 82 x y ho g (tabA f) hx hy 82 (tabA f0) hb (by rw [size82, tabA_size]) (by rw [tabA_size, tabA_size]) (tabA_one f) h
end
theorem res82 {fn : Func} {p : Tmp} (h : fn.results = #[.cell p 82]) (tmps : Array Value) (w : World) (g : Nat) (f : Nat → Nat) (hp : tmps.getD p undef = .pointer (some ⟨g, 0, none⟩)) (hg : Blk w g (tabA f) 82) :
    (results fn tmps).run Try.prog w = .ok (.agg (tabA f)) w :=
  results_cell_row h tmps w g 82 (tabA f) (0, 0) _ hp hg under82 rfl (by rw [size82, tabA_size])
theorem guard82 (op : BinOp) (a b : Operand) (xs ys : Array Value) (w : World) : (eqGuard op 82 a b (.agg xs) (.agg ys)).run Try.prog w = .ok () w := run_eqGuard_agg w op 82 a b xs ys (by kernel_rfl)
def sameT (f g : Nat → Nat) : Bool := (List.range 256).all fun c => f c == g c
theorem sameT_iff (f g : Nat → Nat) : sameT f g = true ↔ ∀ c, c < 256 → f c = g c := by simp [sameT]
theorem eqlTab (f g : Nat → Nat) (w : World) : (binOp .eql 82 (.agg (tabA f)) (.agg (tabA g))).run Try.prog w = .ok (.bool (sameT f g)) w :=
  run_eql_arr w 82 5 256 .u8 .u8 under82 Try.underlying5 Try.isAgg5 Try.sizeOf5 _ _ (fun c => (f c : Nat)) (fun c => (g c : Nat)) (fun _ hi => tabA_get f hi) (fun _ hi => tabA_get g hi) _ (by rw [sameT_iff]; exact ⟨fun h i hi => by rw [h i hi], fun h i hi => by have := h i hi; omega⟩)

theorem below_row {B b : Nat} {a w : World} (h : Below B a w) (hB : B ≤ b) (cs : Array Value) : Below B a (w.setRow b cs) := below_setRow h hB cs
set_option maxRecDepth 100000 in
set_option maxHeartbeats 1000000 in
theorem table_any {ss ds : List Nat} (hok : PartsOk ss ds) (b : Nat) (w : World) (hA : Alph w b ds) : Calls Try.prog 61 #[.pointer (some ⟨b, 0, none⟩)] w fun e w' => e = .returned (.agg (tabA (cls ds))) ∧ Below w.heap.size w w' := by
  have hpos := hok.pos
  have hz := zero82
  obtain ⟨g, cap, hlist, _⟩ := hA.list
  have hB := below1 w (.cells (tabA fun _ => 0) 82)
  have hb2 := blkOf1 w (tabA fun _ => 0) 82
  have HN := Lib.hid (none_any ((hB.cell (p := ⟨b, 256, none⟩) hA.lt).trans hlist) hpos)
  have HT := Lib.hid (fun c (hc : c < 256) => (hB.cell (p := ⟨b, c, none⟩) hA.lt).trans (hA.table c hc))
  clear hlist hA hok hpos
  go_enter Try.func61, Try.ntmps61
  go_wp2_with fail
  obtain ⟨W, hW⟩ : ∃ W, W = w.alloc (.cells (tabA fun _ => 0) 82) := ⟨_, rfl⟩
  rw [← hW] at hB hb2 HN HT ⊢
  clear hW hz
  refine HN.out.mono ?_
  rintro e w' ⟨rfl, rfl⟩
  clear HN
  go_wp2_with (first | with_reducible refine wp_load82 rfl _ rfl _ rfl _ HT.out ?_ | with_reducible refine wp_store82 rfl _ _ rfl _ rfl _ _ rfl hb2 ?_)
  refine bodyPost_ret (res82 rfl _ _ w.heap.size (cls ds) rfl (hb2.setRow _)) rfl ⟨rfl, below_row hB (Nat.le_refl _) _⟩

set_option maxRecDepth 100000 in
set_option maxHeartbeats 2000000 in
theorem sameA_any {ss ds ss' ds' : List Nat} (hok : PartsOk ss ds) (hok' : PartsOk ss' ds') (b b' : Nat) (w : World) (hA : Alph w b ds) (hA' : Alph w b' ds') : Calls Try.prog 67 #[.pointer (some ⟨b, 0, none⟩), .pointer (some ⟨b', 0, none⟩)] w fun e w' => e = .returned (.bool (sameT (cls ds) (cls ds'))) ∧ Below w.heap.size w w' := by
  have hpos := hok.pos
  have hpos' := hok'.pos
  obtain ⟨g0, cap0, hlist0, _⟩ := hA.list
  obtain ⟨g, cap, hlist, _⟩ := hA'.list
  have HN := Lib.hid (fun w' (h : Below w.heap.size w w') => none_any ((h.cell (p := ⟨b, 256, none⟩) hA.lt).trans hlist0) hpos)
  have HN' := Lib.hid (fun w' (h : Below w.heap.size w w') => none_any ((h.cell (p := ⟨b', 256, none⟩) hA'.lt).trans hlist) hpos')
  have HT := Lib.hid (fun w' (h : Below w.heap.size w w') c (hc : c < 256) => (h.cell (p := ⟨b, c, none⟩) hA.lt).trans (hA.table c hc))
  have HT' := Lib.hid (fun w' (h : Below w.heap.size w w') c (hc : c < 256) => (h.cell (p := ⟨b', c, none⟩) hA'.lt).trans (hA'.table c hc))
  have HE := Lib.hid (eqlTab (cls ds) (cls ds'))
  generalize sameT (cls ds) (cls ds') = r at HE ⊢
  clear hlist hA hok hpos hlist0 hA' hok' hpos'
  go_enter Try.func67, Try.ntmps67
  go_wp2_with fail
  refine wp_region_facts 24 [.eq (.pointer (some ⟨b, 0, none⟩)), .eq (.bool false), .eq (.bool true), .eq (.bool true), .eq (.pointer (some ⟨b', 0, none⟩)), .eq (.bool false), .eq (.bool true), .eq (.bool true), .eq (.bool true), .eq (.pointer (some ⟨b, 0, none⟩)), .eq (.pointer (some ⟨b, 0, none⟩)), .eq (.pointer (some ⟨b, 0, none⟩)), .eq (.agg (tabA (cls ds))), .eq (.pointer (some ⟨b', 0, none⟩)), .eq (.pointer (some ⟨b', 0, none⟩)), .eq (.pointer (some ⟨b', 0, none⟩)), .eq (.agg (tabA (cls ds'))), .eq (.bool r), .eq (.bool r), .eq (.bool r)] mixed rfl (by kernel_rfl) ?_ ?_
  · refine ⟨?_, ?_, ?_, ?_, ?_, ?_, ?_, ?_, ?_, ?_, ?_, ?_, ?_, ?_, ?_, ?_, ?_, ?_, ?_, ?_, trivial⟩
    · intro vs a w hR H hin hout hget
      refine one_free rfl ?_
      have e0 := hout 0 (by kernel_rfl)
      clear H hin hout hget
      dsimp only [bare]
      go_wp2
      exact ⟨_, rfl, shows0 hR rfl⟩
    · intro vs a w hR H hin hout hget
      refine one_free rfl ?_
      have e0 := (hget 0 5 (by kernel_rfl)).trans (congrArg some (H 0 (by decide)))
      clear H hin hout hget
      dsimp only [bare]
      go_wp2_with fail
      refine (HN.out w hR).mono ?_
      rintro e w1 ⟨rfl, rfl⟩
      go_wp2
      exact ⟨_, rfl, shows0 hR rfl⟩
    · intro vs a w hR H hin hout hget
      refine one_free rfl ?_
      have e0 := (hget 1 6 (by kernel_rfl)).trans (congrArg some (H 1 (by decide)))
      clear H hin hout hget
      dsimp only [bare]
      go_wp2
      exact ⟨_, rfl, shows0 hR rfl⟩
    · intro vs a w hR H hin hout hget
      refine one_free rfl ?_
      have e0 := (hget 2 7 (by kernel_rfl)).trans (congrArg some (H 2 (by decide)))
      clear H hin hout hget
      dsimp only [bare]
      go_wp2
      exact ⟨_, rfl, shows0 hR rfl⟩
    · intro vs a w hR H hin hout hget
      refine one_guard 3 true 8 rfl (by kernel_rfl) ((hget 3 8 (by kernel_rfl)).trans (congrArg some (H 3 (by decide)))) ?_
      have e0 := hout 1 (by kernel_rfl)
      clear H hin hout hget
      dsimp only [bare]
      go_wp2
      exact ⟨_, rfl, shows0 hR rfl⟩
    · intro vs a w hR H hin hout hget
      refine one_guard 3 true 8 rfl (by kernel_rfl) ((hget 3 8 (by kernel_rfl)).trans (congrArg some (H 3 (by decide)))) ?_
      have e0 := (hget 4 9 (by kernel_rfl)).trans (congrArg some (H 4 (by decide)))
      clear H hin hout hget
      dsimp only [bare]
      go_wp2_with fail
      refine (HN'.out w hR).mono ?_
      rintro e w1 ⟨rfl, rfl⟩
      go_wp2
      exact ⟨_, rfl, shows0 hR rfl⟩
    · intro vs a w hR H hin hout hget
      refine one_guard 3 true 8 rfl (by kernel_rfl) ((hget 3 8 (by kernel_rfl)).trans (congrArg some (H 3 (by decide)))) ?_
      have e0 := (hget 5 10 (by kernel_rfl)).trans (congrArg some (H 5 (by decide)))
      clear H hin hout hget
      dsimp only [bare]
      go_wp2
      exact ⟨_, rfl, shows0 hR rfl⟩
    · intro vs a w hR H hin hout hget
      refine one_free rfl ?_
      have e0 := (hget 3 8 (by kernel_rfl)).trans (congrArg some (H 3 (by decide)))
      have e1 := (hget 6 11 (by kernel_rfl)).trans (congrArg some (H 6 (by decide)))
      clear H hin hout hget
      dsimp only [bare]
      go_wp2
      exact ⟨_, rfl, shows0 hR rfl⟩
    · intro vs a w hR H hin hout hget
      refine one_free rfl ?_
      have e0 := (hget 7 12 (by kernel_rfl)).trans (congrArg some (H 7 (by decide)))
      clear H hin hout hget
      dsimp only [bare]
      go_wp2
      exact ⟨_, rfl, shows0 hR rfl⟩
    · intro vs a w hR H hin hout hget
      refine one_guard 8 true 13 rfl (by kernel_rfl) ((hget 8 13 (by kernel_rfl)).trans (congrArg some (H 8 (by decide)))) ?_
      have e0 := hout 0 (by kernel_rfl)
      clear H hin hout hget
      dsimp only [bare]
      go_wp2
      exact ⟨_, rfl, shows0 hR rfl⟩
    · intro vs a w hR H hin hout hget
      refine one_guard 8 true 13 rfl (by kernel_rfl) ((hget 8 13 (by kernel_rfl)).trans (congrArg some (H 8 (by decide)))) ?_
      have e0 := (hget 9 14 (by kernel_rfl)).trans (congrArg some (H 9 (by decide)))
      clear H hin hout hget
      dsimp only [bare]
      go_wp2
      exact ⟨_, rfl, shows0 hR rfl⟩
    · intro vs a w hR H hin hout hget
      refine one_guard 8 true 13 rfl (by kernel_rfl) ((hget 8 13 (by kernel_rfl)).trans (congrArg some (H 8 (by decide)))) ?_
      have e0 := (hget 10 15 (by kernel_rfl)).trans (congrArg some (H 10 (by decide)))
      clear H hin hout hget
      dsimp only [bare]
      go_wp2
      exact ⟨_, rfl, shows0 hR rfl⟩
    · intro vs a w hR H hin hout hget
      refine one_guard 8 true 13 rfl (by kernel_rfl) ((hget 8 13 (by kernel_rfl)).trans (congrArg some (H 8 (by decide)))) ?_
      have e0 := (hget 11 16 (by kernel_rfl)).trans (congrArg some (H 11 (by decide)))
      clear H hin hout hget
      dsimp only [bare]
      refine wp_load82 rfl _ rfl _ (eval_tmp e0) _ (HT.out w hR) ?_
      go_wp2
      exact ⟨_, rfl, shows0 hR rfl⟩
    · intro vs a w hR H hin hout hget
      refine one_guard 8 true 13 rfl (by kernel_rfl) ((hget 8 13 (by kernel_rfl)).trans (congrArg some (H 8 (by decide)))) ?_
      have e0 := hout 1 (by kernel_rfl)
      clear H hin hout hget
      dsimp only [bare]
      go_wp2
      exact ⟨_, rfl, shows0 hR rfl⟩
    · intro vs a w hR H hin hout hget
      refine one_guard 8 true 13 rfl (by kernel_rfl) ((hget 8 13 (by kernel_rfl)).trans (congrArg some (H 8 (by decide)))) ?_
      have e0 := (hget 13 18 (by kernel_rfl)).trans (congrArg some (H 13 (by decide)))
      clear H hin hout hget
      dsimp only [bare]
      go_wp2
      exact ⟨_, rfl, shows0 hR rfl⟩
    · intro vs a w hR H hin hout hget
      refine one_guard 8 true 13 rfl (by kernel_rfl) ((hget 8 13 (by kernel_rfl)).trans (congrArg some (H 8 (by decide)))) ?_
      have e0 := (hget 14 19 (by kernel_rfl)).trans (congrArg some (H 14 (by decide)))
      clear H hin hout hget
      dsimp only [bare]
      go_wp2
      exact ⟨_, rfl, shows0 hR rfl⟩
    · intro vs a w hR H hin hout hget
      refine one_guard 8 true 13 rfl (by kernel_rfl) ((hget 8 13 (by kernel_rfl)).trans (congrArg some (H 8 (by decide)))) ?_
      have e0 := (hget 15 20 (by kernel_rfl)).trans (congrArg some (H 15 (by decide)))
      clear H hin hout hget
      dsimp only [bare]
      refine wp_load82 rfl _ rfl _ (eval_tmp e0) _ (HT'.out w hR) ?_
      go_wp2
      exact ⟨_, rfl, shows0 hR rfl⟩
    · intro vs a w hR H hin hout hget
      refine one_guard 8 true 13 rfl (by kernel_rfl) ((hget 8 13 (by kernel_rfl)).trans (congrArg some (H 8 (by decide)))) ?_
      have e0 := (hget 12 17 (by kernel_rfl)).trans (congrArg some (H 12 (by decide)))
      have e1 := (hget 16 21 (by kernel_rfl)).trans (congrArg some (H 16 (by decide)))
      have q := HE.out
      have q2 := guard82
      clear H hin hout hget
      dsimp only [bare]
      go_wp2
      exact ⟨_, rfl, shows0 hR rfl⟩
    · intro vs a w hR H hin hout hget
      refine one_free rfl ?_
      have e0 := (hget 8 13 (by kernel_rfl)).trans (congrArg some (H 8 (by decide)))
      have e1 := (hget 17 22 (by kernel_rfl)).trans (congrArg some (H 17 (by decide)))
      clear H hin hout hget
      dsimp only [bare]
      go_wp2
      exact ⟨_, rfl, shows0 hR rfl⟩
    · intro vs a w hR H hin hout hget
      refine one_free rfl ?_
      have e0 := (hget 18 23 (by kernel_rfl)).trans (congrArg some (H 18 (by decide)))
      clear H hin hout hget
      dsimp only [bare]
      go_wp2
      exact ⟨_, rfl, shows0 hR rfl⟩
  · intro vs w3 hR H
    have e19 : vs 19 = .bool r := H 19 (by decide)
    simp only [putAll, Act.put, List.setIfInBounds_toArray, List.set_cons_succ, List.set_cons_zero, Nat.zero_add, Nat.reduceAdd, e19]
    clear H e19
    go_wp2
    go_ret
    exact ⟨rfl, hR⟩
end Go.Proofs.Ytojmkgllbhbeiaa
