/-
  Small laws that several walks use.
  WALKS of package alphabet: Join.
  The alphabet of all bytes: plain law, and the walk of All.
  Plain laws of classes: sets that tell the same bytes apart have the same classes, in the same order.
  WALKS of the library at integers and bytes: slices.Equal, bytes.Equal.
  WALKS: awake of the alphabet's laws.
-/
import Derived.Test.YtojmkgllbhbeiaaK6
import Derived.Test.YtojmkgllbhbeiaaK5
import Derived.Great.BuildSlice
import Derived.Laws.AppendOwnNone
import Derived.Deep.RegionHeld3
import Derived.Deep.AppendLies
import Derived.BigQuiet
import Derived.Lib.Bytes
namespace Go.Proofs.Ytojmkgllbhbeiaa
open Go.RowKit

theorem slN_new (w : World) (cs : Array Value) (t : TypeId) (k n : Nat) (l : List Value) (h : cs.toList = l) : SlN (w.alloc (.cells cs t)) (.slice (some ⟨w.heap.size, 0, none⟩) n n) k n l :=
  ⟨w.heap.size, 0, n, rfl, by rw [World.size_alloc]; omega, fun i _ => by rw [Nat.zero_add, (Blk.new w cs t).cell i, ← h, Array.getElem?_toList]⟩
theorem guardSetV (op : BinOp) (a b : Operand) (s t : Nat) (w : World) : (eqGuard op 24 a b (setV s) (setV t)).run Try.prog w = .ok () w := guardSet op a b (setA s) (setA t) w
def allLt : List Nat → Bool
  | [] => true
  | p :: ps => Nat.blt p (2 ^ 256) && allLt ps
theorem allLt_spec : ∀ {ps : List Nat}, allLt ps = true → ∀ p ∈ ps, p < 2 ^ 256
  | [], _, _, h => by cases h
  | q :: qs, h, p, hp => by
    simp only [allLt, Bool.and_eq_true] at h
    rcases List.mem_cons.1 hp with rfl | hp
    · simpa using h.1
    · exact allLt_spec h.2 p hp
def sortedB : List Nat → Bool
  | [] => true
  | p :: ps => (ps.all fun q => !decide (cmpS q p < 0)) && sortedB ps
theorem sortedB_spec : ∀ {ps : List Nat}, sortedB ps = true → ps.Pairwise fun a b => ¬ cmpS b a < 0
  | [], _ => List.Pairwise.nil
  | q :: qs, h => by
    simp only [sortedB, Bool.and_eq_true, List.all_eq_true, Bool.not_eq_true', decide_eq_false_iff_not] at h
    exact List.pairwise_cons.2 ⟨h.1, sortedB_spec h.2⟩
theorem less_zero {a b : Nat} (ha : a < 2 ^ 256) : Sx.less a b = 0 ↔ ∀ d, d < 256 → a.testBit d = true → b.testBit d = true := by
  constructor
  · intro h d _ h1
    have := Sx.tb_less a b d
    rw [h, Sx.tb_zero, h1] at this
    simpa using this.symm
  · intro h
    refine Sx.ext (Sx.less_lt _ ha) (by decide) fun d hd => ?_
    rw [Sx.tb_less, Sx.tb_zero]
    cases h1 : a.testBit d with
    | false => rfl
    | true => rw [h d hd h1]; rfl
theorem setCells_one (ss : List Nat) : ∀ u ∈ setCells ss, u.oneCell' = true := by
  intro u hu
  obtain ⟨s, _, hs⟩ := List.mem_flatMap.1 hu
  unfold setA at hs
  simp only [List.mem_cons, List.not_mem_nil, or_false] at hs
  rcases hs with rfl | rfl | rfl | rfl <;> rfl
end Go.Proofs.Ytojmkgllbhbeiaa
namespace Go.Proofs.Ytojmkgllbhbeiaa
open Go.RowKit

theorem own_zero (w : World) (t : TypeId) (k : Nat) : (w.alloc (.cells #[] t)).ownsRow w.heap.size t k (.slice (some ⟨w.heap.size, 0, none⟩) 0 0) 0 [] := by
  refine ⟨by simp, .inr ⟨w.heap.size, 0, #[], rfl, Nat.le_refl _, heap_alloc_new w _, Nat.le_refl _, by decide, by simp, by simp⟩⟩
theorem setCells_append (a b : List Nat) : setCells (a ++ b) = setCells a ++ setCells b := by simp [setCells]

theorem join_sl {w : World} {B : Nat} {v : Value} {a b : List Nat} (h : w.ownsRow B 24 4 v (0 + a.length + b.length) ([] ++ setCells a ++ setCells b)) : Sl w v 4 (a ++ b).length (setCells (a ++ b)) := by
  have := sl_of_owns h
  rw [List.length_append, setCells_append]
  rwa [Nat.zero_add, List.nil_append] at this

set_option maxRecDepth 100000 in
set_option maxHeartbeats 2000000 in
theorem join_any {ss ds ss' ds' : List Nat} (hok : PartsOk ss ds) (hok' : PartsOk ss' ds') (b b' : Nat) (w : World) (hA : Alph w b ds) (hA' : Alph w b' ds') : Calls Try.prog 64 #[.pointer (some ⟨b, 0, none⟩), .pointer (some ⟨b', 0, none⟩)] w (RetAlph (ds ++ ds') w) := by
  obtain ⟨i24, hi, hz0, hz1, hz2⟩ := info_parts info24
  have hpos := hok.pos
  have hpos' := hok'.pos
  have hle := hok.le256
  have hle' := hok'.le256
  obtain ⟨g, cap, hlist, hg, hcells, _⟩ := hA.list
  obtain ⟨g', cap', hlist', hg', hcells', _⟩ := hA'.list
  have hbl := hA.lt
  have hbl' := hA'.lt
  have HN := Lib.hid (none_any hlist hpos)
  have HN' := Lib.hid (none_any hlist' hpos')
  have HC : Hid (∀ w' v, Sl w' v 4 (ds ++ ds').length (setCells (ds ++ ds')) → Calls Try.prog 39 #[v] w' (RetAlph (ds ++ ds') w')) := fun w' v h => of_alph v (ds ++ ds') (fun s hs => by
    rcases List.mem_append.1 hs with h | h
    · exact (hok.lt s h).2
    · exact (hok'.lt s h).2) w' h (by rw [List.length_append]; omega)
  clear hA hA' hok hok'
  go_enter Try.func64, Try.ntmps64
  go_wp2_with fail
  refine HN.out.mono ?_
  rintro e w' ⟨rfl, rfl⟩
  clear HN
  go_wp2_with fail
  refine HN'.out.mono ?_
  rintro e w' ⟨rfl, rfl⟩
  clear HN'
  go_wp2_with fail
  have hnA := Lib.hid (fun w' (h : Below w.heap.size w w') => (fun j u (hu : (setCells ds)[j]? = some u) => by
    have hj : j < ds.length * 4 := by have := (List.getElem?_eq_some_iff.1 hu).1; rwa [setCells_len] at this
    have hadd : (⟨g, 0, none⟩ : Addr).add j = ⟨g, 0 + j, none⟩ := by unfold Addr.add; split <;> simp_all
    rw [hadd, h.cell (p := ⟨g, 0 + j, none⟩) hg, hcells j hj, hu] : ∀ j u, (setCells ds)[j]? = some u → w'.cell? ((⟨g, 0, none⟩ : Addr).add j) = some u))
  have hnB := Lib.hid (fun w' (h : Below w.heap.size w w') => (fun j u (hu : (setCells ds')[j]? = some u) => by
    have hj : j < ds'.length * 4 := by have := (List.getElem?_eq_some_iff.1 hu).1; rwa [setCells_len] at this
    have hadd : (⟨g', 0, none⟩ : Addr).add j = ⟨g', 0 + j, none⟩ := by unfold Addr.add; split <;> simp_all
    rw [hadd, h.cell (p := ⟨g', 0 + j, none⟩) hg', hcells' j hj, hu] : ∀ j u, (setCells ds')[j]? = some u → w'.cell? ((⟨g', 0, none⟩ : Addr).add j) = some u))
  have hl0 := Lib.hid (fun w' (h : Below w.heap.size w w') => (h.cell (p := ⟨b, 256, none⟩) hbl).trans hlist)
  have hl1 := Lib.hid (fun w' (h : Below w.heap.size w w') => (h.cell (p := ⟨b', 256, none⟩) hbl').trans hlist')
  clear hcells hcells'
  go_region_held3 (fun w' => w'.cell? ⟨b, 256, none⟩ = some (.slice (some ⟨g, 0, none⟩) ds.length cap) ∧ w'.cell? ⟨b', 256, none⟩ = some (.slice (some ⟨g', 0, none⟩) ds'.length cap'))
    (first | go_keep | (go_split_ands; exact ⟨hl0.out _ (by assumption), hl1.out _ (by assumption)⟩))
    (first
      | (refine step_append_lies _ (by rfl) _ _ _ (by rfl) w.heap.size 24 i24 _ 4 32 Try.underlying37 hi hz0 hz1 hz2 rfl (by omega) (.slice (some ⟨w.heap.size, 0, none⟩) 0 0) 0 [] (by rfl) (own_zero w 24 4).drew ⟨g, 0, none⟩ ds.length cap (setCells ds) (by rfl) (setCells_len ds) (hnA.out _ (below1 w _).drew) (setCells_one ds) hpos (by unfold maxLen; omega) (by omega) (by simp) (w.heap.size + 1) (by simp) ?_; intro gg cap1 w1 hown1 hgrow1 hat1 hlt1; have hB1 := (below1 w (.cells #[] 24)).drew.trans (below_grown (own_zero w 24 4).drew hgrow1 (by simp)))
      | (refine step_append_lies _ (by rfl) _ _ _ (by rfl) w.heap.size 24 i24 _ 4 32 Try.underlying37 hi hz0 hz1 hz2 rfl (by omega) (.slice (some ⟨gg, 0, none⟩) (0 + ds.length) cap1) (0 + ds.length) ([] ++ setCells ds) (by rfl) hown1 ⟨g', 0, none⟩ ds'.length cap' (setCells ds') (by rfl) (setCells_len ds') (hnB.out _ hB1) (setCells_one ds') hpos' (by unfold maxLen; omega) (by omega) hB1.size w1.heap.size rfl ?_; intro gh cap2 w2 hown2 hgrow2 hat2 hlt2; have hB2 := hB1.trans (below_grown hown1 hgrow2 hB1.size); have hsl := join_sl hown2; rw [Nat.zero_add] at hsl)
      | (go_at_call 39; refine (HC.out _ _ hsl).mono ?_; rintro e w3 ⟨bb, dd, rfl, p1, p2, p3, p4, p5, p6⟩; have hB3 := bthen hB2 p6))
  go_wp2
  go_ret
  exact ⟨bb, dd, rfl, p1, p2, p3, p4, Nat.le_trans hB2.size p5, hB3⟩
end Go.Proofs.Ytojmkgllbhbeiaa
namespace Go.Proofs.Ytojmkgllbhbeiaa
open Go.RowKit

def ones (k : Nat) : List Nat := (List.range k).map fun c => Sx.ofL [c]
theorem ones_len (k : Nat) : (ones k).length = k := by simp [ones]
theorem ones_succ (k : Nat) : ones (k + 1) = ones k ++ [Sx.ofL [k]] := by simp [ones, List.range_succ]
theorem tb_one1 (c d : Nat) : (Sx.ofL [c]).testBit d = decide (d = c) := by rw [Sx.tb_ofL]; simp
theorem one_lt {c : Nat} (h : c < 256) : Sx.ofL [c] < 2 ^ 256 := Sx.ofL_lt _ (by simpa using h)
theorem one_ne (c : Nat) : Sx.ofL [c] ≠ 0 := fun e => by
  have := tb_one1 c c
  rw [e, Sx.tb_zero] at this; simp at this
theorem least_one {c : Nat} (h : c < 256) : least (Sx.ofL [c]) = c := by
  have := (least_at (one_lt h) (one_ne c)).2.2.1
  rw [tb_one1] at this
  exact of_decide_eq_true this
theorem ones_pair {R : Nat → Nat → Prop} (h : ∀ c d, c < d → d < 256 → R (Sx.ofL [c]) (Sx.ofL [d])) : (ones 256).Pairwise R := by
  unfold ones
  rw [List.pairwise_map]
  refine List.pairwise_lt_range.imp_of_mem fun {a b} ha hb hab => h a b hab (List.mem_range.1 hb)
theorem ones_ok : PartsOk (ones 256) (ones 256) where
  lt p hp := by
    obtain ⟨c, hc, rfl⟩ := List.mem_map.1 hp
    exact ⟨one_ne c, one_lt (List.mem_range.1 hc)⟩
  order := ones_pair fun c d h hd => by rw [least_one (by omega), least_one hd]; exact h
  disj := ones_pair fun c d h hd => by
    rw [and_zero]
    intro x ⟨h1, h2⟩
    rw [tb_one1] at h1 h2
    have := of_decide_eq_true h1
    have := of_decide_eq_true h2
    omega
  whole p hp s hs := by
    obtain ⟨c, hc, rfl⟩ := List.mem_map.1 hp
    obtain ⟨d, hd, rfl⟩ := List.mem_map.1 hs
    by_cases e : c = d
    · refine .inr ?_
      rw [e, less_zero']; exact fun _ h => h
    · refine .inl ?_
      rw [and_zero]
      intro x ⟨h1, h2⟩
      rw [tb_one1] at h1 h2
      exact e ((of_decide_eq_true h1).symm.trans (of_decide_eq_true h2))
  apart := ones_pair fun c d h hd => by
    refine ⟨Sx.ofL [c], List.mem_map.2 ⟨c, List.mem_range.2 (by omega), rfl⟩, ?_⟩
    have h1 : Sx.less (Sx.ofL [c]) (Sx.ofL [c]) = 0 := by rw [less_zero']; exact fun _ h => h
    have h2 : ¬ Sx.less (Sx.ofL [d]) (Sx.ofL [c]) = 0 := by
      rw [less_zero']
      intro hh
      have := hh d (by rw [tb_one1]; simp)
      rw [tb_one1] at this
      have := of_decide_eq_true this
      omega
    rw [decide_eq_true h1, decide_eq_false h2]; decide
  all := by
    refine Nat.eq_of_testBit_eq fun x => ?_
    rw [tb_orAll, Sx.tb_full, Bool.eq_iff_iff, List.any_eq_true, decide_eq_true_eq]
    constructor
    · rintro ⟨p, hp, h⟩
      obtain ⟨c, hc, rfl⟩ := List.mem_map.1 hp
      rw [tb_one1] at h
      have := of_decide_eq_true h
      have := List.mem_range.1 hc
      omega
    · intro h
      exact ⟨Sx.ofL [x], List.mem_map.2 ⟨x, List.mem_range.2 h, rfl⟩, by rw [tb_one1]; simp⟩

set_option maxRecDepth 100000 in
set_option maxHeartbeats 2000000 in
theorem allA_any (w : World) : Calls Try.prog 65 #[] w fun e w' => ∃ b, e = .returned (.pointer (some ⟨b, 0, none⟩)) ∧ Alph w' b (ones 256) ∧ w.heap.size ≤ b ∧ Below w.heap.size w w' := by
  obtain ⟨i24, hi, hz0, hz1, hz2⟩ := info_parts info24
  go_enter Try.func65, Try.ntmps65
  go_wp2_with fail
  go_loopw [3, 1] (fun i v wr => ∃ k : Nat, k ≤ 256 ∧ i = .int .i64 k ∧ wr.ownsRow w.heap.size 24 4 v k (setCells (ones k)) ∧ Below w.heap.size w wr) (fun i _ _ => 256 - (intOf i).toNat)
  case atStart => exact ⟨0, by omega, rfl, World.ownsRow_nil _ _ _ _, Below.refl _ _⟩
  case round =>
    obtain ⟨k, hk, rfl, hrow, hB⟩ := hrel
    by_cases hlt : k < 256
    · have HO : ∀ v w, Sl w v 1 1 [byteV k] → Calls Try.prog 21 #[v] w fun e w' => e = .returned (setV (Sx.ofL [k])) ∧ Gr w.heap.size w w' := fun v w h => of_any v [k] (by simpa using hlt) w h (show 1 ≤ maxLen by decide)
      have hcell := Lib.hid (show setCells (ones (k + 1)) = setCells (ones k) ++ setCells [Sx.ofL [k]] by rw [ones_succ, setCells_append])
      have hs8 : IntKind.u8.wrap (k : Int) = k := by
        show (k : Int) % 256 = k
        omega
      have hone := setCells_one [Sx.ofL [k]]
      generalize Sx.ofL [k] = p at HO hcell hone
      have hsz := hB.size
      go_wp2_with fail
      refine (HO _ _ ((slN_new wr #[.int .u8 k] 5 1 1 [byteV k] rfl).sl rfl)).mono ?_
      rintro e w1 ⟨rfl, hb⟩
      have hrow1 := owns_later hrow ((below1 wr (.cells #[.int .u8 k] 5)).trans (hb.below.mono (by simp)))
      have hB1 := hB.trans (((below1 wr (.cells #[.int .u8 k] 5)).trans (hb.below.mono (by simp))).mono hsz)
      have hs1 := hB1.size
      clear hrow hb HO
      unfold setV setA
      go_wp2_with (at_builtin; go_must (refine wpList_append_own _ rfl _ _ 37 rfl w.heap.size 24 i24 _ 4 32 Try.underlying37 hi hz0 hz1 hz2 rfl (by decide) _ _ _ rfl (hrow1.alloc _) ⟨w1.heap.size, 0, none⟩ 1 1 (setCells [p]) rfl rfl (cell_news _ _ _ _ rfl) hone (by unfold maxLen; omega) (by omega) (by simp; omega) ?_); intro v' w2 hown' hgrow _)
      go_roundw
      case rel => exact ⟨k + 1, by omega, by go_num, by rw [hcell.out]; exact hown', hB1.trans (grown_one' hrow1 hgrow (by omega))⟩
      case measure => simp [intOf]; omega
    · obtain rfl : k = 256 := by omega
      have hsl := sl_of_owns hrow
      obtain ⟨_, ⟨_, h0⟩ | ⟨g, cap, cur, rfl, hgb, hgc, hcap, hmax, hcs, htk⟩⟩ := hrow
      · omega
      · have HM := Lib.hid (made_any ones_ok g cap wr (by rw [ones_len]; exact hsl) (by rw [ones_len]; exact hcap) hmax ⟨_, _, _, hgc⟩)
        rw [ones_len] at HM
        clear hsl hgc htk
        go_wp2_with fail
        refine HM.out.mono ?_
        rintro e w2 ⟨rfl, hA, hB2⟩
        go_wp2
        go_ret
        exact ⟨_, rfl, hA, hB.size, bthen hB hB2⟩
end Go.Proofs.Ytojmkgllbhbeiaa
namespace Go.Proofs.Ytojmkgllbhbeiaa

theorem PartsOk.some_bit {ss ds : List Nat} (h : PartsOk ss ds) {p : Nat} (hp : p ∈ ds) : ∃ c, c < 256 ∧ p.testBit c = true := by
  obtain ⟨h0, h1⟩ := h.lt p hp
  obtain ⟨_, l1, l2, _⟩ := least_at h1 h0
  exact ⟨_, l1, l2⟩
theorem high_bit {p d : Nat} (h : p < 2 ^ 256) (hd : 256 ≤ d) : p.testBit d = false := Nat.testBit_lt_two_pow (Nat.lt_of_lt_of_le h (Nat.pow_le_pow_right (by omega) hd))
/-- No byte is told apart by one list of sets and not by the other one. -/
def SameTold (ss ss' : List Nat) : Prop := ∀ c d, c < 256 → d < 256 → sameB ss c d = sameB ss' c d
theorem SameTold.symm {ss ss' : List Nat} (h : SameTold ss ss') : SameTold ss' ss := fun c d hc hd => (h c d hc hd).symm
theorem PartsOk.mem_of {ss ds ss' ds' : List Nat} (h : PartsOk ss ds) (h' : PartsOk ss' ds') (he : SameTold ss ss') {p : Nat} (hp : p ∈ ds) : p ∈ ds' := by
  obtain ⟨c, hc, hpc⟩ := h.some_bit hp
  obtain ⟨q, hq, hqc⟩ := h'.has hc
  have : p = q := by
    refine Nat.eq_of_testBit_eq fun d => ?_
    by_cases hd : d < 256
    · rw [h.bit hp hpc hd, h'.bit hq hqc hd, he d c hd hc]
    · rw [high_bit (h.lt p hp).2 (by omega), high_bit (h'.lt q hq).2 (by omega)]
  rw [this]; exact hq
theorem PartsOk.unique {ss ds ss' ds' : List Nat} (h : PartsOk ss ds) (h' : PartsOk ss' ds') (he : SameTold ss ss') : ds = ds' := by
  have hperm : ds.Perm ds' := by
    refine (List.perm_ext_iff_of_nodup ?_ ?_).2 fun p => ⟨fun hp => h.mem_of h' he hp, fun hp => h'.mem_of h he.symm hp⟩
    · exact h.order.imp fun hlt e => by rw [e] at hlt; omega
    · exact h'.order.imp fun hlt e => by rw [e] at hlt; omega
  exact hperm.eq_of_pairwise (le := fun a b => least a < least b) (fun a b _ _ k1 k2 => by omega) h.order h'.order
theorem PartsOk.unique' {ss ds ds' : List Nat} (h : PartsOk ss ds) (h' : PartsOk ss ds') : ds = ds' := h.unique h' fun _ _ _ _ => rfl
/-- Of the classes of a class list, the list itself is. -/
theorem PartsOk.own {ss ds : List Nat} (h : PartsOk ss ds) : SameTold ds ss := fun c d hc hd => by
  obtain ⟨p, hp, hpc⟩ := h.has hc
  cases hs : sameB ss c d with
  | true =>
    refine sameB_iff.2 fun q hq => ?_
    by_cases e : q = p
    · subst e
      have := h.bit hq hpc hd
      rw [hpc, this, sameB_symm hs]
    · have hd0 : ∀ x, ¬ (q.testBit x = true ∧ p.testBit x = true) := by
        have hz : Sx.and q p = 0 := by
          obtain ⟨i, hi, rfl⟩ := List.getElem_of_mem hq
          obtain ⟨j, hj, rfl⟩ := List.getElem_of_mem hp
          rcases Nat.lt_trichotomy i j with hij | hij | hij
          · exact List.pairwise_iff_getElem.1 h.disj i j hi hj hij
          · subst hij; exact (e rfl).elim
          · exact and_symm (List.pairwise_iff_getElem.1 h.disj j i hj hi hij)
        exact and_zero.1 hz
      have hpd : p.testBit d = true := by rw [h.bit hp hpc hd, sameB_symm hs]
      have k1 : q.testBit c = false := by cases e : q.testBit c with | false => rfl | true => exact (hd0 c ⟨e, hpc⟩).elim
      have k2 : q.testBit d = false := by cases e : q.testBit d with | false => rfl | true => exact (hd0 d ⟨e, hpd⟩).elim
      rw [k1, k2]
  | false =>
    rw [← Bool.not_eq_true]
    intro hh
    have := sameB_iff.1 hh p hp
    rw [hpc, h.bit hp hpc hd] at this
    rw [sameB_symm this.symm] at hs; cases hs
theorem sameB_append (a b : List Nat) (c d : Nat) : sameB (a ++ b) c d = (sameB a c d && sameB b c d) := by simp [sameB]
/-- The classes of two class lists together are those of both lists of sets together. -/
theorem PartsOk.join {ss ds ss' ds' es : List Nat} (h : PartsOk ss ds) (h' : PartsOk ss' ds') (he : PartsOk (ds ++ ds') es) {fs : List Nat} (hf : PartsOk (ss ++ ss') fs) : es = fs :=
  he.unique hf fun c d hc hd => by rw [sameB_append, sameB_append, h.own c d hc hd, h'.own c d hc hd]

/-- Which class has a byte, two of them: the same one just if no set tells them apart. -/
theorem PartsOk.cls_eq {ss ds : List Nat} (h : PartsOk ss ds) {c d : Nat} (hc : c < 256) (hd : d < 256) : cls ds c = cls ds d ↔ sameB ss c d = true := by
  obtain ⟨p, hp, hpc⟩ := h.has hc
  obtain ⟨q, hq, hqd⟩ := h.has hd
  obtain ⟨i, hi, rfl⟩ := List.getElem_of_mem hp
  obtain ⟨j, hj, rfl⟩ := List.getElem_of_mem hq
  rw [cls_at h.disj hi hpc, cls_at h.disj hj hqd]
  constructor
  · intro e
    subst e
    have := h.bit hp hpc hd
    rw [hqd] at this
    exact sameB_symm this.symm
  · intro e
    have hpd : ds[i].testBit d = true := by rw [h.bit hp hpc hd, sameB_symm e]
    exact (cls_at h.disj hi hpd).symm.trans (cls_at h.disj hj hqd)
end Go.Proofs.Ytojmkgllbhbeiaa
namespace Go.Proofs.Ytojmkgllbhbeiaa
open Go.RowKit

theorem Sl.opened {w : World} {v : Value} {k n : Nat} {cs : List Value} (h : Sl w v k n cs) : ∃ A cap, v = .slice A n cap ∧ ∀ i, i < n → ∃ b o, A = some ⟨b, o, none⟩ ∧ b < w.heap.size ∧ ∀ j, j < n * k → w.cell? ⟨b, o + j, none⟩ = cs[j]? := by
  obtain ⟨_, ⟨rfl, rfl⟩ | ⟨b, o, cap, rfl, hb, hc⟩⟩ := h
  · exact ⟨none, 0, rfl, fun i hi => by omega⟩
  · exact ⟨_, cap, rfl, fun i _ => ⟨b, o, rfl, hb, hc⟩⟩

theorem bdrewN {B : Nat} {a w : World} (h : Below B a w) (n : Nat) : Below B a (w.drewN n) := h.trans ⟨rfl, rfl, rfl, Nat.le_refl _, fun _ _ => rfl⟩

set_option maxRecDepth 100000 in
set_option maxHeartbeats 2000000 in
theorem eqInts_any (v1 v2 : Value) (l1 l2 : List Int) (w : World) (h1 : Sl w v1 1 l1.length (l1.map intZ)) (h2 : Sl w v2 1 l2.length (l2.map intZ)) (hlen : l1.length ≤ 140737488355328) :
    Calls Try.prog 56 #[v1, v2] w fun e w' => e = .returned (.bool (decide (l1 = l2))) ∧ Below w.heap.size w w' := by
  obtain ⟨A1, cap1, rfl, H1⟩ := h1.opened
  obtain ⟨A2, cap2, rfl, H2⟩ := h2.opened
  replace H1 := Lib.hid H1
  replace H2 := Lib.hid H2
  clear h1 h2
  by_cases hl : l1.length = l2.length
  · have hd : decide ((l1.length : Int) = l2.length) = true := by rw [decide_eq_true_eq]; omega
    go_enter Try.func56, Try.ntmps56
    go_wp2_with fail
    go_loopw [13] (fun i wr => ∃ k : Nat, k ≤ l1.length ∧ i = .int .i64 k ∧ Hid (l1.take k = l2.take k) ∧ Below w.heap.size w wr) (fun i _ => l1.length - (intOf i).toNat)
    case atStart => exact ⟨0, by omega, rfl, rfl, Below.refl _ _⟩
    case round =>
      obtain ⟨k, hk, rfl, htk, hB⟩ := hrel
      by_cases hlt : k < l1.length
      · have hlt2 : k < l2.length := by omega
        obtain ⟨b1, o1, rfl, hb1, hc1⟩ := H1.out k hlt
        obtain ⟨b2, o2, rfl, hb2, hc2⟩ := H2.out k hlt2
        have c1 : wr.cell? ⟨b1, o1 + k, none⟩ = some (.int .i64 l1[k]) := by
          rw [hB.cell (p := ⟨b1, o1 + k, none⟩) hb1, hc1 k (by omega), List.getElem?_map, List.getElem?_eq_getElem hlt]; rfl
        have c2 : wr.cell? ⟨b2, o2 + k, none⟩ = some (.int .i64 l2[k]) := by
          rw [hB.cell (p := ⟨b2, o2 + k, none⟩) hb2, hc2 k (by omega), List.getElem?_map, List.getElem?_eq_getElem hlt2]; rfl
        have hk0 : (0 : Int) ≤ (k : Int) := Int.natCast_nonneg _
        have hk1 : (k : Int) < (l1.length : Int) := by omega
        have hk2 : (k : Int) < (l2.length : Int) := by omega
        have t1 := Lib.hid (List.take_succ_eq_append_getElem hlt)
        have t2 := Lib.hid (List.take_succ_eq_append_getElem hlt2)
        by_cases hx : l1[k] = l2[k]
        · have htk' : Hid (l1.take (k + 1) = l2.take (k + 1)) := by
            show _ = _
            rw [t1.out, t2.out, htk.out, hx]
          have hdx : (l1[k] != l2[k]) = false := by rw [hx]; simp
          clear hx t1 t2 hc1 hc2 H1 H2
          generalize l1[k] = x at c1 hdx
          generalize l2[k] = y at c2 hdx
          go_wp2_with fail
          go_quiet (fail)
          go_wp2
          exact ⟨⟨k + 1, by omega, by go_num, htk', bdrewN hB _⟩, by simp [intOf]; omega⟩
        · have hne : Hid (decide (l1 = l2) = false) := by
            show _ = _
            rw [decide_eq_false_iff_not]; rintro rfl; exact hx rfl
          have hdx : (l1[k] != l2[k]) = true := by simpa using hx
          clear hx t1 t2 hc1 hc2 H1 H2
          generalize l1[k] = x at c1 hdx
          generalize l2[k] = y at c2 hdx
          go_wp2_with fail
          go_quiet (fail)
          go_wp2
          go_ret
          exact ⟨by rw [hne.out]; rfl, bdrewN hB _⟩
      · obtain rfl : k = l1.length := by omega
        have he : Hid (decide (l1 = l2) = true) := by
          show _ = _
          have := htk.out
          rw [List.take_length, List.take_of_length_le (by omega)] at this
          exact decide_eq_true this
        go_wp2
        go_ret
        exact ⟨by rw [he.out]; rfl, hB⟩
  · have hd : decide ((l1.length : Int) = l2.length) = false := by rw [decide_eq_false_iff_not]; omega
    have hne : Hid (decide (l1 = l2) = false) := by
      show _ = _
      rw [decide_eq_false_iff_not]; rintro rfl; exact hl rfl
    go_enter Try.func56, Try.ntmps56
    go_wp2
    go_ret
    exact ⟨by rw [hne.out]; rfl, Below.refl _ _⟩

theorem conv_bytes (w : World) (v : Value) (l : List Nat) (h : Sl w v 1 l.length (l.map byteV)) : (convert 44 9 v).run Try.prog w = .ok (.string (strOfNums (l.map fun c : Nat => (c : Int)))) w := by
  obtain ⟨_, ⟨rfl, h0⟩ | ⟨b, o, cap, rfl, hb, hc⟩⟩ := h
  · obtain rfl := List.eq_nil_of_length_eq_zero h0
    kernel_rfl
  · refine run_convert_bytes_arg (P := Try.prog) (w := w) 44 5 Try.underlying44 Try.underlying5 b o l.length cap _ (by simp) (fun i hi => ?_) 9 Try.underlying9
    rw [hc i (by omega)]
    simp [List.getD_eq_getElem?_getD, hi, byteV]
theorem nums_back (l : List Nat) (h : ∀ c ∈ l, c < 256) : ((strOfNums (l.map fun c : Nat => (c : Int))).data.toList.map fun x => x.toNat) = l := by
  rw [strOfNums_data, List.map_map, List.map_map]
  refine (List.map_congr_left fun c hc => ?_).trans (List.map_id _)
  have := h c hc
  simp [Nat.mod_eq_of_lt this]
theorem eqBytes_any (v1 v2 : Value) (l1 l2 : List Nat) (w : World) (h1 : Sl w v1 1 l1.length (l1.map byteV)) (h2 : Sl w v2 1 l2.length (l2.map byteV)) (hb1 : ∀ c ∈ l1, c < 256) (hb2 : ∀ c ∈ l2, c < 256) :
    Calls Try.prog 48 #[v1, v2] w fun e w' => e = .returned (.bool (decide (l1 = l2))) ∧ Below w.heap.size w w' := by
  have k1 := conv_bytes w v1 l1 h1
  have k2 := conv_bytes w v2 l2 h2
  have hiff : Hid (((strOfNums (l1.map fun c : Nat => (c : Int))).toList == (strOfNums (l2.map fun c : Nat => (c : Int))).toList) = decide (l1 = l2)) := by
    show _ = _
    rw [Bool.eq_iff_iff, beq_iff_eq, decide_eq_true_eq, Lib.strOfNums_toList, Lib.strOfNums_toList]
    exact ⟨fun h => (nums_back l1 hb1).symm.trans ((congrArg (List.map fun x : UInt8 => x.toNat) h).trans (nums_back l2 hb2)), fun h => by rw [h]⟩
  clear h1 h2 hb1 hb2
  generalize strOfNums (l1.map fun c : Nat => (c : Int)) = s1 at k1 hiff
  generalize strOfNums (l2.map fun c : Nat => (c : Int)) = s2 at k2 hiff
  go_enter Try.func48, Try.ntmps48
  go_wp2
  go_ret
  exact ⟨by rw [← hiff.out]; rfl, Below.refl _ _⟩
end Go.Proofs.Ytojmkgllbhbeiaa
namespace Go.Proofs.Ytojmkgllbhbeiaa
open Go.RowKit
set_option maxRecDepth 100000

def aw2 : List Nat := [Sx.range 97 99, Sx.range 98 100]
def aw4 : List Nat := [Sx.or (Sx.range 0 96) (Sx.range 101 255), Sx.ofL [97], Sx.ofL [98, 99], Sx.ofL [100]]
theorem aw4_ok : PartsOk aw2 aw4 :=
  parts_ok (List.isPerm_iff.1 (by kernel_rfl)) (sortedB_spec (by kernel_rfl))
theorem aw_cls : cls aw4 99 = 2 := by kernel_rfl
theorem aw_word : [97, 98, 100].map (cls aw4) = [1, 2, 3] := by kernel_rfl
theorem aw_fits1 : fitsB aw4 (Sx.range 97 99) = true := by kernel_rfl
theorem aw_in1 : inside aw4 (Sx.range 97 99) 4 = [1, 2] := by kernel_rfl
theorem aw_fits2 : fitsB aw4 (Sx.ofL [97, 98]) = false := by kernel_rfl
theorem aw_is1 : [(2 : Int), 0].all (isAt aw4) = true := by kernel_rfl
theorem aw_least : leasts aw4 [2, 0] = [98, 0] := by kernel_rfl
theorem aw_is2 : [(1 : Int), 3, 1].all (isAt aw4) = true := by kernel_rfl
theorem aw_or : orAt aw4 [1, 3, 1] = Sx.ofL [97, 100] := by kernel_rfl
theorem aw_finer1 : finerB (ones 256) aw4 = true := by kernel_rfl
theorem aw_finer2 : finerB aw4 (ones 256) = false := by kernel_rfl
theorem freeze_new (w : World) (C : Array Value) (e : TypeId) (n : Nat) : (w.alloc (.cells C e)).freeze ⟨w.heap.size, n, none⟩ 1 = w.alloc (.cells C e (n, n + 1)) := by
  have hm : ∀ (a : Array Obj) (x : Obj) (f : Obj → Obj), (a.push x).modify a.size f = a.push (f x) := by
    intro a x f
    apply Array.ext
    · simp
    · intro i h1 h2
      simp only [Array.getElem_modify, Array.getElem_push]
      by_cases h : a.size = i
      · subst h
        simp
      · have hi : i < a.size := by simp at h1; omega
        simp [h, hi]
  unfold World.freeze
  rw [if_neg (by decide)]
  show ({ w.alloc (.cells C e) with heap := (w.heap.push (.cells C e)).modify w.heap.size _ } : World) = _
  rw [hm]
  rfl
/-- '[]byte(x)' of a list of bytes that was just made: the block is marked. -/
theorem conv44 (w : World) (C : Array Value) (n c : Nat) : (convert 44 44 (.slice (some ⟨w.heap.size, 0, none⟩) n c)).run Try.prog (w.alloc (.cells C 5)) = .ok (.slice (some ⟨w.heap.size, 0, none⟩) n c) (w.alloc (.cells C 5 (C.size, C.size + 1))) := by
  have hsh : (w.alloc (.cells C 5)).shape? w.heap.size = some (5, C.size) := by
    unfold World.shape?
    rw [heap_alloc_new]
  simp [convert, run_underlying Try.underlying44, run_underlying Try.underlying5, markStringish, hsh]
  exact freeze_new w C 5 C.size
theorem slN_frozen (w : World) (cs : Array Value) (t : TypeId) (f : Nat × Nat) (k n : Nat) (l : List Value) (h : cs.toList = l) : SlN (w.alloc (.cells cs t f)) (.slice (some ⟨w.heap.size, 0, none⟩) n n) k n l :=
  ⟨w.heap.size, 0, n, rfl, by rw [World.size_alloc]; omega, fun i _ => by
    unfold World.cell?
    rw [heap_alloc_new]
    simp [← h]⟩
theorem Sl.laterB {w w' : World} {v : Value} {k n : Nat} {cs : List Value} (h : Sl w v k n cs) (hb : Below w.heap.size w w') : Sl w' v k n cs := by
  obtain ⟨hl, h | ⟨b, o, cap, rfl, hlt, hc⟩⟩ := h
  · exact ⟨hl, .inl h⟩
  · exact ⟨hl, .inr ⟨b, o, cap, rfl, Nat.lt_of_lt_of_le hlt hb.size, fun i hi => (hb.cell (p := ⟨b, o + i, none⟩) hlt).trans (hc i hi)⟩⟩
theorem aw_c1 (b : Nat) (w : World) (h : Alph w b aw4) : Calls Try.prog 55 #[.pointer (some ⟨b, 0, none⟩), setV (Sx.range 97 99)] w fun e w' => ∃ v, e = .returned (.tuple #[v, .int .i64 0]) ∧ Sl w' v 1 2 ([1, 2].map intZ) ∧ Below w.heap.size w w' :=
  (classes_any aw4_ok b (Sx.range 97 99) w h).mono fun e w' h => by
    unfold RetClasses at h
    rw [if_pos aw_fits1, show aw4.length = 4 from rfl, aw_in1] at h
    obtain ⟨v, h1, h2, h3⟩ := h
    exact ⟨v, h1, sl_of_owns h2.1, h3⟩
theorem aw_c2 (b : Nat) (w : World) (h : Alph w b aw4) : Calls Try.prog 55 #[.pointer (some ⟨b, 0, none⟩), setV (Sx.ofL [97, 98])] w fun e w' => e = .returned (.tuple #[.slice none 0 0, .int .i64 160]) ∧ Below w.heap.size w w' :=
  (classes_any aw4_ok b (Sx.ofL [97, 98]) w h).mono fun e w' h => by
    unfold RetClasses at h
    rw [if_neg (by rw [aw_fits2]; decide)] at h
    exact h

theorem aw_b (b : Nat) (v : Value) (w : World) (h : Alph w b aw4) (hv : Sl w v 1 2 ([2, 0].map intZ)) : Calls Try.prog 45 #[.pointer (some ⟨b, 0, none⟩), v] w fun e w' => ∃ v, e = .returned (.tuple #[v, .int .i64 0]) ∧ Sl w' v 1 2 ([98, 0].map byteV) ∧ Below w.heap.size w w' :=
  (bytesA_any aw4_ok b v [2, 0] w h hv (by simp)).mono fun e w' h => by
    unfold RetLeasts at h
    rw [if_pos aw_is1, aw_least] at h
    obtain ⟨v, h1, h2, h3⟩ := h
    exact ⟨v, h1, sl_of_owns h2.1, h3⟩

theorem aw_t (b : Nat) (v : Value) (w : World) (h : Alph w b aw4) (hv : Sl w v 1 3 ([1, 3, 1].map intZ)) : Calls Try.prog 44 #[.pointer (some ⟨b, 0, none⟩), v] w fun e w' => e = .returned (.tuple #[setV (Sx.ofL [97, 100]), .int .i64 0]) ∧ Below w.heap.size w w' :=
  (together_any aw4_ok b v [1, 3, 1] w h hv (by simp)).mono fun e w' h => by
    unfold RetTogether at h
    rw [if_pos aw_is2, aw_or] at h
    exact ⟨h.2, h.1⟩
end Go.Proofs.Ytojmkgllbhbeiaa
