/-
  Parts of the reference, of no sets; the classes that both tell, in plain Lean.
-/
import Derived.Test.YtojmkgllbhbeiaaRp
import Derived.Test.YtojmkgllbhbeiaaPn
namespace Go.Proofs.Ytojmkgllbhbeiaa
open Go.RowKit

set_option maxRecDepth 100000 in
set_option maxHeartbeats 4000000 in
theorem refParts_none (w : World) : Calls Try.prog 91 #[.slice none 0 0] w fun e w' => e = .returned (.agg (A256 fun c => rep [] c)) ∧ Below w.heap.size w w' := by
  have hz := zero93
  go_enter Try.func91, Try.ntmps91
  go_wp2
  clear hz
  go_loopw [4] (fun i wr => ∃ k : Nat, k ≤ 256 ∧ i = .int .i64 k ∧ Blk wr w.heap.size (A256 fun _ => 0) 93 ∧ Blk wr (w.heap.size + 1) (part (fun c => (rep [] c : Nat)) k) 93 ∧ Below w.heap.size w wr) (fun i _ => 256 - (intOf i).toNat)
  case atStart => exact ⟨0, by omega, rfl, (blkOf1 w _ _).alloc _, by rw [part_zero]; exact blkOf2 w _ _ _, below2 w _ _⟩
  case round =>
    obtain ⟨k, hk, rfl, h0, h1, hB⟩ := hrel
    by_cases hlt : k < 256
    · obtain ⟨wo, rfl⟩ : ∃ wo : World, wo = wr := ⟨_, rfl⟩
      go_wp2_with fail
      go_loopw [5] (fun d wr => d = .int .i64 0 ∧ Below wo.heap.size wo wr) (fun _ _ => 0)
      case atStart => exact ⟨rfl, Below.refl _ _⟩
      case round =>
        obtain ⟨rfl, hBj⟩ := hrel
        obtain ⟨wj, rfl⟩ : ∃ wj : World, wj = wr := ⟨_, rfl⟩
        go_wp2_with fail
        go_loopw [7, 6] (fun i sm wr => i = .int .i64 0 ∧ sm = .bool true ∧ Below wj.heap.size wj wr) (fun _ _ _ => 0)
        case atStart => exact ⟨rfl, rfl, Below.refl _ _⟩
        case round =>
          obtain ⟨rfl, rfl, hBr⟩ := hrel
          have hBx := hBj.trans (hBr.mono hBj.size)
          have hre : rep [] k = 0 := rep_eq (Nat.zero_le _) rfl (fun d hd => by omega)
          have h0' := h0.laterB hBx
          have h1' := h1.laterB hBx
          have hB' := hB.trans (hBx.mono hB.size)
          have cc := (h1'.cell k).trans (part_get _ k hlt)
          have ff := h1'.frozen k
          have hset := Lib.hid (h1'.set k (.int .i64 ((rep [] k : Nat) : Int)))
          rw [part_set (fun c => ((rep [] c : Nat) : Int)) hlt, hre] at hset
          clear h1' hre
          go_wp2
          go_roundw
          case rel => exact ⟨k + 1, by omega, by go_num, h0'.other (by show _ ≠ w.heap.size + 1; omega) _, hset.out, hB'.setCell (by show _ ≤ w.heap.size + 1; omega) _⟩
          case measure => simp [intOf]; omega
    · obtain rfl : k = 256 := by omega
      rw [part_full] at h1
      go_wp2_with (first | with_reducible refine wp_load93 rfl _ rfl (w.heap.size + 1) rfl _ h1 ?_ | with_reducible refine wp_store93 rfl _ _ rfl w.heap.size rfl _ _ rfl h0 ?_)
      exact bodyPost_ret (v := .agg (A256 fun c => rep [] c)) (res93 rfl _ _ w.heap.size _ rfl (h0.setRow _)) rfl ⟨rfl, below_setRow hB (by omega) _⟩

/-! The classes. -/
theorem sameB_iff {ss : List Nat} {c d : Nat} : sameB ss c d = true ↔ ∀ s ∈ ss, s.testBit c = s.testBit d := by
  unfold sameB; rw [List.all_eq_true]
  exact ⟨fun h s hs => by simpa using h s hs, fun h s hs => by simpa using h s hs⟩
theorem sameB_symm {ss : List Nat} {c d : Nat} (h : sameB ss c d = true) : sameB ss d c = true := sameB_iff.2 fun s hs => (sameB_iff.1 h s hs).symm
theorem sameB_trans {ss : List Nat} {c d e : Nat} (h : sameB ss c d = true) (k : sameB ss d e = true) : sameB ss c e = true := sameB_iff.2 fun s hs => (sameB_iff.1 h s hs).trans (sameB_iff.1 k s hs)
theorem rep_spec (ss : List Nat) (c : Nat) : rep ss c ≤ c ∧ sameB ss c (rep ss c) = true ∧ ∀ d, d < rep ss c → sameB ss c d = false := by
  unfold rep
  cases h : (List.range (c + 1)).find? (sameB ss c) with
  | none =>
    rw [List.find?_eq_none] at h
    exact absurd (sameB_refl ss c) (h c (by simp))
  | some j =>
    rw [List.find?_range_eq_some] at h
    obtain ⟨h1, h2, h3⟩ := h
    refine ⟨by have := List.mem_range.1 h2; show j ≤ c; omega, h1, fun d hd => by have := h3 d hd; simpa using this⟩
theorem rep_same {ss : List Nat} {c d : Nat} : rep ss c = rep ss d ↔ sameB ss c d = true := by
  obtain ⟨a1, a2, a3⟩ := rep_spec ss c
  obtain ⟨b1, b2, b3⟩ := rep_spec ss d
  constructor
  · intro h
    rw [h] at a2
    exact sameB_trans a2 (sameB_symm b2)
  · intro h
    rcases Nat.lt_trichotomy (rep ss c) (rep ss d) with hlt | he | hlt
    · have := b3 _ hlt
      rw [sameB_trans (sameB_symm h) a2] at this; cases this
    · exact he
    · have := a3 _ hlt
      rw [sameB_trans h b2] at this; cases this

variable {ss ds : List Nat}
/-- Two bytes of a class are in the same sets. -/
theorem PartsOk.same (h : PartsOk ss ds) {p : Nat} (hp : p ∈ ds) {c d : Nat} (hc : p.testBit c = true) (hd : p.testBit d = true) : sameB ss c d = true := by
  rw [sameB_iff]
  intro s hs
  rcases h.whole p hp s hs with e | e
  · rw [and_zero] at e
    cases h1 : s.testBit c with
    | true => exact (e c ⟨hc, h1⟩).elim
    | false =>
      cases h2 : s.testBit d with
      | true => exact (e d ⟨hd, h2⟩).elim
      | false => rfl
  · rw [less_zero'] at e
    rw [e c hc, e d hd]
theorem PartsOk.has (h : PartsOk ss ds) {c : Nat} (hc : c < 256) : ∃ p ∈ ds, p.testBit c = true := by
  have := Sx.tb_full c
  rw [← h.all, tb_orAll, decide_eq_true hc, List.any_eq_true] at this
  exact this
theorem Apart.not_same {p q : Nat} (h : Apart ss p q) (hp : Whole ss p) (hq : Whole ss q) (_ : p ≠ 0) (_ : q ≠ 0) {c d : Nat} (hc : p.testBit c = true) (hd : q.testBit d = true) : sameB ss c d = false := by
  obtain ⟨s, hs, hne⟩ := h
  cases hsame : sameB ss c d with
  | false => rfl
  | true =>
    exfalso
    have e := sameB_iff.1 hsame s hs
    by_cases h1 : Sx.less p s = 0
    · have h2 : ¬ Sx.less q s = 0 := fun e => hne (by rw [decide_eq_true h1, decide_eq_true e])
      have h3 := and_zero.1 ((hq s hs).resolve_right h2) d
      rw [less_zero'.1 h1 c hc] at e
      exact h3 ⟨hd, e.symm⟩
    · have h2 : Sx.less q s = 0 := by
        by_cases e : Sx.less q s = 0
        · exact e
        · exact (hne (by rw [decide_eq_false h1, decide_eq_false e])).elim
      have h3 := and_zero.1 ((hp s hs).resolve_right h1) c
      rw [less_zero'.1 h2 d hd] at e
      exact h3 ⟨hc, e⟩
theorem PartsOk.apart_of (h : PartsOk ss ds) {p q : Nat} (hp : p ∈ ds) (hq : q ∈ ds) (hne : p ≠ q) : Apart ss p q := by
  obtain ⟨i, hi, rfl⟩ := List.getElem_of_mem hp
  obtain ⟨j, hj, rfl⟩ := List.getElem_of_mem hq
  rcases Nat.lt_trichotomy i j with hlt | he | hlt
  · exact List.pairwise_iff_getElem.1 h.apart i j hi hj hlt
  · subst he; exact (hne rfl).elim
  · exact (List.pairwise_iff_getElem.1 h.apart j i hj hi hlt).symm
/-- A class is the bytes that are in the same sets as one of it. -/
theorem PartsOk.bit (h : PartsOk ss ds) {p : Nat} (hp : p ∈ ds) {c d : Nat} (hc : p.testBit c = true) (hd : d < 256) : p.testBit d = sameB ss d c := by
  obtain ⟨q, hq, hqd⟩ := h.has hd
  by_cases e : q = p
  · subst e; rw [hqd, h.same hq hqd hc]
  · rw [(h.apart_of hq hp e).not_same (h.whole q hq) (h.whole p hp) (h.lt q hq).1 (h.lt p hp).1 hqd hc]
    cases hb : p.testBit d with
    | false => rfl
    | true =>
      have := (h.apart_of hq hp e).not_same (h.whole q hq) (h.whole p hp) (h.lt q hq).1 (h.lt p hp).1 hqd hb
      rw [sameB_refl] at this; cases this
theorem PartsOk.rep_least (h : PartsOk ss ds) {p : Nat} (hp : p ∈ ds) {c : Nat} (hc : p.testBit c = true) (_ : c < 256) : rep ss c = least p := by
  obtain ⟨_, l1, l2, l3⟩ := least_at (h.lt p hp).2 (h.lt p hp).1
  refine rep_eq ?_ (h.same hp hc l2) fun d hd => ?_
  · rcases Nat.lt_or_ge c (least p) with hlt | hge
    · rw [l3 c hlt] at hc; cases hc
    · exact hge
  · have := h.bit hp hc (show d < 256 by omega)
    rw [l3 d hd] at this
    cases hs : sameB ss c d with
    | false => rfl
    | true => rw [sameB_symm hs] at this; cases this

/-- The least bytes of classes, below k. -/
def leads (ss : List Nat) (k : Nat) : List Nat := (List.range k).filter fun c => rep ss c == c
theorem leads_yes {ss : List Nat} {k : Nat} (h : rep ss k = k) : leads ss (k + 1) = leads ss k ++ [k] := by simp [leads, List.range_succ, h]
theorem leads_no {ss : List Nat} {k : Nat} (h : rep ss k ≠ k) : leads ss (k + 1) = leads ss k := by simp [leads, List.range_succ, h]
theorem leads_len (ss : List Nat) (k : Nat) : (leads ss k).length ≤ k := by
  have := List.length_filter_le (fun c => rep ss c == c) (List.range k); simpa [leads] using this

theorem sorted_ext : ∀ (a b : List Nat), a.Pairwise (· < ·) → b.Pairwise (· < ·) → (∀ x, x ∈ a ↔ x ∈ b) → a = b
  | [], [], _, _, _ => rfl
  | [], y :: b, _, _, h => by have := (h y).2 (by simp); cases this
  | x :: a, [], _, _, h => by have := (h x).1 (by simp); cases this
  | x :: a, y :: b, ha, hb, h => by
    obtain ⟨ha1, ha2⟩ := List.pairwise_cons.1 ha
    obtain ⟨hb1, hb2⟩ := List.pairwise_cons.1 hb
    have hxy : x = y := by
      have h1 := (h x).1 (by simp)
      have h2 := (h y).2 (by simp)
      rcases List.mem_cons.1 h1 with e | h1
      · exact e
      · rcases List.mem_cons.1 h2 with e | h2
        · exact e.symm
        · have := hb1 x h1; have := ha1 y h2; omega
    subst hxy
    rw [sorted_ext a b ha2 hb2 fun z => ?_]
    constructor
    · intro hz
      rcases List.mem_cons.1 ((h z).1 (List.mem_cons_of_mem _ hz)) with e | hz'
      · subst e; have := ha1 z hz; omega
      · exact hz'
    · intro hz
      rcases List.mem_cons.1 ((h z).2 (List.mem_cons_of_mem _ hz)) with e | hz'
      · subst e; have := hb1 z hz; omega
      · exact hz'
theorem PartsOk.leads (h : PartsOk ss ds) : ds.map least = Go.Proofs.Ytojmkgllbhbeiaa.leads ss 256 := by
  refine sorted_ext _ _ (List.pairwise_map.2 h.order) ((List.pairwise_lt_range (n := 256)).filter _) fun x => ?_
  rw [List.mem_map, Go.Proofs.Ytojmkgllbhbeiaa.leads, List.mem_filter, List.mem_range, beq_iff_eq]
  constructor
  · rintro ⟨p, hp, rfl⟩
    obtain ⟨_, l1, l2, _⟩ := least_at (h.lt p hp).2 (h.lt p hp).1
    exact ⟨l1, h.rep_least hp l2 l1⟩
  · rintro ⟨hx, hr⟩
    obtain ⟨p, hp, hc⟩ := h.has hx
    exact ⟨p, hp, by rw [← h.rep_least hp hc hx, hr]⟩
/-- The class that comes next. -/
theorem PartsOk.next (h : PartsOk ss ds) {c : Nat} (hc : c < 256) (hr : rep ss c = c) : ∃ hn : (Go.Proofs.Ytojmkgllbhbeiaa.leads ss c).length < ds.length, ∀ d, d < 256 → ds[(Go.Proofs.Ytojmkgllbhbeiaa.leads ss c).length].testBit d = decide (rep ss d = c) := by
  have hl := h.leads
  have hpre : Go.Proofs.Ytojmkgllbhbeiaa.leads ss (c + 1) <+: Go.Proofs.Ytojmkgllbhbeiaa.leads ss 256 := by
    refine List.IsPrefix.filter _ ?_
    exact List.prefix_iff_eq_take.2 (by rw [List.length_range, List.take_range, Nat.min_eq_left (by omega)])
  rw [leads_yes hr, ← hl] at hpre
  obtain ⟨t, ht⟩ := hpre
  have hg : (ds.map least)[(Go.Proofs.Ytojmkgllbhbeiaa.leads ss c).length]? = some c := by
    rw [← ht, List.append_assoc, List.getElem?_append_right (Nat.le_refl _)]; simp
  obtain ⟨hn, he⟩ := List.getElem?_eq_some_iff.1 hg
  rw [List.length_map] at hn
  rw [List.getElem_map] at he
  refine ⟨hn, fun d hd => ?_⟩
  have hp := List.getElem_mem hn
  obtain ⟨_, l1, l2, _⟩ := least_at (h.lt _ hp).2 (h.lt _ hp).1
  rw [he] at l2
  rw [h.bit hp l2 hd, Bool.eq_iff_iff, decide_eq_true_eq, ← rep_same, hr]
theorem PartsOk.count (h : PartsOk ss ds) : (Go.Proofs.Ytojmkgllbhbeiaa.leads ss 256).length = ds.length := by rw [← h.leads, List.length_map]
end Go.Proofs.Ytojmkgllbhbeiaa
