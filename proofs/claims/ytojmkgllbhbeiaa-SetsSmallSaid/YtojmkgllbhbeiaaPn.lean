/-
  WALKS: Parts of no sets; Parts of any sets. The plain laws of classes.
-/
import Derived.Test.YtojmkgllbhbeiaaW8
import Derived.Test.YtojmkgllbhbeiaaFct
namespace Go.Proofs.Ytojmkgllbhbeiaa
open Go.RowKit

/-- The classes of sets, in their order, as a slice. -/
def RetParts (ss : List Nat) (w : World) (e : Ending) (w' : World) : Prop :=
  ∃ g cap ds, e = .returned (.slice (some ⟨g, 0, none⟩) ds.length cap) ∧ Sl w' (.slice (some ⟨g, 0, none⟩) ds.length cap) 4 ds.length (setCells ds) ∧ ds.Perm (rawParts ss) ∧ (ds.Pairwise fun a b => ¬ cmpS b a < 0) ∧ Below w.heap.size w w' ∧ ds.length ≤ cap ∧ cap ≤ maxLen

set_option maxRecDepth 100000 in
set_option maxHeartbeats 2000000 in
theorem parts_none (w : World) : Calls Try.prog 31 #[.slice none 0 0] w (RetParts [] w) := by
  obtain ⟨i0, hi, hz0, hz1, hz2⟩ := info_parts info24
  go_enter Try.func31, Try.ntmps31
  have HC := fun w => all_any w
  unfold setV setA at HC
  go_wp2_with fail
  refine (HC _).mono ?_
  clear HC
  rintro e w0 ⟨rfl, hb0⟩
  have hB0 := hb0.below
  clear hb0
  go_wp2
  go_loopw [15, 3] (fun i v wr => i = .int .i64 0 ∧ wr.ownsRow w0.heap.size 24 4 v [Sx.full].length (setCells [Sx.full]) ∧ Below w.heap.size w wr ∧ w0.heap.size ≤ wr.heap.size) (fun _ _ _ => 0)
  case atStart =>
    refine ⟨rfl, ?_, hB0.alloc hB0.size _, by simp⟩
    refine ⟨by rw [setCells_len], .inr ⟨w0.heap.size, 1, _, rfl, Nat.le_refl _, blkOf1 w0 _ _, Nat.le_refl _, by decide, rfl, rfl⟩⟩
  case round =>
    obtain ⟨rfl, hrow, hB, hsz⟩ := hrel
    obtain ⟨ps, hps⟩ : ∃ ps, [Sx.full] = ps := ⟨_, rfl⟩
    have hpos : 0 < ps.length := by rw [← hps]; decide
    have hl1 : ps.length ≤ 256 := by rw [← hps]; decide
    rw [hps] at hrow
    replace hps := Lib.hid hps
    obtain ⟨g, cap3, rfl⟩ := owns_slice hpos hrow
    have hgb := hrow.lt g rfl
    have hcp := Lib.hid (owns_cap hrow)
    have hS := fun hc => sort_any g cap3 ps wr hgb.2 hc (by omega)
    replace hS := hS fun i hi => by
      obtain ⟨u, hu⟩ : ∃ u, (setCells ps)[i]? = some u := ⟨_, List.getElem?_eq_getElem (by rw [setCells_len]; exact hi)⟩
      rw [Nat.zero_add, hu]; exact owns_cell hrow i u hu
    clear hrow
    replace hS := Lib.hid hS
    go_wp2_with fail
    refine hS.out.mono ?_
    clear hS
    rintro e w9 ⟨rfl, ds, hp, hso, hsl, hb9⟩
    have hlen : ps.length = ds.length := hp.length_eq.symm
    have hBf := hB.trans (hb9 w.heap.size (by have := hB0.size; omega) hB.size)
    replace hsl := Lib.hid hsl
    replace hso := Lib.hid hso
    replace hlen := Lib.hid hlen
    go_wp2
    go_ret
    refine ⟨g, cap3, ds, by rw [← hlen.out]; rfl, ?_, by rw [← hps.out] at hp; exact hp, hso.out.imp fun h => by omega, hBf, by rw [← hlen.out]; exact hcp.out.1, hcp.out.2⟩
    have := hsl.out
    rw [hlen.out] at this
    exact this

theorem parts_any (v : Value) (ss : List Nat) (hss : ∀ s ∈ ss, s < 2 ^ 256) (w : World) (h : Sl w v 4 ss.length (setCells ss)) (hlen : ss.length ≤ 1000000) : Calls Try.prog 31 #[v] w (RetParts ss w) := by
  obtain ⟨_, ⟨rfl, h0⟩ | ⟨b, o, cap, rfl, hb, hc⟩⟩ := h
  · obtain rfl := List.eq_nil_of_length_eq_zero h0
    exact parts_none w
  · exact parts_some b o cap ss hss w hb hc hlen

/-! The plain laws. -/
theorem orAll_step (ps : List Nat) (s : Nat) : orAll (partStep ps s) = orAll ps := by
  refine Nat.eq_of_testBit_eq fun c => ?_
  rw [tb_orAll, tb_orAll, Bool.eq_iff_iff, List.any_eq_true, List.any_eq_true]
  constructor
  · rintro ⟨q, hq, hc⟩
    obtain ⟨p, hp, hqp⟩ := List.mem_flatMap.1 hq
    exact ⟨p, hp, split_sub hqp hc⟩
  · rintro ⟨p, hp, hc⟩
    cases hs : s.testBit c with
    | true =>
      have hq : (Sx.and p s).testBit c = true := by rw [Sx.tb_and, hc, hs]; rfl
      refine ⟨Sx.and p s, List.mem_flatMap.2 ⟨p, hp, ?_⟩, hq⟩
      simp only [split, List.mem_filter, List.mem_cons, List.not_mem_nil, or_false, decide_eq_true_eq]
      exact ⟨.inl trivial, fun e => by rw [e, Sx.tb_zero] at hq; cases hq⟩
    | false =>
      have hq : (Sx.less p s).testBit c = true := by rw [Sx.tb_less, hc, hs]; rfl
      refine ⟨Sx.less p s, List.mem_flatMap.2 ⟨p, hp, ?_⟩, hq⟩
      simp only [split, List.mem_filter, List.mem_cons, List.not_mem_nil, or_false, decide_eq_true_eq]
      exact ⟨.inr trivial, fun e => by rw [e, Sx.tb_zero] at hq; cases hq⟩
theorem orAll_raw (ss : List Nat) : orAll (rawParts ss) = Sx.full := by
  have h0 : orAll [Sx.full] = Sx.full := by decide
  unfold rawParts
  generalize [Sx.full] = ps at h0
  induction ss generalizing ps with
  | nil => exact h0
  | cons s ss ih => exact ih _ (by rw [orAll_step]; exact h0)

/-- A set is on one side of each of some sets. -/
def Whole (ss : List Nat) (p : Nat) : Prop := ∀ s ∈ ss, Sx.and p s = 0 ∨ Sx.less p s = 0
theorem sub_and_zero {p q s : Nat} (h : ∀ c, q.testBit c = true → p.testBit c = true) (hz : Sx.and p s = 0) : Sx.and q s = 0 := by
  rw [and_zero] at hz ⊢
  exact fun c ⟨a, b⟩ => hz c ⟨h c a, b⟩
theorem less_zero' {p s : Nat} : Sx.less p s = 0 ↔ ∀ c, p.testBit c = true → s.testBit c = true := by
  constructor
  · intro h c hc
    have := Sx.tb_less p s c
    rw [h, Sx.tb_zero, hc] at this
    cases hs : s.testBit c with
    | true => rfl
    | false => rw [hs] at this; cases this
  · intro h
    refine Nat.eq_of_testBit_eq fun c => ?_
    rw [Sx.tb_less, Nat.zero_testBit]
    cases hp : p.testBit c with
    | false => rfl
    | true => rw [h c hp]; rfl
theorem sub_less_zero {p q s : Nat} (h : ∀ c, q.testBit c = true → p.testBit c = true) (hz : Sx.less p s = 0) : Sx.less q s = 0 := by
  rw [less_zero'] at hz ⊢
  exact fun c hc => hz c (h c hc)
theorem split_side {p s q : Nat} (h : q ∈ split p s) : Sx.and q s = 0 ∨ Sx.less q s = 0 := by
  rcases (mem_split h).2 with rfl | rfl
  · refine .inr (less_zero'.2 fun c hc => ?_)
    rw [Sx.tb_and, Bool.and_eq_true] at hc; exact hc.2
  · refine .inl (and_zero.2 fun c ⟨hc, hs⟩ => ?_)
    rw [Sx.tb_less, hs] at hc; simp at hc
/-- Two sets are told apart by one of some sets. -/
def Apart (ss : List Nat) (p q : Nat) : Prop := ∃ s ∈ ss, decide (Sx.less p s = 0) ≠ decide (Sx.less q s = 0)

theorem not_within {q s : Nat} (hq : q ≠ 0) (h : Sx.and q s = 0) : Sx.less q s ≠ 0 := by
  intro e
  refine hq (Nat.eq_of_testBit_eq fun c => ?_)
  rw [Nat.zero_testBit]
  cases hc : q.testBit c with
  | false => rfl
  | true => exact (and_zero.1 h c ⟨hc, less_zero'.1 e c hc⟩).elim

structure RawOk (ss ps : List Nat) : Prop where
  whole : ∀ p ∈ ps, Whole ss p
  apart : ps.Pairwise (Apart ss)

theorem apart_sub {ss : List Nat} {p q p' q' : Nat} (hp : Whole ss p) (hq : Whole ss q) (h : Apart ss p q) (hp' : p' ≠ 0) (hq' : q' ≠ 0) (sp : ∀ c, p'.testBit c = true → p.testBit c = true) (sq : ∀ c, q'.testBit c = true → q.testBit c = true) : Apart ss p' q' := by
  obtain ⟨s, hs, hne⟩ := h
  refine ⟨s, hs, ?_⟩
  by_cases h1 : Sx.less p s = 0
  · have h2 : ¬ Sx.less q s = 0 := fun e => hne (by rw [decide_eq_true h1, decide_eq_true e])
    have h3 : Sx.and q s = 0 := (hq s hs).resolve_right h2
    rw [decide_eq_true (sub_less_zero sp h1), decide_eq_false (not_within hq' (sub_and_zero sq h3))]
    decide
  · have h2 : Sx.less q s = 0 := by
      by_cases e : Sx.less q s = 0
      · exact e
      · exact (hne (by rw [decide_eq_false h1, decide_eq_false e])).elim
    have h3 : Sx.and p s = 0 := (hp s hs).resolve_right h1
    rw [decide_eq_false (not_within hp' (sub_and_zero sp h3)), decide_eq_true (sub_less_zero sq h2)]
    decide

theorem RawOk.step {ss ps : List Nat} (h : RawOk ss ps) (s : Nat) : RawOk (ss ++ [s]) (partStep ps s) := by
  refine ⟨fun q hq => ?_, ?_⟩
  · obtain ⟨p, hp, hqp⟩ := List.mem_flatMap.1 hq
    intro t ht
    rcases List.mem_append.1 ht with ht | ht
    · rcases h.whole p hp t ht with e | e
      · exact .inl (sub_and_zero (fun c => split_sub hqp) e)
      · exact .inr (sub_less_zero (fun c => split_sub hqp) e)
    · rw [List.mem_singleton.1 ht]; exact split_side hqp
  · unfold partStep
    rw [List.pairwise_flatMap]
    refine ⟨fun p _ => ?_, ?_⟩
    · unfold split
      have hpair : [Sx.and p s, Sx.less p s].Pairwise fun a b => a ≠ 0 → b ≠ 0 → Apart (ss ++ [s]) a b := by
        refine List.pairwise_pair.2 fun h1 h2 => ⟨s, by simp, ?_⟩
        have e1 : Sx.less (Sx.and p s) s = 0 := less_zero'.2 fun c hc => by rw [Sx.tb_and, Bool.and_eq_true] at hc; exact hc.2
        have e2 : Sx.and (Sx.less p s) s = 0 := and_zero.2 fun c ⟨hc, hs⟩ => by rw [Sx.tb_less, hs] at hc; simp at hc
        rw [decide_eq_true e1, decide_eq_false (not_within h2 e2)]
        decide
      have := hpair.filter (fun x => decide (x ≠ 0))
      refine this.imp_of_mem fun {a b} ha hb hab => ?_
      have ha := (List.mem_filter.1 ha).2
      have hb := (List.mem_filter.1 hb).2
      exact hab (of_decide_eq_true ha) (of_decide_eq_true hb)
    · refine h.apart.imp_of_mem fun {p p'} hp hp' hd q hq q' hq' => ?_
      have := apart_sub (h.whole p hp) (h.whole p' hp') hd (mem_split hq).1 (mem_split hq').1 (fun c => split_sub hq) (fun c => split_sub hq')
      obtain ⟨t, ht, hne⟩ := this
      exact ⟨t, List.mem_append_left _ ht, hne⟩
theorem raw_ok (ss : List Nat) : RawOk ss (rawParts ss) := by
  suffices H : ∀ (rest done ps : List Nat), RawOk done ps → RawOk (done ++ rest) (rest.foldl partStep ps) by
    have := H ss [] [Sx.full] ⟨(fun p _ s hs => by cases hs), List.pairwise_singleton _ _⟩
    simpa [rawParts] using this
  intro rest
  induction rest with
  | nil => intro done ps h; simpa using h
  | cons s rest ih =>
    intro done ps h
    have := ih (done ++ [s]) _ (h.step s)
    simpa using this

/-- The least byte of a set. -/
def least (p : Nat) : Nat := (elems p).headD 0
theorem least_at {p : Nat} (hp : p < 2 ^ 256) (h : p ≠ 0) : (elems p).isEmpty = false ∧ least p < 256 ∧ p.testBit (least p) = true ∧ ∀ d, d < least p → p.testBit d = false := by
  unfold least
  cases he : elems p with
  | nil => exact (h ((elems_nil hp).1 he)).elim
  | cons c l =>
    obtain ⟨h1, h2, h3⟩ := head_least he
    exact ⟨rfl, h2, h1, h3⟩
theorem least_lt {p q : Nat} (hp : p < 2 ^ 256) (hq : q < 2 ^ 256) (p0 : p ≠ 0) (q0 : q ≠ 0) (hd : Sx.and p q = 0) (h : ¬ cmpS q p < 0) : least p < least q := by
  obtain ⟨_, l1, l2, l3⟩ := least_at hp p0
  obtain ⟨_, m1, m2, m3⟩ := least_at hq q0
  rw [and_zero] at hd
  rcases cmpS_nlt.1 h with ⟨c, h1, h2, h3, h4⟩ | h5
  · have hc : least p ≤ c := by
      rcases Nat.lt_or_ge c (least p) with hlt | hge
      · rw [l3 c hlt] at h2; cases h2
      · exact hge
    rcases Nat.lt_or_ge (least p) (least q) with hlt | hge
    · exact hlt
    · exfalso
      by_cases e : least q = c
      · rw [e] at m2; rw [h3] at m2; cases m2
      · have := h4 (least q) (by omega)
        rw [m2] at this
        exact hd _ ⟨this, m2⟩
  · have := h5 (least p) l1
    rw [l2] at this
    exact (hd _ ⟨l2, this⟩).elim

/-- What the classes are, in their order. -/
structure PartsOk (ss ds : List Nat) : Prop where
  lt : ∀ p ∈ ds, p ≠ 0 ∧ p < 2 ^ 256
  order : ds.Pairwise fun p q => least p < least q
  disj : ds.Pairwise fun p q => Sx.and p q = 0
  whole : ∀ p ∈ ds, Whole ss p
  apart : ds.Pairwise (Apart ss)
  all : orAll ds = Sx.full
theorem Apart.symm {ss : List Nat} {p q : Nat} (h : Apart ss p q) : Apart ss q p := by
  obtain ⟨s, hs, hne⟩ := h; exact ⟨s, hs, hne.symm⟩
theorem and_symm {p q : Nat} (h : Sx.and p q = 0) : Sx.and q p = 0 := by
  rw [and_zero] at h ⊢; exact fun c ⟨a, b⟩ => h c ⟨b, a⟩
theorem orAll_perm {a b : List Nat} (h : a.Perm b) : orAll a = orAll b := by
  refine Nat.eq_of_testBit_eq fun c => ?_
  rw [tb_orAll, tb_orAll, Bool.eq_iff_iff, List.any_eq_true, List.any_eq_true]
  exact ⟨fun ⟨x, hx, hc⟩ => ⟨x, h.mem_iff.1 hx, hc⟩, fun ⟨x, hx, hc⟩ => ⟨x, h.mem_iff.2 hx, hc⟩⟩
theorem parts_ok {ss ds : List Nat} (hp : ds.Perm (rawParts ss)) (hs : ds.Pairwise fun a b => ¬ cmpS b a < 0) : PartsOk ss ds := by
  have h1 := part_raw ss
  have h2 := raw_ok ss
  have hlt : ∀ p ∈ ds, p ≠ 0 ∧ p < 2 ^ 256 := fun p hm => h1.1 p (hp.mem_iff.1 hm)
  have hdis : ds.Pairwise fun p q => Sx.and p q = 0 := (hp.symm.pairwise_iff (fun h => and_symm h)).1 h1.2
  refine ⟨hlt, ?_, hdis, fun p hm => h2.whole p (hp.mem_iff.1 hm), (hp.symm.pairwise_iff (fun h => h.symm)).1 h2.apart, by rw [orAll_perm hp, orAll_raw]⟩
  exact (hdis.and hs).imp_of_mem fun {a b} ha hb ⟨h3, h4⟩ => least_lt (hlt a ha).2 (hlt b hb).2 (hlt a ha).1 (hlt b hb).1 h3 h4
theorem orAll_snoc (l : List Nat) (p : Nat) : orAll (l ++ [p]) = Sx.or (orAll l) p := by
  refine Nat.eq_of_testBit_eq fun c => ?_
  rw [Sx.tb_or, tb_orAll, tb_orAll]
  simp
theorem meets_take {ds : List Nat} (h : ds.Pairwise fun p q => Sx.and p q = 0) {k : Nat} (hk : k < ds.length) : Sx.and (orAll (ds.take k)) ds[k] = 0 := by
  rw [and_zero]
  rintro c ⟨a, b⟩
  rw [tb_orAll, List.any_eq_true] at a
  obtain ⟨q, hq, hc⟩ := a
  obtain ⟨i, hi, rfl⟩ := List.mem_take_iff_getElem.1 hq
  have := List.pairwise_iff_getElem.1 h i k (by omega) hk (by omega)
  exact and_zero.1 this c ⟨hc, b⟩
end Go.Proofs.Ytojmkgllbhbeiaa
