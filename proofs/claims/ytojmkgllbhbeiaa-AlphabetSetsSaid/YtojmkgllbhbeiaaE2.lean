/-
  Alphabets by the sets that they are made of: when one is finer, when two are the same.
-/
import Derived.Test.YtojmkgllbhbeiaaK9
namespace Go.Proofs.Ytojmkgllbhbeiaa
open Go.RowKit

/-- What one list of sets does not tell apart, the other one does not, either. -/
def Ref (ss ss' : List Nat) : Prop := ∀ c d, c < 256 → d < 256 → sameB ss c d = true → sameB ss' c d = true
def refB (ss ss' : List Nat) : Bool := (List.range 256).all fun c => (List.range 256).all fun d => !sameB ss c d || sameB ss' c d
theorem refB_iff {ss ss' : List Nat} : refB ss ss' = true ↔ Ref ss ss' := by
  unfold refB Ref
  simp only [List.all_eq_true, List.mem_range, Bool.or_eq_true, Bool.not_eq_true']
  constructor
  · intro h c d hc hd hs
    rcases h c hc d hd with e | e
    · rw [hs] at e; cases e
    · exact e
  · intro h c hc d hd
    cases hs : sameB ss c d with
    | false => exact .inl rfl
    | true => exact .inr (h c d hc hd hs)
theorem SameTold.iff {ss ss' : List Nat} : SameTold ss ss' ↔ Ref ss ss' ∧ Ref ss' ss := by
  constructor
  · intro h
    exact ⟨fun c d hc hd e => by rw [← h c d hc hd]; exact e, fun c d hc hd e => by rw [h c d hc hd]; exact e⟩
  · rintro ⟨h1, h2⟩ c d hc hd
    rw [Bool.eq_iff_iff]
    exact ⟨h1 c d hc hd, h2 c d hc hd⟩
def toldB (ss ss' : List Nat) : Bool := refB ss ss' && refB ss' ss
theorem toldB_iff {ss ss' : List Nat} : toldB ss ss' = true ↔ SameTold ss ss' := by
  unfold toldB; rw [Bool.and_eq_true, refB_iff, refB_iff, SameTold.iff]
theorem Ref.refl (ss : List Nat) : Ref ss ss := fun _ _ _ _ h => h
theorem Ref.trans {a b c : List Nat} (h : Ref a b) (k : Ref b c) : Ref a c := fun x y hx hy e => k x y hx hy (h x y hx hy e)
theorem Ref.left (a b : List Nat) : Ref (a ++ b) a := fun x y _ _ e => by rw [sameB_append, Bool.and_eq_true] at e; exact e.1
theorem Ref.right (a b : List Nat) : Ref (a ++ b) b := fun x y _ _ e => by rw [sameB_append, Bool.and_eq_true] at e; exact e.2
theorem Ref.both {a b c : List Nat} : Ref c (a ++ b) ↔ Ref c a ∧ Ref c b := by
  constructor
  · intro h; exact ⟨h.trans (.left a b), h.trans (.right a b)⟩
  · rintro ⟨h1, h2⟩ x y hx hy e
    rw [sameB_append, h1 x y hx hy e, h2 x y hx hy e]; rfl
theorem SameTold.ref {a a' b b' : List Nat} (h : SameTold a a') (h' : SameTold b b') : Ref a b ↔ Ref a' b' :=
  ⟨fun k c d hc hd e => by rw [← h' c d hc hd]; exact k c d hc hd (by rw [h c d hc hd]; exact e), fun k c d hc hd e => by rw [h' c d hc hd]; exact k c d hc hd (by rw [← h c d hc hd]; exact e)⟩
theorem SameTold.trans {a b c : List Nat} (h : SameTold a b) (k : SameTold b c) : SameTold a c := fun x y hx hy => (h x y hx hy).trans (k x y hx hy)
theorem SameTold.append {a a' b b' : List Nat} (h : SameTold a a') (h' : SameTold b b') : SameTold (a ++ b) (a' ++ b') := fun x y hx hy => by
  rw [sameB_append, sameB_append, h x y hx hy, h' x y hx hy]

theorem PartsOk.told {ss ss' ds : List Nat} (h : PartsOk ss ds) (k : SameTold ss ss') : PartsOk ss' ds where
  lt := h.lt
  order := h.order
  disj := h.disj
  all := h.all
  whole := fun p hp s hs => by
    obtain ⟨c, hc, hpc⟩ := h.some_bit hp
    have hsm : ∀ d, p.testBit d = true → s.testBit c = s.testBit d := fun d hd => by
      have hd2 : d < 256 := by
        by_cases e : d < 256
        · exact e
        · rw [high_bit (h.lt p hp).2 (by omega)] at hd; cases hd
      have := h.same hp hpc hd
      rw [k c d hc hd2] at this
      exact sameB_iff.1 this s hs
    cases hsc : s.testBit c with
    | false =>
      left
      rw [and_zero]
      rintro d ⟨h1, h2⟩
      have := hsm d h1
      rw [hsc, h2] at this; cases this
    | true =>
      right
      rw [less_zero']
      intro d hd
      rw [← hsm d hd, hsc]
  apart := by
    refine h.apart.imp_of_mem fun {p q} hp hq hap => ?_
    obtain ⟨c, hc, hpc⟩ := h.some_bit hp
    obtain ⟨d, hd, hqd⟩ := h.some_bit hq
    have hn := hap.not_same (h.whole p hp) (h.whole q hq) (h.lt p hp).1 (h.lt q hq).1 hpc hqd
    rw [k c d hc hd] at hn
    have hex : ∃ s ∈ ss', s.testBit c ≠ s.testBit d := Classical.byContradiction fun hne => by
      have : sameB ss' c d = true := sameB_iff.2 fun s hs => Classical.byContradiction fun e => hne ⟨s, hs, e⟩
      rw [hn] at this; cases this
    obtain ⟨s, hs, hne⟩ := hex
    have hall : ∀ {r e : Nat}, r ∈ ds → e < 256 → r.testBit e = true → (Sx.less r s = 0 ↔ s.testBit e = true) := fun {r e} hr he hre => by
      rw [less_zero']
      constructor
      · intro hl; exact hl e hre
      · intro hse f hf
        have hf2 : f < 256 := by
          by_cases e : f < 256
          · exact e
          · rw [high_bit (h.lt r hr).2 (by omega)] at hf; cases hf
        have := h.same hr hre hf
        rw [k e f he hf2] at this
        rw [← sameB_iff.1 this s hs, hse]
    refine ⟨s, hs, fun e => hne ?_⟩
    rw [Bool.eq_iff_iff]
    rw [← hall hp hc hpc, ← hall hq hd hqd]
    simpa using e
theorem PartsOk.told_iff {ss ss' ds ds' : List Nat} (h : PartsOk ss ds) (h' : PartsOk ss' ds') : ds = ds' ↔ SameTold ss ss' :=
  ⟨fun e => by subst e; exact (h.own.symm).trans h'.own, fun k => h.unique h' k⟩
theorem sameT_told {ss ss' ds ds' : List Nat} (h : PartsOk ss ds) (h' : PartsOk ss' ds') : sameT (cls ds) (cls ds') = toldB ss ss' := by
  rw [Bool.eq_iff_iff, sameT_iff, toldB_iff]
  constructor
  · intro e c d hc hd
    have h1 := h.cls_eq hc hd
    have h2 := h'.cls_eq hc hd
    rw [e c hc, e d hd, h2] at h1
    exact Bool.eq_iff_iff.2 h1.symm
  · intro k
    rw [h.unique h' k]; intros; rfl
theorem finer_ref {ss ss' ds ds' : List Nat} (h : PartsOk ss ds) (h' : PartsOk ss' ds') : finerB ds ds' = refB ss ss' := by
  rw [Bool.eq_iff_iff, refB_iff]
  unfold finerB fitsB
  simp only [List.all_eq_true, Bool.or_eq_true, decide_eq_true_eq]
  constructor
  · intro e c d hc hd hs
    obtain ⟨p, hp, hpc⟩ := h.has hc
    obtain ⟨q, hq, hqc⟩ := h'.has hc
    have hpd : p.testBit d = true := by rw [h.bit hp hpc hd]; exact sameB_symm hs
    rcases e q hq p hp with k | k
    · exact h'.same hq hqc (less_zero'.1 k d hpd)
    · exact (and_zero.1 k c ⟨hpc, hqc⟩).elim
  · intro k q hq p hp
    by_cases e : Sx.and p q = 0
    · exact .inr e
    · left
      have hex : ∃ c, p.testBit c = true ∧ q.testBit c = true := Classical.byContradiction fun hne => e (and_zero.2 fun c hc => hne ⟨c, hc⟩)
      obtain ⟨c, hpc, hqc⟩ := hex
      rw [less_zero']
      intro d hd
      have hb : ∀ {x : Nat}, p.testBit x = true → x < 256 := fun {x} hx => by
        by_cases e : x < 256
        · exact e
        · rw [high_bit (h.lt p hp).2 (by omega)] at hx; cases hx
      rw [h'.bit hq hqc (hb hd)]
      exact k d c (hb hd) (hb hpc) (h.same hp hd hpc)

/-- An alphabet that is made of some sets. -/
def AlphOf (w : World) (b : Nat) (ss : List Nat) : Prop := ∃ ds, PartsOk ss ds ∧ Alph w b ds
theorem AlphOf.later {w w' : World} {b : Nat} {ss : List Nat} (h : AlphOf w b ss) (hb : Below w.heap.size w w') : AlphOf w' b ss := by
  obtain ⟨ds, h1, h2⟩ := h; exact ⟨ds, h1, h2.later hb⟩
theorem AlphOf.told {w : World} {b : Nat} {ss ss' : List Nat} (h : AlphOf w b ss) (k : SameTold ss ss') : AlphOf w b ss' := by
  obtain ⟨ds, h1, h2⟩ := h; exact ⟨ds, h1.told k, h2⟩
def RetOf (ss : List Nat) (w : World) (e : Ending) (w' : World) : Prop := ∃ b, e = .returned (.pointer (some ⟨b, 0, none⟩)) ∧ AlphOf w' b ss ∧ Below w.heap.size w w'
theorem of_of (v : Value) (ss : List Nat) (hss : ∀ s ∈ ss, s < 2 ^ 256) (w : World) (h : Sl w v 4 ss.length (setCells ss)) (hlen : ss.length ≤ 1000000) : Calls Try.prog 39 #[v] w (RetOf ss w) :=
  (of_alph v ss hss w h hlen).mono fun _ _ ⟨b, ds, h1, h2, _, _, h3, _, h4⟩ => ⟨b, h1, ⟨ds, h2, h3⟩, h4⟩
theorem join_of {ss ss' : List Nat} (b b' : Nat) (w : World) (hA : AlphOf w b ss) (hA' : AlphOf w b' ss') : Calls Try.prog 64 #[.pointer (some ⟨b, 0, none⟩), .pointer (some ⟨b', 0, none⟩)] w (RetOf (ss ++ ss') w) := by
  obtain ⟨ds, h1, h2⟩ := hA
  obtain ⟨ds', h1', h2'⟩ := hA'
  refine (join_any h1 h1' b b' w h2 h2').mono ?_
  rintro e w' ⟨b'', es, h3, h4, _, _, h5, _, h6⟩
  exact ⟨b'', h3, ⟨es, h4.told (h1.own.append h1'.own), h5⟩, h6⟩
theorem all_of (w : World) : Calls Try.prog 65 #[] w (RetOf (ones 256) w) :=
  (allA_any w).mono fun _ _ ⟨b, h1, h2, _, h3⟩ => ⟨b, h1, ⟨_, ones_ok, h2⟩, h3⟩
theorem finer_of {ss ss' : List Nat} (b b' : Nat) (w : World) (hA : AlphOf w b ss) (hA' : AlphOf w b' ss') : Calls Try.prog 66 #[.pointer (some ⟨b, 0, none⟩), .pointer (some ⟨b', 0, none⟩)] w fun e w' => e = .returned (.bool (refB ss ss')) ∧ Below w.heap.size w w' := by
  obtain ⟨ds, h1, h2⟩ := hA
  obtain ⟨ds', h1', h2'⟩ := hA'
  rw [← finer_ref h1 h1']
  exact finer_any h1 h1' b b' w h2 h2'
theorem same_of {ss ss' : List Nat} (b b' : Nat) (w : World) (hA : AlphOf w b ss) (hA' : AlphOf w b' ss') : Calls Try.prog 67 #[.pointer (some ⟨b, 0, none⟩), .pointer (some ⟨b', 0, none⟩)] w fun e w' => e = .returned (.bool (toldB ss ss')) ∧ Below w.heap.size w w' := by
  obtain ⟨ds, h1, h2⟩ := hA
  obtain ⟨ds', h1', h2'⟩ := hA'
  rw [← sameT_told h1 h1']
  exact sameA_any h1 h1' b b' w h2 h2'
theorem refB_all (ss : List Nat) : refB (ones 256) ss = true := by
  rw [refB_iff]
  intro c d hc hd h
  have : Sx.ofL [c] ∈ ones 256 := by unfold ones; exact List.mem_map.2 ⟨c, List.mem_range.2 hc, rfl⟩
  have := sameB_iff.1 h _ this
  rw [tb_one1, tb_one1, decide_eq_true rfl] at this
  have e : d = c := by simpa using this.symm
  subst e
  exact sameB_iff.2 fun _ _ => rfl
theorem refB_none (ss : List Nat) : refB ss [] = true := by
  rw [refB_iff]; intro c d _ _ _; rfl
theorem refB_self (ss : List Nat) : refB ss ss = true := refB_iff.2 (.refl ss)
theorem toldB_self (ss : List Nat) : toldB ss ss = true := by unfold toldB; rw [refB_self]; rfl
theorem one_class {ds : List Nat} (h : PartsOk [] ds) : ds.length = 1 := by
  have : ∀ i, i < ds.length → i = 0 := fun i hi => by
    apply Classical.byContradiction
    intro hne
    have := List.pairwise_iff_getElem.1 h.apart 0 i (by omega) hi (by omega)
    obtain ⟨s, hs, _⟩ := this
    cases hs
  have h0 := h.pos
  by_cases e : ds.length = 1
  · exact e
  · have := this 1 (by omega); omega
end Go.Proofs.Ytojmkgllbhbeiaa
