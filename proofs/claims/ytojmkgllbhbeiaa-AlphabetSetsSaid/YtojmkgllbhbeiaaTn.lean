/-
  A drawn region whose last operations (stores, say) come in one order, behind all the others.
-/
import Derived.Test.YtojmkgllbhbeiaaK9
namespace Go.Proofs.Ytojmkgllbhbeiaa
open Go.RowKit

section
variable {P : Program} {n : Nat} {l : List Oper} {Q : Exit → Act → World → Prop}
theorem getD_list (A : Array Bool) (i : Nat) : A.getD i true = A.toList.getD i true := by simp
theorem pre_iff (hB : monoB n l 0 = true) (A : Array Bool) (i : Nat) (hi : i < l.length) (hA : A.size = l.length) : (∀ j ∈ preds l[i], A.getD j true = true) ↔ ∀ e ∈ l[i].after, Region.binds .any e = true → A.getD e.on false = true := by
  have hbt : ∀ (A : Array Bool) i, i < l.length → A.size = l.length → (A.getD i false = true ↔ A.getD i true = true) := fun A i hi hA => by
    have : i < A.size := by omega
    simp [this]
  have hlt := (monoB_at l 0 i hB hi).1
  constructor
  · intro h e he hb
    have hm : e.on ∈ preds l[i] := List.mem_map.2 ⟨e, List.mem_filter.2 ⟨by simpa using he, hb⟩, rfl⟩
    exact (hbt A _ (by have := hlt _ hm; omega) hA).2 (h _ hm)
  · intro h j hj
    have := hlt j hj
    obtain ⟨e, he, rfl⟩ := List.mem_map.1 hj
    obtain ⟨he, hb⟩ := List.mem_filter.1 he
    exact (hbt A _ (by omega) hA).1 (h e (by simpa using he) hb)
theorem ready_none (hB : monoB n l 0 = true) (A : Array Bool) (hA : A.size = l.length) (h0 : Region.ready .any l.toArray A = []) (k : Nat) : k < l.length → A.getD k true = true := by
  induction k using Nat.strongRecOn with
  | ind k ih =>
    intro hk
    cases hc : A.getD k true with
    | true => rfl
    | false =>
      exfalso
      have : k ∈ Region.ready .any l.toArray A := mem_ready.2 ⟨hc, _, by simp [hk], (pre_iff hB A k hk hA).1 fun j hj => ih j (by have := (monoB_at l 0 k hB hk).1 j hj; omega) (by have := (monoB_at l 0 k hB hk).1 j hj; omega)⟩
      rw [h0] at this
      cases this

theorem wpAny_tail (m : Nat) (hB : monoB n l 0 = true) (hch : ∀ k, m ≤ k → (hk : k + 1 < l.length) → k ∈ preds l[k + 1]) :
    ∀ (j : Nat) (listed : Array Bool) (a : Act) (w : World), m + j ≤ l.length → listed.size = l.length → (∀ k, k < l.length - j → listed.getD k true = true) → (∀ k, l.length - j ≤ k → k < l.length → listed.getD k true = false) →
      wpList P l.toArray Q (l.drop (l.length - j)) a w → wpAny P .any l.toArray Q j listed a w := by
  have hget : ∀ i (hi : i < l.length), l.toArray[i]? = some l[i] := fun i hi => by simp [hi]
  intro j
  induction j with
  | zero =>
    intro listed a w _ hs h1 _ h
    refine ⟨?_, ?_⟩
    · rw [List.eq_nil_iff_forall_not_mem]
      intro k hk
      obtain ⟨h3, oi, h4, _⟩ := mem_ready.1 hk
      have hkl : k < l.length := by
        have := (Array.getElem?_eq_some_iff.1 h4).1
        simpa using this
      rw [h1 k (by omega)] at h3
      cases h3
    · rw [Nat.sub_zero, List.drop_length] at h
      exact h
  | succ j ih =>
    intro listed a w hj hs h1 h2 h
    have hm : l.length - (j + 1) < l.length := by omega
    refine ⟨fun h0 => ?_, fun i hi => ?_⟩
    · have := ready_none hB listed hs h0 _ hm
      rw [h2 _ (Nat.le_refl _) hm] at this
      cases this
    · have him : i = l.length - (j + 1) := by
        obtain ⟨hun, oi, hoi, hall⟩ := mem_ready.1 hi
        have hil : i < l.length := by
          have := (Array.getElem?_eq_some_iff.1 hoi).1
          simpa using this
        apply Classical.byContradiction
        intro hne
        by_cases hlt : i < l.length - (j + 1)
        · rw [h1 i hlt] at hun; cases hun
        · obtain ⟨p, rfl⟩ : ∃ p, i = p + 1 := ⟨i - 1, by omega⟩
          have hp := hch p (by omega) hil
          have := (pre_iff hB listed (p + 1) hil hs).2 (by rw [hget _ hil] at hoi; cases hoi; exact hall) p hp
          rw [h2 p (by omega) (by omega)] at this
          cases this
      subst him
      rw [List.drop_eq_getElem_cons hm] at h
      unfold wpOp
      rw [hget _ hm]
      dsimp only
      unfold wpList at h
      have hK : ∀ a' w', wpList P l.toArray Q (l.drop (l.length - (j + 1) + 1)) a' w' → wpAny P .any l.toArray Q j (listed.setIfInBounds (l.length - (j + 1)) true) a' w' := fun a' w' h => by
        refine ih _ a' w' (by omega) (by simpa using hs) (fun k hk => ?_) (fun k hk hkl => ?_) ?_
        · by_cases e : k = l.length - (j + 1)
          · subst e
            rw [getD_list, Array.toList_setIfInBounds, List.getD_eq_getElem?_getD, List.getElem?_set, if_pos rfl]
            split <;> rfl
          · rw [getD_set_ne true (Ne.symm e)]
            exact h1 k (by omega)
        · rw [getD_set_ne true (by omega)]
          exact h2 k (by omega) hkl
        · rw [show l.length - j = l.length - (j + 1) + 1 by omega]
          exact h
      by_cases hw : Region.wanted l[l.length - (j + 1)] (yielded l.toArray a.tmps) = true
      · rw [if_pos hw] at h ⊢
        exact h.imp (Oper.wp_mono hK) id
      · rw [if_neg hw] at h ⊢
        exact hK _ _ h

theorem wpAny_then {m : Nat} {a0 : Act} {R : World → Prop} {T : World → World → Prop} {F : Nat → (Nat → Value) → World → Prop}
    (hB : monoB n l 0 = true) (hsz : a0.tmps.size = n) (hm : m < l.length) (hcov : ∀ k, k < m → ∃ j, k < j ∧ j ≤ m ∧ ∃ hj : j < l.length, k ∈ preds l[j])
    (hch : ∀ k, m ≤ k → (hk : k + 1 < l.length) → k ∈ preds l[k + 1])
    (hloc : ∀ k (hk : k < l.length) vs vs' w, vs k = vs' k → (∀ j ∈ preds l[k], vs j = vs' j) → F k vs w → F k vs' w)
    (hst : ∀ k vs w w', R w → T w w' → F k vs w → F k vs w')
    (hsteps : headSteps P l a0 R T F m)
    (hend : ∀ vs w, R w → (∀ k, k < m → F k vs w) → wpList P l.toArray Q (l.drop m) (putAll vs l 0 a0) w) :
    ∀ (f : Nat) (listed : Array Bool) (vs : Nat → Value) (w : World), listed.size = l.length → undone (listed.toList.take m) = f → (∀ k, m ≤ k → k < l.length → listed.getD k true = false) → R w → (∀ k (hk : k < l.length), listed.getD k true = true → F k vs w ∧ ∀ j ∈ preds l[k], listed.getD j true = true) →
      wpAny P .any l.toArray Q (f + (l.length - m)) listed (putAll vs l 0 a0) w := by
  have hget : ∀ i (hi : i < l.length), l.toArray[i]? = some l[i] := fun i hi => by simp [hi]
  have htk : ∀ (A : Array Bool) k, k < m → (A.toList.take m).getD k true = A.getD k true := fun A k hk => by
    rw [getD_list, List.getD_eq_getElem?_getD, List.getD_eq_getElem?_getD, List.getElem?_take, if_pos hk]
  intro f
  induction f with
  | zero =>
    intro listed vs w hs hu hml hR hF
    have hnm : ∀ k, k < m → listed.getD k true = true := fun k hk => by
      have h2 := undone_pos (listed.toList.take m) hu k
      rwa [htk _ _ hk] at h2
    rw [Nat.zero_add]
    refine wpAny_tail m hB hch (l.length - m) listed _ w (by omega) hs (fun k hk => hnm k (by omega)) (fun k hk hkl => hml k (by omega) hkl) ?_
    rw [show l.length - (l.length - m) = m by omega]
    exact hend vs w hR fun k hk => (hF k (by omega) (hnm k hk)).1
  | succ f ih =>
    intro listed vs w hs hu hml hR hF
    rw [show f + 1 + (l.length - m) = (f + (l.length - m)) + 1 by omega]
    refine ⟨fun h0 => ?_, fun i hi => ?_⟩
    · have := ready_none hB listed hs h0 m hm
      rw [hml m (Nat.le_refl _) hm] at this
      cases this
    obtain ⟨hun, oi, hoi, hallr⟩ := mem_ready.1 hi
    have hil : i < l.length := by
      have := (Array.getElem?_eq_some_iff.1 hoi).1
      simpa using this
    have hoi' := hget i hil
    have hpr := (pre_iff hB listed i hil hs).2 (by rw [hoi'] at hoi; cases hoi; exact hallr)
    have him : i < m := by
      apply Classical.byContradiction
      intro hge
      by_cases e : i = m
      · subst e
        have hdone : ∀ d k, k + d + 1 = i → listed.getD k true = true := fun d => by
          induction d using Nat.strongRecOn with
          | ind d ihd =>
            intro k hk
            obtain ⟨j, h1, h2, hj, h3⟩ := hcov k (by omega)
            by_cases e : j = i
            · subst e; exact hpr k h3
            · exact (hF j hj (ihd (i - j - 1) (by omega) j (by omega))).2 k h3
        have : undone (listed.toList.take i) = 0 := by
          unfold undone
          rw [List.count_eq_zero]
          intro hmem
          obtain ⟨k, hk, he⟩ := List.mem_iff_getElem.1 hmem
          have hki : k < i := by
            have := hk
            rw [List.length_take] at this
            omega
          have h1 := hdone (i - k - 1) k (by omega)
          rw [← htk _ _ hki, List.getD_eq_getElem?_getD, List.getElem?_eq_getElem hk, he] at h1
          cases h1
        omega
      · obtain ⟨p, rfl⟩ : ∃ p, i = p + 1 := ⟨i - 1, by omega⟩
        have := hpr p (hch p (by omega) hil)
        rw [hml p (by omega) (by omega)] at this
        cases this
    have hat := monoB_at l 0 i hB hil
    have hnear := fun j t h => by have := putAll_near l 0 j vs a0 t hB hsz h; rwa [Nat.zero_add] at this
    have hit : i < (l.take m).length := by simp; omega
    have hone := MonoSteps.at (P := P) (l.take m) 0 i hsteps hit vs (putAll vs l 0 a0) w hR (fun j hj => by
      rw [List.getElem_take] at hj
      exact (hF j (by have := hat.1 j hj; omega) (hpr j hj)).1) hnear (fun t ht => putAll_far l t 0 vs a0 fun o ho => by
      have := List.all_eq_true.1 ht o ho
      simpa using this) fun j t h => by
        have h1 := hnear j t h
        have hlt : t < (putAll vs l 0 a0).tmps.size := by
          rw [(putAll_size l 0 vs a0).1, hsz]
          unfold dstAt at h
          cases hj : l[j]? with
          | none => rw [hj] at h; cases h
          | some o =>
            obtain ⟨hjl, hje⟩ := List.getElem?_eq_some_iff.1 hj
            rw [hj] at h
            exact (monoB_at l 0 j hB hjl).2 t (by rw [hje]; exact h)
        rw [Array.getD_eq_getD_getElem?, Array.getElem?_eq_getElem hlt, Option.getD_some] at h1
        rw [Array.getElem?_eq_getElem hlt, h1]
    rw [Nat.zero_add, List.getElem_take] at hone
    refine wp_of_one hoi' (fun v w' hG => ?_) hone
    obtain ⟨hR', hT, hFi⟩ := hG
    rw [putAll_upd l 0 i vs a0 v hB hil, Nat.zero_add]
    refine ih _ _ _ (by simpa using hs) ?_ (fun k hk hkl => by rw [getD_set_ne true (by omega)]; exact hml k hk hkl) hR' fun k hk hkl => ?_
    · have := undone_set (listed.toList.take m) i (by rw [htk _ _ him]; exact hun)
      rw [Array.toList_setIfInBounds, List.take_set]
      omega
    · by_cases hki : k = i
      · subst hki
        refine ⟨hFi, fun j hj => ?_⟩
        rw [getD_set_ne true (by have := hat.1 j hj; omega : k ≠ j)]
        exact hpr j hj
      · rw [getD_set_ne true (Ne.symm hki)] at hkl
        obtain ⟨h1, h2⟩ := hF k hk hkl
        have hne : ∀ j ∈ preds l[k], j ≠ i := fun j hj he => by have := h2 j hj; rw [he, hun] at this; cases this
        refine ⟨hloc k hk vs _ w' (upd_ne _ _ _ hki).symm (fun j hj => (upd_ne _ _ _ (hne j hj)).symm) (hst k vs w w' hR hT h1), fun j hj => ?_⟩
        rw [getD_set_ne true (Ne.symm (hne j hj))]
        exact h2 j hj
end

/-- Whether each of the first m operations is waited for by a later one of them, or by the m-th. -/
def coverB (l : List Oper) (m : Nat) : Bool := (List.range m).all fun k => (List.range (m + 1)).any fun j => decide (k < j) && (match l[j]? with | some o => (preds o).contains k | none => false)
theorem coverB_spec {l : List Oper} {m : Nat} (h : coverB l m = true) : ∀ k, k < m → ∃ j, k < j ∧ j ≤ m ∧ ∃ hj : j < l.length, k ∈ preds l[j] := by
  intro k hk
  have := List.all_eq_true.1 h k (List.mem_range.2 hk)
  obtain ⟨j, hj, h2⟩ := List.any_eq_true.1 this
  rw [Bool.and_eq_true, decide_eq_true_eq] at h2
  obtain ⟨h3, h4⟩ := h2
  cases ho : l[j]? with
  | none => rw [ho] at h4; cases h4
  | some o =>
    rw [ho] at h4
    obtain ⟨hjl, rfl⟩ := List.getElem?_eq_some_iff.1 ho
    exact ⟨j, h3, by have := List.mem_range.1 hj; omega, hjl, by simpa using h4⟩
/-- Which operations from the m-th on wait each for the one before it. -/
def chainB (l : List Oper) (m : Nat) : Bool := (List.range l.length).all fun k => decide (k < m) || decide (l.length ≤ k + 1) || (match l[k + 1]? with | some o => (preds o).contains k | none => true)
theorem chainB_spec {l : List Oper} {m : Nat} (h : chainB l m = true) : ∀ k, m ≤ k → (hk : k + 1 < l.length) → k ∈ preds l[k + 1] := by
  intro k hm hk
  have := List.all_eq_true.1 h k (List.mem_range.2 (by omega))
  rw [List.getElem?_eq_getElem hk, decide_eq_false (by omega), decide_eq_false (by omega)] at this
  simpa using this
/-- A fact of a value that outlives growth. -/
structure Fx where
  says : Value → World → Prop
  later : ∀ v w w', Below w.heap.size w w' → says v w → says v w'
def Fx.any : Fx := ⟨fun _ _ => True, fun _ _ _ _ h => h⟩
def Fx.eq (u : Value) : Fx := ⟨fun v _ => v = u, fun _ _ _ _ h => h⟩
def Fx.sl (k n : Nat) (cs : List Value) : Fx := ⟨fun v w => SlN w v k n cs, fun _ _ _ hb h => h.later hb⟩
def Fx.os (k n : Nat) (cs : List Value) : Fx := ⟨fun v w => Sl w v k n cs, fun _ _ _ hb h => h.laterB hb⟩
def Fx.ow (B : Nat) (e : TypeId) (k n : Nat) (xs : List Value) : Fx := ⟨fun v w => w.ownsRow B e k v n xs, fun _ _ _ hb h => owns_later h hb⟩
def Fx.nw (B : Nat) (cs : Array Value) (t : TypeId) (n : Nat) : Fx := ⟨fun v w => ∃ b, v = .slice (some ⟨b, 0, none⟩) n n ∧ B ≤ b ∧ Blk w b cs t, fun _ _ _ hb ⟨b, h1, h2, h3⟩ => ⟨b, h1, h2, h3.laterB hb⟩⟩
/-- THE LAW: m operations in any order, whose facts outlive growth (whatever facts); then the others in the text's order. -/
theorem wp_region_then {P : Program} {id : Nat} {l : List Oper} {a0 : Act} {w0 : World} {Q : Exit → Act → World → Prop} (n m : Nat) (F : List Fx)
    (hm : P.follows .mixedOrders = true) (hsz : a0.tmps.size = n) (hB : monoB n l 0 = true) (hl : m < l.length) (hcov : coverB l m = true) (hch : chainB l m = true)
    (hsteps : headSteps P l a0 (fun w => Below w0.heap.size w0 w) (fun w w' => Below w.heap.size w w') (fun k vs w => (F.getD k .any).says (vs k) w) m)
    (hend : ∀ vs w, Below w0.heap.size w0 w → (∀ k, k < m → (F.getD k .any).says (vs k) w) → wpList P l.toArray Q (l.drop m) (putAll vs l 0 a0) w) : (Code.region id l.toArray true).wp P Q a0 w0 := by
  refine wp_region_any hm ?_
  have hst0 : putAll (fun k => (l[k]?).elim undef (fun o => got o a0)) l 0 a0 = a0 := putAll_start l a0 0 _ fun j hj => by simp [hj]
  have := wpAny_then (P := P) (Q := Q) hB hsz hl (coverB_spec hcov) (chainB_spec hch) (R := fun w => Below w0.heap.size w0 w) (T := fun w w' => Below w.heap.size w w') (F := fun k vs w => (F.getD k .any).says (vs k) w)
    (fun _ _ _ _ _ h _ hF => by rw [← h]; exact hF) (fun k vs w w' _ hT hF => (F.getD k .any).later _ _ _ hT hF) hsteps hend m (Array.replicate l.length false) (fun k => (l[k]?).elim undef (fun o => got o a0)) { w0 with drawn := w0.drawn + 1 } (by simp) (by simp [undone, List.take_replicate]; omega) (fun k _ hk => by simp [hk]) (gr_grown w0 1 #[]).below (fun k hk h => by
    simp [hk] at h)
  rw [hst0] at this
  rw [show m + (l.length - m) = l.length by omega] at this
  simpa using this
/-- The law of drawn regions, with whatever facts that outlive growth. -/
theorem wp_region_fx {P : Program} {id : Nat} {l : List Oper} {a0 : Act} {w0 : World} {Q : Exit → Act → World → Prop} (n : Nat) (F : List Fx)
    (hm : P.follows .mixedOrders = true) (hsz : a0.tmps.size = n) (hB : monoB n l 0 = true)
    (hsteps : MonoSteps P l a0 (fun w => Below w0.heap.size w0 w) (fun w w' => Below w.heap.size w w') (fun k vs w => (F.getD k .any).says (vs k) w) l 0)
    (hend : ∀ vs w, Below w0.heap.size w0 w → (∀ k, k < l.length → (F.getD k .any).says (vs k) w) → Q .normal (putAll vs l 0 a0) w) : (Code.region id l.toArray true).wp P Q a0 w0 :=
  wp_region_mono (fun w => Below w0.heap.size w0 w) (fun w w' => Below w.heap.size w w') (fun k vs w => (F.getD k .any).says (vs k) w) hm hsz hB (gr_grown w0 1 #[]).below (fun _ _ _ _ _ h _ hF => by rw [← h]; exact hF) (fun k vs w w' _ hT hF => (F.getD k .any).later _ _ _ hT hF) hsteps hend
theorem showsX {w0 w w' : World} {vs : Nat → Value} {i : Nat} {v : Value} {f : Fx} (hR : Below w0.heap.size w0 w) (hb : Below w.heap.size w w') (h : f.says v w') :
    Below w0.heap.size w0 w' ∧ Below w.heap.size w w' ∧ f.says (upd vs i v i) w' := ⟨hR.trans (hb.mono hR.size), hb, by rw [upd_same]; exact h⟩
theorem showsX0 {w0 w : World} {vs : Nat → Value} {i : Nat} {v : Value} {f : Fx} (hR : Below w0.heap.size w0 w) (h : f.says v w) :
    Below w0.heap.size w0 w ∧ Below w.heap.size w w ∧ f.says (upd vs i v i) w := showsX hR (Below.refl _ _) h
end Go.Proofs.Ytojmkgllbhbeiaa
