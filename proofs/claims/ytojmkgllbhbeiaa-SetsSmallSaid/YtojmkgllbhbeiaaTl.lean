/-
  A drawn region whose last operation (a store, say) waits for all the others.
-/
import Derived.Test.YtojmkgllbhbeiaaFct
namespace Go.Proofs.Ytojmkgllbhbeiaa
open Go.RowKit

/-- The operations ahead of the last, one by one. -/
def headSteps (P : Program) (l : List Oper) (a0 : Act) (R : World → Prop) (T : World → World → Prop) (F : Nat → (Nat → Value) → World → Prop) (m : Nat) : Prop := MonoSteps P l a0 R T F (l.take m) 0

theorem wpAny_last {P : Program} {n m : Nat} {l : List Oper} {o : Oper} {a0 : Act} {R : World → Prop} {T : World → World → Prop} {F : Nat → (Nat → Value) → World → Prop} {Q : Exit → Act → World → Prop}
    (hB : monoB n l 0 = true) (hsz : a0.tmps.size = n) (hm : l.length = m + 1) (hlo : l[m]? = some o) (hall : (List.range m).all (fun k => (preds o).contains k) = true)
    (hloc : ∀ k (hk : k < l.length) vs vs' w, vs k = vs' k → (∀ j ∈ preds l[k], vs j = vs' j) → F k vs w → F k vs' w)
    (hst : ∀ k vs w w', R w → T w w' → F k vs w → F k vs w')
    (hsteps : headSteps P l a0 R T F m)
    (hend : ∀ vs w, R w → (∀ k, k < m → F k vs w) → wpList P l.toArray Q [o] (putAll vs l 0 a0) w) :
    ∀ (f : Nat) (listed : Array Bool) (vs : Nat → Value) (w : World), listed.size = l.length → undone listed.toList = f + 1 → listed.getD m true = false → R w → (∀ k (hk : k < l.length), listed.getD k true = true → F k vs w ∧ ∀ j ∈ preds l[k], listed.getD j true = true) →
      wpAny P .any l.toArray Q (f + 1) listed (putAll vs l 0 a0) w := by
  have hgl : ∀ (A : Array Bool) i, A.getD i true = A.toList.getD i true := fun A i => by simp
  have hget : ∀ i (hi : i < l.length), l.toArray[i]? = some l[i] := fun i hi => by simp [hi]
  have hbt : ∀ (A : Array Bool) i, i < l.length → A.size = l.length → (A.getD i false = true ↔ A.getD i true = true) := fun A i hi hA => by
    have : i < A.size := by omega
    simp [this]
  have hpre : ∀ (A : Array Bool) i (hi : i < l.length), A.size = l.length → ((∀ j ∈ preds l[i], A.getD j true = true) ↔ ∀ e ∈ l[i].after, Region.binds .any e = true → A.getD e.on false = true) := fun A i hi hA => by
    have hlt := (monoB_at l 0 i hB hi).1
    constructor
    · intro h e he hb
      have hm : e.on ∈ preds l[i] := List.mem_map.2 ⟨e, List.mem_filter.2 ⟨by simpa using he, hb⟩, rfl⟩
      exact (hbt A _ (by have := hlt _ hm; omega) hA).2 (h _ hm)
    · intro h j hj
      have := hlt j hj
      obtain ⟨e, he, rfl⟩ := List.mem_map.1 hj
      obtain ⟨he, hb⟩ := List.mem_filter.1 he
      exact (hbt A _ (by omega) hA).1 (h e (by simpa using he) hb)
  have hnone : ∀ (A : Array Bool), A.size = l.length → Region.ready .any l.toArray A = [] → ∀ k, k < l.length → A.getD k true = true := fun A hA h0 k => by
    induction k using Nat.strongRecOn with
    | ind k ih =>
      intro hk
      cases hc : A.getD k true with
      | true => rfl
      | false =>
        exfalso
        have : k ∈ Region.ready .any l.toArray A := mem_ready.2 ⟨hc, _, hget k hk, (hpre A k hk hA).1 fun j hj => ih j (by have := (monoB_at l 0 k hB hk).1 j hj; omega) (by have := (monoB_at l 0 k hB hk).1 j hj; omega)⟩
        rw [h0] at this
        cases this
  have hlm : l[m]'(by omega) = o := by
    obtain ⟨h1, h2⟩ := List.getElem?_eq_some_iff.1 hlo
    exact h2
  have hpo : ∀ k, k < m → k ∈ preds o := fun k hk => by
    have := List.all_eq_true.1 hall k (List.mem_range.2 hk)
    simpa using this
  intro f
  induction f with
  | zero =>
    intro listed vs w hs hu hml hR hF
    have hnm : ∀ k, k < l.length → k ≠ m → listed.getD k true = true := fun k hk hkm => by
      have h1 := undone_set listed.toList m (by rw [← hgl]; exact hml)
      have h2 := undone_pos (listed.toList.set m true) (by omega) k
      rw [hgl]
      simpa [List.getElem?_set_ne (Ne.symm hkm)] using h2
    refine ⟨fun h0 => ?_, fun i hi => ?_⟩
    · have := hnone listed hs h0 m (by omega)
      rw [hml] at this
      cases this
    · have him : i = m := by
        apply Classical.byContradiction
        intro hne
        obtain ⟨hun, oi, hoi, _⟩ := mem_ready.1 hi
        have hil : i < l.length := by
          have := (Array.getElem?_eq_some_iff.1 hoi).1
          simpa using this
        rw [hnm i hil hne] at hun
        cases hun
      subst him
      have hlast := hend vs w hR fun k hk => (hF k (by omega) (hnm k (by omega) (by omega))).1
      have hr : Region.ready .any l.toArray (listed.setIfInBounds i true) = [] := by
        rw [List.eq_nil_iff_forall_not_mem]
        intro k hk
        have h1 := (mem_ready.1 hk).1
        have h2 := undone_pos (listed.toList.set i true) (by have := undone_set listed.toList i (by rw [← hgl]; exact hml); omega) k
        rw [hgl, Array.toList_setIfInBounds, h2] at h1
        cases h1
      unfold wpOp
      rw [hget i (by omega), hlm]
      dsimp only
      unfold wpList at hlast
      have hK : ∀ a' w', wpList P l.toArray Q [] a' w' → wpAny P .any l.toArray Q 0 (listed.setIfInBounds i true) a' w' := fun a' w' h => ⟨hr, h⟩
      by_cases hw : Region.wanted o (yielded l.toArray (putAll vs l 0 a0).tmps) = true
      · rw [if_pos hw] at hlast ⊢
        exact hlast.imp (Oper.wp_mono hK) id
      · rw [if_neg hw] at hlast ⊢
        exact hK _ _ hlast
  | succ f ih =>
    intro listed vs w hs hu hml hR hF
    refine ⟨fun h0 => ?_, fun i hi => ?_⟩
    · have := hnone listed hs h0 m (by omega)
      rw [hml] at this
      cases this
    obtain ⟨hun, oi, hoi, hallr⟩ := mem_ready.1 hi
    have hil : i < l.length := by
      have := (Array.getElem?_eq_some_iff.1 hoi).1
      simpa using this
    have hoi' := hget i hil
    have hpr := (hpre listed i hil hs).2 (by rw [hoi'] at hoi; cases hoi; exact hallr)
    have him : i ≠ m := by
      intro he
      subst he
      rw [hlm] at hpr
      have h1 := undone_set listed.toList i (by rw [← hgl]; exact hun)
      have h3 : ∀ k, (listed.toList.set i true).getD k true = true := fun k => by
        by_cases hk : k = i
        · subst hk
          rw [List.getD_eq_getElem?_getD, List.getElem?_set]
          by_cases hkl : k < listed.toList.length
          · rw [if_pos rfl, if_pos hkl]; rfl
          · rw [if_pos rfl, if_neg hkl]; rfl
        · by_cases hkl : k < l.length
          · have := hpr k (hpo k (by omega))
            rw [hgl] at this
            simpa [List.getElem?_set_ne (Ne.symm hk)] using this
          · have : (listed.toList.set i true).length ≤ k := by simp; omega
            simp [List.getElem?_eq_none this]
      have h4 : undone (listed.toList.set i true) = 0 := by
        unfold undone
        rw [List.count_eq_zero]
        intro hmem
        obtain ⟨k, hk, he⟩ := List.mem_iff_getElem.1 hmem
        have := h3 k
        simp [List.getD_eq_getElem?_getD, List.getElem?_eq_getElem hk, he] at this
      omega
    have hat := monoB_at l 0 i hB hil
    have hnear := fun j t h => by have := putAll_near l 0 j vs a0 t hB hsz h; rwa [Nat.zero_add] at this
    have hit : i < (l.take m).length := by simp; omega
    have hone := MonoSteps.at (P := P) (l.take m) 0 i hsteps hit vs (putAll vs l 0 a0) w hR (fun j hj => by
      rw [List.getElem_take] at hj
      exact (hF j (by have := hat.1 j hj; omega) (hpr j hj)).1) hnear (fun t ht => putAll_far l t 0 vs a0 fun o ho => by
      have := List.all_eq_true.1 ht o ho
      simpa using this) fun j t h => by
        have h1 := hnear j t h
        have hlt : t < (putAll vs l 0 a0).tmps.size := by
          rw [(putAll_size l 0 vs a0).1, hsz]
          unfold dstAt at h
          cases hj : l[j]? with
          | none => rw [hj] at h; cases h
          | some o =>
            obtain ⟨hjl, hje⟩ := List.getElem?_eq_some_iff.1 hj
            rw [hj] at h
            exact (monoB_at l 0 j hB hjl).2 t (by rw [hje]; exact h)
        rw [Array.getD_eq_getD_getElem?, Array.getElem?_eq_getElem hlt, Option.getD_some] at h1
        rw [Array.getElem?_eq_getElem hlt, h1]
    rw [Nat.zero_add, List.getElem_take] at hone
    refine wp_of_one hoi' (fun v w' hG => ?_) hone
    obtain ⟨hR', hT, hFi⟩ := hG
    rw [putAll_upd l 0 i vs a0 v hB hil, Nat.zero_add]
    refine ih _ _ _ (by simpa using hs) ?_ (by rw [getD_set_ne true him]; exact hml) hR' fun k hk hkl => ?_
    · have := undone_set listed.toList i (by rw [← hgl]; exact hun)
      rw [Array.toList_setIfInBounds]
      omega
    · by_cases hki : k = i
      · subst hki
        refine ⟨hFi, fun j hj => ?_⟩
        rw [getD_set_ne true (by have := hat.1 j hj; omega : k ≠ j)]
        exact hpr j hj
      · rw [getD_set_ne true (Ne.symm hki)] at hkl
        obtain ⟨h1, h2⟩ := hF k hk hkl
        have hne : ∀ j ∈ preds l[k], j ≠ i := fun j hj he => by have := h2 j hj; rw [he, hun] at this; cases this
        refine ⟨hloc k hk vs _ w' (upd_ne _ _ _ hki).symm (fun j hj => (upd_ne _ _ _ (hne j hj)).symm) (hst k vs w w' hR hT h1), fun j hj => ?_⟩
        rw [getD_set_ne true (Ne.symm (hne j hj))]
        exact h2 j hj

/-- THE LAW, by lists of facts: m operations, then one that waits for them all. -/
theorem wp_region_last {P : Program} {id : Nat} {l : List Oper} {o : Oper} {a0 : Act} {w0 : World} {Q : Exit → Act → World → Prop} (n m : Nat) (F : List Fact)
    (hm : P.follows .mixedOrders = true) (hsz : a0.tmps.size = n) (hB : monoB n l 0 = true) (hl : l.length = m + 1) (hlo : l[m]? = some o) (hall : (List.range m).all (fun k => (preds o).contains k) = true)
    (hsteps : headSteps P l a0 (fun w => Below w0.heap.size w0 w) (fun w w' => Below w.heap.size w w') (fun k vs w => (F.getD k .any).says (vs k) w) m)
    (hend : ∀ vs w, Below w0.heap.size w0 w → (∀ k, k < m → (F.getD k .any).says (vs k) w) → wpList P l.toArray Q [o] (putAll vs l 0 a0) w) : (Code.region id l.toArray true).wp P Q a0 w0 := by
  refine wp_region_any hm ?_
  have hst0 : putAll (fun k => (l[k]?).elim undef (fun o => got o a0)) l 0 a0 = a0 := putAll_start l a0 0 _ fun j hj => by simp [hj]
  have := wpAny_last (P := P) (Q := Q) hB hsz hl hlo hall (R := fun w => Below w0.heap.size w0 w) (T := fun w w' => Below w.heap.size w w') (F := fun k vs w => (F.getD k .any).says (vs k) w)
    (fun _ _ _ _ _ h _ hF => by rw [← h]; exact hF) (fun _ _ _ _ _ hT hF => Fact.later _ hF hT) hsteps hend m (Array.replicate l.length false) (fun k => (l[k]?).elim undef (fun o => got o a0)) { w0 with drawn := w0.drawn + 1 } (by simp) (by simp [undone, hl]) (by simp [hl]) (gr_grown w0 1 #[]).below (fun k hk h => by
    simp [hk] at h)
  rw [hst0] at this
  simpa [hl] using this
end Go.Proofs.Ytojmkgllbhbeiaa
