/-
  Regions that draw their order, and whose operations may make memory: each operation is walked ONCE, in any world in which the facts of the operations that it waits for hold; the facts must outlive every other step. No order is enumerated.
-/
import Derived.Test.YtojmkgllbhbeiaaReg
namespace Go.Proofs.Ytojmkgllbhbeiaa
open Go.RowKit

def got (o : Oper) (a : Act) : Value := match o.dst with | some d => a.tmps.getD d undef | none => undef
def putAll (vs : Nat → Value) : List Oper → Nat → Act → Act
  | [], _, a => a
  | o :: l, k, a => putAll vs l (k + 1) (a.put o.dst (vs k))
def preds (o : Oper) : List Nat := (o.after.toList.filter (fun e => Region.binds .any e)).map (·.on)
def upd (vs : Nat → Value) (i : Nat) (v : Value) : Nat → Value := fun k => if k = i then v else vs k
def monoB (n : Nat) : List Oper → Nat → Bool
  | [], _ => true
  | o :: l, k => ((preds o).all (fun e => decide (e < k)) && (match o.dst with | some d => decide (d < n) && l.all (fun o' => o'.dst != some d) | none => true)) && monoB n l (k + 1)
def oneV (a : Act) (G : Value → World → Prop) (o : Oper) : Exit → Act → World → Prop
  | .normal, a', w' => ∃ v, a' = a.put o.dst v ∧ G v w'
  | _, _, _ => False

theorem upd_same (vs : Nat → Value) (i : Nat) (v : Value) : upd vs i v i = v := by simp [upd]
theorem upd_ne (vs : Nat → Value) (i : Nat) (v : Value) {k : Nat} (h : k ≠ i) : upd vs i v k = vs k := by simp [upd, h]

theorem put_got (a : Act) (o : Oper) : a.put o.dst (got o a) = a := by
  unfold got Act.put
  cases o.dst with
  | none => rfl
  | some d =>
    cases a with
    | mk t ds =>
      simp only [Act.mk.injEq, and_true]
      apply Array.ext
      · simp
      · intro i h1 h2
        rw [Array.getElem_setIfInBounds]
        split
        · rename_i h; subst h; simp [h2]
        · rfl
theorem put_put (a : Act) (d : Option Tmp) (u v : Value) : (a.put d u).put d v = a.put d v := by
  unfold Act.put
  cases d with
  | none => rfl
  | some d => simp only [Array.setIfInBounds_setIfInBounds]
theorem got_put {n : Nat} (a : Act) (o : Oper) (v : Value) (hsz : a.tmps.size = n) (h : ∀ d, o.dst = some d → d < n) : a.put o.dst (got o (a.put o.dst v)) = a.put o.dst v := by
  unfold got Act.put
  cases hd : o.dst with
  | none => rfl
  | some d => have := h d hd; subst hsz; simp [this]

theorem putAll_start (l : List Oper) (a : Act) : ∀ k (vs : Nat → Value), (∀ j, (h : j < l.length) → vs (k + j) = got l[j] a) → putAll vs l k a = a := by
  induction l with
  | nil => intro k vs h; rfl
  | cons o l ih =>
    intro k vs h
    have h0 := h 0 (by simp)
    simp only [Nat.add_zero, List.getElem_cons_zero] at h0
    rw [putAll, h0, put_got]
    exact ih (k + 1) vs fun j hj => by have := h (j + 1) (by simpa using hj); rw [show k + 1 + j = k + (j + 1) by omega, this]; simp
theorem putAll_congr (l : List Oper) (a : Act) : ∀ k (vs vs' : Nat → Value), (∀ j, k ≤ j → vs j = vs' j) → putAll vs l k a = putAll vs' l k a := by
  induction l generalizing a with
  | nil => intro k vs vs' h; rfl
  | cons o l ih => intro k vs vs' h; rw [putAll, putAll, h k (Nat.le_refl _)]; exact ih _ _ _ _ fun j hj => h j (by omega)
theorem putAll_put_far (l : List Oper) (d : Option Tmp) (v : Value) : ∀ (k : Nat) (vs : Nat → Value) (a : Act), (∀ o ∈ l, ∀ x, o.dst = some x → d ≠ some x) → (putAll vs l k a).put d v = putAll vs l k (a.put d v) := by
  induction l with
  | nil => intro k vs a h; rfl
  | cons o l ih =>
    intro k vs a h
    rw [putAll, putAll, ih _ _ _ (fun o' ho' => h o' (List.mem_cons_of_mem _ ho'))]
    rw [Act.put_comm a (vs k) v (fun x hx => h o List.mem_cons_self x hx)]
theorem putAll_upd {n : Nat} (l : List Oper) : ∀ (k i : Nat) (vs : Nat → Value) (a : Act) (v : Value), monoB n l k = true → (hi : i < l.length) → (putAll vs l k a).put l[i].dst v = putAll (upd vs (k + i) v) l k a := by
  induction l with
  | nil => intro k i vs a v h hi; cases hi
  | cons o l ih =>
    intro k i vs a v h hi
    simp only [monoB, Bool.and_eq_true] at h
    obtain ⟨⟨_, h1⟩, h2⟩ := h
    cases i with
    | zero =>
      simp only [List.getElem_cons_zero, Nat.add_zero]
      rw [putAll, putAll, upd_same, putAll_put_far, put_put]
      · exact putAll_congr _ _ _ _ _ fun j hj => (upd_ne _ _ _ (by omega)).symm
      · intro o' ho' x hx he
        rw [he] at h1
        simp only [Bool.and_eq_true, List.all_eq_true] at h1
        have := h1.2 o' ho'
        rw [hx] at this
        simp at this
    | succ i =>
      simp only [List.getElem_cons_succ]
      rw [putAll, putAll, upd_ne _ _ _ (by omega), ih (k + 1) i _ _ _ h2 (by simpa using hi), show k + 1 + i = k + (i + 1) by omega]
theorem putAll_size (l : List Oper) : ∀ (k : Nat) (vs : Nat → Value) (a : Act), (putAll vs l k a).tmps.size = a.tmps.size ∧ (putAll vs l k a).defers = a.defers := by
  induction l with
  | nil => intro k vs a; exact ⟨rfl, rfl⟩
  | cons o l ih =>
    intro k vs a
    rw [putAll]
    obtain ⟨h1, h2⟩ := ih (k + 1) vs (a.put o.dst (vs k))
    rw [h1, h2]
    unfold Act.put
    cases o.dst <;> simp
theorem monoB_at {n : Nat} (l : List Oper) : ∀ (k i : Nat), monoB n l k = true → (hi : i < l.length) → (∀ e ∈ preds l[i], e < k + i) ∧ ∀ d, l[i].dst = some d → d < n := by
  induction l with
  | nil => intro k i h hi; cases hi
  | cons o l ih =>
    intro k i h hi
    simp only [monoB, Bool.and_eq_true, List.all_eq_true, decide_eq_true_eq] at h
    obtain ⟨⟨h0, h1⟩, h2⟩ := h
    cases i with
    | zero =>
      refine ⟨fun e he => by simpa using h0 e he, fun d hd => ?_⟩
      simp only [List.getElem_cons_zero] at hd
      rw [hd] at h1
      simp only [Bool.and_eq_true, decide_eq_true_eq] at h1
      exact h1.1
    | succ i =>
      have := ih (k + 1) i h2 (by simpa using hi)
      rw [show k + 1 + i = k + (i + 1) by omega] at this
      exact this

def dstAt (l : List Oper) (j : Nat) : Option Tmp := (l[j]?).bind (·.dst)
def freeOf (l : List Oper) (t : Tmp) : Bool := l.all fun o => o.dst != some t

theorem putAll_far (l : List Oper) (t : Tmp) : ∀ (k : Nat) (vs : Nat → Value) (a : Act), (∀ o ∈ l, o.dst ≠ some t) → (putAll vs l k a).tmps.getD t undef = a.tmps.getD t undef := by
  induction l with
  | nil => intro k vs a h; rfl
  | cons o l ih =>
    intro k vs a h
    rw [putAll, ih _ _ _ (fun o' ho' => h o' (List.mem_cons_of_mem _ ho'))]
    have h0 := h o List.mem_cons_self
    unfold Act.put
    cases hd : o.dst with
    | none => rfl
    | some d =>
      have : d ≠ t := fun e => h0 (by rw [hd, e])
      simp [Array.getElem?_setIfInBounds_ne this]
theorem putAll_near {n : Nat} (l : List Oper) : ∀ (k j : Nat) (vs : Nat → Value) (a : Act) (t : Tmp), monoB n l k = true → a.tmps.size = n → dstAt l j = some t → (putAll vs l k a).tmps.getD t undef = vs (k + j) := by
  induction l with
  | nil => intro k j vs a t _ _ h; simp [dstAt] at h
  | cons o l ih =>
    intro k j vs a t h hsz hd
    simp only [monoB, Bool.and_eq_true] at h
    obtain ⟨⟨_, h1⟩, h2⟩ := h
    cases j with
    | zero =>
      simp only [dstAt, List.getElem?_cons_zero, Option.bind_some] at hd
      rw [putAll, putAll_far]
      · rw [hd] at h1
        simp only [Bool.and_eq_true, decide_eq_true_eq] at h1
        unfold Act.put
        rw [hd]
        subst hsz
        simp [h1.1]
      · intro o' ho' he
        rw [hd] at h1
        simp only [Bool.and_eq_true, List.all_eq_true] at h1
        have := h1.2 o' ho'
        rw [he] at this
        simp at this
    | succ j =>
      rw [putAll, ih (k + 1) j vs _ t h2 (by unfold Act.put; cases o.dst <;> simpa using hsz) (by simpa [dstAt] using hd), show k + 1 + j = k + (j + 1) by omega]

/-- The steps, one by one; 'a' is whatever frame there is: the step is told what it holds. -/
def MonoSteps (P : Program) (l : List Oper) (a0 : Act) (R : World → Prop) (T : World → World → Prop) (F : Nat → (Nat → Value) → World → Prop) : List Oper → Nat → Prop
  | [], _ => True
  | o :: rest, i => (∀ (vs : Nat → Value) (a : Act) (w : World), R w → (∀ j ∈ preds o, F j vs w) → (∀ j t, dstAt l j = some t → a.tmps.getD t undef = vs j) → (∀ t, freeOf l t = true → a.tmps.getD t undef = a0.tmps.getD t undef) →
      (∀ j t, dstAt l j = some t → (a.tmps[t]?) = some (vs j)) →
      wpList P l.toArray (oneV a (fun v w' => R w' ∧ T w w' ∧ F i (upd vs i v) w') o) [o] a w) ∧ MonoSteps P l a0 R T F rest (i + 1)

theorem MonoSteps.at {P : Program} {l : List Oper} {a0 : Act} {R : World → Prop} {T : World → World → Prop} {F : Nat → (Nat → Value) → World → Prop} (l' : List Oper) : ∀ (k i : Nat), MonoSteps P l a0 R T F l' k → (hi : i < l'.length) →
    ∀ (vs : Nat → Value) (a : Act) (w : World), R w → (∀ j ∈ preds l'[i], F j vs w) → (∀ j t, dstAt l j = some t → a.tmps.getD t undef = vs j) → (∀ t, freeOf l t = true → a.tmps.getD t undef = a0.tmps.getD t undef) →
      (∀ j t, dstAt l j = some t → (a.tmps[t]?) = some (vs j)) →
      wpList P l.toArray (oneV a (fun v w' => R w' ∧ T w w' ∧ F (k + i) (upd vs (k + i) v) w') l'[i]) [l'[i]] a w := by
  induction l' with
  | nil => intro k i _ hi; cases hi
  | cons o l' ih =>
    intro k i h hi
    cases i with
    | zero => exact h.1
    | succ i =>
      have := ih (k + 1) i h.2 (by simpa using hi)
      rw [show k + 1 + i = k + (i + 1) by omega] at this
      exact this

theorem wp_of_one {P : Program} {o : Oper} {a : Act} {w : World} {G : Value → World → Prop} {ops : Array Oper} {i : Nat} {Q : Exit → Act → World → Prop} {K : Act → World → Prop}
    (ho : ops[i]? = some o) (hK : ∀ v w', G v w' → K (a.put o.dst v) w') (h : wpList P ops (oneV a G o) [o] a w) : wpOp P ops Q i K a w := by
  have hnl : ¬ LetsOut (oneV a G o) := fun ⟨_, _, h⟩ => h
  unfold wpList at h
  unfold wpOp
  simp only [ho]
  have hput : ∀ a' w', wpList P ops (oneV a G o) [] a' w' → K a' w' := fun a' w' ⟨v, he, hG⟩ => by
    rw [he]; exact hK v w' hG
  by_cases hw : Region.wanted o (yielded ops a.tmps) = true
  · simp only [hw, if_true] at h ⊢
    rcases h with h | ⟨_, h⟩
    · refine .inl ?_
      unfold Oper.wp at h ⊢
      generalize (execOp a.eval o).run P w = r at h
      cases r with
      | halt x w' => cases x <;> simp only [Oper.upon] at h ⊢ <;> first | exact h.elim | exact h
      | ok nx w' =>
        cases nx <;> simp only [Oper.upon] at h ⊢
        case value v => exact hput _ _ h
        case skip => exact hput _ _ h
        case defer d => exact hput _ _ h
        case enter f args =>
          refine h.mono fun e w'' he => ?_
          cases e with
          | returned v => exact hput _ _ he
          | panicked c => exact he.elim
          | outgrown => exact (hnl he).elim
        case row r args => exact h.mono fun v w'' he => hput _ _ he
    · exact (hnl h).elim
  · simp only [hw] at h ⊢
    exact hput _ _ h

/-- How many are not listed yet. -/
def undone (l : List Bool) : Nat := l.count false
theorem undone_set (l : List Bool) : ∀ i, l.getD i true = false → undone (l.set i true) + 1 = undone l := by
  unfold undone
  induction l with
  | nil => intro i h; simp at h
  | cons b l ih =>
    intro i h
    cases i with
    | zero => simp at h; subst h; simp
    | succ i =>
      have := ih i (by simpa using h)
      simp only [List.set_cons_succ, List.count_cons]
      omega
theorem undone_pos (l : List Bool) (h : undone l = 0) : ∀ i, l.getD i true = true := by
  intro i
  unfold undone at h
  rw [List.count_eq_zero] at h
  by_cases hi : i < l.length
  · simp only [List.getD_eq_getElem?_getD, List.getElem?_eq_getElem hi, Option.getD_some]
    cases hb : l[i] with
    | true => rfl
    | false => exact absurd (hb ▸ List.getElem_mem hi) h
  · simp [List.getElem?_eq_none (by omega : l.length ≤ i)]

theorem wpAny_mono {P : Program} {n : Nat} {l : List Oper} {a0 : Act} {R : World → Prop} {T : World → World → Prop} {F : Nat → (Nat → Value) → World → Prop} {Q : Exit → Act → World → Prop}
    (hB : monoB n l 0 = true) (hsz : a0.tmps.size = n)
    (hloc : ∀ k (hk : k < l.length) vs vs' w, vs k = vs' k → (∀ j ∈ preds l[k], vs j = vs' j) → F k vs w → F k vs' w)
    (hst : ∀ k vs w w', R w → T w w' → F k vs w → F k vs w')
    (hsteps : MonoSteps P l a0 R T F l 0)
    (hend : ∀ vs w, R w → (∀ k, k < l.length → F k vs w) → Q .normal (putAll vs l 0 a0) w) :
    ∀ (f : Nat) (listed : Array Bool) (vs : Nat → Value) (w : World), listed.size = l.length → undone listed.toList = f → R w → (∀ k (hk : k < l.length), listed.getD k true = true → F k vs w ∧ ∀ j ∈ preds l[k], listed.getD j true = true) →
      wpAny P .any l.toArray Q f listed (putAll vs l 0 a0) w := by
  have hgl : ∀ (A : Array Bool) i, A.getD i true = A.toList.getD i true := fun A i => by simp
  have hget : ∀ i (hi : i < l.length), l.toArray[i]? = some l[i] := fun i hi => by simp [hi]
  have hbt : ∀ (A : Array Bool) i, i < l.length → A.size = l.length → (A.getD i false = true ↔ A.getD i true = true) := fun A i hi hA => by
    have : i < A.size := by omega
    simp [this]
  have hpre : ∀ (A : Array Bool) i (hi : i < l.length), A.size = l.length → ((∀ j ∈ preds l[i], A.getD j true = true) ↔ ∀ e ∈ l[i].after, Region.binds .any e = true → A.getD e.on false = true) := fun A i hi hA => by
    have hlt := (monoB_at l 0 i hB hi).1
    constructor
    · intro h e he hb
      have hm : e.on ∈ preds l[i] := List.mem_map.2 ⟨e, List.mem_filter.2 ⟨by simpa using he, hb⟩, rfl⟩
      exact (hbt A _ (by have := hlt _ hm; omega) hA).2 (h _ hm)
    · intro h j hj
      have := hlt j hj
      obtain ⟨e, he, rfl⟩ := List.mem_map.1 hj
      obtain ⟨he, hb⟩ := List.mem_filter.1 he
      exact (hbt A _ (by omega) hA).1 (h e (by simpa using he) hb)
  have hnone : ∀ (A : Array Bool), A.size = l.length → Region.ready .any l.toArray A = [] → ∀ k, k < l.length → A.getD k true = true := fun A hA h0 k => by
    induction k using Nat.strongRecOn with
    | ind k ih =>
      intro hk
      cases hc : A.getD k true with
      | true => rfl
      | false =>
        exfalso
        have : k ∈ Region.ready .any l.toArray A := mem_ready.2 ⟨hc, _, hget k hk, (hpre A k hk hA).1 fun j hj => ih j (by have := (monoB_at l 0 k hB hk).1 j hj; omega) (by have := (monoB_at l 0 k hB hk).1 j hj; omega)⟩
        rw [h0] at this
        cases this
  intro f
  induction f with
  | zero =>
    intro listed vs w hs hu hR hF
    have hall := undone_pos _ hu
    refine ⟨?_, hend vs w hR fun k hk => (hF k hk (by rw [hgl]; exact hall k)).1⟩
    rw [List.eq_nil_iff_forall_not_mem]
    intro i hi
    have := (mem_ready.1 hi).1
    rw [hgl, hall] at this
    cases this
  | succ f ih =>
    intro listed vs w hs hu hR hF
    refine ⟨fun h0 => hend vs w hR fun k hk => (hF k hk (hnone listed hs h0 k hk)).1, fun i hi => ?_⟩
    obtain ⟨hun, oi, hoi, hall⟩ := mem_ready.1 hi
    have hil : i < l.length := by
      have := (Array.getElem?_eq_some_iff.1 hoi).1
      simpa using this
    have hoi' := hget i hil
    have hpr := (hpre listed i hil hs).2 (by rw [hoi'] at hoi; cases hoi; exact hall)
    have hat := monoB_at l 0 i hB hil
    have hnear := fun j t h => by have := putAll_near l 0 j vs a0 t hB hsz h; rwa [Nat.zero_add] at this
    have hone := hsteps.at l 0 i hil vs (putAll vs l 0 a0) w hR (fun j hj => (hF j (by have := hat.1 j hj; omega) (hpr j hj)).1) hnear (fun t ht => putAll_far l t 0 vs a0 fun o ho => by
      have := List.all_eq_true.1 ht o ho
      simpa using this) fun j t h => by
        have h1 := hnear j t h
        have hlt : t < (putAll vs l 0 a0).tmps.size := by
          rw [(putAll_size l 0 vs a0).1, hsz]
          unfold dstAt at h
          cases hj : l[j]? with
          | none => rw [hj] at h; cases h
          | some o =>
            obtain ⟨hjl, hje⟩ := List.getElem?_eq_some_iff.1 hj
            rw [hj] at h
            exact (monoB_at l 0 j hB hjl).2 t (by rw [hje]; exact h)
        rw [Array.getD_eq_getD_getElem?, Array.getElem?_eq_getElem hlt, Option.getD_some] at h1
        rw [Array.getElem?_eq_getElem hlt, h1]
    rw [Nat.zero_add] at hone
    refine wp_of_one hoi' (fun v w' hG => ?_) hone
    obtain ⟨hR', hT, hFi⟩ := hG
    rw [putAll_upd l 0 i vs a0 v hB hil, Nat.zero_add]
    refine ih _ _ _ (by simpa using hs) ?_ hR' fun k hk hkl => ?_
    · have := undone_set listed.toList i (by rw [← hgl]; exact hun)
      rw [Array.toList_setIfInBounds]
      omega
    · by_cases hki : k = i
      · subst hki
        refine ⟨hFi, fun j hj => ?_⟩
        rw [getD_set_ne true (by have := hat.1 j hj; omega : k ≠ j)]
        exact hpr j hj
      · rw [getD_set_ne true (Ne.symm hki)] at hkl
        obtain ⟨h1, h2⟩ := hF k hk hkl
        have hne : ∀ j ∈ preds l[k], j ≠ i := fun j hj he => by have := h2 j hj; rw [he, hun] at this; cases this
        refine ⟨hloc k hk vs _ w' (upd_ne _ _ _ hki).symm (fun j hj => (upd_ne _ _ _ (hne j hj)).symm) (hst k vs w w' hR hT h1), fun j hj => ?_⟩
        rw [getD_set_ne true (Ne.symm (hne j hj))]
        exact h2 j hj

/-- THE LAW. -/
theorem wp_region_mono {P : Program} {id n : Nat} {l : List Oper} {a0 : Act} {w0 : World} {Q : Exit → Act → World → Prop} (R : World → Prop) (T : World → World → Prop) (F : Nat → (Nat → Value) → World → Prop)
    (hm : P.follows .mixedOrders = true) (hsz : a0.tmps.size = n) (hB : monoB n l 0 = true) (h0 : R { w0 with drawn := w0.drawn + 1 })
    (hloc : ∀ k (hk : k < l.length) vs vs' w, vs k = vs' k → (∀ j ∈ preds l[k], vs j = vs' j) → F k vs w → F k vs' w)
    (hst : ∀ k vs w w', R w → T w w' → F k vs w → F k vs w')
    (hsteps : MonoSteps P l a0 R T F l 0)
    (hend : ∀ vs w, R w → (∀ k, k < l.length → F k vs w) → Q .normal (putAll vs l 0 a0) w) : (Code.region id l.toArray true).wp P Q a0 w0 := by
  refine wp_region_any hm ?_
  have hst0 : putAll (fun k => (l[k]?).elim undef (fun o => got o a0)) l 0 a0 = a0 := putAll_start l a0 0 _ fun j hj => by simp [hj]
  have := wpAny_mono (P := P) (Q := Q) hB hsz hloc hst hsteps hend l.length (Array.replicate l.length false) (fun k => (l[k]?).elim undef (fun o => got o a0)) _ (by simp) (by simp [undone]) h0 (fun k hk h => by
    simp [hk] at h)
  rw [hst0] at this
  simpa using this

/-- The plain form: each operation's fact looks at its own value; what is done makes memory and draws, and leaves what was there. -/
theorem wp_region_up {P : Program} {id : Nat} {l : List Oper} {a0 : Act} {w0 : World} {Q : Exit → Act → World → Prop} (n : Nat) (F : List (Value → World → Prop))
    (hm : P.follows .mixedOrders = true) (hsz : a0.tmps.size = n) (hB : monoB n l 0 = true)
    (hst : ∀ w w', Below w0.heap.size w0 w → Below w.heap.size w w' → ∀ v, ∀ f ∈ F, f v w → f v w')
    (hsteps : MonoSteps P l a0 (fun w => Below w0.heap.size w0 w) (fun w w' => Below w.heap.size w w') (fun k vs w => (F.getD k (fun _ _ => True)) (vs k) w) l 0)
    (hend : ∀ vs w, Below w0.heap.size w0 w → (∀ k, k < l.length → (F.getD k (fun _ _ => True)) (vs k) w) → Q .normal (putAll vs l 0 a0) w) : (Code.region id l.toArray true).wp P Q a0 w0 := by
  refine wp_region_mono _ _ _ hm hsz hB ?_ ?_ ?_ hsteps hend
  · exact (gr_grown w0 1 #[]).below
  · intro k hk vs vs' w h _ hF; rw [← h]; exact hF
  · intro k vs w w' hR hT hF
    by_cases hk : k < F.length
    · simp only [List.getD_eq_getElem?_getD, List.getElem?_eq_getElem hk, Option.getD_some] at hF ⊢
      exact hst w w' hR hT _ _ (List.getElem_mem hk) hF
    · simp only [List.getD_eq_getElem?_getD, List.getElem?_eq_none (Nat.not_lt.1 hk), Option.getD_none]


end Go.Proofs.Ytojmkgllbhbeiaa
