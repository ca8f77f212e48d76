/-
  The law of regions by facts, for a region in the order of the text.
  Regions that draw their order: one statement about what is done so far, kept by each operation whenever it may run.
  Parts of the reference.
  Parts of the reference, of no sets; the classes that both tell, in plain Lean.
  A drawn region whose last operation (a store, say) waits for all the others.
  Ranging over a function whose rounds keep all cells but those of one block; the iterator 'members'.
  WALKS of package alphabet: made.
-/
import Derived.Test.YtojmkgllbhbeiaaK3
import Derived.Test.YtojmkgllbhbeiaaK4
import Derived.Test.YtojmkgllbhbeiaaK2
namespace Go.Proofs.Ytojmkgllbhbeiaa
open Go.RowKit

theorem wpList_of_one {P : Program} {o : Oper} {a : Act} {w : World} {G : Value → World → Prop} {ops : Array Oper} {Q : Exit → Act → World → Prop} {rest : List Oper}
    (hK : ∀ v w', G v w' → wpList P ops Q rest (a.put o.dst v) w') (h : wpList P ops (oneV a G o) [o] a w) : wpList P ops Q (o :: rest) a w := by
  have hnl : ¬ LetsOut (oneV a G o) := fun ⟨_, _, h⟩ => h
  unfold wpList at h ⊢
  have hput : ∀ a' w', wpList P ops (oneV a G o) [] a' w' → wpList P ops Q rest a' w' := fun a' w' ⟨v, he, hG⟩ => by
    rw [he]; exact hK v w' hG
  by_cases hw : Region.wanted o (yielded ops a.tmps) = true
  · simp only [hw, if_true] at h ⊢
    rcases h with h | ⟨_, h⟩
    · refine .inl ?_
      unfold Oper.wp at h ⊢
      generalize (execOp a.eval o).run P w = r at h
      cases r with
      | halt x w' => cases x <;> simp only [Oper.upon] at h ⊢ <;> first | exact h.elim | exact h
      | ok nx w' =>
        cases nx <;> simp only [Oper.upon] at h ⊢
        case value v => exact hput _ _ h
        case skip => exact hput _ _ h
        case defer d => exact hput _ _ h
        case enter f args =>
          refine h.mono fun e w'' he => ?_
          cases e with
          | returned v => exact hput _ _ he
          | panicked c => exact he.elim
          | outgrown => exact (hnl he).elim
        case row r args => exact h.mono fun v w'' he => hput _ _ he
    · exact (hnl h).elim
  · simp only [hw] at h ⊢
    exact hput _ _ h

theorem wpList_facts {P : Program} {n : Nat} {l : List Oper} {a0 : Act} {w0 : World} {Q : Exit → Act → World → Prop} {F : List Fact} (hB : monoB n l 0 = true) (hsz : a0.tmps.size = n)
    (hsteps : MonoSteps P l a0 (fun w => Below w0.heap.size w0 w) (fun w w' => Below w.heap.size w w') (fun k vs w => (F.getD k .any).says (vs k) w) l 0)
    (hend : ∀ vs w, Below w0.heap.size w0 w → (∀ k, k < l.length → (F.getD k .any).says (vs k) w) → Q .normal (putAll vs l 0 a0) w) :
    ∀ (r : List Oper) (k : Nat) (vs : Nat → Value) (w : World), l.drop k = r → Below w0.heap.size w0 w → (∀ j, j < k → j < l.length → (F.getD j .any).says (vs j) w) → wpList P l.toArray Q r (putAll vs l 0 a0) w := by
  intro r
  induction r with
  | nil =>
    intro k vs w hr hR hF
    have hk : l.length ≤ k := by
      have := congrArg List.length hr
      simp at this; omega
    exact hend vs w hR fun j hj => hF j (by omega) hj
  | cons o r ih =>
    intro k vs w hr hR hF
    have hk : k < l.length := by
      have := congrArg List.length hr
      simp at this; omega
    have ho : l[k] = o := by
      have := List.drop_eq_getElem_cons hk
      rw [hr] at this
      exact (List.cons.inj this).1.symm
    have hr' : l.drop (k + 1) = r := by
      have := List.drop_eq_getElem_cons hk
      rw [hr] at this
      exact (List.cons.inj this).2.symm
    have hat := monoB_at l 0 k hB hk
    have hnear := fun j t h => by have := putAll_near l 0 j vs a0 t hB hsz h; rwa [Nat.zero_add] at this
    have hone := hsteps.at l 0 k hk vs (putAll vs l 0 a0) w hR (fun j hj => hF j (by have := hat.1 j hj; omega) (by have := hat.1 j hj; omega)) hnear (fun t ht => putAll_far l t 0 vs a0 fun o ho => by
      have := List.all_eq_true.1 ht o ho
      simpa using this) fun j t h => by
        have h1 := hnear j t h
        have hlt : t < (putAll vs l 0 a0).tmps.size := by
          rw [(putAll_size l 0 vs a0).1, hsz]
          unfold dstAt at h
          cases hj : l[j]? with
          | none => rw [hj] at h; cases h
          | some o =>
            obtain ⟨hjl, hje⟩ := List.getElem?_eq_some_iff.1 hj
            rw [hj] at h
            exact (monoB_at l 0 j hB hjl).2 t (by rw [hje]; exact h)
        rw [Array.getD_eq_getD_getElem?, Array.getElem?_eq_getElem hlt, Option.getD_some] at h1
        rw [Array.getElem?_eq_getElem hlt, h1]
    rw [Nat.zero_add] at hone
    rw [ho] at hone
    refine wpList_of_one (fun v w' hG => ?_) hone
    obtain ⟨hR', hT, hFi⟩ := hG
    have hup := putAll_upd l 0 k vs a0 v hB hk
    rw [ho, Nat.zero_add] at hup
    rw [hup]
    refine ih (k + 1) _ _ hr' hR' fun j hj hjl => ?_
    by_cases hjk : j = k
    · subst hjk; exact hFi
    · rw [upd_ne _ _ _ hjk]
      exact Fact.later _ (hF j (by omega) hjl) hT

/-- THE LAW. -/
theorem wp_region_line {P : Program} {id : Nat} {l : List Oper} {a0 : Act} {w0 : World} {Q : Exit → Act → World → Prop} (n : Nat) (F : List Fact)
    (hsz : a0.tmps.size = n) (hB : monoB n l 0 = true)
    (hsteps : MonoSteps P l a0 (fun w => Below w0.heap.size w0 w) (fun w w' => Below w.heap.size w w') (fun k vs w => (F.getD k .any).says (vs k) w) l 0)
    (hend : ∀ vs w, Below w0.heap.size w0 w → (∀ k, k < l.length → (F.getD k .any).says (vs k) w) → Q .normal (putAll vs l 0 a0) w) : (Code.region id l.toArray false).wp P Q a0 w0 := by
  refine wp_region_lit ?_
  have hst0 : putAll (fun k => (l[k]?).elim undef (fun o => got o a0)) l 0 a0 = a0 := putAll_start l a0 0 _ fun j hj => by simp [hj]
  have := wpList_facts (P := P) (Q := Q) hB hsz hsteps hend l 0 (fun k => (l[k]?).elim undef (fun o => got o a0)) w0 rfl (Below.refl _ _) (fun j hj => by omega)
  rwa [hst0] at this
end Go.Proofs.Ytojmkgllbhbeiaa
namespace Go.Proofs.Ytojmkgllbhbeiaa
open Go.RowKit

def done (L : Nat → Bool) (i : Nat) : Nat → Bool := fun k => if k = i then true else L k
theorem done_same (L : Nat → Bool) (i : Nat) : done L i i = true := by simp [done]
theorem done_ne (L : Nat → Bool) {i k : Nat} (h : k ≠ i) : done L i k = L k := by simp [done, h]

theorem wpList_of_one_mono {P : Program} {o : Oper} {a : Act} {w : World} {G G' : Value → World → Prop} {ops : Array Oper} (hK : ∀ v w', G v w' → G' v w') (h : wpList P ops (oneV a G o) [o] a w) : wpList P ops (oneV a G' o) [o] a w :=
  wpList_of_one (rest := []) (fun v w' hG => ⟨v, rfl, hK v w' hG⟩) h
def InvStep (P : Program) (l : List Oper) (a0 : Act) (I : (Nat → Bool) → (Nat → Value) → World → Prop) (o : Oper) (i : Nat) : Prop :=
  ∀ (L : Nat → Bool) (vs : Nat → Value) (a : Act) (w : World), L i = false → (∀ j ∈ preds o, L j = true) → I L vs w → (∀ t, freeOf l t = true → a.tmps.getD t undef = a0.tmps.getD t undef) →
    (∀ j t, dstAt l j = some t → a.tmps[t]? = some (vs j)) → wpList P l.toArray (oneV a (fun v w' => I (done L i) (upd vs i v) w') o) [o] a w
def InvSteps (P : Program) (l : List Oper) (a0 : Act) (I : (Nat → Bool) → (Nat → Value) → World → Prop) : List Oper → Nat → Prop
  | [], _ => True
  | o :: r, i => InvStep P l a0 I o i ∧ InvSteps P l a0 I r (i + 1)
theorem InvSteps.at {P : Program} {l : List Oper} {a0 : Act} {I : (Nat → Bool) → (Nat → Value) → World → Prop} : ∀ (r : List Oper) (k i : Nat), InvSteps P l a0 I r k → (hi : i < r.length) → InvStep P l a0 I r[i] (k + i)
  | [], _, _, _, hi => by cases hi
  | _ :: r, k, 0, h, _ => h.1
  | _ :: r, k, i + 1, h, hi => by
    have := InvSteps.at r (k + 1) i h.2 (by simpa using hi)
    rw [show k + 1 + i = k + (i + 1) by omega] at this
    exact this

theorem wpAny_inv {P : Program} {n : Nat} {l : List Oper} {a0 : Act} {I : (Nat → Bool) → (Nat → Value) → World → Prop} {Q : Exit → Act → World → Prop}
    (hB : monoB n l 0 = true) (hsz : a0.tmps.size = n) (hloc : ∀ L L' vs w, (∀ k, k < l.length → L k = L' k) → I L vs w → I L' vs w) (hsteps : InvSteps P l a0 I l 0)
    (hend : ∀ L vs w, (∀ k, k < l.length → L k = true) → I L vs w → Q .normal (putAll vs l 0 a0) w) :
    ∀ (f : Nat) (listed : Array Bool) (vs : Nat → Value) (w : World), listed.size = l.length → undone listed.toList = f → I (fun k => listed.getD k true) vs w →
      wpAny P .any l.toArray Q f listed (putAll vs l 0 a0) w := by
  have hgl : ∀ (A : Array Bool) i, A.getD i true = A.toList.getD i true := fun A i => by simp
  have hget : ∀ i (hi : i < l.length), l.toArray[i]? = some l[i] := fun i hi => by simp [hi]
  have hbt : ∀ (A : Array Bool) i, i < l.length → A.size = l.length → (A.getD i false = true ↔ A.getD i true = true) := fun A i hi hA => by
    have : i < A.size := by omega
    simp [this]
  have hpre : ∀ (A : Array Bool) i (hi : i < l.length), A.size = l.length → ((∀ j ∈ preds l[i], A.getD j true = true) ↔ ∀ e ∈ l[i].after, Region.binds .any e = true → A.getD e.on false = true) := fun A i hi hA => by
    have hlt := (monoB_at l 0 i hB hi).1
    constructor
    · intro h e he hb
      have hm : e.on ∈ preds l[i] := List.mem_map.2 ⟨e, List.mem_filter.2 ⟨by simpa using he, hb⟩, rfl⟩
      exact (hbt A _ (by have := hlt _ hm; omega) hA).2 (h _ hm)
    · intro h j hj
      have := hlt j hj
      obtain ⟨e, he, rfl⟩ := List.mem_map.1 hj
      obtain ⟨he, hb⟩ := List.mem_filter.1 he
      exact (hbt A _ (by omega) hA).1 (h e (by simpa using he) hb)
  have hnone : ∀ (A : Array Bool), A.size = l.length → Region.ready .any l.toArray A = [] → ∀ k, k < l.length → A.getD k true = true := fun A hA h0 k => by
    induction k using Nat.strongRecOn with
    | ind k ih =>
      intro hk
      cases hc : A.getD k true with
      | true => rfl
      | false =>
        exfalso
        have : k ∈ Region.ready .any l.toArray A := mem_ready.2 ⟨hc, _, hget k hk, (hpre A k hk hA).1 fun j hj => ih j (by have := (monoB_at l 0 k hB hk).1 j hj; omega) (by have := (monoB_at l 0 k hB hk).1 j hj; omega)⟩
        rw [h0] at this
        cases this
  intro f
  induction f with
  | zero =>
    intro listed vs w hs hu hI
    have hall := undone_pos _ hu
    refine ⟨?_, hend _ vs w (fun k _ => by rw [hgl]; exact hall k) hI⟩
    rw [List.eq_nil_iff_forall_not_mem]
    intro i hi
    have := (mem_ready.1 hi).1
    rw [hgl, hall] at this
    cases this
  | succ f ih =>
    intro listed vs w hs hu hI
    refine ⟨fun h0 => hend _ vs w (fun k hk => hnone listed hs h0 k hk) hI, fun i hi => ?_⟩
    obtain ⟨hun, oi, hoi, hall⟩ := mem_ready.1 hi
    have hil : i < l.length := by
      have := (Array.getElem?_eq_some_iff.1 hoi).1
      simpa using this
    have hoi' := hget i hil
    have hpr := (hpre listed i hil hs).2 (by rw [hoi'] at hoi; cases hoi; exact hall)
    have hnear := fun j t h => by have := putAll_near l 0 j vs a0 t hB hsz h; rwa [Nat.zero_add] at this
    have hone := hsteps.at l 0 i hil (fun k => listed.getD k true) vs (putAll vs l 0 a0) w (by rw [Nat.zero_add]; exact hun) hpr hI (fun t ht => putAll_far l t 0 vs a0 fun o ho => by
      have := List.all_eq_true.1 ht o ho
      simpa using this) fun j t h => by
        have h1 := hnear j t h
        have hlt : t < (putAll vs l 0 a0).tmps.size := by
          rw [(putAll_size l 0 vs a0).1, hsz]
          unfold dstAt at h
          cases hj : l[j]? with
          | none => rw [hj] at h; cases h
          | some o =>
            obtain ⟨hjl, hje⟩ := List.getElem?_eq_some_iff.1 hj
            rw [hj] at h
            exact (monoB_at l 0 j hB hjl).2 t (by rw [hje]; exact h)
        rw [Array.getD_eq_getD_getElem?, Array.getElem?_eq_getElem hlt, Option.getD_some] at h1
        rw [Array.getElem?_eq_getElem hlt, h1]
    rw [Nat.zero_add] at hone
    refine wp_of_one hoi' (fun v w' hG => ?_) hone
    rw [putAll_upd l 0 i vs a0 v hB hil, Nat.zero_add]
    refine ih _ _ _ (by simpa using hs) ?_ (hloc _ _ _ _ (fun k hk => ?_) hG)
    · have := undone_set listed.toList i (by rw [← hgl]; exact hun)
      rw [Array.toList_setIfInBounds]
      omega
    · by_cases hki : k = i
      · subst hki
        rw [done_same]
        simp [hs, hk]
      · rw [done_ne _ hki, getD_set_ne true (Ne.symm hki)]

/-- THE LAW. -/
theorem wp_region_inv {P : Program} {id : Nat} {l : List Oper} {a0 : Act} {w0 : World} {Q : Exit → Act → World → Prop} (n : Nat) (I : (Nat → Bool) → (Nat → Value) → World → Prop)
    (hm : P.follows .mixedOrders = true) (hsz : a0.tmps.size = n) (hB : monoB n l 0 = true) (hloc : ∀ L L' vs w, (∀ k, k < l.length → L k = L' k) → I L vs w → I L' vs w)
    (h0 : ∀ L vs, (∀ k, k < l.length → L k = false) → (∀ j t, dstAt l j = some t → vs j = a0.tmps.getD t undef) → I L vs { w0 with drawn := w0.drawn + 1 }) (hsteps : InvSteps P l a0 I l 0)
    (hend : ∀ L vs w, (∀ k, k < l.length → L k = true) → I L vs w → Q .normal (putAll vs l 0 a0) w) : (Code.region id l.toArray true).wp P Q a0 w0 := by
  refine wp_region_any hm ?_
  have hst0 : putAll (fun k => (l[k]?).elim undef (fun o => got o a0)) l 0 a0 = a0 := putAll_start l a0 0 _ fun j hj => by simp [hj]
  have := wpAny_inv (P := P) (Q := Q) hB hsz hloc hsteps hend l.length (Array.replicate l.length false) (fun k => (l[k]?).elim undef (fun o => got o a0)) { w0 with drawn := w0.drawn + 1 } (by simp) (by simp [undone]) (h0 _ _ (fun k hk => by simp [hk]) fun j t h => by
    unfold dstAt at h
    cases hj : l[j]? with
    | none => rw [hj] at h; cases h
    | some o =>
      rw [hj] at h
      have h : o.dst = some t := h
      show got o a0 = _
      unfold got
      rw [h])
  rw [hst0] at this
  simpa using this

/-- Operation j waits for operation i. -/
def waitsB (l : List Oper) (i j : Nat) : Bool := match l[j]? with | some o => (preds o).contains i | none => false

/-- The steps of a region whose operations also read slots that later ones write. -/
def OldSteps (P : Program) (l : List Oper) (a0 : Act) (w0 : World) (F : List Fact) : List Oper → Nat → Prop
  | [], _ => True
  | o :: rest, i => (∀ (vs : Nat → Value) (a : Act) (w : World), Below w0.heap.size w0 w → (∀ j ∈ preds o, (F.getD j .any).says (vs j) w) → (∀ t, freeOf l t = true → a.tmps.getD t undef = a0.tmps.getD t undef) →
      (∀ j t, dstAt l j = some t → (a.tmps[t]?) = some (vs j)) → (∀ j t, dstAt l j = some t → waitsB l i j = true → a.tmps.getD t undef = a0.tmps.getD t undef) →
      wpList P l.toArray (oneV a (fun v w' => Below w0.heap.size w0 w' ∧ Below w.heap.size w w' ∧ (F.getD i .any).says (upd vs i v i) w') o) [o] a w) ∧ OldSteps P l a0 w0 F rest (i + 1)
def OldI (l : List Oper) (a0 : Act) (w0 : World) (F : List Fact) (L : Nat → Bool) (vs : Nat → Value) (w : World) : Prop :=
  Below w0.heap.size w0 w ∧ (∀ k, k < l.length → L k = true → (F.getD k .any).says (vs k) w) ∧ (∀ j t, dstAt l j = some t → L j = false → vs j = a0.tmps.getD t undef) ∧
    ∀ j (hj : j < l.length), L j = true → ∀ e ∈ preds l[j], L e = true

theorem dstAt_lt {l : List Oper} {j : Nat} {t : Tmp} (h : dstAt l j = some t) : j < l.length := by
  unfold dstAt at h
  cases hj : l[j]? with
  | none => rw [hj] at h; cases h
  | some o => exact (List.getElem?_eq_some_iff.1 hj).1

theorem oldSteps_inv {P : Program} {l : List Oper} {a0 : Act} {w0 : World} {F : List Fact} (hB : ∀ j (hj : j < l.length), ∀ e ∈ preds l[j], e < j) : ∀ (r : List Oper) (i : Nat), (∀ k (hk : k < r.length), l[i + k]? = some r[k]) → OldSteps P l a0 w0 F r i → InvSteps P l a0 (OldI l a0 w0 F) r i
  | [], _, _, _ => trivial
  | o :: r, i, hl, h => by
    refine ⟨fun L vs a w hL hp hI hout hget => ?_, oldSteps_inv hB r (i + 1) (fun k hk => by have := hl (k + 1) (by simpa using hk); rw [show i + 1 + k = i + (k + 1) by omega]; simpa using this) h.2⟩
    obtain ⟨hR, hF, hO, hW⟩ := hI
    have hoi : l[i]? = some o := by have := hl 0 (by simp); rw [Nat.add_zero] at this; exact this
    have hil : i < l.length := (List.getElem?_eq_some_iff.1 hoi).1
    have hio : l[i] = o := (List.getElem?_eq_some_iff.1 hoi).2
    have hpl : ∀ j ∈ preds o, j < l.length := fun j hj => by
      have := hB i hil j (by rw [hio]; exact hj); omega
    have hold : ∀ j t, dstAt l j = some t → waitsB l i j = true → a.tmps.getD t undef = a0.tmps.getD t undef := fun j t hd hw => by
      have hjl := dstAt_lt hd
      have hLj : L j = false := by
        cases hq : L j with
        | false => rfl
        | true =>
          unfold waitsB at hw
          rw [List.getElem?_eq_getElem hjl] at hw
          have := hW j hjl hq i (by simpa using hw)
          rw [hL] at this; cases this
      have h1 := hget j t hd
      rw [Array.getD_eq_getD_getElem?, h1]
      exact hO j t hd hLj
    have hone := h.1 vs a w hR (fun j hj => hF j (hpl j hj) (hp j hj)) hout hget hold
    refine wpList_of_one_mono (fun v w' hG => ?_) hone
    obtain ⟨h1, h2, h3⟩ := hG
    refine ⟨h1, fun k hk hLk => ?_, fun j t hd hLj => ?_, fun j hj hLj e he => ?_⟩
    · by_cases hki : k = i
      · subst hki; exact h3
      · rw [done_ne _ hki] at hLk
        rw [upd_ne _ _ _ hki]
        exact Fact.later _ (hF k hk hLk) h2
    · by_cases hji : j = i
      · subst hji; rw [done_same] at hLj; cases hLj
      · rw [done_ne _ hji] at hLj
        rw [upd_ne _ _ _ hji]
        exact hO j t hd hLj
    · by_cases hji : j = i
      · subst hji
        rw [hio] at he
        have := hp e he
        by_cases hei : e = j
        · rw [hei, done_same]
        · rw [done_ne _ hei]; exact this
      · rw [done_ne _ hji] at hLj
        have := hW j hj hLj e he
        by_cases hei : e = i
        · rw [hei, done_same]
        · rw [done_ne _ hei]; exact this

/-- THE LAW by facts, where an operation may read what a later one overwrites. -/
theorem wp_region_old {P : Program} {id : Nat} {l : List Oper} {a0 : Act} {w0 : World} {Q : Exit → Act → World → Prop} (n : Nat) (F : List Fact)
    (hm : P.follows .mixedOrders = true) (hsz : a0.tmps.size = n) (hB : monoB n l 0 = true) (hsteps : OldSteps P l a0 w0 F l 0)
    (hend : ∀ vs w, Below w0.heap.size w0 w → (∀ k, k < l.length → (F.getD k .any).says (vs k) w) → Q .normal (putAll vs l 0 a0) w) : (Code.region id l.toArray true).wp P Q a0 w0 := by
  have hpr : ∀ j (hj : j < l.length), ∀ e ∈ preds l[j], e < j := fun j hj e he => by have := (monoB_at l 0 j hB hj).1 e he; omega
  refine wp_region_inv n (OldI l a0 w0 F) hm hsz hB ?_ ?_ (oldSteps_inv hpr l 0 (fun k hk => by simp [hk]) hsteps) ?_
  · rintro L L' vs w hL ⟨h1, h2, h3, h4⟩
    refine ⟨h1, fun k hk hLk => h2 k hk (by rw [hL k hk]; exact hLk), fun j t hd hLj => h3 j t hd (by rw [hL j (dstAt_lt hd)]; exact hLj), fun j hj hLj e he => ?_⟩
    rw [← hL e (by have := hpr j hj e he; omega)]
    exact h4 j hj (by rw [hL j hj]; exact hLj) e he
  · intro L vs hL hv
    refine ⟨(gr_grown w0 1 #[]).below, fun k hk h => ?_, fun j t hd _ => hv j t hd, fun j hj h => ?_⟩
    · rw [hL k hk] at h; cases h
    · rw [hL j hj] at h; cases h
  · rintro L vs w hL ⟨h1, h2, _, _⟩
    exact hend vs w h1 fun k hk => h2 k hk (hL k hk)
end Go.Proofs.Ytojmkgllbhbeiaa
namespace Go.Proofs.Ytojmkgllbhbeiaa
open Go.RowKit

/-- Two bytes are in the same of some sets. -/
def sameB (ss : List Nat) (c d : Nat) : Bool := ss.all fun s => s.testBit c == s.testBit d
theorem sameB_snoc (ss : List Nat) (s c d : Nat) : sameB (ss ++ [s]) c d = (sameB ss c d && (s.testBit c == s.testBit d)) := by simp [sameB]
theorem sameB_refl (ss : List Nat) (c : Nat) : sameB ss c c = true := by simp [sameB]
/-- The least byte in the same of some sets. -/
def rep (ss : List Nat) (c : Nat) : Nat := ((List.range (c + 1)).find? (sameB ss c)).getD 0
theorem rep_eq {ss : List Nat} {c j : Nat} (hj : j ≤ c) (h : sameB ss c j = true) (hm : ∀ d, d < j → sameB ss c d = false) : rep ss c = j := by
  unfold rep
  have : (List.range (c + 1)).find? (sameB ss c) = some j := by
    rw [List.find?_range_eq_some]
    exact ⟨h, List.mem_range.2 (by omega), fun d hd => by rw [hm d hd]; rfl⟩
  rw [this]; rfl
theorem bits_same (s c d : Nat) : (bitI s c == bitI s d) = (s.testBit c == s.testBit d) := by
  unfold bitI; cases s.testBit c <;> cases s.testBit d <;> rfl

theorem zero93 : ∀ w, (zeroValue 93).run Try.prog w = .ok (.agg (A256 fun _ => 0)) w := fun w => by kernel_rfl
theorem under93 : Try.prog.underlying 93 = some (.array 256 3) := by kernel_rfl
theorem size93 : (Try.prog.info? 93).map (·.size) = some 256 := by kernel_rfl
section
variable {ops : Array Oper} {rest : List Oper} {o : Oper} {a : Act} {w : World} {Q : Exit → Act → World → Prop}
theorem wp_load93 (hgd : o.guard = none) (x : Operand) (ho : o.op = .load 93 x) (g : Nat) (hx : a.eval x = .pointer (some ⟨g, 0, none⟩)) (f : Nat → Int) (hb : Blk w g (A256 f) 93)
    (h : wpList Try.prog ops Q rest (a.put o.dst (.agg (A256 f))) w) : wpList Try.prog ops Q (o :: rest) a w :=
  wpList_load_row hgd 93 x ho g hx 93 (A256 f) (0, 0) _ hb under93 rfl (by rw [size93, A256_size]) h
theorem wp_store93 (hgd : o.guard = none) (x y : Operand) (ho : o.op = .store 93 x y) (g : Nat) (hx : a.eval x = .pointer (some ⟨g, 0, none⟩)) (f f0 : Nat → Int) (hy : a.eval y = .agg (A256 f)) (hb : Blk w g (A256 f0) 93)
    (h : wpList Try.prog ops Q rest (a.put o.dst undef) (w.setRow g (A256 f))) : wpList Try.prog ops Q (o :: rest) a w :=
  wpList_store_row hgd 93 x y ho g (A256 f) hx hy 93 (A256 f0) hb (by rw [size93, A256_size]) (by rw [A256_size, A256_size]) (A256_one f) h
end
theorem res93 {fn : Func} {p : Tmp} (h : fn.results = #[.cell p 93]) (tmps : Array Value) (w : World) (g : Nat) (f : Nat → Int) (hp : tmps.getD p undef = .pointer (some ⟨g, 0, none⟩)) (hg : Blk w g (A256 f) 93) :
    (results fn tmps).run Try.prog w = .ok (.agg (A256 f)) w :=
  results_cell_row h tmps w g 93 (A256 f) (0, 0) _ hp hg under93 rfl (by rw [size93, A256_size])

/-- The cells of sets of the reference. -/
def RefCells (w : World) (b o : Nat) (ss : List Nat) : Prop := ∀ i (hi : i < ss.length) c, c < 256 → w.cell? ⟨b, o + i * 256 + c, none⟩ = some (.int .i64 (bitI ss[i] c))

set_option maxRecDepth 100000 in
set_option maxHeartbeats 4000000 in
theorem refParts_some (b o cap : Nat) (ss : List Nat) (w : World) (hb : b < w.heap.size) (hc : RefCells w b o ss) (hlen : ss.length ≤ 1000) :
    Calls Try.prog 91 #[.slice (some ⟨b, o, none⟩) ss.length cap] w fun e w' => e = .returned (.agg (A256 fun c => rep ss c)) ∧ Below w.heap.size w w' := by
  have hz := zero93
  replace hc := Lib.hid hc
  go_enter Try.func91, Try.ntmps91
  go_wp2
  clear hz
  go_loopw [4] (fun i wr => ∃ k : Nat, k ≤ 256 ∧ i = .int .i64 k ∧ Blk wr w.heap.size (A256 fun _ => 0) 93 ∧ Blk wr (w.heap.size + 1) (part (fun c => (rep ss c : Nat)) k) 93 ∧ Below w.heap.size w wr) (fun i _ => 256 - (intOf i).toNat)
  case atStart => exact ⟨0, by omega, rfl, (blkOf1 w _ _).alloc _, by rw [part_zero]; exact blkOf2 w _ _ _, below2 w _ _⟩
  case round =>
    obtain ⟨k, hk, rfl, h0, h1, hB⟩ := hrel
    by_cases hlt : k < 256
    · obtain ⟨wo, rfl⟩ : ∃ wo : World, wo = wr := ⟨_, rfl⟩
      go_wp2_with fail
      go_loopw [5] (fun d wr => ∃ j : Nat, j ≤ k ∧ d = .int .i64 j ∧ Hid (∀ d, d < j → sameB ss k d = false) ∧ Below wo.heap.size wo wr) (fun d _ => 256 - (intOf d).toNat)
      case atStart => exact ⟨0, by omega, rfl, fun d hd => by omega, Below.refl _ _⟩
      case round =>
        obtain ⟨j, hj, rfl, hmin, hBj⟩ := hrel
        obtain ⟨wj, rfl⟩ : ∃ wj : World, wj = wr := ⟨_, rfl⟩
        go_wp2_with fail
        go_loopw [7, 6] (fun i sm wr => ∃ r : Nat, r ≤ ss.length ∧ i = .int .i64 r ∧ sm = .bool (sameB (ss.take r) k j) ∧ Below wj.heap.size wj wr) (fun i _ _ => ss.length - (intOf i).toNat)
        case atStart => exact ⟨0, by omega, rfl, rfl, Below.refl _ _⟩
        case round =>
          obtain ⟨r, hr, rfl, rfl, hBr⟩ := hrel
          by_cases hltr : r < ss.length
          · have hBall := hB.trans ((hBj.trans (hBr.mono hBj.size)).mono hB.size)
            have hsn := Lib.hid (show sameB (ss.take (r + 1)) k j = _ by rw [List.take_succ_eq_append_getElem hltr, sameB_snoc])
            have ck := (hBall.cell (p := ⟨b, o + r * 256 + k, none⟩) hb).trans (hc.out r hltr k hlt)
            have cj := (hBall.cell (p := ⟨b, o + r * 256 + j, none⟩) hb).trans (hc.out r hltr j (by omega))
            generalize ss[r] = t at hsn ck cj
            have hbr : b < wr.heap.size := by have := hBall.size; omega
            have ce0 : ∀ w, Below wr.heap.size wr w → w.cell? ⟨b, o + r * 256 + k, none⟩ = some (.int .i64 (bitI t k)) := fun w hw => (hw.cell (p := ⟨b, o + r * 256 + k, none⟩) hbr).trans ck
            have ce1 : ∀ w, Below wr.heap.size wr w → w.cell? ⟨b, o + r * 256 + j, none⟩ = some (.int .i64 (bitI t j)) := fun w hw => (hw.cell (p := ⟨b, o + r * 256 + j, none⟩) hbr).trans cj
            clear ck cj hBall
            cases hab : sameB (ss.take r) k j <;> rw [hab] at hsn <;> clear hab
            · rw [Bool.false_and] at hsn
              go_wp2_with fail
              refine wp_region_old 44 [.eq (.bool false), .eq (.bool false), .any, .any, .any, .any, .any, .any, .any, .any, .any, .any, .any, .any, .any, .eq (.bool false), .eq (.bool false)] mixed rfl (by kernel_rfl) ?_ ?_
              · refine ⟨?_, ?_, ?_, ?_, ?_, ?_, ?_, ?_, ?_, ?_, ?_, ?_, ?_, ?_, ?_, ?_, ?_, trivial⟩
                · intro vs a w hR H hout hget hold
                  refine one_free rfl ?_
                  have e0 := hold 16 6 (by kernel_rfl) (by kernel_rfl)
                  clear H hout hget hold
                  dsimp only [bare]
                  go_wp2
                  exact ⟨_, rfl, shows0 hR rfl⟩
                · intro vs a w hR H hout hget hold
                  refine one_free rfl ?_
                  have e0 := (hget 0 23 (by kernel_rfl)).trans (congrArg some (H 0 (by decide)))
                  clear H hout hget hold
                  dsimp only [bare]
                  go_wp2
                  exact ⟨_, rfl, shows0 hR rfl⟩
                · intro vs a w hR H hout hget hold
                  exact one_skip 1 true 24 rfl (by kernel_rfl) ((hget 1 24 (by kernel_rfl)).trans (congrArg some (H 1 (by decide)))) (shows0 hR trivial)
                · intro vs a w hR H hout hget hold
                  exact one_skip 1 true 24 rfl (by kernel_rfl) ((hget 1 24 (by kernel_rfl)).trans (congrArg some (H 1 (by decide)))) (shows0 hR trivial)
                · intro vs a w hR H hout hget hold
                  exact one_skip 1 true 24 rfl (by kernel_rfl) ((hget 1 24 (by kernel_rfl)).trans (congrArg some (H 1 (by decide)))) (shows0 hR trivial)
                · intro vs a w hR H hout hget hold
                  exact one_skip 1 true 24 rfl (by kernel_rfl) ((hget 1 24 (by kernel_rfl)).trans (congrArg some (H 1 (by decide)))) (shows0 hR trivial)
                · intro vs a w hR H hout hget hold
                  exact one_skip 1 true 24 rfl (by kernel_rfl) ((hget 1 24 (by kernel_rfl)).trans (congrArg some (H 1 (by decide)))) (shows0 hR trivial)
                · intro vs a w hR H hout hget hold
                  exact one_skip 1 true 24 rfl (by kernel_rfl) ((hget 1 24 (by kernel_rfl)).trans (congrArg some (H 1 (by decide)))) (shows0 hR trivial)
                · intro vs a w hR H hout hget hold
                  exact one_skip 1 true 24 rfl (by kernel_rfl) ((hget 1 24 (by kernel_rfl)).trans (congrArg some (H 1 (by decide)))) (shows0 hR trivial)
                · intro vs a w hR H hout hget hold
                  exact one_skip 1 true 24 rfl (by kernel_rfl) ((hget 1 24 (by kernel_rfl)).trans (congrArg some (H 1 (by decide)))) (shows0 hR trivial)
                · intro vs a w hR H hout hget hold
                  exact one_skip 1 true 24 rfl (by kernel_rfl) ((hget 1 24 (by kernel_rfl)).trans (congrArg some (H 1 (by decide)))) (shows0 hR trivial)
                · intro vs a w hR H hout hget hold
                  exact one_skip 1 true 24 rfl (by kernel_rfl) ((hget 1 24 (by kernel_rfl)).trans (congrArg some (H 1 (by decide)))) (shows0 hR trivial)
                · intro vs a w hR H hout hget hold
                  exact one_skip 1 true 24 rfl (by kernel_rfl) ((hget 1 24 (by kernel_rfl)).trans (congrArg some (H 1 (by decide)))) (shows0 hR trivial)
                · intro vs a w hR H hout hget hold
                  exact one_skip 1 true 24 rfl (by kernel_rfl) ((hget 1 24 (by kernel_rfl)).trans (congrArg some (H 1 (by decide)))) (shows0 hR trivial)
                · intro vs a w hR H hout hget hold
                  exact one_skip 1 true 24 rfl (by kernel_rfl) ((hget 1 24 (by kernel_rfl)).trans (congrArg some (H 1 (by decide)))) (shows0 hR trivial)
                · intro vs a w hR H hout hget hold
                  refine one_free rfl ?_
                  have e0 := (hget 1 24 (by kernel_rfl)).trans (congrArg some (H 1 (by decide)))
                  clear H hout hget hold
                  dsimp only [bare]
                  go_wp2
                  exact ⟨_, rfl, shows0 hR rfl⟩
                · intro vs a w hR H hout hget hold
                  refine one_free rfl ?_
                  have e0 := (hget 15 38 (by kernel_rfl)).trans (congrArg some (H 15 (by decide)))
                  clear H hout hget hold
                  dsimp only [bare]
                  go_wp2
                  exact ⟨_, rfl, shows0 hR rfl⟩
              · intro vs wz hR H
                have e16 : vs 16 = .bool false := H 16 (by decide)
                have hBz := hBr.trans (hR.mono hBr.size)
                simp only [putAll, Act.put, List.setIfInBounds_toArray, List.set_cons_succ, List.set_cons_zero, Nat.zero_add, Nat.reduceAdd, e16]
                clear H hR e16 ce0 ce1
                go_wp2
                go_roundw
                case rel => exact ⟨r + 1, by omega, by go_num, by rw [hsn.out], hBz⟩
                case measure => simp [intOf]; omega
            · rw [Bool.true_and] at hsn
              go_wp2_with fail
              refine wp_region_old 44 [.eq (.bool true), .eq (.bool true), .eq (.slice (some ⟨b, o, none⟩) ss.length cap), .eq (.int .i64 r), .eq (.int .i64 k), .eq (.pointer (some ⟨b, o + r * 256, none⟩)), .eq (.pointer (some ⟨b, o + r * 256 + k, none⟩)), .eq (.int .i64 (bitI t k)), .eq (.slice (some ⟨b, o, none⟩) ss.length cap), .eq (.int .i64 r), .eq (.int .i64 j), .eq (.pointer (some ⟨b, o + r * 256, none⟩)), .eq (.pointer (some ⟨b, o + r * 256 + j, none⟩)), .eq (.int .i64 (bitI t j)), .eq (.bool (t.testBit k == t.testBit j)), .eq (.bool (t.testBit k == t.testBit j)), .eq (.bool (t.testBit k == t.testBit j))] mixed rfl (by kernel_rfl) ?_ ?_
              · refine ⟨?_, ?_, ?_, ?_, ?_, ?_, ?_, ?_, ?_, ?_, ?_, ?_, ?_, ?_, ?_, ?_, ?_, trivial⟩
                · intro vs a w hR H hout hget hold
                  refine one_free rfl ?_
                  have e0 := hold 16 6 (by kernel_rfl) (by kernel_rfl)
                  clear H hout hget hold
                  dsimp only [bare]
                  go_wp2
                  exact ⟨_, rfl, shows0 hR rfl⟩
                · intro vs a w hR H hout hget hold
                  refine one_free rfl ?_
                  have e0 := (hget 0 23 (by kernel_rfl)).trans (congrArg some (H 0 (by decide)))
                  clear H hout hget hold
                  dsimp only [bare]
                  go_wp2
                  exact ⟨_, rfl, shows0 hR rfl⟩
                · intro vs a w hR H hout hget hold
                  refine one_guard 1 true 24 rfl (by kernel_rfl) ((hget 1 24 (by kernel_rfl)).trans (congrArg some (H 1 (by decide)))) ?_
                  have e0 := hout 0 (by kernel_rfl)
                  clear H hout hget hold
                  dsimp only [bare]
                  go_wp2
                  exact ⟨_, rfl, shows0 hR rfl⟩
                · intro vs a w hR H hout hget hold
                  refine one_guard 1 true 24 rfl (by kernel_rfl) ((hget 1 24 (by kernel_rfl)).trans (congrArg some (H 1 (by decide)))) ?_
                  have e0 := hout 7 (by kernel_rfl)
                  clear H hout hget hold
                  dsimp only [bare]
                  go_wp2
                  exact ⟨_, rfl, shows0 hR rfl⟩
                · intro vs a w hR H hout hget hold
                  refine one_guard 1 true 24 rfl (by kernel_rfl) ((hget 1 24 (by kernel_rfl)).trans (congrArg some (H 1 (by decide)))) ?_
                  have e0 := hout 4 (by kernel_rfl)
                  clear H hout hget hold
                  dsimp only [bare]
                  go_wp2
                  exact ⟨_, rfl, shows0 hR rfl⟩
                · intro vs a w hR H hout hget hold
                  refine one_guard 1 true 24 rfl (by kernel_rfl) ((hget 1 24 (by kernel_rfl)).trans (congrArg some (H 1 (by decide)))) ?_
                  have e0 := (hget 2 25 (by kernel_rfl)).trans (congrArg some (H 2 (by decide)))
                  have e1 := (hget 3 26 (by kernel_rfl)).trans (congrArg some (H 3 (by decide)))
                  clear H hout hget hold
                  dsimp only [bare]
                  go_wp2
                  exact ⟨_, rfl, shows0 hR rfl⟩
                · intro vs a w hR H hout hget hold
                  refine one_guard 1 true 24 rfl (by kernel_rfl) ((hget 1 24 (by kernel_rfl)).trans (congrArg some (H 1 (by decide)))) ?_
                  have e0 := (hget 5 28 (by kernel_rfl)).trans (congrArg some (H 5 (by decide)))
                  have e1 := (hget 4 27 (by kernel_rfl)).trans (congrArg some (H 4 (by decide)))
                  clear H hout hget hold
                  dsimp only [bare]
                  go_wp2
                  exact ⟨_, rfl, shows0 hR rfl⟩
                · intro vs a w hR H hout hget hold
                  refine one_guard 1 true 24 rfl (by kernel_rfl) ((hget 1 24 (by kernel_rfl)).trans (congrArg some (H 1 (by decide)))) ?_
                  have e0 := (hget 6 29 (by kernel_rfl)).trans (congrArg some (H 6 (by decide)))
                  have d0 := ce0 w hR
                  clear H hout hget hold
                  dsimp only [bare]
                  go_wp2
                  exact ⟨_, rfl, shows0 hR rfl⟩
                · intro vs a w hR H hout hget hold
                  refine one_guard 1 true 24 rfl (by kernel_rfl) ((hget 1 24 (by kernel_rfl)).trans (congrArg some (H 1 (by decide)))) ?_
                  have e0 := hout 0 (by kernel_rfl)
                  clear H hout hget hold
                  dsimp only [bare]
                  go_wp2
                  exact ⟨_, rfl, shows0 hR rfl⟩
                · intro vs a w hR H hout hget hold
                  refine one_guard 1 true 24 rfl (by kernel_rfl) ((hget 1 24 (by kernel_rfl)).trans (congrArg some (H 1 (by decide)))) ?_
                  have e0 := hout 7 (by kernel_rfl)
                  clear H hout hget hold
                  dsimp only [bare]
                  go_wp2
                  exact ⟨_, rfl, shows0 hR rfl⟩
                · intro vs a w hR H hout hget hold
                  refine one_guard 1 true 24 rfl (by kernel_rfl) ((hget 1 24 (by kernel_rfl)).trans (congrArg some (H 1 (by decide)))) ?_
                  have e0 := hout 5 (by kernel_rfl)
                  clear H hout hget hold
                  dsimp only [bare]
                  go_wp2
                  exact ⟨_, rfl, shows0 hR rfl⟩
                · intro vs a w hR H hout hget hold
                  refine one_guard 1 true 24 rfl (by kernel_rfl) ((hget 1 24 (by kernel_rfl)).trans (congrArg some (H 1 (by decide)))) ?_
                  have e0 := (hget 8 31 (by kernel_rfl)).trans (congrArg some (H 8 (by decide)))
                  have e1 := (hget 9 32 (by kernel_rfl)).trans (congrArg some (H 9 (by decide)))
                  clear H hout hget hold
                  dsimp only [bare]
                  go_wp2
                  exact ⟨_, rfl, shows0 hR rfl⟩
                · intro vs a w hR H hout hget hold
                  refine one_guard 1 true 24 rfl (by kernel_rfl) ((hget 1 24 (by kernel_rfl)).trans (congrArg some (H 1 (by decide)))) ?_
                  have e0 := (hget 11 34 (by kernel_rfl)).trans (congrArg some (H 11 (by decide)))
                  have e1 := (hget 10 33 (by kernel_rfl)).trans (congrArg some (H 10 (by decide)))
                  clear H hout hget hold
                  dsimp only [bare]
                  go_wp2
                  exact ⟨_, rfl, shows0 hR rfl⟩
                · intro vs a w hR H hout hget hold
                  refine one_guard 1 true 24 rfl (by kernel_rfl) ((hget 1 24 (by kernel_rfl)).trans (congrArg some (H 1 (by decide)))) ?_
                  have e0 := (hget 12 35 (by kernel_rfl)).trans (congrArg some (H 12 (by decide)))
                  have d0 := ce1 w hR
                  clear H hout hget hold
                  dsimp only [bare]
                  go_wp2
                  exact ⟨_, rfl, shows0 hR rfl⟩
                · intro vs a w hR H hout hget hold
                  refine one_guard 1 true 24 rfl (by kernel_rfl) ((hget 1 24 (by kernel_rfl)).trans (congrArg some (H 1 (by decide)))) ?_
                  have e0 := (hget 7 30 (by kernel_rfl)).trans (congrArg some (H 7 (by decide)))
                  have e1 := (hget 13 36 (by kernel_rfl)).trans (congrArg some (H 13 (by decide)))
                  have q := bits_same t k j
                  clear H hout hget hold
                  dsimp only [bare]
                  go_wp2
                  exact ⟨_, rfl, shows0 hR rfl⟩
                · intro vs a w hR H hout hget hold
                  refine one_free rfl ?_
                  have e0 := (hget 1 24 (by kernel_rfl)).trans (congrArg some (H 1 (by decide)))
                  have e1 := (hget 14 37 (by kernel_rfl)).trans (congrArg some (H 14 (by decide)))
                  clear H hout hget hold
                  dsimp only [bare]
                  go_wp2
                  exact ⟨_, rfl, shows0 hR rfl⟩
                · intro vs a w hR H hout hget hold
                  refine one_free rfl ?_
                  have e0 := (hget 15 38 (by kernel_rfl)).trans (congrArg some (H 15 (by decide)))
                  clear H hout hget hold
                  dsimp only [bare]
                  go_wp2
                  exact ⟨_, rfl, shows0 hR rfl⟩
              · intro vs wz hR H
                have e16 : vs 16 = .bool (t.testBit k == t.testBit j) := H 16 (by decide)
                have hBz := hBr.trans (hR.mono hBr.size)
                simp only [putAll, Act.put, List.setIfInBounds_toArray, List.set_cons_succ, List.set_cons_zero, Nat.zero_add, Nat.reduceAdd, e16]
                clear H hR e16 ce0 ce1
                go_wp2
                go_roundw
                case rel => exact ⟨r + 1, by omega, by go_num, by rw [hsn.out], hBz⟩
                case measure => simp [intOf]; omega
          · obtain rfl : r = ss.length := by omega
            rw [List.take_length]
            have hBx := hBj.trans (hBr.mono hBj.size)
            cases hab : sameB ss k j
            · have hne : j ≠ k := fun e => by rw [e, sameB_refl] at hab; cases hab
              have hmin' : Hid (∀ d, d < j + 1 → sameB ss k d = false) := fun d hd => by
                by_cases e : d = j
                · rw [e]; exact hab
                · exact hmin.out d (by omega)
              clear hab
              go_wp2
              go_roundw
              case rel => exact ⟨j + 1, by omega, by go_num, hmin', hBx⟩
              case measure => simp [intOf]; omega
            · have hre := rep_eq hj hab hmin.out
              clear hab
              have h0' := h0.laterB hBx
              have h1' := h1.laterB hBx
              have hB' := hB.trans (hBx.mono hB.size)
              have cc := (h1'.cell k).trans (part_get _ k hlt)
              have ff := h1'.frozen k
              have hset := Lib.hid (h1'.set k (.int .i64 ((rep ss k : Nat) : Int)))
              rw [part_set (fun c => ((rep ss c : Nat) : Int)) hlt, hre] at hset
              clear h1' hre
              go_wp2
              go_roundw
              case rel => exact ⟨k + 1, by omega, by go_num, h0'.other (by show _ ≠ w.heap.size + 1; omega) _, hset.out, hB'.setCell (by show _ ≤ w.heap.size + 1; omega) _⟩
              case measure => simp [intOf]; omega
    · obtain rfl : k = 256 := by omega
      rw [part_full] at h1
      go_wp2_with (first | with_reducible refine wp_load93 rfl _ rfl (w.heap.size + 1) rfl _ h1 ?_ | with_reducible refine wp_store93 rfl _ _ rfl w.heap.size rfl _ _ rfl h0 ?_)
      exact bodyPost_ret (v := .agg (A256 fun c => rep ss c)) (res93 rfl _ _ w.heap.size _ rfl (h0.setRow _)) rfl ⟨rfl, below_setRow hB (by omega) _⟩
end Go.Proofs.Ytojmkgllbhbeiaa
namespace Go.Proofs.Ytojmkgllbhbeiaa
open Go.RowKit

set_option maxRecDepth 100000 in
set_option maxHeartbeats 4000000 in
theorem refParts_none (w : World) : Calls Try.prog 91 #[.slice none 0 0] w fun e w' => e = .returned (.agg (A256 fun c => rep [] c)) ∧ Below w.heap.size w w' := by
  have hz := zero93
  go_enter Try.func91, Try.ntmps91
  go_wp2
  clear hz
  go_loopw [4] (fun i wr => ∃ k : Nat, k ≤ 256 ∧ i = .int .i64 k ∧ Blk wr w.heap.size (A256 fun _ => 0) 93 ∧ Blk wr (w.heap.size + 1) (part (fun c => (rep [] c : Nat)) k) 93 ∧ Below w.heap.size w wr) (fun i _ => 256 - (intOf i).toNat)
  case atStart => exact ⟨0, by omega, rfl, (blkOf1 w _ _).alloc _, by rw [part_zero]; exact blkOf2 w _ _ _, below2 w _ _⟩
  case round =>
    obtain ⟨k, hk, rfl, h0, h1, hB⟩ := hrel
    by_cases hlt : k < 256
    · obtain ⟨wo, rfl⟩ : ∃ wo : World, wo = wr := ⟨_, rfl⟩
      go_wp2_with fail
      go_loopw [5] (fun d wr => d = .int .i64 0 ∧ Below wo.heap.size wo wr) (fun _ _ => 0)
      case atStart => exact ⟨rfl, Below.refl _ _⟩
      case round =>
        obtain ⟨rfl, hBj⟩ := hrel
        obtain ⟨wj, rfl⟩ : ∃ wj : World, wj = wr := ⟨_, rfl⟩
        go_wp2_with fail
        go_loopw [7, 6] (fun i sm wr => i = .int .i64 0 ∧ sm = .bool true ∧ Below wj.heap.size wj wr) (fun _ _ _ => 0)
        case atStart => exact ⟨rfl, rfl, Below.refl _ _⟩
        case round =>
          obtain ⟨rfl, rfl, hBr⟩ := hrel
          have hBx := hBj.trans (hBr.mono hBj.size)
          have hre : rep [] k = 0 := rep_eq (Nat.zero_le _) rfl (fun d hd => by omega)
          have h0' := h0.laterB hBx
          have h1' := h1.laterB hBx
          have hB' := hB.trans (hBx.mono hB.size)
          have cc := (h1'.cell k).trans (part_get _ k hlt)
          have ff := h1'.frozen k
          have hset := Lib.hid (h1'.set k (.int .i64 ((rep [] k : Nat) : Int)))
          rw [part_set (fun c => ((rep [] c : Nat) : Int)) hlt, hre] at hset
          clear h1' hre
          go_wp2
          go_roundw
          case rel => exact ⟨k + 1, by omega, by go_num, h0'.other (by show _ ≠ w.heap.size + 1; omega) _, hset.out, hB'.setCell (by show _ ≤ w.heap.size + 1; omega) _⟩
          case measure => simp [intOf]; omega
    · obtain rfl : k = 256 := by omega
      rw [part_full] at h1
      go_wp2_with (first | with_reducible refine wp_load93 rfl _ rfl (w.heap.size + 1) rfl _ h1 ?_ | with_reducible refine wp_store93 rfl _ _ rfl w.heap.size rfl _ _ rfl h0 ?_)
      exact bodyPost_ret (v := .agg (A256 fun c => rep [] c)) (res93 rfl _ _ w.heap.size _ rfl (h0.setRow _)) rfl ⟨rfl, below_setRow hB (by omega) _⟩

/-! The classes. -/
theorem sameB_iff {ss : List Nat} {c d : Nat} : sameB ss c d = true ↔ ∀ s ∈ ss, s.testBit c = s.testBit d := by
  unfold sameB; rw [List.all_eq_true]
  exact ⟨fun h s hs => by simpa using h s hs, fun h s hs => by simpa using h s hs⟩
theorem sameB_symm {ss : List Nat} {c d : Nat} (h : sameB ss c d = true) : sameB ss d c = true := sameB_iff.2 fun s hs => (sameB_iff.1 h s hs).symm
theorem sameB_trans {ss : List Nat} {c d e : Nat} (h : sameB ss c d = true) (k : sameB ss d e = true) : sameB ss c e = true := sameB_iff.2 fun s hs => (sameB_iff.1 h s hs).trans (sameB_iff.1 k s hs)
theorem rep_spec (ss : List Nat) (c : Nat) : rep ss c ≤ c ∧ sameB ss c (rep ss c) = true ∧ ∀ d, d < rep ss c → sameB ss c d = false := by
  unfold rep
  cases h : (List.range (c + 1)).find? (sameB ss c) with
  | none =>
    rw [List.find?_eq_none] at h
    exact absurd (sameB_refl ss c) (h c (by simp))
  | some j =>
    rw [List.find?_range_eq_some] at h
    obtain ⟨h1, h2, h3⟩ := h
    refine ⟨by have := List.mem_range.1 h2; show j ≤ c; omega, h1, fun d hd => by have := h3 d hd; simpa using this⟩
theorem rep_same {ss : List Nat} {c d : Nat} : rep ss c = rep ss d ↔ sameB ss c d = true := by
  obtain ⟨a1, a2, a3⟩ := rep_spec ss c
  obtain ⟨b1, b2, b3⟩ := rep_spec ss d
  constructor
  · intro h
    rw [h] at a2
    exact sameB_trans a2 (sameB_symm b2)
  · intro h
    rcases Nat.lt_trichotomy (rep ss c) (rep ss d) with hlt | he | hlt
    · have := b3 _ hlt
      rw [sameB_trans (sameB_symm h) a2] at this; cases this
    · exact he
    · have := a3 _ hlt
      rw [sameB_trans h b2] at this; cases this

variable {ss ds : List Nat}
/-- Two bytes of a class are in the same sets. -/
theorem PartsOk.same (h : PartsOk ss ds) {p : Nat} (hp : p ∈ ds) {c d : Nat} (hc : p.testBit c = true) (hd : p.testBit d = true) : sameB ss c d = true := by
  rw [sameB_iff]
  intro s hs
  rcases h.whole p hp s hs with e | e
  · rw [and_zero] at e
    cases h1 : s.testBit c with
    | true => exact (e c ⟨hc, h1⟩).elim
    | false =>
      cases h2 : s.testBit d with
      | true => exact (e d ⟨hd, h2⟩).elim
      | false => rfl
  · rw [less_zero'] at e
    rw [e c hc, e d hd]
theorem PartsOk.has (h : PartsOk ss ds) {c : Nat} (hc : c < 256) : ∃ p ∈ ds, p.testBit c = true := by
  have := Sx.tb_full c
  rw [← h.all, tb_orAll, decide_eq_true hc, List.any_eq_true] at this
  exact this
theorem Apart.not_same {p q : Nat} (h : Apart ss p q) (hp : Whole ss p) (hq : Whole ss q) (_ : p ≠ 0) (_ : q ≠ 0) {c d : Nat} (hc : p.testBit c = true) (hd : q.testBit d = true) : sameB ss c d = false := by
  obtain ⟨s, hs, hne⟩ := h
  cases hsame : sameB ss c d with
  | false => rfl
  | true =>
    exfalso
    have e := sameB_iff.1 hsame s hs
    by_cases h1 : Sx.less p s = 0
    · have h2 : ¬ Sx.less q s = 0 := fun e => hne (by rw [decide_eq_true h1, decide_eq_true e])
      have h3 := and_zero.1 ((hq s hs).resolve_right h2) d
      rw [less_zero'.1 h1 c hc] at e
      exact h3 ⟨hd, e.symm⟩
    · have h2 : Sx.less q s = 0 := by
        by_cases e : Sx.less q s = 0
        · exact e
        · exact (hne (by rw [decide_eq_false h1, decide_eq_false e])).elim
      have h3 := and_zero.1 ((hp s hs).resolve_right h1) c
      rw [less_zero'.1 h2 d hd] at e
      exact h3 ⟨hc, e⟩
theorem PartsOk.apart_of (h : PartsOk ss ds) {p q : Nat} (hp : p ∈ ds) (hq : q ∈ ds) (hne : p ≠ q) : Apart ss p q := by
  obtain ⟨i, hi, rfl⟩ := List.getElem_of_mem hp
  obtain ⟨j, hj, rfl⟩ := List.getElem_of_mem hq
  rcases Nat.lt_trichotomy i j with hlt | he | hlt
  · exact List.pairwise_iff_getElem.1 h.apart i j hi hj hlt
  · subst he; exact (hne rfl).elim
  · exact (List.pairwise_iff_getElem.1 h.apart j i hj hi hlt).symm
/-- A class is the bytes that are in the same sets as one of it. -/
theorem PartsOk.bit (h : PartsOk ss ds) {p : Nat} (hp : p ∈ ds) {c d : Nat} (hc : p.testBit c = true) (hd : d < 256) : p.testBit d = sameB ss d c := by
  obtain ⟨q, hq, hqd⟩ := h.has hd
  by_cases e : q = p
  · subst e; rw [hqd, h.same hq hqd hc]
  · rw [(h.apart_of hq hp e).not_same (h.whole q hq) (h.whole p hp) (h.lt q hq).1 (h.lt p hp).1 hqd hc]
    cases hb : p.testBit d with
    | false => rfl
    | true =>
      have := (h.apart_of hq hp e).not_same (h.whole q hq) (h.whole p hp) (h.lt q hq).1 (h.lt p hp).1 hqd hb
      rw [sameB_refl] at this; cases this
theorem PartsOk.rep_least (h : PartsOk ss ds) {p : Nat} (hp : p ∈ ds) {c : Nat} (hc : p.testBit c = true) (_ : c < 256) : rep ss c = least p := by
  obtain ⟨_, l1, l2, l3⟩ := least_at (h.lt p hp).2 (h.lt p hp).1
  refine rep_eq ?_ (h.same hp hc l2) fun d hd => ?_
  · rcases Nat.lt_or_ge c (least p) with hlt | hge
    · rw [l3 c hlt] at hc; cases hc
    · exact hge
  · have := h.bit hp hc (show d < 256 by omega)
    rw [l3 d hd] at this
    cases hs : sameB ss c d with
    | false => rfl
    | true => rw [sameB_symm hs] at this; cases this

/-- The least bytes of classes, below k. -/
def leads (ss : List Nat) (k : Nat) : List Nat := (List.range k).filter fun c => rep ss c == c
theorem leads_yes {ss : List Nat} {k : Nat} (h : rep ss k = k) : leads ss (k + 1) = leads ss k ++ [k] := by simp [leads, List.range_succ, h]
theorem leads_no {ss : List Nat} {k : Nat} (h : rep ss k ≠ k) : leads ss (k + 1) = leads ss k := by simp [leads, List.range_succ, h]
theorem leads_len (ss : List Nat) (k : Nat) : (leads ss k).length ≤ k := by
  have := List.length_filter_le (fun c => rep ss c == c) (List.range k); simpa [leads] using this

theorem sorted_ext : ∀ (a b : List Nat), a.Pairwise (· < ·) → b.Pairwise (· < ·) → (∀ x, x ∈ a ↔ x ∈ b) → a = b
  | [], [], _, _, _ => rfl
  | [], y :: b, _, _, h => by have := (h y).2 (by simp); cases this
  | x :: a, [], _, _, h => by have := (h x).1 (by simp); cases this
  | x :: a, y :: b, ha, hb, h => by
    obtain ⟨ha1, ha2⟩ := List.pairwise_cons.1 ha
    obtain ⟨hb1, hb2⟩ := List.pairwise_cons.1 hb
    have hxy : x = y := by
      have h1 := (h x).1 (by simp)
      have h2 := (h y).2 (by simp)
      rcases List.mem_cons.1 h1 with e | h1
      · exact e
      · rcases List.mem_cons.1 h2 with e | h2
        · exact e.symm
        · have := hb1 x h1; have := ha1 y h2; omega
    subst hxy
    rw [sorted_ext a b ha2 hb2 fun z => ?_]
    constructor
    · intro hz
      rcases List.mem_cons.1 ((h z).1 (List.mem_cons_of_mem _ hz)) with e | hz'
      · subst e; have := ha1 z hz; omega
      · exact hz'
    · intro hz
      rcases List.mem_cons.1 ((h z).2 (List.mem_cons_of_mem _ hz)) with e | hz'
      · subst e; have := hb1 z hz; omega
      · exact hz'
theorem PartsOk.leads (h : PartsOk ss ds) : ds.map least = Go.Proofs.Ytojmkgllbhbeiaa.leads ss 256 := by
  refine sorted_ext _ _ (List.pairwise_map.2 h.order) ((List.pairwise_lt_range (n := 256)).filter _) fun x => ?_
  rw [List.mem_map, Go.Proofs.Ytojmkgllbhbeiaa.leads, List.mem_filter, List.mem_range, beq_iff_eq]
  constructor
  · rintro ⟨p, hp, rfl⟩
    obtain ⟨_, l1, l2, _⟩ := least_at (h.lt p hp).2 (h.lt p hp).1
    exact ⟨l1, h.rep_least hp l2 l1⟩
  · rintro ⟨hx, hr⟩
    obtain ⟨p, hp, hc⟩ := h.has hx
    exact ⟨p, hp, by rw [← h.rep_least hp hc hx, hr]⟩
/-- The class that comes next. -/
theorem PartsOk.next (h : PartsOk ss ds) {c : Nat} (hc : c < 256) (hr : rep ss c = c) : ∃ hn : (Go.Proofs.Ytojmkgllbhbeiaa.leads ss c).length < ds.length, ∀ d, d < 256 → ds[(Go.Proofs.Ytojmkgllbhbeiaa.leads ss c).length].testBit d = decide (rep ss d = c) := by
  have hl := h.leads
  have hpre : Go.Proofs.Ytojmkgllbhbeiaa.leads ss (c + 1) <+: Go.Proofs.Ytojmkgllbhbeiaa.leads ss 256 := by
    refine List.IsPrefix.filter _ ?_
    exact List.prefix_iff_eq_take.2 (by rw [List.length_range, List.take_range, Nat.min_eq_left (by omega)])
  rw [leads_yes hr, ← hl] at hpre
  obtain ⟨t, ht⟩ := hpre
  have hg : (ds.map least)[(Go.Proofs.Ytojmkgllbhbeiaa.leads ss c).length]? = some c := by
    rw [← ht, List.append_assoc, List.getElem?_append_right (Nat.le_refl _)]; simp
  obtain ⟨hn, he⟩ := List.getElem?_eq_some_iff.1 hg
  rw [List.length_map] at hn
  rw [List.getElem_map] at he
  refine ⟨hn, fun d hd => ?_⟩
  have hp := List.getElem_mem hn
  obtain ⟨_, l1, l2, _⟩ := least_at (h.lt _ hp).2 (h.lt _ hp).1
  rw [he] at l2
  rw [h.bit hp l2 hd, Bool.eq_iff_iff, decide_eq_true_eq, ← rep_same, hr]
theorem PartsOk.count (h : PartsOk ss ds) : (Go.Proofs.Ytojmkgllbhbeiaa.leads ss 256).length = ds.length := by rw [← h.leads, List.length_map]
end Go.Proofs.Ytojmkgllbhbeiaa
namespace Go.Proofs.Ytojmkgllbhbeiaa
open Go.RowKit

/-- The operations ahead of the last, one by one. -/
def headSteps (P : Program) (l : List Oper) (a0 : Act) (R : World → Prop) (T : World → World → Prop) (F : Nat → (Nat → Value) → World → Prop) (m : Nat) : Prop := MonoSteps P l a0 R T F (l.take m) 0

theorem wpAny_last {P : Program} {n m : Nat} {l : List Oper} {o : Oper} {a0 : Act} {R : World → Prop} {T : World → World → Prop} {F : Nat → (Nat → Value) → World → Prop} {Q : Exit → Act → World → Prop}
    (hB : monoB n l 0 = true) (hsz : a0.tmps.size = n) (hm : l.length = m + 1) (hlo : l[m]? = some o) (hall : (List.range m).all (fun k => (preds o).contains k) = true)
    (hloc : ∀ k (hk : k < l.length) vs vs' w, vs k = vs' k → (∀ j ∈ preds l[k], vs j = vs' j) → F k vs w → F k vs' w)
    (hst : ∀ k vs w w', R w → T w w' → F k vs w → F k vs w')
    (hsteps : headSteps P l a0 R T F m)
    (hend : ∀ vs w, R w → (∀ k, k < m → F k vs w) → wpList P l.toArray Q [o] (putAll vs l 0 a0) w) :
    ∀ (f : Nat) (listed : Array Bool) (vs : Nat → Value) (w : World), listed.size = l.length → undone listed.toList = f + 1 → listed.getD m true = false → R w → (∀ k (hk : k < l.length), listed.getD k true = true → F k vs w ∧ ∀ j ∈ preds l[k], listed.getD j true = true) →
      wpAny P .any l.toArray Q (f + 1) listed (putAll vs l 0 a0) w := by
  have hgl : ∀ (A : Array Bool) i, A.getD i true = A.toList.getD i true := fun A i => by simp
  have hget : ∀ i (hi : i < l.length), l.toArray[i]? = some l[i] := fun i hi => by simp [hi]
  have hbt : ∀ (A : Array Bool) i, i < l.length → A.size = l.length → (A.getD i false = true ↔ A.getD i true = true) := fun A i hi hA => by
    have : i < A.size := by omega
    simp [this]
  have hpre : ∀ (A : Array Bool) i (hi : i < l.length), A.size = l.length → ((∀ j ∈ preds l[i], A.getD j true = true) ↔ ∀ e ∈ l[i].after, Region.binds .any e = true → A.getD e.on false = true) := fun A i hi hA => by
    have hlt := (monoB_at l 0 i hB hi).1
    constructor
    · intro h e he hb
      have hm : e.on ∈ preds l[i] := List.mem_map.2 ⟨e, List.mem_filter.2 ⟨by simpa using he, hb⟩, rfl⟩
      exact (hbt A _ (by have := hlt _ hm; omega) hA).2 (h _ hm)
    · intro h j hj
      have := hlt j hj
      obtain ⟨e, he, rfl⟩ := List.mem_map.1 hj
      obtain ⟨he, hb⟩ := List.mem_filter.1 he
      exact (hbt A _ (by omega) hA).1 (h e (by simpa using he) hb)
  have hnone : ∀ (A : Array Bool), A.size = l.length → Region.ready .any l.toArray A = [] → ∀ k, k < l.length → A.getD k true = true := fun A hA h0 k => by
    induction k using Nat.strongRecOn with
    | ind k ih =>
      intro hk
      cases hc : A.getD k true with
      | true => rfl
      | false =>
        exfalso
        have : k ∈ Region.ready .any l.toArray A := mem_ready.2 ⟨hc, _, hget k hk, (hpre A k hk hA).1 fun j hj => ih j (by have := (monoB_at l 0 k hB hk).1 j hj; omega) (by have := (monoB_at l 0 k hB hk).1 j hj; omega)⟩
        rw [h0] at this
        cases this
  have hlm : l[m]'(by omega) = o := by
    obtain ⟨h1, h2⟩ := List.getElem?_eq_some_iff.1 hlo
    exact h2
  have hpo : ∀ k, k < m → k ∈ preds o := fun k hk => by
    have := List.all_eq_true.1 hall k (List.mem_range.2 hk)
    simpa using this
  intro f
  induction f with
  | zero =>
    intro listed vs w hs hu hml hR hF
    have hnm : ∀ k, k < l.length → k ≠ m → listed.getD k true = true := fun k hk hkm => by
      have h1 := undone_set listed.toList m (by rw [← hgl]; exact hml)
      have h2 := undone_pos (listed.toList.set m true) (by omega) k
      rw [hgl]
      simpa [List.getElem?_set_ne (Ne.symm hkm)] using h2
    refine ⟨fun h0 => ?_, fun i hi => ?_⟩
    · have := hnone listed hs h0 m (by omega)
      rw [hml] at this
      cases this
    · have him : i = m := by
        apply Classical.byContradiction
        intro hne
        obtain ⟨hun, oi, hoi, _⟩ := mem_ready.1 hi
        have hil : i < l.length := by
          have := (Array.getElem?_eq_some_iff.1 hoi).1
          simpa using this
        rw [hnm i hil hne] at hun
        cases hun
      subst him
      have hlast := hend vs w hR fun k hk => (hF k (by omega) (hnm k (by omega) (by omega))).1
      have hr : Region.ready .any l.toArray (listed.setIfInBounds i true) = [] := by
        rw [List.eq_nil_iff_forall_not_mem]
        intro k hk
        have h1 := (mem_ready.1 hk).1
        have h2 := undone_pos (listed.toList.set i true) (by have := undone_set listed.toList i (by rw [← hgl]; exact hml); omega) k
        rw [hgl, Array.toList_setIfInBounds, h2] at h1
        cases h1
      unfold wpOp
      rw [hget i (by omega), hlm]
      dsimp only
      unfold wpList at hlast
      have hK : ∀ a' w', wpList P l.toArray Q [] a' w' → wpAny P .any l.toArray Q 0 (listed.setIfInBounds i true) a' w' := fun a' w' h => ⟨hr, h⟩
      by_cases hw : Region.wanted o (yielded l.toArray (putAll vs l 0 a0).tmps) = true
      · rw [if_pos hw] at hlast ⊢
        exact hlast.imp (Oper.wp_mono hK) id
      · rw [if_neg hw] at hlast ⊢
        exact hK _ _ hlast
  | succ f ih =>
    intro listed vs w hs hu hml hR hF
    refine ⟨fun h0 => ?_, fun i hi => ?_⟩
    · have := hnone listed hs h0 m (by omega)
      rw [hml] at this
      cases this
    obtain ⟨hun, oi, hoi, hallr⟩ := mem_ready.1 hi
    have hil : i < l.length := by
      have := (Array.getElem?_eq_some_iff.1 hoi).1
      simpa using this
    have hoi' := hget i hil
    have hpr := (hpre listed i hil hs).2 (by rw [hoi'] at hoi; cases hoi; exact hallr)
    have him : i ≠ m := by
      intro he
      subst he
      rw [hlm] at hpr
      have h1 := undone_set listed.toList i (by rw [← hgl]; exact hun)
      have h3 : ∀ k, (listed.toList.set i true).getD k true = true := fun k => by
        by_cases hk : k = i
        · subst hk
          rw [List.getD_eq_getElem?_getD, List.getElem?_set]
          by_cases hkl : k < listed.toList.length
          · rw [if_pos rfl, if_pos hkl]; rfl
          · rw [if_pos rfl, if_neg hkl]; rfl
        · by_cases hkl : k < l.length
          · have := hpr k (hpo k (by omega))
            rw [hgl] at this
            simpa [List.getElem?_set_ne (Ne.symm hk)] using this
          · have : (listed.toList.set i true).length ≤ k := by simp; omega
            simp [List.getElem?_eq_none this]
      have h4 : undone (listed.toList.set i true) = 0 := by
        unfold undone
        rw [List.count_eq_zero]
        intro hmem
        obtain ⟨k, hk, he⟩ := List.mem_iff_getElem.1 hmem
        have := h3 k
        simp [List.getD_eq_getElem?_getD, List.getElem?_eq_getElem hk, he] at this
      omega
    have hat := monoB_at l 0 i hB hil
    have hnear := fun j t h => by have := putAll_near l 0 j vs a0 t hB hsz h; rwa [Nat.zero_add] at this
    have hit : i < (l.take m).length := by simp; omega
    have hone := MonoSteps.at (P := P) (l.take m) 0 i hsteps hit vs (putAll vs l 0 a0) w hR (fun j hj => by
      rw [List.getElem_take] at hj
      exact (hF j (by have := hat.1 j hj; omega) (hpr j hj)).1) hnear (fun t ht => putAll_far l t 0 vs a0 fun o ho => by
      have := List.all_eq_true.1 ht o ho
      simpa using this) fun j t h => by
        have h1 := hnear j t h
        have hlt : t < (putAll vs l 0 a0).tmps.size := by
          rw [(putAll_size l 0 vs a0).1, hsz]
          unfold dstAt at h
          cases hj : l[j]? with
          | none => rw [hj] at h; cases h
          | some o =>
            obtain ⟨hjl, hje⟩ := List.getElem?_eq_some_iff.1 hj
            rw [hj] at h
            exact (monoB_at l 0 j hB hjl).2 t (by rw [hje]; exact h)
        rw [Array.getD_eq_getD_getElem?, Array.getElem?_eq_getElem hlt, Option.getD_some] at h1
        rw [Array.getElem?_eq_getElem hlt, h1]
    rw [Nat.zero_add, List.getElem_take] at hone
    refine wp_of_one hoi' (fun v w' hG => ?_) hone
    obtain ⟨hR', hT, hFi⟩ := hG
    rw [putAll_upd l 0 i vs a0 v hB hil, Nat.zero_add]
    refine ih _ _ _ (by simpa using hs) ?_ (by rw [getD_set_ne true him]; exact hml) hR' fun k hk hkl => ?_
    · have := undone_set listed.toList i (by rw [← hgl]; exact hun)
      rw [Array.toList_setIfInBounds]
      omega
    · by_cases hki : k = i
      · subst hki
        refine ⟨hFi, fun j hj => ?_⟩
        rw [getD_set_ne true (by have := hat.1 j hj; omega : k ≠ j)]
        exact hpr j hj
      · rw [getD_set_ne true (Ne.symm hki)] at hkl
        obtain ⟨h1, h2⟩ := hF k hk hkl
        have hne : ∀ j ∈ preds l[k], j ≠ i := fun j hj he => by have := h2 j hj; rw [he, hun] at this; cases this
        refine ⟨hloc k hk vs _ w' (upd_ne _ _ _ hki).symm (fun j hj => (upd_ne _ _ _ (hne j hj)).symm) (hst k vs w w' hR hT h1), fun j hj => ?_⟩
        rw [getD_set_ne true (Ne.symm (hne j hj))]
        exact h2 j hj

/-- THE LAW, by lists of facts: m operations, then one that waits for them all. -/
theorem wp_region_last {P : Program} {id : Nat} {l : List Oper} {o : Oper} {a0 : Act} {w0 : World} {Q : Exit → Act → World → Prop} (n m : Nat) (F : List Fact)
    (hm : P.follows .mixedOrders = true) (hsz : a0.tmps.size = n) (hB : monoB n l 0 = true) (hl : l.length = m + 1) (hlo : l[m]? = some o) (hall : (List.range m).all (fun k => (preds o).contains k) = true)
    (hsteps : headSteps P l a0 (fun w => Below w0.heap.size w0 w) (fun w w' => Below w.heap.size w w') (fun k vs w => (F.getD k .any).says (vs k) w) m)
    (hend : ∀ vs w, Below w0.heap.size w0 w → (∀ k, k < m → (F.getD k .any).says (vs k) w) → wpList P l.toArray Q [o] (putAll vs l 0 a0) w) : (Code.region id l.toArray true).wp P Q a0 w0 := by
  refine wp_region_any hm ?_
  have hst0 : putAll (fun k => (l[k]?).elim undef (fun o => got o a0)) l 0 a0 = a0 := putAll_start l a0 0 _ fun j hj => by simp [hj]
  have := wpAny_last (P := P) (Q := Q) hB hsz hl hlo hall (R := fun w => Below w0.heap.size w0 w) (T := fun w w' => Below w.heap.size w w') (F := fun k vs w => (F.getD k .any).says (vs k) w)
    (fun _ _ _ _ _ h _ hF => by rw [← h]; exact hF) (fun _ _ _ _ _ hT hF => Fact.later _ hF hT) hsteps hend m (Array.replicate l.length false) (fun k => (l[k]?).elim undef (fun o => got o a0)) { w0 with drawn := w0.drawn + 1 } (by simp) (by simp [undone, hl]) (by simp [hl]) (gr_grown w0 1 #[]).below (fun k hk h => by
    simp [hk] at h)
  rw [hst0] at this
  simpa [hl] using this
end Go.Proofs.Ytojmkgllbhbeiaa
namespace Go.Proofs.Ytojmkgllbhbeiaa
open Go.RowKit Go.Shelf
attribute [local go_sem] Oper.semAt_some wide_fn wide_depth

/-- What a loop's body keeps up, whatever grows meanwhile. -/
structure InvB {β : Type} (B : Nat) (I : β → World → Prop) : Prop where
  grow : ∀ s W W', I s W → Below W.heap.size W W' → I s W'
  put : ∀ s A l o o', I s A → B ≤ l → A.heap[l]? = some o → o.isCells = false → I s (A.putObj l o')
def SeqB {α : Type} (n : Nat) (P : Program) (g : Nat) (lb : Array Value) (encs : α → Array Value) (Kp : World → World → Prop) (xs : List α) (N : Nat) (w : World) : Prop :=
  ∀ (l : Nat) (J Jx : List α → World → Prop) (W : World), Below w.heap.size w W → (∀ s A C, J s A → Below A.heap.size A C → J s C) → (∀ s A C, Jx s A → Below A.heap.size A C → Jx s C) →
    (∀ pre x W1, J pre W1 → pre.length < N → YieldAt Fence.wide (n - 1) P l (encs x) W1 fun e W' =>
      (e = .returned (.bool true) ∧ J (pre ++ [x]) W' ∧ Kp W1 W') ∨ (e = .returned (.bool false) ∧ Jx (pre ++ [x]) W')) →
    J [] W →
    CallsIn Fence.wide n P g (#[.func (.yield l) #[] #[]] ++ lb) W fun e W' => (∃ v, e = .returned v) ∧ (J xs W' ∨ (∃ pre, pre <+: xs ∧ Jx pre W'))

theorem wpIn_rangeL {P : Program} {α : Type} {n : Nat} {g : Operand} {ps : Array Tmp} {assign body : Code} {Q : Exit → Act → World → Prop} {a : Act} {w : World}
    {gf : Nat} {lb : Array Value} (hg : a.eval g = .func (.func gf) #[] lb) (eg : ∀ args w, (callFunc gf args).run P w = .ok (.enter gf args) w)
    {encs : α → Array Value} {Kp : World → World → Prop} {xs : List α} {N : Nat} (hseq : SeqB (n - 1) P gf lb encs Kp xs N w)
    (hKt : ∀ A B C : World, Kp A B → Kp B C → Kp A C) (hKb : ∀ (W : World) (l : Nat) (o : Obj) (L : Loop), w.heap.size ≤ l → W.heap[l]? = some (.loop L) → Kp W (W.putObj l o)) (hps : ∀ x, (encs x).size = ps.size)
    (I : List α → World → Prop) (Ix : Code → List α → World → Prop) (hI : InvB w.heap.size I) (hIx : ∀ c, InvB w.heap.size (Ix c)) (h0 : I [] w) (a₁ : α → Act)
    (hassign : ∀ (l : Nat) (x : α) (W : World) (K : Act → World → Prop), K (a₁ x) W →
      assign.wpIn (Fence.wide.inRound l) (n - 1 - 1) P (Exit.then K (fun _ _ _ => False)) { tmps := (ps.zip (encs x)).foldl (fun t (p, v) => t.setIfInBounds p v) a.tmps, defers := [] } W)
    (hbody : ∀ (l : Nat) (pre : List α) (x : α) (W : World), I pre W → pre.length < N → body.wpIn (Fence.wide.inRound l) (n - 1 - 1) P (roundEnd w.heap.size Kp I Ix (pre ++ [x]) W) (a₁ x) W)
    (hdone : ∀ (D : Nat) (W : World), w.heap.size ≤ D → I xs W → W.heap[D]? = some (.deferred (some [])) → Q .normal { a with defers := { target := .collected D, args := #[] } :: a.defers } W)
    (hstop : ∀ (D : Nat) (c : Code) (pre : List α) (W : World), w.heap.size ≤ D → pre <+: xs → Ix c pre W → W.heap[D]? = some (.deferred (some [])) → c.wpIn Fence.wide n P Q { a with defers := { target := .collected D, args := #[] } :: a.defers } W) :
    (Code.rangeFunc g ps assign body).wpIn Fence.wide n P Q a w := by
  refine wpIn_rangeFunc fun fn hfn => ?_
  obtain ⟨rec, hrec⟩ : ∃ rec : LoopState → Option Code → Loop, rec = fun st pe => { state := st, pending := pe, fn, tmps := a.tmps, params := ps, assign, body, defers := w.heap.size } := ⟨_, rfl⟩
  obtain ⟨W1, hW1⟩ : ∃ W1, W1 = (w.alloc (.deferred (some []))).alloc (.loop (rec .ready none)) := ⟨_, rfl⟩
  have hG1 : Below w.heap.size w W1 := by rw [hW1]; exact below2 w _ _
  have hL1 : W1.heap[w.heap.size + 1]? = some (.loop (rec .ready none)) := by
    rw [hW1]; have := World.alloc_heap_new (w.alloc (.deferred (some []))) (.loop (rec .ready none)); rwa [World.size_alloc] at this
  have hK1 : W1.heap[w.heap.size]? = some (.deferred (some [])) := by
    rw [hW1]; exact (Below.heap_alloc _ _ _ (by simp)).trans (World.alloc_heap_new w _)
  have keep : ∀ {A C : World} {k : Nat} {o : Obj}, Below A.heap.size A C → A.heap[k]? = some o → C.heap[k]? = some o := fun hg hk => (hg.block _ (Array.getElem?_eq_some_iff.1 hk).1).trans hk
  refine ⟨w.heap.size + 1, [{ target := .collected w.heap.size, args := #[] }], W1, { target := .fn (.func gf) lb, args := #[.func (.yield (w.heap.size + 1)) #[] #[]] }, W1, gf,
    #[.func (.yield (w.heap.size + 1)) #[] #[]] ++ lb, W1, ?_, ?_, fun _ _ => trivial, ?_, (fun h => absurd h (by decide)), ?_⟩
  · rw [hW1, hrec]; exact run_enterLoop_outer _ _ _ _ _
  · simp only [resolve, hg]
    simp [go_sem]
  · simp [invoke, go_sem, eg]
  · refine (hseq (w.heap.size + 1)
      (fun pre W => I pre W ∧ W.heap[w.heap.size + 1]? = some (.loop (rec .ready none)) ∧ W.heap[w.heap.size]? = some (.deferred (some [])))
      (fun pre W => ∃ c, Ix c pre W ∧ W.heap[w.heap.size + 1]? = some (.loop (rec .done (some c))) ∧ W.heap[w.heap.size]? = some (.deferred (some [])))
      W1 hG1 (fun s A C hs hg => ⟨hI.grow s A C hs.1 hg, keep hg hs.2.1, keep hg hs.2.2⟩)
      (fun s A C ⟨c, hc, hl, hk⟩ hg => ⟨c, (hIx c).grow s A C hc hg, keep hg hl, keep hg hk⟩) ?_ ⟨hI.grow _ _ _ h0 hG1, hL1, hK1⟩).mono ?_
    · rintro pre x W ⟨hi, hl, hk⟩ hlen
      have hlt : w.heap.size + 1 < W.heap.size := (Array.getElem?_eq_some_iff.1 hl).1
      have hy := run_yield (P := P) (args := encs x) hl (by rw [hrec]; exact hps x)
      rw [hrec] at hy
      refine ⟨fn, _, assign, body, hy, roundIn_of_wpIn hfn (hassign _ x W _ ⟨_, run_beginRound hl (by rw [hrec]), ?_⟩)⟩
      have hl2 : (W.putObj (w.heap.size + 1) (.loop { rec .ready none with state := .busy })).heap[w.heap.size + 1]? = some (.loop { rec .ready none with state := .busy }) := World.putObj_heap_same hlt
      have hk2 : (W.putObj (w.heap.size + 1) (.loop { rec .ready none with state := .busy })).heap[w.heap.size]? = some (.deferred (some [])) := (World.putObj_heap_other (by omega)).trans hk
      refine wpIn_mono (hbody _ pre x _ (hI.put _ _ _ _ _ hi (by omega) hl rfl) hlen) ?_
      have fin : ∀ (jump : Option Code) (W3 : World), KeepsFrom w.heap.size (W.putObj (w.heap.size + 1) (.loop { rec .ready none with state := .busy })) W3 →
          (Instr.endRound (w.heap.size + 1) jump).run P W3 = .ok (.bool jump.isNone) (W3.putObj (w.heap.size + 1) (.loop (rec (if jump.isNone then .ready else .done) jump))) ∧
          W3.heap[w.heap.size + 1]? = some (.loop { rec .ready none with state := .busy }) ∧
          (W3.putObj (w.heap.size + 1) (.loop (rec (if jump.isNone then .ready else .done) jump))).heap[w.heap.size + 1]? = some (.loop (rec (if jump.isNone then .ready else .done) jump)) ∧
          (W3.putObj (w.heap.size + 1) (.loop (rec (if jump.isNone then .ready else .done) jump))).heap[w.heap.size]? = some (.deferred (some [])) := fun jump W3 hk3 => by
        have hl3 := hk3.same _ _ (by omega) hl2 rfl
        have hend := run_endRound (P := P) jump hl3
        rw [hrec] at hend ⊢
        exact ⟨hend, by rw [hrec] at hl3; exact hl3, World.putObj_heap_same (Array.getElem?_eq_some_iff.1 hl3).1, (World.putObj_heap_other (by omega)).trans (hk3.same _ _ (Nat.le_refl _) hk2 rfl)⟩
      rintro e a3 W3 hp
      cases e with
      | normal =>
        obtain ⟨hk3, hkp3, hi3⟩ := hp
        obtain ⟨hr, hl3, hl4, hk4⟩ := fin none W3 hk3
        exact ⟨_, _, hr, .inl ⟨rfl, ⟨hI.put _ _ _ _ _ hi3 (by omega) hl3 rfl, hl4, hk4⟩, hKt _ _ _ (hKt _ _ _ (hKb _ _ _ _ (by omega) hl) hkp3) (hKb _ _ _ _ (by omega) hl3)⟩⟩
      | ret =>
        obtain ⟨hr, hl3, hl4, hk4⟩ := fin (some .ret) W3 hp.1
        exact ⟨_, _, hr, .inr ⟨rfl, .ret, (hIx _).put _ _ _ _ _ hp.2 (by omega) hl3 rfl, hl4, hk4⟩⟩
      | exit id =>
        obtain ⟨hr, hl3, hl4, hk4⟩ := fin (some (.exit id)) W3 hp.1
        exact ⟨_, _, hr, .inr ⟨rfl, .exit id, (hIx _).put _ _ _ _ _ hp.2 (by omega) hl3 rfl, hl4, hk4⟩⟩
      | goto t =>
        obtain ⟨hr, hl3, hl4, hk4⟩ := fin (some (.goto t)) W3 hp.1
        exact ⟨_, _, hr, .inr ⟨rfl, .goto t, (hIx _).put _ _ _ _ _ hp.2 (by omega) hl3 rfl, hl4, hk4⟩⟩
      | panic ch => exact hp.elim
      | outgrown => exact hp.elim
    · rintro e W2 ⟨⟨v, rfl⟩, (⟨hi, hl, hk⟩ | ⟨pre, hp, c, hi, hl, hk⟩)⟩
      · exact ⟨none, _, by have h := run_endLoop (P := P) hl (by rw [hrec]; simp); rw [hrec] at h; exact h, hdone _ _ (Nat.le_refl _) (hI.put _ _ _ _ _ hi (by omega) hl rfl) ((World.putObj_heap_other (by omega)).trans hk)⟩
      · exact ⟨some c, _, by have h := run_endLoop (P := P) hl (by rw [hrec]; simp); rw [hrec] at h; exact h, hstop _ c pre _ (Nat.le_refl _) hp ((hIx c).put _ _ _ _ _ hi (by omega) hl rfl) ((World.putObj_heap_other (by omega)).trans hk)⟩

/-- All cells are kept, but those of block b. -/
def KeepC (b : Nat) (W W' : World) : Prop := W.heap.size ≤ W'.heap.size ∧ ∀ k cs t f, k ≠ b → W.heap[k]? = some (.cells cs t f) → W'.heap[k]? = some (.cells cs t f)
theorem keepC_t {b : Nat} (A B C : World) (h : KeepC b A B) (k : KeepC b B C) : KeepC b A C := ⟨Nat.le_trans h.1 k.1, fun i cs t f hi hc => k.2 i cs t f hi (h.2 i cs t f hi hc)⟩
theorem keepC_loop {b l : Nat} {W : World} {o : Obj} {L : Loop} (h : W.heap[l]? = some (.loop L)) : KeepC b W (W.putObj l o) := ⟨by simp, fun k cs t f _ hc => by
  by_cases e : k = l
  · rw [e, h] at hc; cases hc
  · exact (World.putObj_heap_other e).trans hc⟩
theorem keepC_below {b : Nat} {W W' : World} (h : Below W.heap.size W W') : KeepC b W W' := ⟨h.size, fun k _ _ _ _ hc => (h.block k (Array.getElem?_eq_some_iff.1 hc).1).trans hc⟩

/-- The bytes of all classes, with the numbers of these. -/
def mems (ds : List Nat) (k : Nat) : List (Nat × Nat) := (List.range k).flatMap fun i => (elems (ds.getD i 0)).map fun c => (i, c)
theorem mems_succ (ds : List Nat) (k : Nat) : mems ds (k + 1) = mems ds k ++ (elems (ds.getD k 0)).map fun c => (k, c) := by simp [mems, List.range_succ]
theorem mems_prefix (ds : List Nat) {k m : Nat} (h : k ≤ m) : mems ds k <+: mems ds m := by
  obtain ⟨d, rfl⟩ : ∃ d, m = k + d := ⟨m - k, by omega⟩
  induction d with
  | zero => exact List.prefix_refl _
  | succ d ih =>
    have := ih (by omega)
    rw [show k + (d + 1) = k + d + 1 by omega, mems_succ]
    exact this.trans (List.prefix_append _ _)

set_option maxRecDepth 100000 in
set_option maxHeartbeats 2000000 in
theorem members_in (n l Bp b g cap : Nat) (ds : List Nat) (csg : Array Value) (tg : TypeId) (fg : Nat × Nat) (J Jx : List (Nat × Nat) → World → Prop)
    (hY : ∀ pre x W, J pre W → pre.length < (mems ds ds.length).length + 1 → YieldAt Fence.wide (n - 1) Try.prog l #[.int .i64 (x.1 : Nat), byteV (x.2 % 256)] W fun e W' =>
      (e = .returned (.bool true) ∧ J (pre ++ [x]) W' ∧ KeepC b W W') ∨ (e = .returned (.bool false) ∧ Jx (pre ++ [x]) W'))
    (W : World) (hJ : ∀ s A C, J s A → Below A.heap.size A C → J s C) (hBp : Blk W Bp #[.pointer (some ⟨b, 0, none⟩)] 52) (hlist : W.cell? ⟨b, 256, none⟩ = some (.slice (some ⟨g, 0, none⟩) ds.length cap))
    (hgb : g ≠ b) (hg : W.heap[g]? = some (.cells csg tg fg)) (hcs : ∀ i, i < ds.length * 4 → csg[i]? = (setCells ds)[i]?) (hds : ∀ p ∈ ds, p ≠ 0 ∧ p < 2 ^ 256) (hlen : ds.length ≤ 256) (h0 : J [] W) :
    CallsIn Fence.wide n Try.prog 142 #[.func (.yield l) #[] #[], .pointer (some ⟨Bp, 0, none⟩)] W fun e W' => (∃ v, e = .returned v) ∧
      (J (mems ds ds.length) W' ∨ (∃ pre, pre <+: mems ds ds.length ∧ Jx pre W')) := by
  have HY := Lib.hid hY; clear hY
  have HA := Lib.hid hJ; clear hJ
  replace hcs := Lib.hid hcs
  replace hds := Lib.hid hds
  have cp := hBp.cell 0
  refine callsIn_of_wp Try.func142 rfl trivial ?_
  simp only [Try.ntmps142, List.size_toArray, List.length_cons, List.length_nil, Nat.reduceAdd, Nat.reduceSub, Array.replicate_succ, Array.replicate_zero, List.push_toArray, List.append_toArray, List.nil_append, List.cons_append]
  gi_wp2
  gi_loopw [12] (fun i wr => ∃ k : Nat, k ≤ ds.length ∧ i = .int .i64 k ∧ wr.heap[g]? = some (.cells csg tg fg) ∧ b < wr.heap.size ∧ J (mems ds k) wr) (fun i _ => ds.length - (intOf i).toNat)
  case atStart => exact ⟨0, by omega, rfl, hg, block_lt_of_cell hlist, h0⟩
  case round =>
    obtain ⟨k, hk, rfl, hgr, hbr, hJs⟩ := hrel
    by_cases hlt : k < ds.length
    · have cell : ∀ i, i < ds.length * 4 → wr.cell? ⟨g, 0 + i, none⟩ = (setCells ds)[i]? := fun i hi => by
        rw [Nat.zero_add, ← hcs.out i hi]; simp [World.cell?, hgr]
      obtain ⟨c0, c1, c2, c3⟩ := setCells_four ds cell k hlt
      rw [Nat.zero_add] at c0 c1 c2 c3
      have hp := hds.out _ (List.getElem_mem hlt)
      have hms := mems_succ ds k
      have hgd : ds.getD k 0 = ds[k] := by rw [List.getD_eq_getElem?_getD, List.getElem?_eq_getElem hlt]; rfl
      rw [hgd] at hms
      generalize ds[k] = p at c0 c1 c2 c3 hp hms
      generalize hmk : mems ds k = pre at hJs hms
      have hpe : elems p ≠ [] := fun e => hp.1 ((elems_nil hp.2).1 e)
      have hpl : 0 < (elems p).length := List.length_pos_iff.2 hpe
      have hp256 := size_le p
      unfold size at hp256
      clear cell hgd
      replace hms := Lib.hid hms
      replace hmk := Lib.hid hmk
      have HBy := fun w => bytes_any p w
      unfold setV setA at HBy
      gi_wp2_with fail
      refine (callsIn_wide.2 (HBy _)).mono ?_
      rintro e w1 ⟨v, rfl, ⟨hrow, _⟩, hB1⟩
      have hBx := bthen (below1 wr _) (hB1.mono (Nat.le_refl _))
      have hJ1 := HA.out _ _ _ hJs hBx
      have hg1 := (hBx.block g (Array.getElem?_eq_some_iff.1 hgr).1).trans hgr
      obtain ⟨_, ⟨_, hn0⟩ | ⟨gb, capb, cur, rfl, hgb', hcur, _, _, _, htk⟩⟩ := hrow
      · omega
      have hbn : gb ≠ b := by simp only [World.size_alloc] at hgb'; omega
      have hb1 : b < w1.heap.size := by have := hBx.size; omega
      have hcell : ∀ j (h : j < (elems p).length), cur[j]? = some (byteV (elems p)[j]) := fun j h => by
        have e := congrArg (fun l => l[j]?) htk
        simp only [Nat.mul_one, List.getElem?_take, if_pos h, List.getElem?_map, List.getElem?_eq_getElem h, Option.map_some] at e
        rw [← e, Array.getElem?_toList]
      replace hcell := Lib.hid hcell
      clear hcs hBx hgb' htk c0 c1 c2 c3 HBy hB1 hJs hgr hbr hpe hp
      have hel := Lib.hid (fun c (h : c ∈ elems p) => elems_lt h)
      generalize elems p = es at hms hpl hp256 hcur hcell hel
      gi_wp2
      obtain ⟨wo, rfl⟩ : ∃ wo : World, wo = wr := ⟨_, rfl⟩
      gi_loopw [20] (fun i wr => ∃ j : Nat, j ≤ es.length ∧ i = .int .i64 j ∧ wr.heap[g]? = some (.cells csg tg fg) ∧ wr.heap[gb]? = some (.cells cur 5 (0, 0)) ∧ b < wr.heap.size ∧ J (pre ++ (es.take j).map fun c => (k, c)) wr) (fun i _ => es.length - (intOf i).toNat)
      case atStart => exact ⟨0, by omega, rfl, hg1, hcur, hb1, by simpa using hJ1⟩
      case round =>
        obtain ⟨j, hj, rfl, hgr, hcr, hbr, hJr⟩ := hrel
        by_cases hltj : j < es.length
        · have cj : wr.cell? ⟨gb, j, none⟩ = some (.int .u8 (es[j] : Nat)) := by
            have := hcell.out j hltj
            simp only [World.cell?, hcr]
            simpa [byteV] using this
          have hcl := hel.out _ (List.getElem_mem hltj)
          have htk := Lib.hid (List.take_succ_eq_append_getElem hltj)
          generalize es[j] = c at cj hcl htk
          have hpl0 : (pre ++ (es.take j).map fun c => (k, c)).length < (mems ds ds.length).length + 1 := by
            have h1 : pre ++ (es.take j).map (fun c => (k, c)) <+: mems ds (k + 1) := by
              rw [hms.out]
              exact (List.prefix_append_right_inj _).2 ((List.take_prefix _ _).map _)
            have := (h1.trans (mems_prefix ds (show k + 1 ≤ ds.length by omega))).length_le
            omega
          obtain ⟨fn, tmps, assign, body, hy, hR⟩ := HY.out _ (k, c) wr hJr hpl0
          clear hpl0
          dsimp only at hy
          rw [Nat.mod_eq_of_lt hcl] at hy
          unfold byteV at hy
          have HR := Lib.hid hR
          clear hR
          gi_wp2
          refine HR.out.mono ?_
          rintro e W3 (⟨rfl, hJ3, hk3⟩ | ⟨rfl, hJx3⟩)
          · have hg3 := hk3.2 _ _ _ _ hgb hgr
            have hc3 := hk3.2 _ _ _ _ hbn hcr
            have hb3 : b < W3.heap.size := by have := hk3.1; omega
            clear hk3 hy HR hJr cj
            gi_wp2
            go_roundw
            case rel => exact ⟨j + 1, by omega, by go_num, hg3, hc3, hb3, by rw [htk.out, List.map_append, ← List.append_assoc]; exact hJ3⟩
            case measure => simp [intOf]; omega
          · gi_wp2
            refine bodyPost_ret (results_none rfl _ _ _) rfl ?_
            refine ⟨⟨_, rfl⟩, .inr ⟨_, ?_, hJx3⟩⟩
            have h1 : pre ++ (es.take (j + 1)).map (fun c => (k, c)) <+: mems ds (k + 1) := by
              rw [hms.out]
              exact (List.prefix_append_right_inj _).2 ((List.take_prefix _ _).map _)
            rw [htk.out, List.map_append, ← List.append_assoc] at h1
            exact h1.trans (mems_prefix ds (by omega))
        · obtain rfl : j = es.length := by omega
          rw [List.take_length, ← hms.out] at hJr
          gi_wp2
          go_roundw
          case rel => exact ⟨k + 1, by omega, by go_num, hgr, hbr, hJr⟩
          case measure => simp [intOf]; omega
    · obtain rfl : k = ds.length := by omega
      gi_wp2
      go_end0
      exact ⟨⟨_, rfl⟩, .inl hJs⟩

theorem members_any (b : Nat) (w : World) : Calls Try.prog 117 #[.pointer (some ⟨b, 0, none⟩)] w fun e w' => e = .returned (.func (.func 142) #[] #[.pointer (some ⟨w.heap.size, 0, none⟩)]) ∧ Gr w.heap.size w w' ∧ Blk w' w.heap.size #[.pointer (some ⟨b, 0, none⟩)] 52 := by
  go_enter Try.func117, Try.ntmps117
  go_wp2
  go_ret
  exact ⟨rfl, gr1 w _, blkOf1 w _ _⟩
theorem members_stops (n Bp b g cap : Nat) (ds : List Nat) (csg : Array Value) (tg : TypeId) (fg : Nat × Nat) (W : World) (hBp : Blk W Bp #[.pointer (some ⟨b, 0, none⟩)] 52) (hlist : W.cell? ⟨b, 256, none⟩ = some (.slice (some ⟨g, 0, none⟩) ds.length cap))
    (hgb : g ≠ b) (hg : W.heap[g]? = some (.cells csg tg fg)) (hcs : ∀ i, i < ds.length * 4 → csg[i]? = (setCells ds)[i]?) (hds : ∀ p ∈ ds, p ≠ 0 ∧ p < 2 ^ 256) (hlen : ds.length ≤ 256) :
    SeqB n Try.prog 142 #[.pointer (some ⟨Bp, 0, none⟩)] (fun x : Nat × Nat => #[.int .i64 (x.1 : Nat), byteV (x.2 % 256)]) (KeepC b) (mems ds ds.length) ((mems ds ds.length).length + 1) W := fun l J Jx W' hW hJ _ hY h0 =>
  members_in n l Bp b g cap ds csg tg fg J Jx hY W' hJ (hBp.laterB hW) ((hW.cell (p := ⟨b, 256, none⟩) (block_lt_of_cell hlist)).trans hlist) hgb ((hW.block g (Array.getElem?_eq_some_iff.1 hg).1).trans hg) hcs hds hlen h0
end Go.Proofs.Ytojmkgllbhbeiaa
namespace Go.Proofs.Ytojmkgllbhbeiaa
open Go.RowKit Go.Shelf
attribute [local go_sem] Oper.semAt_some wide_fn wide_depth

/-- The cells of an alphabet. -/
def alphC (f : Nat → Nat) (v : Value) : Array Value := (Array.ofFn (n := 256) fun c => Value.int .u8 (f c : Nat)).push v
theorem alphC_get (f : Nat → Nat) (v : Value) {c : Nat} (h : c < 256) : (alphC f v)[c]? = some (.int .u8 (f c : Nat)) := by
  unfold alphC; rw [Array.getElem?_push, if_neg (by simp; omega)]; simp [h]
theorem alphC_last (f : Nat → Nat) (v : Value) : (alphC f v)[256]? = some v := by
  unfold alphC; rw [Array.getElem?_push, if_pos (by simp)]
theorem alphC_set (f : Nat → Nat) (v : Value) {c : Nat} (h : c < 256) (x : Nat) : (alphC f v).setIfInBounds c (.int .u8 (x : Nat)) = alphC (fun d => if d = c then x else f d) v := by
  refine Array.ext_getElem? fun i => ?_
  rw [Array.getElem?_setIfInBounds]
  by_cases e : c = i
  · subst e
    rw [if_pos rfl, alphC_get _ _ h, if_pos (by simp [alphC]; omega), if_pos rfl]
  · rw [if_neg e]
    by_cases hi : i < 256
    · rw [alphC_get _ _ hi, alphC_get _ _ hi, if_neg (fun h => e h.symm)]
    · by_cases h2 : i = 256
      · rw [h2, alphC_last, alphC_last]
      · rw [Array.getElem?_eq_none (by simp [alphC]; omega), Array.getElem?_eq_none (by simp [alphC]; omega)]

/-- The table after some bytes have been told their classes. -/
def tabF (pre : List (Nat × Nat)) : Nat → Nat := pre.foldl (fun f x c => if c = x.2 % 256 then x.1 % 256 else f c) fun _ => 0
theorem tabF_snoc (pre : List (Nat × Nat)) (x : Nat × Nat) : tabF (pre ++ [x]) = fun c => if c = x.2 % 256 then x.1 % 256 else tabF pre c := by simp [tabF]

theorem zero98 (v : Value) : Try.zeroCells98.setIfInBounds 256 v = alphC (fun _ => 0) v := by kernel_rfl

section
variable {β : Type} {B : Nat}
theorem InvB.and {I I' : β → World → Prop} (h : InvB B I) (h' : InvB B I') : InvB B (fun s W => I s W ∧ I' s W) :=
  ⟨fun s A C hs hg => ⟨h.grow s A C hs.1 hg, h'.grow s A C hs.2 hg⟩, fun s A l o o' hs hl ho hc => ⟨h.put s A l o o' hs.1 hl ho hc, h'.put s A l o o' hs.2 hl ho hc⟩⟩
theorem InvB.no : InvB B (fun (_ : β) (_ : World) => False) := ⟨fun _ _ _ hs _ => hs, fun _ _ _ _ _ hs _ _ _ => hs⟩
theorem InvB.blk (b : Nat) (t : TypeId) (f : β → Array Value) : InvB B (fun s W => Blk W b (f s) t) :=
  ⟨fun _ _ _ hs hg => hs.laterB hg, fun _ A l o o' hs _ ho hc => hs.putObj o' fun e => by
    subst e
    rw [show A.heap[_]? = _ from hs] at ho; cases ho; cases hc⟩
theorem InvB.below {n₀ : Nat} {w₀ : World} (h0 : n₀ ≤ w₀.heap.size) (hB : n₀ ≤ B) : InvB B (fun (_ : β) W => Below n₀ w₀ W) :=
  ⟨fun _ _ _ hs hg => hs.trans (hg.mono (Nat.le_trans h0 hs.size)), fun _ _ _ _ o' hs hl _ _ => hs.trans (belowPut o' (Nat.le_trans hB hl))⟩
end

set_option maxRecDepth 100000 in
set_option maxHeartbeats 2000000 in
theorem made_in (g cap : Nat) (ds : List Nat) (csg : Array Value) (tg : TypeId) (fg : Nat × Nat) (w : World) (hg : w.heap[g]? = some (.cells csg tg fg)) (hcs : ∀ i, i < ds.length * 4 → csg[i]? = (setCells ds)[i]?) (hds : ∀ p ∈ ds, p ≠ 0 ∧ p < 2 ^ 256) (hlen : ds.length ≤ 256) :
    CallsIn Fence.wide 9 Try.prog 93 #[.slice (some ⟨g, 0, none⟩) ds.length cap] w fun e W' => e = .returned (.pointer (some ⟨w.heap.size, 0, none⟩)) ∧ Blk W' w.heap.size (alphC (tabF (mems ds ds.length)) (.slice (some ⟨g, 0, none⟩) ds.length cap)) 98 ∧ Below w.heap.size w W' := by
  refine callsIn_of_wp_marks Try.func93 rfl trivial ?_
  simp only [Try.ntmps93, List.size_toArray, List.length_cons, List.length_nil, Nat.reduceAdd, Nat.reduceSub, Array.replicate_succ, Array.replicate_zero, List.push_toArray, List.append_toArray, List.nil_append, List.cons_append]
  gi_wp2_with fail
  refine (callsIn_wide.2 (members_any w.heap.size _)).mono ?_
  rintro e w0 ⟨rfl, hb, hs⟩
  rw [zero98] at hb hs
  have b1 := (blkOf2 w _ _ _).later hb
  have b0 := ((blkOf1 w _ _).alloc _).later hb
  have hB := bthen (below2 w _ _) hb.below
  have hgw := (Array.getElem?_eq_some_iff.1 hg).1
  have hg0 := (hB.block g hgw).trans hg
  simp only [World.size_alloc] at hs
  clear hb
  have h1 : w.heap.size + 1 < w0.heap.size := b1.lt
  have hlist : w0.cell? ⟨w.heap.size, 256, none⟩ = some (.slice (some ⟨g, 0, none⟩) ds.length cap) := (b0.cell 256).trans (alphC_last _ _)
  have hseq := members_stops 8 (w.heap.size + 1 + 1) w.heap.size g cap ds csg tg fg w0 hs hlist (by omega) hg0 hcs hds hlen
  clear hlist hg hcs hds hg0
  rw [zero98]
  generalize hv : (Value.slice (some ⟨g, 0, none⟩) ds.length cap) = v at *
  gi_wp2
  refine wpIn_rangeL (gf := 142) (lb := #[.pointer (some ⟨w.heap.size + 1 + 1, 0, none⟩)]) rfl (enters_of Try.func142 (by kernel_rfl) rfl)
    hseq keepC_t (fun _ _ _ _ _ h => keepC_loop h) (fun _ => rfl)
    (fun pre W => Blk W w.heap.size (alphC (tabF pre) v) 98 ∧ Blk W (w.heap.size + 1) #[.pointer (some ⟨w.heap.size, 0, none⟩)] 52 ∧ Below w.heap.size w W)
    (fun _ _ _ => False)
    ((InvB.blk _ _ _).and ((InvB.blk _ _ fun _ => _).and (InvB.below (Nat.le_refl _) (by omega))))
    (fun _ => InvB.no)
    ⟨b0, b1, hB⟩
    (fun x => { tmps := #[v, undef, .pointer none, .pointer (some ⟨w.heap.size + 1, 0, none⟩), .int .i64 (x.1 : Nat), byteV (x.2 % 256), v, .agg (alphC (fun _ => 0) v), .pointer (some ⟨w.heap.size, 0, none⟩), .pointer (some ⟨w.heap.size, 0, none⟩), .func (.func 142) #[] #[.pointer (some ⟨w.heap.size + 1 + 1, 0, none⟩)], .int .i64 (x.1 : Nat), byteV (x.2 % 256), undef, undef, undef, undef, undef, undef, undef, undef], defers := [] }) ?assign ?body ?done ?stop
  case assign =>
    intro l x W K hK
    gi_wp2
    exact hK
  case body =>
    rintro l pre ⟨k, c⟩ W ⟨h0, h1, hBW⟩ hlt
    have hts := Lib.hid (tabF_snoc pre (k, c))
    dsimp only at hts ⊢
    have hcl : c % 256 < 256 := Nat.mod_lt _ (by decide)
    generalize c % 256 = d at hts hcl
    have c1 := h1.cell 0
    have c0 := (h0.cell d).trans (alphC_get _ _ hcl)
    have f0 := h0.frozen d
    unfold byteV
    gi_wp2
    have hset := h0.set d (.int .u8 ((k % 256 : Nat) : Int))
    rw [alphC_set _ _ hcl, ← hts.out] at hset
    refine ⟨(KeepsOthers.setCell _ _ _).from _, ⟨by simp, fun i cs t f hi hc => (Below.heap_setCell _ _ _ i hi).trans hc⟩, hset, h1.other (p := ⟨w.heap.size, d, none⟩) (by show _ ≠ w.heap.size; omega) _, hBW.setCell (by show _ ≤ w.heap.size; omega) _⟩
  case done =>
    rintro D W hD ⟨h0, h1, hBW⟩ hK
    have c1 := h1.cell 0
    gi_wp2
    refine ⟨by simp, .inl ⟨_, _, rfl, run_takeDeferred hK, ?_⟩⟩
    have hne : w.heap.size ≠ D := by omega
    refine ⟨_, results_tmp rfl _ _ _, rfl, ?_, hBW.trans (belowPut _ (by omega))⟩
    rw [hv]
    exact h0.putObj _ hne
  case stop =>
    rintro D c pre W hD _ h _
    exact h.elim

theorem tabF_row (k : Nat) : ∀ (l : List Nat) (pre : List (Nat × Nat)) (c : Nat), (∀ d ∈ l, d < 256) → c < 256 → tabF (pre ++ l.map fun d => (k, d)) c = if c ∈ l then k % 256 else tabF pre c := by
  intro l
  induction l with
  | nil => intro pre c _ _; simp
  | cons d l ih =>
    intro pre c hl hc
    have hd := hl d (by simp)
    have := ih (pre ++ [(k, d)]) c (fun e he => hl e (by simp [he])) hc
    rw [List.append_assoc] at this
    rw [List.map_cons, show pre ++ (k, d) :: l.map (fun d => (k, d)) = pre ++ ([(k, d)] ++ l.map fun d => (k, d)) by simp, this, tabF_snoc]
    by_cases h1 : c ∈ l
    · simp [h1]
    · by_cases h2 : c = d
      · subst h2; simp [h1, Nat.mod_eq_of_lt hc]
      · simp [h1, h2, Nat.mod_eq_of_lt hd]
theorem tabF_mems {ds : List Nat} (hdis : ds.Pairwise fun p q => Sx.and p q = 0) (hlen : ds.length ≤ 256) {i c : Nat} (hi : i < ds.length) (hc : c < 256) (hb : ds[i].testBit c = true) : ∀ k, k ≤ ds.length → tabF (mems ds k) c = if i < k then i else 0 := by
  intro k
  induction k with
  | zero => intro _; simp [mems, tabF]
  | succ k ih =>
    intro hk
    have hgd : ds.getD k 0 = ds[k] := by rw [List.getD_eq_getElem?_getD, List.getElem?_eq_getElem (by omega : k < ds.length)]; rfl
    rw [mems_succ, hgd, tabF_row k _ _ c (fun d hd => elems_lt hd) hc, ih (by omega)]
    by_cases e : i = k
    · subst e
      have : c ∈ elems ds[i] := mem_elems.2 ⟨hc, hb⟩
      rw [if_pos this, if_pos (by omega), Nat.mod_eq_of_lt (by omega)]
    · have hno : ¬ c ∈ elems ds[k] := fun hm => by
        have hm := (mem_elems.1 hm).2
        rcases Nat.lt_or_gt_of_ne e with hlt | hgt
        · exact and_zero.1 (List.pairwise_iff_getElem.1 hdis i k hi (by omega) hlt) c ⟨hb, hm⟩
        · exact and_zero.1 (List.pairwise_iff_getElem.1 hdis k i (by omega) hi hgt) c ⟨hm, hb⟩
      rw [if_neg hno]
      by_cases h1 : i < k
      · rw [if_pos h1, if_pos (by omega)]
      · rw [if_neg h1, if_neg (by omega)]
theorem cls_at {ds : List Nat} (hdis : ds.Pairwise fun p q => Sx.and p q = 0) {i c : Nat} (hi : i < ds.length) (hb : ds[i].testBit c = true) : cls ds c = i := by
  unfold cls
  rw [List.findIdx_eq hi]
  refine ⟨hb, fun j hj => ?_⟩
  cases h : ds[j].testBit c with
  | false => rfl
  | true => exact (and_zero.1 (List.pairwise_iff_getElem.1 hdis j i (by omega) hi hj) c ⟨h, hb⟩).elim

/-- made: the alphabet of some classes. -/
theorem made_any {ss ds : List Nat} (hok : PartsOk ss ds) (g cap : Nat) (w : World) (h : Sl w (.slice (some ⟨g, 0, none⟩) ds.length cap) 4 ds.length (setCells ds)) (hcl : ds.length ≤ cap) (hcm : cap ≤ maxLen) (hcells : ∃ cs t f, w.heap[g]? = some (.cells cs t f)) :
    Calls Try.prog 93 #[.slice (some ⟨g, 0, none⟩) ds.length cap] w fun e w' => e = .returned (.pointer (some ⟨w.heap.size, 0, none⟩)) ∧ Alph w' w.heap.size ds ∧ Below w.heap.size w w' := by
  obtain ⟨csg, tg, fg, hg⟩ := hcells
  have hlen : ds.length ≤ 256 := (show Part ds from ⟨hok.lt, hok.disj⟩).len256
  obtain ⟨_, ⟨hh, _⟩ | ⟨g', o', cap', he, hlt, hc⟩⟩ := h
  · cases hh
  cases he
  have hcs : ∀ i, i < ds.length * 4 → csg[i]? = (setCells ds)[i]? := fun i hi => by
    have := hc i hi
    rw [Nat.zero_add] at this
    simpa [World.cell?, hg] using this
  refine (callsIn_wide.1 (made_in g cap ds csg tg fg w hg hcs hok.lt hlen)).mono fun e w' ⟨he, hb, hB⟩ => ⟨he, ⟨hb.lt, fun c hcc => ?_, g, cap, (hb.cell 256).trans (alphC_last _ _), Nat.lt_of_lt_of_le hlt hB.size, fun i hi => (hB.cell (p := ⟨g, 0 + i, none⟩) hlt).trans (hc i hi), hcl, by unfold maxLen at hcm; omega⟩, hB⟩
  rw [hb.cell c, alphC_get _ _ hcc]
  have hf := Sx.tb_full c
  rw [← hok.all, tb_orAll, decide_eq_true hcc, List.any_eq_true] at hf
  obtain ⟨p, hp, hpc⟩ := hf
  obtain ⟨i, hi, rfl⟩ := List.getElem_of_mem hp
  rw [tabF_mems hok.disj hlen hi hcc hpc _ (Nat.le_refl _), if_pos hi, cls_at hok.disj hi hpc]
end Go.Proofs.Ytojmkgllbhbeiaa
