/-
  Regions that draw their order: one statement about what is done so far, kept by each operation whenever it may run.
-/
import Derived.Test.YtojmkgllbhbeiaaLn
namespace Go.Proofs.Ytojmkgllbhbeiaa
open Go.RowKit

def done (L : Nat → Bool) (i : Nat) : Nat → Bool := fun k => if k = i then true else L k
theorem done_same (L : Nat → Bool) (i : Nat) : done L i i = true := by simp [done]
theorem done_ne (L : Nat → Bool) {i k : Nat} (h : k ≠ i) : done L i k = L k := by simp [done, h]

theorem wpList_of_one_mono {P : Program} {o : Oper} {a : Act} {w : World} {G G' : Value → World → Prop} {ops : Array Oper} (hK : ∀ v w', G v w' → G' v w') (h : wpList P ops (oneV a G o) [o] a w) : wpList P ops (oneV a G' o) [o] a w :=
  wpList_of_one (rest := []) (fun v w' hG => ⟨v, rfl, hK v w' hG⟩) h
def InvStep (P : Program) (l : List Oper) (a0 : Act) (I : (Nat → Bool) → (Nat → Value) → World → Prop) (o : Oper) (i : Nat) : Prop :=
  ∀ (L : Nat → Bool) (vs : Nat → Value) (a : Act) (w : World), L i = false → (∀ j ∈ preds o, L j = true) → I L vs w → (∀ t, freeOf l t = true → a.tmps.getD t undef = a0.tmps.getD t undef) →
    (∀ j t, dstAt l j = some t → a.tmps[t]? = some (vs j)) → wpList P l.toArray (oneV a (fun v w' => I (done L i) (upd vs i v) w') o) [o] a w
def InvSteps (P : Program) (l : List Oper) (a0 : Act) (I : (Nat → Bool) → (Nat → Value) → World → Prop) : List Oper → Nat → Prop
  | [], _ => True
  | o :: r, i => InvStep P l a0 I o i ∧ InvSteps P l a0 I r (i + 1)
theorem InvSteps.at {P : Program} {l : List Oper} {a0 : Act} {I : (Nat → Bool) → (Nat → Value) → World → Prop} : ∀ (r : List Oper) (k i : Nat), InvSteps P l a0 I r k → (hi : i < r.length) → InvStep P l a0 I r[i] (k + i)
  | [], _, _, _, hi => by cases hi
  | _ :: r, k, 0, h, _ => h.1
  | _ :: r, k, i + 1, h, hi => by
    have := InvSteps.at r (k + 1) i h.2 (by simpa using hi)
    rw [show k + 1 + i = k + (i + 1) by omega] at this
    exact this

theorem wpAny_inv {P : Program} {n : Nat} {l : List Oper} {a0 : Act} {I : (Nat → Bool) → (Nat → Value) → World → Prop} {Q : Exit → Act → World → Prop}
    (hB : monoB n l 0 = true) (hsz : a0.tmps.size = n) (hloc : ∀ L L' vs w, (∀ k, k < l.length → L k = L' k) → I L vs w → I L' vs w) (hsteps : InvSteps P l a0 I l 0)
    (hend : ∀ L vs w, (∀ k, k < l.length → L k = true) → I L vs w → Q .normal (putAll vs l 0 a0) w) :
    ∀ (f : Nat) (listed : Array Bool) (vs : Nat → Value) (w : World), listed.size = l.length → undone listed.toList = f → I (fun k => listed.getD k true) vs w →
      wpAny P .any l.toArray Q f listed (putAll vs l 0 a0) w := by
  have hgl : ∀ (A : Array Bool) i, A.getD i true = A.toList.getD i true := fun A i => by simp
  have hget : ∀ i (hi : i < l.length), l.toArray[i]? = some l[i] := fun i hi => by simp [hi]
  have hbt : ∀ (A : Array Bool) i, i < l.length → A.size = l.length → (A.getD i false = true ↔ A.getD i true = true) := fun A i hi hA => by
    have : i < A.size := by omega
    simp [this]
  have hpre : ∀ (A : Array Bool) i (hi : i < l.length), A.size = l.length → ((∀ j ∈ preds l[i], A.getD j true = true) ↔ ∀ e ∈ l[i].after, Region.binds .any e = true → A.getD e.on false = true) := fun A i hi hA => by
    have hlt := (monoB_at l 0 i hB hi).1
    constructor
    · intro h e he hb
      have hm : e.on ∈ preds l[i] := List.mem_map.2 ⟨e, List.mem_filter.2 ⟨by simpa using he, hb⟩, rfl⟩
      exact (hbt A _ (by have := hlt _ hm; omega) hA).2 (h _ hm)
    · intro h j hj
      have := hlt j hj
      obtain ⟨e, he, rfl⟩ := List.mem_map.1 hj
      obtain ⟨he, hb⟩ := List.mem_filter.1 he
      exact (hbt A _ (by omega) hA).1 (h e (by simpa using he) hb)
  have hnone : ∀ (A : Array Bool), A.size = l.length → Region.ready .any l.toArray A = [] → ∀ k, k < l.length → A.getD k true = true := fun A hA h0 k => by
    induction k using Nat.strongRecOn with
    | ind k ih =>
      intro hk
      cases hc : A.getD k true with
      | true => rfl
      | false =>
        exfalso
        have : k ∈ Region.ready .any l.toArray A := mem_ready.2 ⟨hc, _, hget k hk, (hpre A k hk hA).1 fun j hj => ih j (by have := (monoB_at l 0 k hB hk).1 j hj; omega) (by have := (monoB_at l 0 k hB hk).1 j hj; omega)⟩
        rw [h0] at this
        cases this
  intro f
  induction f with
  | zero =>
    intro listed vs w hs hu hI
    have hall := undone_pos _ hu
    refine ⟨?_, hend _ vs w (fun k _ => by rw [hgl]; exact hall k) hI⟩
    rw [List.eq_nil_iff_forall_not_mem]
    intro i hi
    have := (mem_ready.1 hi).1
    rw [hgl, hall] at this
    cases this
  | succ f ih =>
    intro listed vs w hs hu hI
    refine ⟨fun h0 => hend _ vs w (fun k hk => hnone listed hs h0 k hk) hI, fun i hi => ?_⟩
    obtain ⟨hun, oi, hoi, hall⟩ := mem_ready.1 hi
    have hil : i < l.length := by
      have := (Array.getElem?_eq_some_iff.1 hoi).1
      simpa using this
    have hoi' := hget i hil
    have hpr := (hpre listed i hil hs).2 (by rw [hoi'] at hoi; cases hoi; exact hall)
    have hnear := fun j t h => by have := putAll_near l 0 j vs a0 t hB hsz h; rwa [Nat.zero_add] at this
    have hone := hsteps.at l 0 i hil (fun k => listed.getD k true) vs (putAll vs l 0 a0) w (by rw [Nat.zero_add]; exact hun) hpr hI (fun t ht => putAll_far l t 0 vs a0 fun o ho => by
      have := List.all_eq_true.1 ht o ho
      simpa using this) fun j t h => by
        have h1 := hnear j t h
        have hlt : t < (putAll vs l 0 a0).tmps.size := by
          rw [(putAll_size l 0 vs a0).1, hsz]
          unfold dstAt at h
          cases hj : l[j]? with
          | none => rw [hj] at h; cases h
          | some o =>
            obtain ⟨hjl, hje⟩ := List.getElem?_eq_some_iff.1 hj
            rw [hj] at h
            exact (monoB_at l 0 j hB hjl).2 t (by rw [hje]; exact h)
        rw [Array.getD_eq_getD_getElem?, Array.getElem?_eq_getElem hlt, Option.getD_some] at h1
        rw [Array.getElem?_eq_getElem hlt, h1]
    rw [Nat.zero_add] at hone
    refine wp_of_one hoi' (fun v w' hG => ?_) hone
    rw [putAll_upd l 0 i vs a0 v hB hil, Nat.zero_add]
    refine ih _ _ _ (by simpa using hs) ?_ (hloc _ _ _ _ (fun k hk => ?_) hG)
    · have := undone_set listed.toList i (by rw [← hgl]; exact hun)
      rw [Array.toList_setIfInBounds]
      omega
    · by_cases hki : k = i
      · subst hki
        rw [done_same]
        simp [hs, hk]
      · rw [done_ne _ hki, getD_set_ne true (Ne.symm hki)]

/-- THE LAW. -/
theorem wp_region_inv {P : Program} {id : Nat} {l : List Oper} {a0 : Act} {w0 : World} {Q : Exit → Act → World → Prop} (n : Nat) (I : (Nat → Bool) → (Nat → Value) → World → Prop)
    (hm : P.follows .mixedOrders = true) (hsz : a0.tmps.size = n) (hB : monoB n l 0 = true) (hloc : ∀ L L' vs w, (∀ k, k < l.length → L k = L' k) → I L vs w → I L' vs w)
    (h0 : ∀ L vs, (∀ k, k < l.length → L k = false) → (∀ j t, dstAt l j = some t → vs j = a0.tmps.getD t undef) → I L vs { w0 with drawn := w0.drawn + 1 }) (hsteps : InvSteps P l a0 I l 0)
    (hend : ∀ L vs w, (∀ k, k < l.length → L k = true) → I L vs w → Q .normal (putAll vs l 0 a0) w) : (Code.region id l.toArray true).wp P Q a0 w0 := by
  refine wp_region_any hm ?_
  have hst0 : putAll (fun k => (l[k]?).elim undef (fun o => got o a0)) l 0 a0 = a0 := putAll_start l a0 0 _ fun j hj => by simp [hj]
  have := wpAny_inv (P := P) (Q := Q) hB hsz hloc hsteps hend l.length (Array.replicate l.length false) (fun k => (l[k]?).elim undef (fun o => got o a0)) { w0 with drawn := w0.drawn + 1 } (by simp) (by simp [undone]) (h0 _ _ (fun k hk => by simp [hk]) fun j t h => by
    unfold dstAt at h
    cases hj : l[j]? with
    | none => rw [hj] at h; cases h
    | some o =>
      rw [hj] at h
      have h : o.dst = some t := h
      show got o a0 = _
      unfold got
      rw [h])
  rw [hst0] at this
  simpa using this

/-- Operation j waits for operation i. -/
def waitsB (l : List Oper) (i j : Nat) : Bool := match l[j]? with | some o => (preds o).contains i | none => false

/-- The steps of a region whose operations also read slots that later ones write. -/
def OldSteps (P : Program) (l : List Oper) (a0 : Act) (w0 : World) (F : List Fact) : List Oper → Nat → Prop
  | [], _ => True
  | o :: rest, i => (∀ (vs : Nat → Value) (a : Act) (w : World), Below w0.heap.size w0 w → (∀ j ∈ preds o, (F.getD j .any).says (vs j) w) → (∀ t, freeOf l t = true → a.tmps.getD t undef = a0.tmps.getD t undef) →
      (∀ j t, dstAt l j = some t → (a.tmps[t]?) = some (vs j)) → (∀ j t, dstAt l j = some t → waitsB l i j = true → a.tmps.getD t undef = a0.tmps.getD t undef) →
      wpList P l.toArray (oneV a (fun v w' => Below w0.heap.size w0 w' ∧ Below w.heap.size w w' ∧ (F.getD i .any).says (upd vs i v i) w') o) [o] a w) ∧ OldSteps P l a0 w0 F rest (i + 1)
def OldI (l : List Oper) (a0 : Act) (w0 : World) (F : List Fact) (L : Nat → Bool) (vs : Nat → Value) (w : World) : Prop :=
  Below w0.heap.size w0 w ∧ (∀ k, k < l.length → L k = true → (F.getD k .any).says (vs k) w) ∧ (∀ j t, dstAt l j = some t → L j = false → vs j = a0.tmps.getD t undef) ∧
    ∀ j (hj : j < l.length), L j = true → ∀ e ∈ preds l[j], L e = true

theorem dstAt_lt {l : List Oper} {j : Nat} {t : Tmp} (h : dstAt l j = some t) : j < l.length := by
  unfold dstAt at h
  cases hj : l[j]? with
  | none => rw [hj] at h; cases h
  | some o => exact (List.getElem?_eq_some_iff.1 hj).1

theorem oldSteps_inv {P : Program} {l : List Oper} {a0 : Act} {w0 : World} {F : List Fact} (hB : ∀ j (hj : j < l.length), ∀ e ∈ preds l[j], e < j) : ∀ (r : List Oper) (i : Nat), (∀ k (hk : k < r.length), l[i + k]? = some r[k]) → OldSteps P l a0 w0 F r i → InvSteps P l a0 (OldI l a0 w0 F) r i
  | [], _, _, _ => trivial
  | o :: r, i, hl, h => by
    refine ⟨fun L vs a w hL hp hI hout hget => ?_, oldSteps_inv hB r (i + 1) (fun k hk => by have := hl (k + 1) (by simpa using hk); rw [show i + 1 + k = i + (k + 1) by omega]; simpa using this) h.2⟩
    obtain ⟨hR, hF, hO, hW⟩ := hI
    have hoi : l[i]? = some o := by have := hl 0 (by simp); rw [Nat.add_zero] at this; exact this
    have hil : i < l.length := (List.getElem?_eq_some_iff.1 hoi).1
    have hio : l[i] = o := (List.getElem?_eq_some_iff.1 hoi).2
    have hpl : ∀ j ∈ preds o, j < l.length := fun j hj => by
      have := hB i hil j (by rw [hio]; exact hj); omega
    have hold : ∀ j t, dstAt l j = some t → waitsB l i j = true → a.tmps.getD t undef = a0.tmps.getD t undef := fun j t hd hw => by
      have hjl := dstAt_lt hd
      have hLj : L j = false := by
        cases hq : L j with
        | false => rfl
        | true =>
          unfold waitsB at hw
          rw [List.getElem?_eq_getElem hjl] at hw
          have := hW j hjl hq i (by simpa using hw)
          rw [hL] at this; cases this
      have h1 := hget j t hd
      rw [Array.getD_eq_getD_getElem?, h1]
      exact hO j t hd hLj
    have hone := h.1 vs a w hR (fun j hj => hF j (hpl j hj) (hp j hj)) hout hget hold
    refine wpList_of_one_mono (fun v w' hG => ?_) hone
    obtain ⟨h1, h2, h3⟩ := hG
    refine ⟨h1, fun k hk hLk => ?_, fun j t hd hLj => ?_, fun j hj hLj e he => ?_⟩
    · by_cases hki : k = i
      · subst hki; exact h3
      · rw [done_ne _ hki] at hLk
        rw [upd_ne _ _ _ hki]
        exact Fact.later _ (hF k hk hLk) h2
    · by_cases hji : j = i
      · subst hji; rw [done_same] at hLj; cases hLj
      · rw [done_ne _ hji] at hLj
        rw [upd_ne _ _ _ hji]
        exact hO j t hd hLj
    · by_cases hji : j = i
      · subst hji
        rw [hio] at he
        have := hp e he
        by_cases hei : e = j
        · rw [hei, done_same]
        · rw [done_ne _ hei]; exact this
      · rw [done_ne _ hji] at hLj
        have := hW j hj hLj e he
        by_cases hei : e = i
        · rw [hei, done_same]
        · rw [done_ne _ hei]; exact this

/-- THE LAW by facts, where an operation may read what a later one overwrites. -/
theorem wp_region_old {P : Program} {id : Nat} {l : List Oper} {a0 : Act} {w0 : World} {Q : Exit → Act → World → Prop} (n : Nat) (F : List Fact)
    (hm : P.follows .mixedOrders = true) (hsz : a0.tmps.size = n) (hB : monoB n l 0 = true) (hsteps : OldSteps P l a0 w0 F l 0)
    (hend : ∀ vs w, Below w0.heap.size w0 w → (∀ k, k < l.length → (F.getD k .any).says (vs k) w) → Q .normal (putAll vs l 0 a0) w) : (Code.region id l.toArray true).wp P Q a0 w0 := by
  have hpr : ∀ j (hj : j < l.length), ∀ e ∈ preds l[j], e < j := fun j hj e he => by have := (monoB_at l 0 j hB hj).1 e he; omega
  refine wp_region_inv n (OldI l a0 w0 F) hm hsz hB ?_ ?_ (oldSteps_inv hpr l 0 (fun k hk => by simp [hk]) hsteps) ?_
  · rintro L L' vs w hL ⟨h1, h2, h3, h4⟩
    refine ⟨h1, fun k hk hLk => h2 k hk (by rw [hL k hk]; exact hLk), fun j t hd hLj => h3 j t hd (by rw [hL j (dstAt_lt hd)]; exact hLj), fun j hj hLj e he => ?_⟩
    rw [← hL e (by have := hpr j hj e he; omega)]
    exact h4 j hj (by rw [hL j hj]; exact hLj) e he
  · intro L vs hL hv
    refine ⟨(gr_grown w0 1 #[]).below, fun k hk h => ?_, fun j t hd _ => hv j t hd, fun j hj h => ?_⟩
    · rw [hL k hk] at h; cases h
    · rw [hL j hj] at h; cases h
  · rintro L vs w hL ⟨h1, h2, _, _⟩
    exact hend vs w h1 fun k hk => h2 k hk (hL k hk)
end Go.Proofs.Ytojmkgllbhbeiaa
