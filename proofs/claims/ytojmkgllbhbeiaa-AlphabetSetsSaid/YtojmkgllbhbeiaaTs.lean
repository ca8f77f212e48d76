/-
  A drawn region with one store, behind which operations that only move values may still float.
-/
import Derived.Test.YtojmkgllbhbeiaaTn
namespace Go.Proofs.Ytojmkgllbhbeiaa
open Go.RowKit

/-- A pointer to a new block. -/
def Fx.pb (B : Nat) (cs : Array Value) (t : TypeId) : Fx := ⟨fun v w => ∃ b, v = .pointer (some ⟨b, 0, none⟩) ∧ B ≤ b ∧ Blk w b cs t, fun _ _ _ hb ⟨b, h1, h2, h3⟩ => ⟨b, h1, h2, h3.laterB hb⟩⟩
inductive Kd where
  | pre
  | st
  | fl
/-- What is asked of each operation: those ahead of the store, the store, those that float. -/
def KdStep (P : Program) (l : List Oper) (a0 : Act) (w0 : World) (F : List Fx) (H : (Nat → Value) → World → Prop) (o : Oper) (i : Nat) : Kd → Prop
  | .pre => ∀ (vs : Nat → Value) (a : Act) (w : World), Below w0.heap.size w0 w → (∀ j ∈ preds o, (F.getD j .any).says (vs j) w) → (∀ t, freeOf l t = true → a.tmps.getD t undef = a0.tmps.getD t undef) →
      (∀ j t, dstAt l j = some t → (a.tmps[t]?) = some (vs j)) → wpList P l.toArray (oneV a (fun v w' => Below w0.heap.size w0 w' ∧ Below w.heap.size w w' ∧ (F.getD i .any).says (upd vs i v i) w') o) [o] a w
  | .st => ∀ (vs : Nat → Value) (a : Act) (w : World), Below w0.heap.size w0 w → (∀ j ∈ preds o, (F.getD j .any).says (vs j) w) → (∀ t, freeOf l t = true → a.tmps.getD t undef = a0.tmps.getD t undef) →
      (∀ j t, dstAt l j = some t → (a.tmps[t]?) = some (vs j)) → wpList P l.toArray (oneV a (fun v w' => H (upd vs i v) w') o) [o] a w
  | .fl => ∀ (vs : Nat → Value) (a : Act) (w : World), (∀ j ∈ preds o, ∃ w', (F.getD j .any).says (vs j) w') → (∀ t, freeOf l t = true → a.tmps.getD t undef = a0.tmps.getD t undef) →
      (∀ j t, dstAt l j = some t → (a.tmps[t]?) = some (vs j)) → wpList P l.toArray (oneV a (fun v w' => w' = w ∧ ∀ w'', (F.getD i .any).says v w'') o) [o] a w
def KdSteps (P : Program) (l : List Oper) (a0 : Act) (w0 : World) (F : List Fx) (H : (Nat → Value) → World → Prop) : List Kd → List Oper → Nat → Prop
  | k :: ks, o :: r, i => KdStep P l a0 w0 F H o i k ∧ KdSteps P l a0 w0 F H ks r (i + 1)
  | _, _, _ => True
theorem KdSteps.at {P : Program} {l : List Oper} {a0 : Act} {w0 : World} {F : List Fx} {H : (Nat → Value) → World → Prop} : ∀ (ks : List Kd) (r : List Oper) (b i : Nat), KdSteps P l a0 w0 F H ks r b → (hi : i < r.length) → (hk : i < ks.length) → KdStep P l a0 w0 F H r[i] (b + i) ks[i]
  | [], _, _, _, _, _, hk => by simp at hk
  | _ :: _, [], _, _, _, hi, _ => by simp at hi
  | _ :: _, _ :: _, _, 0, h, _, _ => h.1
  | _ :: ks, _ :: r, b, i + 1, h, hi, hk => by
    have := KdSteps.at ks r (b + 1) i h.2 (by simpa using hi) (by simpa using hk)
    rw [show b + 1 + i = b + (i + 1) by omega] at this
    exact this

def isPre (K : List Kd) (k : Nat) : Bool := match K[k]? with | some .pre => true | _ => false
/-- Each one ahead of the store is waited for by the store or by another one ahead of it. -/
def preB (l : List Oper) (K : List Kd) (m : Nat) : Bool := (List.range l.length).all fun k => !isPre K k || (List.range (m + 1)).any fun j => decide (k < j) && (j == m || isPre K j) && (match l[j]? with | some o => (preds o).contains k | none => false)
theorem preB_spec {l : List Oper} {K : List Kd} {m : Nat} (h : preB l K m = true) {k : Nat} (hk : k < l.length) (hp : isPre K k = true) : ∃ j, k < j ∧ j ≤ m ∧ (j = m ∨ isPre K j = true) ∧ ∃ hj : j < l.length, k ∈ preds l[j] := by
  have := List.all_eq_true.1 h k (List.mem_range.2 hk)
  rw [hp, Bool.not_true, Bool.false_or] at this
  obtain ⟨j, hj, h2⟩ := List.any_eq_true.1 this
  rw [Bool.and_eq_true, Bool.and_eq_true, decide_eq_true_eq, Bool.or_eq_true, beq_iff_eq] at h2
  obtain ⟨⟨h3, h4⟩, h5⟩ := h2
  cases ho : l[j]? with
  | none => rw [ho] at h5; cases h5
  | some o =>
    rw [ho] at h5
    obtain ⟨hjl, rfl⟩ := List.getElem?_eq_some_iff.1 ho
    exact ⟨j, h3, by have := List.mem_range.1 hj; omega, h4, hjl, by simpa using h5⟩

def StI (l : List Oper) (K : List Kd) (m : Nat) (w0 : World) (F : List Fx) (H : (Nat → Value) → World → Prop) (L : Nat → Bool) (vs : Nat → Value) (w : World) : Prop :=
  (∀ k (hk : k < l.length), L k = true → ∀ j ∈ preds l[k], L j = true) ∧
  ((L m = false ∧ Below w0.heap.size w0 w ∧ ∀ k, k < l.length → L k = true → (F.getD k .any).says (vs k) w) ∨
   (L m = true ∧ (∀ k, k < l.length → isPre K k = true → L k = true) ∧ (∀ k, k < l.length → k ≠ m → L k = true → ∃ w', (F.getD k .any).says (vs k) w') ∧ H vs w))

/-- THE LAW. -/
theorem wp_region_store {P : Program} {id : Nat} {l : List Oper} {a0 : Act} {w0 : World} {Q : Exit → Act → World → Prop} (n m : Nat) (K : List Kd) (F : List Fx) (H : (Nat → Value) → World → Prop)
    (hm : P.follows .mixedOrders = true) (hsz : a0.tmps.size = n) (hB : monoB n l 0 = true) (hml : m < l.length) (hkl : K.length = l.length) (hkm : K[m]? = some .st) (hk1 : ((List.range l.length).all fun k => k == m || match K[k]? with | some .st => false | _ => true) = true) (hpre : preB l K m = true) (hFm : ∀ v w, (F.getD m .any).says v w)
    (hHl : ∀ vs i v w, i ≠ m → isPre K i = false → H vs w → H (upd vs i v) w)
    (hsteps : KdSteps P l a0 w0 F H K l 0)
    (hend : ∀ vs w, (∀ k, k < l.length → k ≠ m → ∃ w', (F.getD k .any).says (vs k) w') → H vs w → Q .normal (putAll vs l 0 a0) w) : (Code.region id l.toArray true).wp P Q a0 w0 := by
  have hlt : ∀ k (hk : k < l.length), ∀ j ∈ preds l[k], j < k := fun k hk j hj => by
    have := (monoB_at l 0 k hB hk).1 j hj; omega
  refine wp_region_inv n (StI l K m w0 F H) hm hsz hB ?_ ?_ ?_ ?_
  · rintro L L' vs w hL ⟨hc, h⟩
    refine ⟨fun k hk hk' j hj => ?_, ?_⟩
    · have := hlt k hk j hj
      rw [← hL j (by omega)]
      exact hc k hk (by rw [hL k hk]; exact hk') j hj
    · rcases h with ⟨h1, h2, h3⟩ | ⟨h1, h2, h3, h4⟩
      · exact .inl ⟨by rw [← hL m hml]; exact h1, h2, fun k hk hk' => h3 k hk (by rw [hL k hk]; exact hk')⟩
      · exact .inr ⟨by rw [← hL m hml]; exact h1, fun k hk hp => by rw [← hL k hk]; exact h2 k hk hp, fun k hk hne hk' => h3 k hk hne (by rw [hL k hk]; exact hk'), h4⟩
  · intro L vs h0 _
    have hn : ∀ k, k < l.length → L k = true → False := fun k hk h => by rw [h0 k hk] at h; cases h
    exact ⟨fun k hk h => (hn k hk h).elim, .inl ⟨h0 m hml, (gr_grown w0 1 #[]).below, fun k hk h => (hn k hk h).elim⟩⟩
  · have hall : ∀ (r : List Oper) (b : Nat), (∀ k (hk : k < r.length), l[b + k]? = some r[k]) → InvSteps P l a0 (StI l K m w0 F H) r b := by
      intro r
      induction r with
      | nil => intro b _; trivial
      | cons o r ih =>
        intro b hb
        refine ⟨?_, ih (b + 1) fun k hk => by
          have := hb (k + 1) (by simpa using hk)
          rw [show b + 1 + k = b + (k + 1) by omega]
          simpa using this⟩
        have hob := hb 0 (by simp)
        simp only [Nat.add_zero, List.getElem_cons_zero] at hob
        obtain ⟨hbl, hbo⟩ := List.getElem?_eq_some_iff.1 hob
        intro L vs a w hLi hpr ⟨hc, hI⟩ hout hget
        have hstep := KdSteps.at K l 0 b hsteps hbl (by omega)
        rw [Nat.zero_add, hbo] at hstep
        have hcl : ∀ k (hk : k < l.length), done L b k = true → ∀ j ∈ preds l[k], done L b j = true := fun k hk hd j hj => by
          by_cases e : j = b
          · subst e; exact done_same L j
          · rw [done_ne L e]
            by_cases e2 : k = b
            · subst e2; rw [hbo] at hj; exact hpr j hj
            · rw [done_ne L e2] at hd; exact hc k hk hd j hj
        have hpl : ∀ j ∈ preds o, j < l.length ∧ j ≠ b := fun j hj => by
          rw [← hbo] at hj
          have := hlt b hbl j hj
          omega
        cases hKb : K[b]'(by omega) with
        | pre =>
          have hpb : isPre K b = true := by unfold isPre; rw [List.getElem?_eq_getElem (by omega), hKb]
          have hbm : b ≠ m := fun e => by
            subst e
            rw [List.getElem?_eq_getElem (by omega), hKb] at hkm
            cases hkm
          rw [hKb] at hstep
          rcases hI with ⟨h1, h2, h3⟩ | ⟨h1, h2, _⟩
          · refine wpList_of_one_mono ?_ (hstep vs a w h2 (fun j hj => h3 j (hpl j hj).1 (hpr j hj)) hout hget)
            rintro v w' ⟨k1, k2, k3⟩
            refine ⟨hcl, .inl ⟨by rw [done_ne L (Ne.symm hbm)]; exact h1, k1, fun k hk hd => ?_⟩⟩
            by_cases e : k = b
            · subst e; exact k3
            · rw [upd_ne _ _ _ e]
              rw [done_ne L e] at hd
              exact (F.getD k .any).later _ _ _ k2 (h3 k hk hd)
          · rw [h2 b hbl hpb] at hLi; cases hLi
        | st =>
          have hbm : b = m := by
            have := List.all_eq_true.1 hk1 b (List.mem_range.2 hbl)
            rw [List.getElem?_eq_getElem (by omega), hKb] at this
            simpa using this
          rw [hKb] at hstep
          rcases hI with ⟨h1, h2, h3⟩ | ⟨h1, _⟩
          · refine wpList_of_one_mono ?_ (hstep vs a w h2 (fun j hj => h3 j (hpl j hj).1 (hpr j hj)) hout hget)
            intro v w' hH
            have hpall : ∀ d k, k + d = l.length → isPre K k = true → L k = true := fun d => by
              induction d using Nat.strongRecOn with
              | ind d ihd =>
                intro k hkd hp
                by_cases hkl2 : k < l.length
                · obtain ⟨j, j1, j2, j3, hj, j4⟩ := preB_spec hpre hkl2 hp
                  rcases j3 with e | e
                  · subst e; subst hbm
                    rw [hbo] at j4
                    exact hpr k j4
                  · exact hc j hj (ihd (l.length - j) (by omega) j (by omega) e) k j4
                · exfalso
                  unfold isPre at hp
                  rw [List.getElem?_eq_none (by omega)] at hp
                  cases hp
            refine ⟨hcl, .inr ⟨by rw [← hbm]; exact done_same L b, fun k hk hp => ?_, fun k hk hne hd => ?_, hH⟩⟩
            · by_cases e : k = b
              · subst e; exact done_same L k
              · rw [done_ne L e]; exact hpall (l.length - k) k (by omega) hp
            · have e : k ≠ b := fun e => hne (e.trans hbm)
              rw [upd_ne _ _ _ e]
              rw [done_ne L e] at hd
              exact ⟨w, h3 k hk hd⟩
          · rw [hbm, h1] at hLi; cases hLi
        | fl =>
          have hpb : isPre K b = false := by unfold isPre; rw [List.getElem?_eq_getElem (by omega), hKb]
          have hbm : b ≠ m := fun e => by
            subst e
            rw [List.getElem?_eq_getElem (by omega), hKb] at hkm
            cases hkm
          rw [hKb] at hstep
          rcases hI with ⟨h1, h2, h3⟩ | ⟨h1, h2, h3, h4⟩
          · refine wpList_of_one_mono ?_ (hstep vs a w (fun j hj => ⟨w, h3 j (hpl j hj).1 (hpr j hj)⟩) hout hget)
            rintro v w' ⟨rfl, k3⟩
            refine ⟨hcl, .inl ⟨by rw [done_ne L (Ne.symm hbm)]; exact h1, h2, fun k hk hd => ?_⟩⟩
            by_cases e : k = b
            · subst e; rw [upd_same]; exact k3 _
            · rw [upd_ne _ _ _ e]
              rw [done_ne L e] at hd
              exact h3 k hk hd
          · refine wpList_of_one_mono ?_ (hstep vs a w (fun j hj => by
              by_cases e : j = m
              · subst e; exact ⟨w, hFm _ _⟩
              · exact h3 j (hpl j hj).1 e (hpr j hj)) hout hget)
            rintro v w' ⟨rfl, k3⟩
            refine ⟨hcl, .inr ⟨by rw [done_ne L (Ne.symm hbm)]; exact h1, fun k hk hp => ?_, fun k hk hne hd => ?_, hHl _ _ _ _ hbm hpb h4⟩⟩
            · have e : k ≠ b := fun e => by rw [e, hpb] at hp; cases hp
              rw [done_ne L e]; exact h2 k hk hp
            · by_cases e : k = b
              · subst e; rw [upd_same]; exact ⟨w', k3 _⟩
              · rw [upd_ne _ _ _ e]
                rw [done_ne L e] at hd
                exact h3 k hk hne hd
    exact hall l 0 fun k hk => by simp [hk]
  · rintro L vs w hL ⟨_, ⟨h1, _⟩ | ⟨_, _, h3, h4⟩⟩
    · rw [hL m hml] at h1; cases h1
    · exact hend vs w (fun k hk hne => h3 k hk hne (hL k hk)) h4
end Go.Proofs.Ytojmkgllbhbeiaa
