/-
  A map literal of two bools, made, filled and read inside a region that draws its order.
-/
import Derived.Test.YtojmkgllbhbeiaaFct
namespace Go.Proofs.Ytojmkgllbhbeiaa
open Go.RowKit

/-- The five states of 'map[bool]int{false: 0, true: 1}' while it is made. -/
inductive MS where
  | e
  | f
  | t
  | ft
  | tf
def MS.obj : MS → Obj
  | .e => .map #[] 0
  | .f => .map #[{ key := .bool false, val := .int .i64 0, born := 0 }] 1
  | .t => .map #[{ key := .bool true, val := .int .i64 1, born := 0 }] 1
  | .ft => .map #[{ key := .bool false, val := .int .i64 0, born := 0 }, { key := .bool true, val := .int .i64 1, born := 1 }] 2
  | .tf => .map #[{ key := .bool true, val := .int .i64 1, born := 0 }, { key := .bool false, val := .int .i64 0, born := 1 }] 2
def MS.hasF : MS → Bool
  | .f => true
  | .ft => true
  | .tf => true
  | _ => false
def MS.hasT : MS → Bool
  | .t => true
  | .ft => true
  | .tf => true
  | _ => false
def MS.addF : MS → MS
  | .e => .f
  | .t => .tf
  | x => x
def MS.addT : MS → MS
  | .e => .t
  | .f => .ft
  | x => x
theorem MS.inj {a b : MS} (h : a.obj = b.obj) : a = b := by
  cases a <;> cases b <;> first | rfl | simp [MS.obj] at h


theorem get_map {w : World} {b : Nat} {es : Array MapEntry} {c : Nat} (h : w.heap[b]? = some (.map es c)) : (getObj b).run Try.prog w = .ok (.map es c) w := by
  unfold getObj
  simp only [Sem.run, h]
theorem set_map {w : World} {b : Nat} {es : Array MapEntry} {c : Nat} (h : w.heap[b]? = some (.map es c)) (o : Obj) : (setObj b o).run Try.prog w = .ok () (w.putObj b o) := by
  unfold setObj
  simp only [Sem.run, h]
  rfl
theorem check_bool (w : World) (em : Bool) (x : Bool) : (Instr.checkKey em 10000 4 (.bool x)).run Try.prog w = .ok () w := by
  unfold Instr.checkKey
  simp [go_sem]
theorem run_insF {w : World} {b : Nat} {s : MS} (h : w.heap[b]? = some s.obj) : (Instr.mapUpdate 29 (.map (some b)) (.bool false) (.int .i64 0)).run Try.prog w = .ok () (w.putObj b s.addF.obj) := by
  have hc := check_bool w false false
  unfold Instr.mapUpdate Instr.findKey
  cases s <;> dsimp only [MS.obj] at h <;> simp [Instr.findNow, Instr.sameNow, Instr.keyThatStays, Instr.sameBits, MS.obj, MS.addF, get_map h, set_map h, hc, go_sem]
theorem run_insT {w : World} {b : Nat} {s : MS} (h : w.heap[b]? = some s.obj) : (Instr.mapUpdate 29 (.map (some b)) (.bool true) (.int .i64 1)).run Try.prog w = .ok () (w.putObj b s.addT.obj) := by
  have hc := check_bool w false true
  unfold Instr.mapUpdate Instr.findKey
  cases s <;> dsimp only [MS.obj] at h <;> simp [Instr.findNow, Instr.sameNow, Instr.keyThatStays, Instr.sameBits, MS.obj, MS.addT, get_map h, set_map h, hc, go_sem]
theorem run_look {w : World} {b : Nat} {s : MS} (h : w.heap[b]? = some s.obj) (h1 : s.hasF = true) (h2 : s.hasT = true) (x : Bool) : (Instr.lookup 29 (.map (some b)) (.bool x) false).run Try.prog w = .ok (.int .i64 (if x then 1 else 0)) w := by
  have hc := fun em => check_bool w em x
  unfold Instr.lookup Instr.findKey
  cases s <;> cases x <;> dsimp only [MS.obj] at h <;> simp [MS.hasF, MS.hasT] at h1 h2 <;> simp [Instr.findNow, Instr.sameNow, get_map h, hc, go_sem]

/-- What a step may do: make blocks, draw, and fill such maps. -/
def Tm (w w' : World) : Prop := w.heap.size ≤ w'.heap.size ∧
  ∀ k, k < w.heap.size → w'.heap[k]? = w.heap[k]? ∨ ∃ s s' : MS, w.heap[k]? = some s.obj ∧ w'.heap[k]? = some s'.obj ∧ (s.hasF = true → s'.hasF = true) ∧ (s.hasT = true → s'.hasT = true)
theorem Tm.of_below {w w' : World} (h : Below w.heap.size w w') : Tm w w' := ⟨h.size, fun k hk => .inl (h.block k hk)⟩
theorem cell_none {w : World} {p : Addr} {s : MS} (h : w.heap[p.block]? = some s.obj) : w.cell? p = none := by
  unfold World.cell?
  rw [h]
  cases s <;> rfl
theorem Tm.cell {w w' : World} (h : Tm w w') {p : Addr} (hp : p.block < w.heap.size) : w'.cell? p = w.cell? p := by
  rcases h.2 p.block hp with h | ⟨s, s', h1, h2, _⟩
  · exact World.cell?_of_block h
  · rw [cell_none h1, cell_none h2]
theorem SlN.laterM {w w' : World} {v : Value} {k n : Nat} {cs : List Value} (h : SlN w v k n cs) (hb : Tm w w') : SlN w' v k n cs := by
  obtain ⟨b, o, cap, h1, h2, h3⟩ := h
  exact ⟨b, o, cap, h1, Nat.lt_of_lt_of_le h2 hb.1, fun i hi => (hb.cell (p := ⟨b, o + i, none⟩) h2).trans (h3 i hi)⟩
theorem PtN.laterM {w w' : World} {v : Value} {k : Nat} {cs : List Value} (h : PtN w v k cs) (hb : Tm w w') : PtN w' v k cs := by
  obtain ⟨b, o, h1, h2, h3⟩ := h
  exact ⟨b, o, h1, Nat.lt_of_lt_of_le h2 hb.1, fun i hi => (hb.cell (p := ⟨b, o + i, none⟩) h2).trans (h3 i hi)⟩
theorem Fact.laterM {w w' : World} {v : Value} (f : Fact) (h : f.says v w) (hb : Tm w w') : f.says v w' := by
  cases f with
  | any => trivial
  | eq u => exact h
  | sl k n cs => exact SlN.laterM h hb
  | pt k cs => exact PtN.laterM h hb
  | bk n0 cs t =>
    obtain ⟨b, h1, h2, h3⟩ := h
    rcases hb.2 b h3.lt with h | ⟨s, s', k1, _⟩
    · exact ⟨b, h1, h2, h.trans h3⟩
    · rw [show w.heap[b]? = _ from h3] at k1
      cases s <;> cases k1

def MapAt (n0 : Nat) (v : Value) (w : World) (hf ht : Bool) : Prop :=
  ∃ (b : Nat) (s : MS), v = .map (some b) ∧ n0 ≤ b ∧ w.heap[b]? = some s.obj ∧ (hf = true → s.hasF = true) ∧ (ht = true → s.hasT = true)
theorem MapAt.laterM {n0 : Nat} {v : Value} {w w' : World} {hf ht : Bool} (h : MapAt n0 v w hf ht) (hb : Tm w w') : MapAt n0 v w' hf ht := by
  obtain ⟨b, s, h1, h2, h3, h4, h5⟩ := h
  rcases hb.2 b (Array.getElem?_eq_some_iff.1 h3).1 with h | ⟨s1, s2, k1, k2, k3, k4⟩
  · exact ⟨b, s, h1, h2, h.trans h3, h4, h5⟩
  · rw [h3] at k1
    have := MS.inj (Option.some.inj k1)
    subst this
    exact ⟨b, s2, h1, h2, k2, fun h => k3 (h4 h), fun h => k4 (h5 h)⟩

inductive MFact where
  | plain (f : Fact)
  | map (j : Nat) (hf ht : Bool)
def MFact.says (n0 : Nat) (k : Nat) (vs : Nat → Value) (w : World) : MFact → Prop
  | .plain f => f.says (vs k) w
  | .map j hf ht => MapAt n0 (vs j) w hf ht
def locB (F : List MFact) : List Oper → Nat → Bool
  | [], _ => true
  | o :: l, k => (match F.getD k (.plain .any) with | .plain _ => true | .map j _ _ => j == k || (preds o).contains j) && locB F l (k + 1)
theorem locB_at {F : List MFact} : ∀ (l : List Oper) (k i : Nat), locB F l k = true → (hi : i < l.length) → ∀ j hf ht, F.getD (k + i) (.plain .any) = .map j hf ht → j = k + i ∨ j ∈ preds l[i] := by
  intro l
  induction l with
  | nil => intro k i _ hi; cases hi
  | cons o l ih =>
    intro k i h hi j hf ht he
    simp only [locB, Bool.and_eq_true] at h
    cases i with
    | zero =>
      have h1 := h.1
      rw [show k + 0 = k from rfl] at he
      rw [he] at h1
      simp only [Bool.or_eq_true, beq_iff_eq, List.contains_iff_mem] at h1
      exact h1
    | succ i =>
      have := ih (k + 1) i h.2 (by simpa using hi) j hf ht (by rw [← he]; congr 1; omega)
      rw [show k + 1 + i = k + (i + 1) by omega] at this
      exact this

theorem wp_region_maps {P : Program} {id : Nat} {l : List Oper} {a0 : Act} {w0 : World} {Q : Exit → Act → World → Prop} (n : Nat) (F : List MFact)
    (hm : P.follows .mixedOrders = true) (hsz : a0.tmps.size = n) (hB : monoB n l 0 = true) (hL : locB F l 0 = true)
    (hsteps : MonoSteps P l a0 (fun w => Below w0.heap.size w0 w) Tm (fun k vs w => (F.getD k (.plain .any)).says w0.heap.size k vs w) l 0)
    (hend : ∀ vs w, Below w0.heap.size w0 w → (∀ k, k < l.length → (F.getD k (.plain .any)).says w0.heap.size k vs w) → Q .normal (putAll vs l 0 a0) w) : (Code.region id l.toArray true).wp P Q a0 w0 := by
  refine wp_region_mono (fun w => Below w0.heap.size w0 w) Tm (fun k vs w => (F.getD k (.plain .any)).says w0.heap.size k vs w) hm hsz hB (gr_grown w0 1 #[]).below ?_ ?_ hsteps hend
  · intro k hk vs vs' w h hp hF
    have hloc := locB_at l 0 k hL hk
    rw [Nat.zero_add] at hloc
    show MFact.says _ _ _ _ (F.getD k (.plain .any))
    have hF : MFact.says w0.heap.size k vs w (F.getD k (.plain .any)) := hF
    cases he : F.getD k (.plain .any) with
    | plain f => rw [he] at hF; simp only [MFact.says] at hF ⊢; rw [← h]; exact hF
    | map j hf ht =>
      rw [he] at hF
      simp only [MFact.says] at hF ⊢
      rcases hloc j hf ht he with hj | hj
      · rw [hj, ← h, ← hj]; exact hF
      · rw [← hp j hj]; exact hF
  · intro k vs w w' _ hT hF
    show MFact.says _ _ _ _ (F.getD k (.plain .any))
    have hF : MFact.says w0.heap.size k vs w (F.getD k (.plain .any)) := hF
    cases he : F.getD k (.plain .any) with
    | plain f => rw [he] at hF; exact Fact.laterM f hF hT
    | map j hf ht => rw [he] at hF; exact MapAt.laterM hF hT

theorem showsM {w0 w w' : World} {vs : Nat → Value} {i : Nat} {v : Value} {f : Fact} (hR : Below w0.heap.size w0 w) (hb : Below w.heap.size w w') (h : f.says v w') :
    Below w0.heap.size w0 w' ∧ Tm w w' ∧ (MFact.plain f).says w0.heap.size i (upd vs i v) w' := ⟨hR.trans (hb.mono hR.size), .of_below hb, by show f.says (upd vs i v i) w'; rw [upd_same]; exact h⟩
theorem showsM0 {w0 w : World} {vs : Nat → Value} {i : Nat} {v : Value} {f : Fact} (hR : Below w0.heap.size w0 w) (h : f.says v w) :
    Below w0.heap.size w0 w ∧ Tm w w ∧ (MFact.plain f).says w0.heap.size i (upd vs i v) w := showsM hR (Below.refl _ _) h
theorem Tm.put {w : World} {b : Nat} {s s' : MS} (h : w.heap[b]? = some s.obj) (h1 : s.hasF = true → s'.hasF = true) (h2 : s.hasT = true → s'.hasT = true) : Tm w (w.putObj b s'.obj) := by
  refine ⟨by unfold World.putObj; simp, fun k hk => ?_⟩
  by_cases hkb : k = b
  · subst hkb
    refine .inr ⟨s, s', h, ?_, h1, h2⟩
    unfold World.putObj
    simp [hk]
  · exact .inl (World.putObj_heap_other hkb)
theorem below_put {n0 b : Nat} {w0 w : World} {o : Obj} (hR : Below n0 w0 w) (hb : n0 ≤ b) : Below n0 w0 (w.putObj b o) :=
  hR.trans ⟨rfl, rfl, rfl, by unfold World.putObj; simp, fun k hk => World.putObj_heap_other (by omega)⟩
theorem at_put {w : World} {b : Nat} {s : MS} (h : w.heap[b]? = some s.obj) (o : Obj) : (w.putObj b o).heap[b]? = some o := by
  have := (Array.getElem?_eq_some_iff.1 h).1
  unfold World.putObj
  simp [this]
/-- The two inserts, shown. -/
theorem shows_insF {w0 w : World} {vs : Nat → Value} {i j b : Nat} {v : Value} {s : MS} (hR : Below w0.heap.size w0 w) (hj : j ≠ i) (hv : vs j = .map (some b)) (hb : w0.heap.size ≤ b) (h : w.heap[b]? = some s.obj) :
    Below w0.heap.size w0 (w.putObj b s.addF.obj) ∧ Tm w (w.putObj b s.addF.obj) ∧ (MFact.map j true false).says w0.heap.size i (upd vs i v) (w.putObj b s.addF.obj) :=
  ⟨below_put hR hb, Tm.put h (by cases s <;> decide) (by cases s <;> decide), b, s.addF, (upd_ne vs i v hj).trans hv, hb, at_put h _, fun _ => by cases s <;> rfl, fun h => by cases h⟩
theorem shows_insT {w0 w : World} {vs : Nat → Value} {i j b : Nat} {v : Value} {s : MS} (hR : Below w0.heap.size w0 w) (hj : j ≠ i) (hv : vs j = .map (some b)) (hb : w0.heap.size ≤ b) (h : w.heap[b]? = some s.obj) :
    Below w0.heap.size w0 (w.putObj b s.addT.obj) ∧ Tm w (w.putObj b s.addT.obj) ∧ (MFact.map j false true).says w0.heap.size i (upd vs i v) (w.putObj b s.addT.obj) :=
  ⟨below_put hR hb, Tm.put h (by cases s <;> decide) (by cases s <;> decide), b, s.addT, (upd_ne vs i v hj).trans hv, hb, at_put h _, fun h => (by cases h), fun _ => by cases s <;> rfl⟩
theorem shows_made {w0 w : World} {vs : Nat → Value} {i : Nat} (hR : Below w0.heap.size w0 w) :
    Below w0.heap.size w0 (w.alloc (.map #[] 0)) ∧ Tm w (w.alloc (.map #[] 0)) ∧ (MFact.map i false false).says w0.heap.size i (upd vs i (.map (some w.heap.size))) (w.alloc (.map #[] 0)) :=
  ⟨hR.alloc hR.size _, .of_below (below1 w _), w.heap.size, .e, upd_same _ _ _, hR.size, World.alloc_heap_new w _, fun h => (by cases h), fun h => by cases h⟩
end Go.Proofs.Ytojmkgllbhbeiaa
