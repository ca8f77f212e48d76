/-
  Facts of values that outlive growth, and the law of drawn regions over lists of them.
-/
import Derived.Test.YtojmkgllbhbeiaaMono
import Derived.Test.YtojmkgllbhbeiaaW7
namespace Go.Proofs.Ytojmkgllbhbeiaa
open Go.RowKit

inductive Fact where
  | any
  | eq (v : Value)
  | sl (k n : Nat) (cs : List Value)
  | pt (k : Nat) (cs : List Value)
  | bk (n0 : Nat) (cs : Array Value) (t : TypeId)

def SlN (w : World) (v : Value) (k n : Nat) (cs : List Value) : Prop :=
  ∃ b o cap, v = .slice (some ⟨b, o, none⟩) n cap ∧ b < w.heap.size ∧ ∀ i, i < n * k → w.cell? ⟨b, o + i, none⟩ = cs[i]?
def PtN (w : World) (v : Value) (k : Nat) (cs : List Value) : Prop :=
  ∃ b o, v = .pointer (some ⟨b, o, none⟩) ∧ b < w.heap.size ∧ ∀ i, i < k → w.cell? ⟨b, o + i, none⟩ = cs[i]?

def BkN (w : World) (v : Value) (n0 : Nat) (cs : Array Value) (t : TypeId) : Prop := ∃ b, v = .pointer (some ⟨b, 0, none⟩) ∧ n0 ≤ b ∧ Blk w b cs t

def Fact.says : Fact → Value → World → Prop
  | .any, _, _ => True
  | .eq u, v, _ => v = u
  | .sl k n cs, v, w => SlN w v k n cs
  | .pt k cs, v, w => PtN w v k cs
  | .bk n0 cs t, v, w => BkN w v n0 cs t

theorem SlN.later {w w' : World} {v : Value} {k n : Nat} {cs : List Value} (h : SlN w v k n cs) (hb : Below w.heap.size w w') : SlN w' v k n cs := by
  obtain ⟨b, o, cap, h1, h2, h3⟩ := h
  exact ⟨b, o, cap, h1, Nat.lt_of_lt_of_le h2 hb.size, fun i hi => (hb.cell (p := ⟨b, o + i, none⟩) h2).trans (h3 i hi)⟩
theorem PtN.later {w w' : World} {v : Value} {k : Nat} {cs : List Value} (h : PtN w v k cs) (hb : Below w.heap.size w w') : PtN w' v k cs := by
  obtain ⟨b, o, h1, h2, h3⟩ := h
  exact ⟨b, o, h1, Nat.lt_of_lt_of_le h2 hb.size, fun i hi => (hb.cell (p := ⟨b, o + i, none⟩) h2).trans (h3 i hi)⟩
theorem BkN.later {w w' : World} {v : Value} {n0 : Nat} {cs : Array Value} {t : TypeId} (h : BkN w v n0 cs t) (hb : Below w.heap.size w w') : BkN w' v n0 cs t := by
  obtain ⟨b, h1, h2, h3⟩ := h
  exact ⟨b, h1, h2, h3.laterB hb⟩
theorem Fact.later {w w' : World} {v : Value} (f : Fact) (h : f.says v w) (hb : Below w.heap.size w w') : f.says v w' := by
  cases f with
  | any => trivial
  | eq u => exact h
  | sl k n cs => exact SlN.later h hb
  | pt k cs => exact PtN.later h hb
  | bk n0 cs t => exact BkN.later h hb
theorem SlN.of_sl {w : World} {v : Value} {k n : Nat} {cs : List Value} (h : Sl w v k n cs) (hn : 0 < n) : SlN w v k n cs := by
  obtain ⟨_, ⟨_, h0⟩ | h⟩ := h
  · omega
  · exact h
theorem SlN.sl {w : World} {v : Value} {k n : Nat} {cs : List Value} (h : SlN w v k n cs) (hl : cs.length = n * k) : Sl w v k n cs := ⟨hl, .inr h⟩

/-- An operation's bare form. -/
def bare (o : Oper) : Oper := { dst := o.dst, op := o.op, type := o.type, pos := "", after := #[], guard := none }
theorem exec_bare (ev : Operand → Value) (o : Oper) : execOp ev (bare o) = execOp ev o := by
  cases o with
  | mk dst op type pos after guard => cases op <;> rfl

section
variable {P : Program} {l : List Oper} {o : Oper} {a : Act} {w : World} {G : Value → World → Prop} {vs : Nat → Value}

theorem one_bare (hw : Region.wanted o (yielded l.toArray a.tmps) = true) (h : wpList P #[] (oneV a G (bare o)) [bare o] a w) : wpList P l.toArray (oneV a G o) [o] a w := by
  unfold wpList at h ⊢
  rw [if_pos hw]
  rw [if_pos (by rfl)] at h
  rcases h with h | ⟨_, _, _, h⟩
  · refine .inl ?_
    unfold Oper.wp at h ⊢
    rw [exec_bare] at h
    exact h
  · exact h.elim
theorem one_free (hg : o.guard = none) (h : wpList P #[] (oneV a G (bare o)) [bare o] a w) : wpList P l.toArray (oneV a G o) [o] a w :=
  one_bare (by unfold Region.wanted; rw [hg]) h
theorem one_guard (g : Nat) (b : Bool) (t : Tmp) (hg : o.guard = some (g, b)) (hd : dstAt l g = some t) (hv : a.tmps[t]? = some (.bool b)) (h : wpList P #[] (oneV a G (bare o)) [bare o] a w) : wpList P l.toArray (oneV a G o) [o] a w := by
  refine one_bare ?_ h
  unfold Region.wanted yielded
  unfold dstAt at hd
  rw [hg]
  simp [hd, hv]
theorem one_skip (g : Nat) (b : Bool) (t : Tmp) (hg : o.guard = some (g, b)) (hd : dstAt l g = some t) (hv : a.tmps[t]? = some (.bool (!b))) (h : G undef w) : wpList P l.toArray (oneV a G o) [o] a w := by
  unfold wpList
  rw [if_neg]
  · exact ⟨undef, rfl, h⟩
  · unfold Region.wanted yielded
    unfold dstAt at hd
    rw [hg]
    cases b <;> simp [hd, hv]
end

/-- Facts for each operation; what is done makes memory and draws, and leaves what was there. -/
theorem wp_region_facts {P : Program} {id : Nat} {l : List Oper} {a0 : Act} {w0 : World} {Q : Exit → Act → World → Prop} (n : Nat) (F : List Fact)
    (hm : P.follows .mixedOrders = true) (hsz : a0.tmps.size = n) (hB : monoB n l 0 = true)
    (hsteps : MonoSteps P l a0 (fun w => Below w0.heap.size w0 w) (fun w w' => Below w.heap.size w w') (fun k vs w => (F.getD k .any).says (vs k) w) l 0)
    (hend : ∀ vs w, Below w0.heap.size w0 w → (∀ k, k < l.length → (F.getD k .any).says (vs k) w) → Q .normal (putAll vs l 0 a0) w) : (Code.region id l.toArray true).wp P Q a0 w0 :=
  wp_region_mono (fun w => Below w0.heap.size w0 w) (fun w w' => Below w.heap.size w w') (fun k vs w => (F.getD k .any).says (vs k) w) hm hsz hB (gr_grown w0 1 #[]).below (fun _ _ _ _ _ h _ hF => by rw [← h]; exact hF) (fun _ _ _ _ _ hT hF => Fact.later _ hF hT) hsteps hend

/-- What a step shows. -/
theorem shows {w0 w w' : World} {vs : Nat → Value} {i : Nat} {v : Value} {f : Fact} (hR : Below w0.heap.size w0 w) (hb : Below w.heap.size w w') (h : f.says v w') :
    Below w0.heap.size w0 w' ∧ Below w.heap.size w w' ∧ f.says (upd vs i v i) w' := ⟨hR.trans (hb.mono hR.size), hb, by rw [upd_same]; exact h⟩
theorem shows0 {w0 w : World} {vs : Nat → Value} {i : Nat} {v : Value} {f : Fact} (hR : Below w0.heap.size w0 w) (h : f.says v w) :
    Below w0.heap.size w0 w ∧ Below w.heap.size w w ∧ f.says (upd vs i v i) w := shows hR (Below.refl _ _) h
end Go.Proofs.Ytojmkgllbhbeiaa
