/-
  A range over a function, at the wide fence: the iterator's contract and the law for the caller, with the draws counted.
-/
import Derived.Test.YtojmkgllbhbeiaaReg
namespace Go.Proofs.Ytojmkgllbhbeiaa
open Go.RowKit

/-- Block b is as it was. -/
def KeepB (b : Nat) (W W' : World) : Prop := W'.heap[b]? = W.heap[b]?
theorem keepB_t {b : Nat} {A B C : World} (h : KeepB b A B) (k : KeepB b B C) : KeepB b A C := Eq.trans k h
theorem keepB_below {b B : Nat} {W W' : World} (h : Below B W W') (hb : b < B) : KeepB b W W' := h.block b hb
theorem keepB_set {b : Nat} {W : World} {p : Addr} (v : Value) (hb : b ≠ p.block) : KeepB b W (W.setCell p v) := Below.heap_setCell _ _ _ _ hb
theorem Blk.keep {w w' : World} {b : Nat} {cs : Array Value} {t : TypeId} (h : Blk w b cs t) (hk : KeepB b w w') : Blk w' b cs t := Eq.trans hk h
theorem Blk.putObj {w : World} {b : Nat} {cs : Array Value} {t : TypeId} (h : Blk w b cs t) {D : Nat} (o : Obj) (hb : b ≠ D) : Blk (w.putObj D o) b cs t := Eq.trans (World.putObj_heap_other hb) h
theorem grown_of_below {w w' : World} (h : Below w.heap.size w w') : w.grownBy w' none := ⟨h.os, h.tape, h.output, h.size, fun k hk _ => h.block k hk⟩
theorem keepsOthers_of_below {w w' : World} (h : Below w.heap.size w w') : KeepsOthers w w' :=
  ⟨h.size, fun k _ hk _ => (h.block k (Array.getElem?_eq_some_iff.1 hk).1).trans hk⟩
theorem belowPut {n₀ : Nat} {W : World} {l : Nat} (o' : Obj) (h : n₀ ≤ l) : Below n₀ W (W.putObj l o') :=
  ⟨rfl, rfl, rfl, by simp, fun k hk => World.putObj_heap_other (by omega)⟩

theorem grPut {n₀ : Nat} {w₀ W : World} {l : Nat} (h : Gr n₀ w₀ W) (o' : Obj) (hl : n₀ ≤ l) : Gr n₀ w₀ (W.putObj l o') := ⟨h.below.trans (belowPut o' hl), h.drawn⟩

/-- An invariant that abides growth, and the turn of a block beyond B that is no cells. -/
structure Inv {β : Type} (B : Nat) (I : β → World → Prop) : Prop where
  grow : ∀ s A C, I s A → Gr A.heap.size A C → I s C
  put : ∀ s A l o o', I s A → B ≤ l → A.heap[l]? = some o → o.isCells = false → I s (A.putObj l o')
section
variable {β : Type} {B : Nat}
theorem Inv.and {I I' : β → World → Prop} (h : Inv B I) (h' : Inv B I') : Inv B (fun s W => I s W ∧ I' s W) :=
  ⟨fun s A C hs hg => ⟨h.grow s A C hs.1 hg, h'.grow s A C hs.2 hg⟩, fun s A l o o' hs hl ho hc => ⟨h.put s A l o o' hs.1 hl ho hc, h'.put s A l o o' hs.2 hl ho hc⟩⟩
theorem Inv.pure (p : β → Prop) : Inv B (fun s (_ : World) => p s) := ⟨fun _ _ _ hs _ => hs, fun _ _ _ _ _ hs _ _ _ => hs⟩
theorem Inv.no {β : Type} : Inv B (fun (_ : β) (_ : World) => False) := Inv.pure fun _ => False
theorem Inv.blk (b : Nat) (t : TypeId) (f : β → Array Value) : Inv B (fun s W => Blk W b (f s) t) :=
  ⟨fun _ _ _ hs hg => hs.later hg, fun _ A l o o' hs _ ho hc => hs.putObj o' fun e => by
    subst e
    rw [show A.heap[_]? = _ from hs] at ho; cases ho; cases hc⟩
theorem Inv.below {n₀ : Nat} {w₀ : World} (h0 : n₀ ≤ w₀.heap.size) (hB : n₀ ≤ B) : Inv B (fun (_ : β) W => Below n₀ w₀ W) :=
  ⟨fun _ _ _ hs hg => hs.trans (hg.below.mono (Nat.le_trans h0 hs.size)), fun _ _ _ _ o' hs hl _ _ => hs.trans (belowPut o' (Nat.le_trans hB hl))⟩
theorem Inv.gr {n₀ : Nat} {w₀ : World} (h0 : n₀ ≤ w₀.heap.size) (hB : n₀ ≤ B) : Inv B (fun (_ : β) W => Gr n₀ w₀ W) :=
  ⟨fun _ _ _ hs hg => hs.trans (hg.mono (Nat.le_trans h0 hs.size)), fun _ _ _ _ o' hs hl _ _ => ⟨hs.below.trans (belowPut o' (Nat.le_trans hB hl)), hs.drawn⟩⟩
theorem Inv.size (n : Nat) : Inv B (fun (_ : β) W => n ≤ W.heap.size) :=
  ⟨fun _ _ _ hs hg => Nat.le_trans hs hg.size, fun _ _ _ _ _ hs _ _ _ => by simpa using hs⟩
theorem Inv.keepB {b : Nat} {w₀ : World} (hb : b < w₀.heap.size) (hB : b < B) : Inv B (fun (_ : β) W => KeepB b w₀ W) :=
  ⟨fun _ A _ hs hg => (hg.below.block b (by
      have h1 : A.heap[b]? = w₀.heap[b]? := hs
      rw [Array.getElem?_eq_getElem hb] at h1
      exact (Array.getElem?_eq_some_iff.1 h1).1)).trans hs, fun _ _ _ _ o' hs hl _ _ => (World.putObj_heap_other (by omega)).trans hs⟩
/-- A box that holds a slice of an owned row. -/
theorem Inv.row (n₀ b : Nat) (t e : TypeId) (size : Nat) (k : β → Nat) (f : β → List Value) (G : β → Value → Prop) : Inv B (fun s W => ∃ v, Boxed W b t v ∧ W.ownsRow n₀ e size v (k s) (f s) ∧ G s v) :=
  ⟨fun s A C ⟨v, hv, hr, hG⟩ hg => ⟨v, Blk.later (show Blk A b _ t from hv) hg, hr.kept (grown_of_below hg.below) (by cases v.ownBlock <;> simp), hG⟩,
   fun s A l o o' ⟨v, hv, hr, hG⟩ _ ho hc => ⟨v, Blk.putObj (show Blk A b _ t from hv) o' (fun e' => by
      subst e'
      rw [show A.heap[_]? = _ from hv] at ho; cases ho; cases hc), ownsRow_putObj hr o' ho hc, hG⟩⟩
end

/-- What an iterator does with a loop body: 'encs x' is handed to yield; all of xs comes, or a part of it where a round has said no. -/
def SeqD {α : Type} (n : Nat) (P : Program) (g : Nat) (lb : Array Value) (encs : α → Array Value) (Kp : World → World → Prop) (xs : List α) (N : Nat) (w : World) : Prop :=
  ∀ (l : Nat) (J Jx : List α → World → Prop) (W : World), Gr w.heap.size w W → (∀ s A C, J s A → Gr A.heap.size A C → J s C) → (∀ s A C, Jx s A → Gr A.heap.size A C → Jx s C) →
    (∀ pre x W1, J pre W1 → pre.length < N → YieldAt Fence.wide (n - 1) P l (encs x) W1 fun e W' =>
      (e = .returned (.bool true) ∧ J (pre ++ [x]) W' ∧ Kp W1 W') ∨ (e = .returned (.bool false) ∧ Jx (pre ++ [x]) W')) →
    J [] W →
    CallsIn Fence.wide n P g (#[.func (.yield l) #[] #[]] ++ lb) W fun e W' => (∃ v, e = .returned v) ∧ (J xs W' ∨ (∃ pre, pre <+: xs ∧ Jx pre W'))

/-- How a round's body may be left. -/
def roundEnd {α : Type} (B : Nat) (Kp : World → World → Prop) (I : List α → World → Prop) (Ix : Code → List α → World → Prop) (xs : List α) (W : World) : Exit → Act → World → Prop
  | .normal, _, W' => KeepsFrom B W W' ∧ Kp W W' ∧ I xs W'
  | .ret, _, W' => KeepsFrom B W W' ∧ Ix .ret xs W'
  | .exit id, _, W' => KeepsFrom B W W' ∧ Ix (.exit id) xs W'
  | .goto t, _, W' => KeepsFrom B W W' ∧ Ix (.goto t) xs W'
  | .panic _, _, _ => False
  | .outgrown, _, _ => False

theorem wpIn_range {P : Program} {α : Type} {n : Nat} {g : Operand} {ps : Array Tmp} {assign body : Code} {Q : Exit → Act → World → Prop} {a : Act} {w : World}
    {gf : Nat} {lb : Array Value} (hg : a.eval g = .func (.func gf) #[] lb) (eg : ∀ args w, (callFunc gf args).run P w = .ok (.enter gf args) w)
    {encs : α → Array Value} {Kp : World → World → Prop} {xs : List α} {N : Nat} (hseq : SeqD (n - 1) P gf lb encs Kp xs N w)
    (hKt : ∀ A B C : World, Kp A B → Kp B C → Kp A C) (hKb : ∀ (W : World) (l : Nat) (o : Obj), w.heap.size ≤ l → Kp W (W.putObj l o)) (hps : ∀ x, (encs x).size = ps.size)
    (I : List α → World → Prop) (Ix : Code → List α → World → Prop) (hI : Inv w.heap.size I) (hIx : ∀ c, Inv w.heap.size (Ix c)) (h0 : I [] w) (a₁ : α → Act)
    (hassign : ∀ (l : Nat) (x : α) (W : World) (K : Act → World → Prop), K (a₁ x) W →
      assign.wpIn (Fence.wide.inRound l) (n - 1 - 1) P (Exit.then K (fun _ _ _ => False)) { tmps := (ps.zip (encs x)).foldl (fun t (p, v) => t.setIfInBounds p v) a.tmps, defers := [] } W)
    (hbody : ∀ (l : Nat) (pre : List α) (x : α) (W : World), I pre W → pre.length < N → body.wpIn (Fence.wide.inRound l) (n - 1 - 1) P (roundEnd w.heap.size Kp I Ix (pre ++ [x]) W) (a₁ x) W)
    (hdone : ∀ (D : Nat) (W : World), w.heap.size ≤ D → I xs W → W.heap[D]? = some (.deferred (some [])) → Q .normal { a with defers := { target := .collected D, args := #[] } :: a.defers } W)
    (hstop : ∀ (D : Nat) (c : Code) (pre : List α) (W : World), w.heap.size ≤ D → pre <+: xs → Ix c pre W → W.heap[D]? = some (.deferred (some [])) → c.wpIn Fence.wide n P Q { a with defers := { target := .collected D, args := #[] } :: a.defers } W) :
    (Code.rangeFunc g ps assign body).wpIn Fence.wide n P Q a w := by
  refine wpIn_rangeFunc fun fn hfn => ?_
  obtain ⟨rec, hrec⟩ : ∃ rec : LoopState → Option Code → Loop, rec = fun st pe => { state := st, pending := pe, fn, tmps := a.tmps, params := ps, assign, body, defers := w.heap.size } := ⟨_, rfl⟩
  obtain ⟨W1, hW1⟩ : ∃ W1, W1 = (w.alloc (.deferred (some []))).alloc (.loop (rec .ready none)) := ⟨_, rfl⟩
  have hG1 : Gr w.heap.size w W1 := by rw [hW1]; exact gr2 w _ _
  have hL1 : W1.heap[w.heap.size + 1]? = some (.loop (rec .ready none)) := by
    rw [hW1]; have := World.alloc_heap_new (w.alloc (.deferred (some []))) (.loop (rec .ready none)); rwa [World.size_alloc] at this
  have hK1 : W1.heap[w.heap.size]? = some (.deferred (some [])) := by
    rw [hW1]; exact (Below.heap_alloc _ _ _ (by simp)).trans (World.alloc_heap_new w _)
  have keep : ∀ {A C : World} {k : Nat} {o : Obj}, Gr A.heap.size A C → A.heap[k]? = some o → C.heap[k]? = some o := fun hg hk => (hg.below.block _ (Array.getElem?_eq_some_iff.1 hk).1).trans hk
  refine ⟨w.heap.size + 1, [{ target := .collected w.heap.size, args := #[] }], W1, { target := .fn (.func gf) lb, args := #[.func (.yield (w.heap.size + 1)) #[] #[]] }, W1, gf,
    #[.func (.yield (w.heap.size + 1)) #[] #[]] ++ lb, W1, ?_, ?_, fun _ _ => trivial, ?_, (fun h => absurd h (by decide)), ?_⟩
  · rw [hW1, hrec]; exact run_enterLoop_outer _ _ _ _ _
  · simp only [resolve, hg]
    simp [go_sem]
  · simp [invoke, go_sem, eg]
  · refine (hseq (w.heap.size + 1)
      (fun pre W => I pre W ∧ W.heap[w.heap.size + 1]? = some (.loop (rec .ready none)) ∧ W.heap[w.heap.size]? = some (.deferred (some [])))
      (fun pre W => ∃ c, Ix c pre W ∧ W.heap[w.heap.size + 1]? = some (.loop (rec .done (some c))) ∧ W.heap[w.heap.size]? = some (.deferred (some [])))
      W1 hG1 (fun s A C hs hg => ⟨hI.grow s A C hs.1 hg, keep hg hs.2.1, keep hg hs.2.2⟩)
      (fun s A C ⟨c, hc, hl, hk⟩ hg => ⟨c, (hIx c).grow s A C hc hg, keep hg hl, keep hg hk⟩) ?_ ⟨hI.grow _ _ _ h0 hG1, hL1, hK1⟩).mono ?_
    · rintro pre x W ⟨hi, hl, hk⟩ hlen
      have hlt : w.heap.size + 1 < W.heap.size := (Array.getElem?_eq_some_iff.1 hl).1
      have hy := run_yield (P := P) (args := encs x) hl (by rw [hrec]; exact hps x)
      rw [hrec] at hy
      refine ⟨fn, _, assign, body, hy, roundIn_of_wpIn hfn (hassign _ x W _ ⟨_, run_beginRound hl (by rw [hrec]), ?_⟩)⟩
      have hl2 : (W.putObj (w.heap.size + 1) (.loop { rec .ready none with state := .busy })).heap[w.heap.size + 1]? = some (.loop { rec .ready none with state := .busy }) := World.putObj_heap_same hlt
      have hk2 : (W.putObj (w.heap.size + 1) (.loop { rec .ready none with state := .busy })).heap[w.heap.size]? = some (.deferred (some [])) := (World.putObj_heap_other (by omega)).trans hk
      refine wpIn_mono (hbody _ pre x _ (hI.put _ _ _ _ _ hi (by omega) hl rfl) hlen) ?_
      have fin : ∀ (jump : Option Code) (W3 : World), KeepsFrom w.heap.size (W.putObj (w.heap.size + 1) (.loop { rec .ready none with state := .busy })) W3 →
          (Instr.endRound (w.heap.size + 1) jump).run P W3 = .ok (.bool jump.isNone) (W3.putObj (w.heap.size + 1) (.loop (rec (if jump.isNone then .ready else .done) jump))) ∧
          W3.heap[w.heap.size + 1]? = some (.loop { rec .ready none with state := .busy }) ∧
          (W3.putObj (w.heap.size + 1) (.loop (rec (if jump.isNone then .ready else .done) jump))).heap[w.heap.size + 1]? = some (.loop (rec (if jump.isNone then .ready else .done) jump)) ∧
          (W3.putObj (w.heap.size + 1) (.loop (rec (if jump.isNone then .ready else .done) jump))).heap[w.heap.size]? = some (.deferred (some [])) := fun jump W3 hk3 => by
        have hl3 := hk3.same _ _ (by omega) hl2 rfl
        have hend := run_endRound (P := P) jump hl3
        rw [hrec] at hend ⊢
        exact ⟨hend, by rw [hrec] at hl3; exact hl3, World.putObj_heap_same (Array.getElem?_eq_some_iff.1 hl3).1, (World.putObj_heap_other (by omega)).trans (hk3.same _ _ (Nat.le_refl _) hk2 rfl)⟩
      rintro e a3 W3 hp
      cases e with
      | normal =>
        obtain ⟨hk3, hkp3, hi3⟩ := hp
        obtain ⟨hr, hl3, hl4, hk4⟩ := fin none W3 hk3
        exact ⟨_, _, hr, .inl ⟨rfl, ⟨hI.put _ _ _ _ _ hi3 (by omega) hl3 rfl, hl4, hk4⟩, hKt _ _ _ (hKt _ _ _ (hKb _ _ _ (by omega)) hkp3) (hKb _ _ _ (by omega))⟩⟩
      | ret =>
        obtain ⟨hr, hl3, hl4, hk4⟩ := fin (some .ret) W3 hp.1
        exact ⟨_, _, hr, .inr ⟨rfl, .ret, (hIx _).put _ _ _ _ _ hp.2 (by omega) hl3 rfl, hl4, hk4⟩⟩
      | exit id =>
        obtain ⟨hr, hl3, hl4, hk4⟩ := fin (some (.exit id)) W3 hp.1
        exact ⟨_, _, hr, .inr ⟨rfl, .exit id, (hIx _).put _ _ _ _ _ hp.2 (by omega) hl3 rfl, hl4, hk4⟩⟩
      | goto t =>
        obtain ⟨hr, hl3, hl4, hk4⟩ := fin (some (.goto t)) W3 hp.1
        exact ⟨_, _, hr, .inr ⟨rfl, .goto t, (hIx _).put _ _ _ _ _ hp.2 (by omega) hl3 rfl, hl4, hk4⟩⟩
      | panic ch => exact hp.elim
      | outgrown => exact hp.elim
    · rintro e W2 ⟨⟨v, rfl⟩, (⟨hi, hl, hk⟩ | ⟨pre, hp, c, hi, hl, hk⟩)⟩
      · exact ⟨none, _, by have h := run_endLoop (P := P) hl (by rw [hrec]; simp); rw [hrec] at h; exact h, hdone _ _ (Nat.le_refl _) (hI.put _ _ _ _ _ hi (by omega) hl rfl) ((World.putObj_heap_other (by omega)).trans hk)⟩
      · exact ⟨some c, _, by have h := run_endLoop (P := P) hl (by rw [hrec]; simp); rw [hrec] at h; exact h, hstop _ c pre _ (Nat.le_refl _) hp ((hIx c).put _ _ _ _ _ hi (by omega) hl rfl) ((World.putObj_heap_other (by omega)).trans hk)⟩
end Go.Proofs.Ytojmkgllbhbeiaa
