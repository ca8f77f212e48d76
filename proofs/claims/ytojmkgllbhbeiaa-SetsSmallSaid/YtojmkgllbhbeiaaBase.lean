/-
  What a block of cells is, and how it is carried over what the walks do to the world.
-/
import Derived.Test.YtojmkgllbhbeiaaSx
import Derived.RangeFuncNested
import Derived.RangeFuncBound
import Derived.RangeFuncCalls
import Derived.RangeFuncLeaves
import Derived.Shelf.Abstract
import Derived.Shelf.RegionOpen
import Derived.WalkKit
import Derived.OwnWalkIn
import Derived.TacticsInMore
import Derived.LoopNIn
import Derived.LoopIn
import Derived.WalkSpells
import Derived.WalkLawsBesides
import Derived.StillTailTactics
import Derived.Lib.QuietBelow
import Derived.Shelf.SlSortCmp.QuietGrown
import Derived.BigQuiet
import Derived.Lib.Hide
import Derived.Deep.LoopGhost
import Derived.Deep.Cut
import Derived.Deep.DeepMust
import Derived.Deep.DeepFit
import Derived.Maps.AppendAt
namespace Go.Proofs.Ytojmkgllbhbeiaa
open Go.RowKit

/-- Below block number B the world w' is as w was, and it has drawn as often or more often. -/
structure Gr (B : Nat) (w w' : World) : Prop where
  below : Below B w w'
  drawn : w.drawn ≤ w'.drawn
section
variable {B : Nat} {a b w w' : World}
theorem Gr.size (h : Gr B w w') : w.heap.size ≤ w'.heap.size := h.below.size
theorem Gr.refl (B : Nat) (w : World) : Gr B w w := ⟨Below.refl B w, Nat.le_refl _⟩
theorem Gr.trans (h : Gr B a b) (k : Gr B b w) : Gr B a w := ⟨h.below.trans k.below, Nat.le_trans h.drawn k.drawn⟩
theorem Gr.mono {B' : Nat} (h : Gr B w w') (hB : B' ≤ B) : Gr B' w w' := ⟨h.below.mono hB, h.drawn⟩
theorem Gr.alloc (h : Gr B a w) (hB : B ≤ w.heap.size) (o : Obj) : Gr B a (w.alloc o) := ⟨h.below.alloc hB o, h.drawn⟩
theorem Gr.setCell (h : Gr B a w) {p : Addr} (hp : B ≤ p.block) (u : Value) : Gr B a (w.setCell p u) := ⟨h.below.setCell hp u, h.drawn⟩
theorem Gr.cell (h : Gr B w w') {p : Addr} (hp : p.block < B) : w'.cell? p = w.cell? p := h.below.cell hp
theorem Gr.frozen (h : Gr B w w') {p : Addr} (hp : p.block < B) : w'.frozen? p = w.frozen? p := h.below.frozen hp
end

/-- Block b holds the cells cs, of type t, none of them frozen. -/
def Blk (w : World) (b : Nat) (cs : Array Value) (t : TypeId) : Prop := w.heap[b]? = some (.cells cs t (0, 0))

theorem Blk.lt {w : World} {b : Nat} {cs : Array Value} {t : TypeId} (h : Blk w b cs t) : b < w.heap.size := (Array.getElem?_eq_some_iff.1 h).1
theorem Blk.cell {w : World} {b : Nat} {cs : Array Value} {t : TypeId} (h : Blk w b cs t) (i : Nat) : w.cell? ⟨b, i, none⟩ = cs[i]? := by simp [World.cell?, show w.heap[b]? = _ from h]
theorem Blk.frozen {w : World} {b : Nat} {cs : Array Value} {t : TypeId} (h : Blk w b cs t) (i : Nat) : w.frozen? ⟨b, i, none⟩ = false := by simp [World.frozen?, show w.heap[b]? = _ from h]
theorem Blk.new (w : World) (cs : Array Value) (t : TypeId) : Blk (w.alloc (.cells cs t)) w.heap.size cs t := World.alloc_heap_new w _
theorem Blk.below {B : Nat} {w w' : World} {b : Nat} {cs : Array Value} {t : TypeId} (h : Blk w b cs t) (hb : Below B w w') (hlt : b < B) : Blk w' b cs t := (hb.block b hlt).trans h
theorem Blk.laterB {w w' : World} {b : Nat} {cs : Array Value} {t : TypeId} (h : Blk w b cs t) (hb : Below w.heap.size w w') : Blk w' b cs t := h.below hb h.lt
theorem Blk.later {w w' : World} {b : Nat} {cs : Array Value} {t : TypeId} (h : Blk w b cs t) (hb : Gr w.heap.size w w') : Blk w' b cs t := h.laterB hb.below
theorem Blk.alloc {w : World} {b : Nat} {cs : Array Value} {t : TypeId} (h : Blk w b cs t) (o : Obj) : Blk (w.alloc o) b cs t := h.laterB ((Below.refl _ _).alloc (Nat.le_refl _) o)
theorem Blk.drew {w : World} {b : Nat} {cs : Array Value} {t : TypeId} (h : Blk w b cs t) : Blk w.drew b cs t := h
theorem Blk.drewN {w : World} {b : Nat} {cs : Array Value} {t : TypeId} (h : Blk w b cs t) (n : Nat) : Blk (w.drewN n) b cs t := h
theorem Blk.set {w : World} {b : Nat} {cs : Array Value} {t : TypeId} (h : Blk w b cs t) (i : Nat) (v : Value) : Blk (w.setCell ⟨b, i, none⟩ v) b (cs.setIfInBounds i v) t := by
  obtain ⟨hlt, hk⟩ := Array.getElem?_eq_some_iff.1 h
  show (w.heap.modify b _)[b]? = _
  rw [Array.getElem?_eq_getElem (by rw [Array.size_modify]; exact hlt), Array.getElem_modify_self, hk]
  rfl
theorem Blk.other {w : World} {b : Nat} {cs : Array Value} {t : TypeId} (h : Blk w b cs t) {p : Addr} (hp : b ≠ p.block) (v : Value) : Blk (w.setCell p v) b cs t :=
  (Below.heap_setCell w p v b hp).trans h
theorem Blk.inj {w : World} {b : Nat} {cs cs' : Array Value} {t t' : TypeId} (h : Blk w b cs t) (h' : Blk w b cs' t') : cs = cs' := by
  have := h.symm.trans h'; simp at this; exact this.1

/-- A block of four cells, known whole. -/
theorem Blk.four {w : World} {b : Nat} {x0 x1 x2 x3 : Value} {t : TypeId} (h : Blk w b #[x0, x1, x2, x3] t) :
    w.cell? ⟨b, 0, none⟩ = some x0 ∧ w.cell? ⟨b, 1, none⟩ = some x1 ∧ w.cell? ⟨b, 2, none⟩ = some x2 ∧ w.cell? ⟨b, 3, none⟩ = some x3 ∧
      w.frozen? ⟨b, 0, none⟩ = false ∧ w.frozen? ⟨b, 1, none⟩ = false ∧ w.frozen? ⟨b, 2, none⟩ = false ∧ w.frozen? ⟨b, 3, none⟩ = false :=
  ⟨h.cell 0, h.cell 1, h.cell 2, h.cell 3, h.frozen 0, h.frozen 1, h.frozen 2, h.frozen 3⟩

/-- New blocks, one behind the other. -/
theorem blkOf1 (w : World) (cs : Array Value) (t : TypeId) : Blk (w.alloc (.cells cs t)) w.heap.size cs t := Blk.new w cs t
theorem blkOf2 (w : World) (o : Obj) (cs : Array Value) (t : TypeId) : Blk ((w.alloc o).alloc (.cells cs t)) (w.heap.size + 1) cs t := by
  have := Blk.new (w.alloc o) cs t; rwa [World.size_alloc] at this
theorem blkOf3 (w : World) (o o' : Obj) (cs : Array Value) (t : TypeId) : Blk (((w.alloc o).alloc o').alloc (.cells cs t)) (w.heap.size + 1 + 1) cs t := by
  have := Blk.new ((w.alloc o).alloc o') cs t; simpa only [World.size_alloc] using this
theorem blkOf4 (w : World) (o o' o'' : Obj) (cs : Array Value) (t : TypeId) : Blk ((((w.alloc o).alloc o').alloc o'').alloc (.cells cs t)) (w.heap.size + 1 + 1 + 1) cs t := by
  have := Blk.new (((w.alloc o).alloc o').alloc o'') cs t; simpa only [World.size_alloc] using this
theorem below1 (w : World) (o : Obj) : Below w.heap.size w (w.alloc o) := (Below.refl _ _).alloc (Nat.le_refl _) o
theorem below2 (w : World) (o o' : Obj) : Below w.heap.size w ((w.alloc o).alloc o') := (below1 w o).alloc (by simp) o'
theorem below3 (w : World) (o o' o'' : Obj) : Below w.heap.size w (((w.alloc o).alloc o').alloc o'') := (below2 w o o').alloc (by simp; omega) o''
theorem below4 (w : World) (o o' o'' o3 : Obj) : Below w.heap.size w ((((w.alloc o).alloc o').alloc o'').alloc o3) := (below3 w o o' o'').alloc (by simp; omega) o3
theorem gr1 (w : World) (o : Obj) : Gr w.heap.size w (w.alloc o) := ⟨below1 w o, Nat.le_refl _⟩
theorem gr2 (w : World) (o o' : Obj) : Gr w.heap.size w ((w.alloc o).alloc o') := ⟨below2 w o o', Nat.le_refl _⟩
theorem gr3 (w : World) (o o' o'' : Obj) : Gr w.heap.size w (((w.alloc o).alloc o').alloc o'') := ⟨below3 w o o' o'', Nat.le_refl _⟩
theorem gr4 (w : World) (o o' o'' o3 : Obj) : Gr w.heap.size w ((((w.alloc o).alloc o').alloc o'').alloc o3) := ⟨below4 w o o' o'' o3, Nat.le_refl _⟩
theorem gthen {w w1 w2 : World} (h : Gr w.heap.size w w1) (h' : Gr w1.heap.size w1 w2) : Gr w.heap.size w w2 := h.trans (h'.mono h.size)
theorem bthen {w w1 w2 : World} (h : Below w.heap.size w w1) (h' : Below w1.heap.size w1 w2) : Below w.heap.size w w2 := h.trans (h'.mono h.size)
/-- Four cells of a block stored. -/
theorem bfour {B b : Nat} {a w : World} (h : Below B a w) (hb : B ≤ b) (x0 x1 x2 x3 : Value) :
    Below B a ((((w.setCell ⟨b, 0, none⟩ x0).setCell ⟨b, 1, none⟩ x1).setCell ⟨b, 2, none⟩ x2).setCell ⟨b, 3, none⟩ x3) :=
  (((h.setCell (p := ⟨b, 0, none⟩) hb x0).setCell (p := ⟨b, 1, none⟩) hb x1).setCell (p := ⟨b, 2, none⟩) hb x2).setCell (p := ⟨b, 3, none⟩) hb x3
theorem gfour {B b : Nat} {a w : World} (h : Gr B a w) (hb : B ≤ b) (x0 x1 x2 x3 : Value) :
    Gr B a ((((w.setCell ⟨b, 0, none⟩ x0).setCell ⟨b, 1, none⟩ x1).setCell ⟨b, 2, none⟩ x2).setCell ⟨b, 3, none⟩ x3) := ⟨bfour h.below hb x0 x1 x2 x3, h.drawn⟩
theorem Blk.setFour {w : World} {b : Nat} {y0 y1 y2 y3 : Value} {t : TypeId} (h : Blk w b #[y0, y1, y2, y3] t) (x0 x1 x2 x3 : Value) :
    Blk ((((w.setCell ⟨b, 0, none⟩ x0).setCell ⟨b, 1, none⟩ x1).setCell ⟨b, 2, none⟩ x2).setCell ⟨b, 3, none⟩ x3) b #[x0, x1, x2, x3] t :=
  (((h.set 0 x0).set 1 x1).set 2 x2).set 3 x3
theorem Blk.otherFour {w : World} {b b' : Nat} {cs : Array Value} {t : TypeId} (h : Blk w b cs t) (hne : b ≠ b') (x0 x1 x2 x3 : Value) :
    Blk ((((w.setCell ⟨b', 0, none⟩ x0).setCell ⟨b', 1, none⟩ x1).setCell ⟨b', 2, none⟩ x2).setCell ⟨b', 3, none⟩ x3) b cs t :=
  (((h.other (p := ⟨b', 0, none⟩) hne x0).other (p := ⟨b', 1, none⟩) hne x1).other (p := ⟨b', 2, none⟩) hne x2).other (p := ⟨b', 3, none⟩) hne x3

/-- The worlds that a region with quiet calls comes to. -/
theorem gr_grown (w : World) (n : Nat) (os : Array Obj) : Gr w.heap.size w (Sort.grow (w.drewN n) os) := by
  refine ⟨⟨rfl, rfl, rfl, by simp [Sort.grow], fun k hk => ?_⟩, Nat.le_add_right _ _⟩
  simp [Sort.grow, Array.getElem?_append, hk]
theorem grown_of_gr {w w' : World} (h : Gr w.heap.size w w') : ∃ p : GrownBy, w' = Sort.grow (w.drewN p.n) p.os := by
  obtain ⟨p, hp⟩ := regrown_of_below h.below
  have hd : w'.drawn = p.d := by rw [hp]; rfl
  refine ⟨⟨p.d - w.drawn, p.os⟩, ?_⟩
  rw [hp]
  have hle := h.drawn
  have e : w.drewN (p.d - w.drawn) = redrawn w p.d := by
    show ({ w with drawn := w.drawn + (p.d - w.drawn) } : World) = { w with drawn := p.d }
    congr 1; omega
  rw [e]
theorem cellG {w : World} {a : Addr} {v : Value} (h : w.cell? a = some v) (n : Nat) (os : Array Obj) : (Sort.grow (w.drewN n) os).cell? a = some v := by
  rw [(gr_grown w n os).cell (block_lt_of_cell h)]; exact h
/-- A callee's contract, met in a world of the class. -/
theorem callsG {P : Program} {f : FuncId} {args : Array Value} {w : World} {n : Nat} {os : Array Obj} {v : Value}
    (h : Calls P f args (Sort.grow (w.drewN n) os) fun e w' => e = .returned v ∧ Gr (Sort.grow (w.drewN n) os).heap.size (Sort.grow (w.drewN n) os) w') : Calls P f args (Sort.grow (w.drewN n) os) fun e w'' => e = .returned v ∧ ∃ p : GrownBy, w'' = Sort.grow (w.drewN p.n) p.os :=
  h.mono fun _ _ ⟨he, hb⟩ => ⟨he, grown_of_gr (gthen (gr_grown w n os) hb)⟩
/-- A callee that leaves the world alone, met in a world of the class. -/
theorem callsSame {P : Program} {f : FuncId} {args : Array Value} {w : World} {n : Nat} {os : Array Obj} {v : Value}
    (h : Calls P f args (Sort.grow (w.drewN n) os) fun e w' => e = .returned v ∧ w' = Sort.grow (w.drewN n) os) : Calls P f args (Sort.grow (w.drewN n) os) fun e w'' => e = .returned v ∧ ∃ p : GrownBy, w'' = Sort.grow (w.drewN p.n) p.os :=
  h.mono fun _ _ ⟨he, hw⟩ => ⟨he, ⟨n, os⟩, hw⟩

/-- The cells of a set. -/
def setA (s : Nat) : Array Value := #[.int .u64 (Sx.wd s 0), .int .u64 (Sx.wd s 1), .int .u64 (Sx.wd s 2), .int .u64 (Sx.wd s 3)]
/-- A set, as a value. -/
def setV (s : Nat) : Value := .agg (setA s)

theorem setA_get (s : Nat) {i : Nat} (h : i < 4) : (setA s)[i]? = some (.int .u64 (Sx.wd s i)) := by
  have : i = 0 ∨ i = 1 ∨ i = 2 ∨ i = 3 := by omega
  rcases this with rfl | rfl | rfl | rfl <;> rfl
theorem setA_size (s : Nat) : (setA s).size = 4 := rfl
theorem setA_inj {s t : Nat} (hs : s < 2 ^ 256) (ht : t < 2 ^ 256) (h : setA s = setA t) : s = t := by
  simp only [setA, Array.mk.injEq, List.cons.injEq, Value.int.injEq, true_and, and_true] at h
  exact Sx.wd_ext hs ht (by omega) (by omega) (by omega) (by omega)
theorem setA_set (s c : Nat) (h : c < 256) : (setA s).setIfInBounds (c / 64) (.int .u64 ((Sx.wd s (c / 64) ||| 2 ^ (c % 64) : Nat) : Int)) = setA (Sx.or s (Sx.one c)) := by
  have hq : c / 64 = 0 ∨ c / 64 = 1 ∨ c / 64 = 2 ∨ c / 64 = 3 := by omega
  simp only [setA, Sx.wd_orOne]
  rcases hq with q | q | q | q <;> simp [q]

/-- Bit operations of the model on words. -/
theorem toNat_ofInt64 (a : Nat) (h : a < 18446744073709551616) : (BitVec.ofInt 64 (a : Int)).toNat = a := by
  rw [BitVec.ofInt_natCast, BitVec.toNat_ofNat]; exact Nat.mod_eq_of_lt (by omega)
theorem bits_or64 (a b : Nat) (ha : a < 18446744073709551616) (hb : b < 18446744073709551616) : bits .or .u64 (a : Int) (b : Int) = ((a ||| b : Nat) : Int) := by
  have hx : a ||| b < 2 ^ 64 := Nat.or_lt_two_pow (by omega) (by omega)
  show IntKind.u64.wrap ((BitVec.ofInt 64 (a : Int) ||| BitVec.ofInt 64 (b : Int)).toNat : Int) = _
  rw [BitVec.toNat_or, toNat_ofInt64 a ha, toNat_ofInt64 b hb, IntKind.wrap_u64]
  omega
theorem bits_and64 (a b : Nat) (ha : a < 18446744073709551616) (hb : b < 18446744073709551616) : bits .and .u64 (a : Int) (b : Int) = ((a &&& b : Nat) : Int) := by
  have hx : a &&& b < 2 ^ 64 := Nat.and_lt_two_pow a (by omega)
  show IntKind.u64.wrap ((BitVec.ofInt 64 (a : Int) &&& BitVec.ofInt 64 (b : Int)).toNat : Int) = _
  rw [BitVec.toNat_and, toNat_ofInt64 a ha, toNat_ofInt64 b hb, IntKind.wrap_u64]
  omega
theorem bits_andNot64 (a b : Nat) (ha : a < 18446744073709551616) (hb : b < 18446744073709551616) : bits .andNot .u64 (a : Int) (b : Int) = ((a ^^^ (a &&& b) : Nat) : Int) := by
  have hx : a ^^^ (a &&& b) < 2 ^ 64 := Nat.xor_lt_two_pow (by omega) (Nat.lt_of_le_of_lt Nat.and_le_left (by omega))
  show IntKind.u64.wrap ((BitVec.ofInt 64 (a : Int) &&& ~~~ BitVec.ofInt 64 (b : Int)).toNat : Int) = _
  have e : (BitVec.ofInt 64 (a : Int) &&& ~~~ BitVec.ofInt 64 (b : Int)).toNat = a ^^^ (a &&& b) := by
    refine Nat.eq_of_testBit_eq fun j => ?_
    rw [← BitVec.getLsbD, BitVec.getLsbD_and, BitVec.getLsbD_not, BitVec.getLsbD, BitVec.getLsbD, toNat_ofInt64 a ha, toNat_ofInt64 b hb, Nat.testBit_xor, Nat.testBit_and]
    by_cases hj : j < 64
    · cases a.testBit j <;> cases b.testBit j <;> simp [hj]
    · have : a.testBit j = false := Nat.testBit_lt_two_pow (Nat.lt_of_lt_of_le (show a < 2 ^ 64 by omega) (Nat.pow_le_pow_right (by decide) (by omega)))
      simp [this]
  rw [e, IntKind.wrap_u64]
  omega
end Go.Proofs.Ytojmkgllbhbeiaa
