/-
  PLAIN LAWS on sets of bytes, as natural numbers below 2^256: bit c is set where the set has byte c. No program here.
  What a block of cells is, and how it is carried over what the walks do to the world.
  How a set that comes in is opened.
  A region that draws its order: the head only reads and calls functions that leave what was there as it was; the tail (a store, say) comes last in every order. One walk in the order of the text serves every order.
  '==' and '!=' of two arrays of integers, in the model.
  PLAIN LAWS on the bytes of a set, how many there are, and on parting sets. No program here.
  WALKS of package sets: the words' operations, Or, And, Less, Not, Has.
  WALKS of package sets: Of, Range.
  A range over a function, at the wide fence: the iterator's contract and the law for the caller, with the draws counted.
-/
import Derived.WalkKit
import Derived.RangeFuncNested
import Derived.RangeFuncBound
import Derived.RangeFuncCalls
import Derived.RangeFuncLeaves
import Derived.Shelf.Abstract
import Derived.Shelf.RegionOpen
import Derived.OwnWalkIn
import Derived.TacticsInMore
import Derived.LoopNIn
import Derived.LoopIn
import Derived.WalkSpells
import Derived.WalkLawsBesides
import Derived.StillTailTactics
import Derived.Lib.QuietBelow
import Derived.Shelf.SlSortCmp.QuietGrown
import Derived.BigQuiet
import Derived.Lib.Hide
import Derived.Deep.LoopGhost
import Derived.Deep.Cut
import Derived.Deep.DeepMust
import Derived.Deep.DeepFit
import Derived.Maps.AppendAt
import Derived.Test.YtojmkgllbhbeiaaRows
import Derived.ProofKit
import Derived.OpenShut
import Derived.ChangeOld
import Derived.WideKeyArr2
import Derived.Test.YtojmkgllbhbeiaaProg
namespace Go.Proofs.Ytojmkgllbhbeiaa.Sx

/-- Word i of a set. -/
def wd (s i : Nat) : Nat := s / 2 ^ (64 * i) % 2 ^ 64

theorem wd_lt (s i : Nat) : wd s i < 18446744073709551616 := Nat.mod_lt _ (by decide)

theorem testBit_wd (s i j : Nat) : (wd s i).testBit j = (decide (j < 64) && s.testBit (64 * i + j)) := by
  unfold wd
  rw [Nat.testBit_mod_two_pow, Nat.testBit_div_two_pow, Nat.add_comm]

def full : Nat := 2 ^ 256 - 1
def or (s t : Nat) : Nat := s ||| t
def and (s t : Nat) : Nat := s &&& t
def less (s t : Nat) : Nat := s ^^^ (s &&& t)
def not (s : Nat) : Nat := full ^^^ (full &&& s)
def one (c : Nat) : Nat := 2 ^ c

theorem tb_or (s t c : Nat) : (or s t).testBit c = (s.testBit c || t.testBit c) := Nat.testBit_or ..
theorem tb_and (s t c : Nat) : (and s t).testBit c = (s.testBit c && t.testBit c) := Nat.testBit_and ..
theorem tb_less (s t c : Nat) : (less s t).testBit c = (s.testBit c && !t.testBit c) := by
  unfold less; rw [Nat.testBit_xor, Nat.testBit_and]; cases s.testBit c <;> cases t.testBit c <;> rfl
theorem tb_full (c : Nat) : full.testBit c = decide (c < 256) := by unfold full; rw [Nat.testBit_two_pow_sub_one]
theorem tb_not (s c : Nat) : (not s).testBit c = (decide (c < 256) && !s.testBit c) := by
  unfold not; rw [Nat.testBit_xor, Nat.testBit_and, tb_full]; cases s.testBit c <;> cases decide (c < 256) <;> rfl
theorem tb_one (c d : Nat) : (one c).testBit d = decide (c = d) := by unfold one; rw [Nat.testBit_two_pow]
theorem tb_zero (c : Nat) : (0 : Nat).testBit c = false := Nat.zero_testBit c

theorem or_lt {s t : Nat} (hs : s < 2 ^ 256) (ht : t < 2 ^ 256) : or s t < 2 ^ 256 := Nat.or_lt_two_pow hs ht
theorem and_lt {s : Nat} (t : Nat) (hs : s < 2 ^ 256) : and s t < 2 ^ 256 := Nat.lt_of_le_of_lt Nat.and_le_left hs
theorem less_lt {s : Nat} (t : Nat) (hs : s < 2 ^ 256) : less s t < 2 ^ 256 := Nat.xor_lt_two_pow hs (Nat.lt_of_le_of_lt Nat.and_le_left hs)
theorem full_lt : full < 2 ^ 256 := by decide
theorem not_lt (s : Nat) : not s < 2 ^ 256 := Nat.xor_lt_two_pow full_lt (Nat.lt_of_le_of_lt Nat.and_le_left full_lt)
theorem one_lt {c : Nat} (h : c < 256) : one c < 2 ^ 256 := Nat.pow_lt_pow_right (by decide) h

theorem ext {s t : Nat} (hs : s < 2 ^ 256) (ht : t < 2 ^ 256) (h : ∀ c, c < 256 → s.testBit c = t.testBit c) : s = t := by
  refine Nat.eq_of_testBit_eq fun c => ?_
  by_cases hc : c < 256
  · exact h c hc
  · rw [Nat.testBit_lt_two_pow (Nat.lt_of_lt_of_le hs (Nat.pow_le_pow_right (by decide) (by omega))),
      Nat.testBit_lt_two_pow (Nat.lt_of_lt_of_le ht (Nat.pow_le_pow_right (by decide) (by omega)))]

/-- A number below 2^64 by its bits. -/
theorem ext64 {a b : Nat} (ha : a < 18446744073709551616) (hb : b < 18446744073709551616) (h : ∀ j, j < 64 → a.testBit j = b.testBit j) : a = b := by
  refine Nat.eq_of_testBit_eq fun j => ?_
  by_cases hj : j < 64
  · exact h j hj
  · rw [Nat.testBit_lt_two_pow (Nat.lt_of_lt_of_le (show a < 2 ^ 64 from ha) (Nat.pow_le_pow_right (by decide) (by omega))),
      Nat.testBit_lt_two_pow (Nat.lt_of_lt_of_le (show b < 2 ^ 64 from hb) (Nat.pow_le_pow_right (by decide) (by omega)))]

theorem wd_ext {s t : Nat} (hs : s < 2 ^ 256) (ht : t < 2 ^ 256) (h0 : wd s 0 = wd t 0) (h1 : wd s 1 = wd t 1) (h2 : wd s 2 = wd t 2) (h3 : wd s 3 = wd t 3) : s = t := by
  refine ext hs ht fun c hc => ?_
  have key : ∀ i j, c = 64 * i + j → j < 64 → wd s i = wd t i → s.testBit c = t.testBit c := by
    intro i j e hj he
    have h := congrArg (fun n => n.testBit j) he
    simp only [testBit_wd, hj, decide_true, Bool.true_and] at h
    rw [e]; exact h
  have hd : c = 64 * (c / 64) + c % 64 := by omega
  have hm : c % 64 < 64 := Nat.mod_lt _ (by decide)
  have hq : c / 64 = 0 ∨ c / 64 = 1 ∨ c / 64 = 2 ∨ c / 64 = 3 := by omega
  rcases hq with q | q | q | q <;> rw [q] at hd
  · exact key 0 _ hd hm h0
  · exact key 1 _ hd hm h1
  · exact key 2 _ hd hm h2
  · exact key 3 _ hd hm h3

/-- The set of four words. -/
def ofW (a b c d : Nat) : Nat := a + b * 2 ^ 64 + c * 2 ^ 128 + d * 2 ^ 192

theorem ofW_lt {a b c d : Nat} (ha : a < 18446744073709551616) (hb : b < 18446744073709551616) (hc : c < 18446744073709551616) (hd : d < 18446744073709551616) : ofW a b c d < 2 ^ 256 := by
  unfold ofW; omega
theorem wd_ofW0 {a b c d : Nat} (ha : a < 18446744073709551616) : wd (ofW a b c d) 0 = a := by unfold wd ofW; omega
theorem wd_ofW1 {a b c d : Nat} (ha : a < 18446744073709551616) (hb : b < 18446744073709551616) : wd (ofW a b c d) 1 = b := by unfold wd ofW; omega
theorem wd_ofW2 {a b c d : Nat} (ha : a < 18446744073709551616) (hb : b < 18446744073709551616) (hc : c < 18446744073709551616) : wd (ofW a b c d) 2 = c := by unfold wd ofW; omega
theorem wd_ofW3 {a b c d : Nat} (ha : a < 18446744073709551616) (hb : b < 18446744073709551616) (hc : c < 18446744073709551616) (hd : d < 18446744073709551616) : wd (ofW a b c d) 3 = d := by unfold wd ofW; omega

theorem wd_or (s t i : Nat) : wd (or s t) i = wd s i ||| wd t i := by
  refine Nat.eq_of_testBit_eq fun j => ?_
  rw [Nat.testBit_or, testBit_wd, testBit_wd, testBit_wd, tb_or]; cases decide (j < 64) <;> simp
theorem wd_and (s t i : Nat) : wd (and s t) i = wd s i &&& wd t i := by
  refine Nat.eq_of_testBit_eq fun j => ?_
  rw [Nat.testBit_and, testBit_wd, testBit_wd, testBit_wd, tb_and]; cases decide (j < 64) <;> simp
theorem wd_less (s t i : Nat) : wd (less s t) i = wd s i ^^^ (wd s i &&& wd t i) := by
  refine Nat.eq_of_testBit_eq fun j => ?_
  rw [Nat.testBit_xor, Nat.testBit_and, testBit_wd, testBit_wd, testBit_wd, tb_less]; cases decide (j < 64) <;> cases s.testBit (64 * i + j) <;> cases t.testBit (64 * i + j) <;> rfl
theorem wd_zero (i : Nat) : wd 0 i = 0 := by unfold wd; simp
theorem wd_full {i : Nat} (h : i < 4) : wd full i = 18446744073709551615 := by
  have : i = 0 ∨ i = 1 ∨ i = 2 ∨ i = 3 := by omega
  rcases this with rfl | rfl | rfl | rfl <;> decide
theorem wd_not {s i : Nat} (h : i < 4) : wd (not s) i = 18446744073709551615 ^^^ wd s i := by
  rw [← wd_full h]
  refine Nat.eq_of_testBit_eq fun j => ?_
  rw [Nat.testBit_xor, testBit_wd, testBit_wd, testBit_wd, tb_not, tb_full]
  by_cases hj : j < 64
  · have : 64 * i + j < 256 := by omega
    simp [hj, this]
  · simp [hj]
theorem wd_orOne (s c i : Nat) : wd (or s (one c)) i = if i = c / 64 then wd s i ||| 2 ^ (c % 64) else wd s i := by
  rw [wd_or]
  refine Nat.eq_of_testBit_eq fun j => ?_
  rw [Nat.testBit_or, testBit_wd (one c), tb_one]
  by_cases h : i = c / 64
  · rw [if_pos h, Nat.testBit_or, Nat.testBit_two_pow]
    congr 1
    by_cases hj : j < 64
    · simp only [hj, decide_true, Bool.true_and]; exact decide_eq_decide.2 (by omega)
    · have : ¬ (c % 64 = j) := by omega
      simp [hj, this]
  · rw [if_neg h]
    by_cases hj : j < 64
    · have : ¬ (c = 64 * i + j) := by omega
      simp [this]
    · simp [hj]
/-- The byte's bit, out of its word. -/
theorem tb_word (s c : Nat) : s.testBit c = (wd s (c / 64) / 2 ^ (c % 64) % 2 == 1) := by
  have h := testBit_wd s (c / 64) (c % 64)
  have hm : c % 64 < 64 := Nat.mod_lt _ (by decide)
  have hd : 64 * (c / 64) + c % 64 = c := by omega
  rw [hd] at h
  simp only [hm, decide_true, Bool.true_and] at h
  rw [← h, Nat.testBit_eq_decide_div_mod_eq]
  rfl

/-- The set with some bytes. -/
def ofL : List Nat → Nat
  | [] => 0
  | c :: l => or (ofL l) (one c)
theorem ofL_lt : ∀ (l : List Nat), (∀ c ∈ l, c < 256) → ofL l < 2 ^ 256
  | [], _ => by decide
  | c :: l, h => or_lt (ofL_lt l fun d hd => h d (by simp [hd])) (one_lt (h c (by simp)))
theorem tb_ofL (d : Nat) : ∀ (l : List Nat), (ofL l).testBit d = decide (d ∈ l)
  | [] => by simp [ofL]
  | c :: l => by
    rw [ofL, tb_or, tb_ofL d l, tb_one, Bool.eq_iff_iff]
    simp only [Bool.or_eq_true, decide_eq_true_eq, List.mem_cons]
    constructor <;> rintro (h | h) <;> simp [h]
theorem ofL_snoc (l : List Nat) (c : Nat) : ofL (l ++ [c]) = or (ofL l) (one c) := by
  refine Nat.eq_of_testBit_eq fun d => ?_
  rw [tb_or, tb_ofL, tb_ofL, tb_one, Bool.eq_iff_iff]
  simp only [Bool.or_eq_true, decide_eq_true_eq, List.mem_append, List.mem_singleton]
  constructor <;> rintro (h | h) <;> simp [h]
/-- The set with all bytes from lo to hi. -/
def range (lo hi : Nat) : Nat := ofL (List.range' lo (hi + 1 - lo))
theorem tb_range (lo hi c : Nat) : (range lo hi).testBit c = (decide (lo ≤ c) && decide (c ≤ hi)) := by
  rw [range, tb_ofL, Bool.eq_iff_iff]
  simp only [decide_eq_true_eq, Bool.and_eq_true, List.mem_range'_1]
  omega
theorem range_lt {lo hi : Nat} (h : hi < 256) : range lo hi < 2 ^ 256 := ofL_lt _ fun c hc => by simp only [List.mem_range'_1] at hc; omega
end Go.Proofs.Ytojmkgllbhbeiaa.Sx
namespace Go.Proofs.Ytojmkgllbhbeiaa
open Go.RowKit

/-- Below block number B the world w' is as w was, and it has drawn as often or more often. -/
structure Gr (B : Nat) (w w' : World) : Prop where
  below : Below B w w'
  drawn : w.drawn ≤ w'.drawn
section
variable {B : Nat} {a b w w' : World}
theorem Gr.size (h : Gr B w w') : w.heap.size ≤ w'.heap.size := h.below.size
theorem Gr.refl (B : Nat) (w : World) : Gr B w w := ⟨Below.refl B w, Nat.le_refl _⟩
theorem Gr.trans (h : Gr B a b) (k : Gr B b w) : Gr B a w := ⟨h.below.trans k.below, Nat.le_trans h.drawn k.drawn⟩
theorem Gr.mono {B' : Nat} (h : Gr B w w') (hB : B' ≤ B) : Gr B' w w' := ⟨h.below.mono hB, h.drawn⟩
theorem Gr.alloc (h : Gr B a w) (hB : B ≤ w.heap.size) (o : Obj) : Gr B a (w.alloc o) := ⟨h.below.alloc hB o, h.drawn⟩
theorem Gr.setCell (h : Gr B a w) {p : Addr} (hp : B ≤ p.block) (u : Value) : Gr B a (w.setCell p u) := ⟨h.below.setCell hp u, h.drawn⟩
theorem Gr.cell (h : Gr B w w') {p : Addr} (hp : p.block < B) : w'.cell? p = w.cell? p := h.below.cell hp
theorem Gr.frozen (h : Gr B w w') {p : Addr} (hp : p.block < B) : w'.frozen? p = w.frozen? p := h.below.frozen hp
end

/-- Block b holds the cells cs, of type t, none of them frozen. -/
def Blk (w : World) (b : Nat) (cs : Array Value) (t : TypeId) : Prop := w.heap[b]? = some (.cells cs t (0, 0))

theorem Blk.lt {w : World} {b : Nat} {cs : Array Value} {t : TypeId} (h : Blk w b cs t) : b < w.heap.size := (Array.getElem?_eq_some_iff.1 h).1
theorem Blk.cell {w : World} {b : Nat} {cs : Array Value} {t : TypeId} (h : Blk w b cs t) (i : Nat) : w.cell? ⟨b, i, none⟩ = cs[i]? := by simp [World.cell?, show w.heap[b]? = _ from h]
theorem Blk.frozen {w : World} {b : Nat} {cs : Array Value} {t : TypeId} (h : Blk w b cs t) (i : Nat) : w.frozen? ⟨b, i, none⟩ = false := by simp [World.frozen?, show w.heap[b]? = _ from h]
theorem Blk.new (w : World) (cs : Array Value) (t : TypeId) : Blk (w.alloc (.cells cs t)) w.heap.size cs t := World.alloc_heap_new w _
theorem Blk.below {B : Nat} {w w' : World} {b : Nat} {cs : Array Value} {t : TypeId} (h : Blk w b cs t) (hb : Below B w w') (hlt : b < B) : Blk w' b cs t := (hb.block b hlt).trans h
theorem Blk.laterB {w w' : World} {b : Nat} {cs : Array Value} {t : TypeId} (h : Blk w b cs t) (hb : Below w.heap.size w w') : Blk w' b cs t := h.below hb h.lt
theorem Blk.later {w w' : World} {b : Nat} {cs : Array Value} {t : TypeId} (h : Blk w b cs t) (hb : Gr w.heap.size w w') : Blk w' b cs t := h.laterB hb.below
theorem Blk.alloc {w : World} {b : Nat} {cs : Array Value} {t : TypeId} (h : Blk w b cs t) (o : Obj) : Blk (w.alloc o) b cs t := h.laterB ((Below.refl _ _).alloc (Nat.le_refl _) o)
theorem Blk.drew {w : World} {b : Nat} {cs : Array Value} {t : TypeId} (h : Blk w b cs t) : Blk w.drew b cs t := h
theorem Blk.drewN {w : World} {b : Nat} {cs : Array Value} {t : TypeId} (h : Blk w b cs t) (n : Nat) : Blk (w.drewN n) b cs t := h
theorem Blk.set {w : World} {b : Nat} {cs : Array Value} {t : TypeId} (h : Blk w b cs t) (i : Nat) (v : Value) : Blk (w.setCell ⟨b, i, none⟩ v) b (cs.setIfInBounds i v) t := by
  obtain ⟨hlt, hk⟩ := Array.getElem?_eq_some_iff.1 h
  show (w.heap.modify b _)[b]? = _
  rw [Array.getElem?_eq_getElem (by rw [Array.size_modify]; exact hlt), Array.getElem_modify_self, hk]
  rfl
theorem Blk.other {w : World} {b : Nat} {cs : Array Value} {t : TypeId} (h : Blk w b cs t) {p : Addr} (hp : b ≠ p.block) (v : Value) : Blk (w.setCell p v) b cs t :=
  (Below.heap_setCell w p v b hp).trans h
theorem Blk.inj {w : World} {b : Nat} {cs cs' : Array Value} {t t' : TypeId} (h : Blk w b cs t) (h' : Blk w b cs' t') : cs = cs' := by
  have := h.symm.trans h'; simp at this; exact this.1

/-- A block of four cells, known whole. -/
theorem Blk.four {w : World} {b : Nat} {x0 x1 x2 x3 : Value} {t : TypeId} (h : Blk w b #[x0, x1, x2, x3] t) :
    w.cell? ⟨b, 0, none⟩ = some x0 ∧ w.cell? ⟨b, 1, none⟩ = some x1 ∧ w.cell? ⟨b, 2, none⟩ = some x2 ∧ w.cell? ⟨b, 3, none⟩ = some x3 ∧
      w.frozen? ⟨b, 0, none⟩ = false ∧ w.frozen? ⟨b, 1, none⟩ = false ∧ w.frozen? ⟨b, 2, none⟩ = false ∧ w.frozen? ⟨b, 3, none⟩ = false :=
  ⟨h.cell 0, h.cell 1, h.cell 2, h.cell 3, h.frozen 0, h.frozen 1, h.frozen 2, h.frozen 3⟩

/-- New blocks, one behind the other. -/
theorem blkOf1 (w : World) (cs : Array Value) (t : TypeId) : Blk (w.alloc (.cells cs t)) w.heap.size cs t := Blk.new w cs t
theorem blkOf2 (w : World) (o : Obj) (cs : Array Value) (t : TypeId) : Blk ((w.alloc o).alloc (.cells cs t)) (w.heap.size + 1) cs t := by
  have := Blk.new (w.alloc o) cs t; rwa [World.size_alloc] at this
theorem blkOf3 (w : World) (o o' : Obj) (cs : Array Value) (t : TypeId) : Blk (((w.alloc o).alloc o').alloc (.cells cs t)) (w.heap.size + 1 + 1) cs t := by
  have := Blk.new ((w.alloc o).alloc o') cs t; simpa only [World.size_alloc] using this
theorem blkOf4 (w : World) (o o' o'' : Obj) (cs : Array Value) (t : TypeId) : Blk ((((w.alloc o).alloc o').alloc o'').alloc (.cells cs t)) (w.heap.size + 1 + 1 + 1) cs t := by
  have := Blk.new (((w.alloc o).alloc o').alloc o'') cs t; simpa only [World.size_alloc] using this
theorem below1 (w : World) (o : Obj) : Below w.heap.size w (w.alloc o) := (Below.refl _ _).alloc (Nat.le_refl _) o
theorem below2 (w : World) (o o' : Obj) : Below w.heap.size w ((w.alloc o).alloc o') := (below1 w o).alloc (by simp) o'
theorem below3 (w : World) (o o' o'' : Obj) : Below w.heap.size w (((w.alloc o).alloc o').alloc o'') := (below2 w o o').alloc (by simp; omega) o''
theorem below4 (w : World) (o o' o'' o3 : Obj) : Below w.heap.size w ((((w.alloc o).alloc o').alloc o'').alloc o3) := (below3 w o o' o'').alloc (by simp; omega) o3
theorem gr1 (w : World) (o : Obj) : Gr w.heap.size w (w.alloc o) := ⟨below1 w o, Nat.le_refl _⟩
theorem gr2 (w : World) (o o' : Obj) : Gr w.heap.size w ((w.alloc o).alloc o') := ⟨below2 w o o', Nat.le_refl _⟩
theorem gr3 (w : World) (o o' o'' : Obj) : Gr w.heap.size w (((w.alloc o).alloc o').alloc o'') := ⟨below3 w o o' o'', Nat.le_refl _⟩
theorem gr4 (w : World) (o o' o'' o3 : Obj) : Gr w.heap.size w ((((w.alloc o).alloc o').alloc o'').alloc o3) := ⟨below4 w o o' o'' o3, Nat.le_refl _⟩
theorem gthen {w w1 w2 : World} (h : Gr w.heap.size w w1) (h' : Gr w1.heap.size w1 w2) : Gr w.heap.size w w2 := h.trans (h'.mono h.size)
theorem bthen {w w1 w2 : World} (h : Below w.heap.size w w1) (h' : Below w1.heap.size w1 w2) : Below w.heap.size w w2 := h.trans (h'.mono h.size)
/-- Four cells of a block stored. -/
theorem bfour {B b : Nat} {a w : World} (h : Below B a w) (hb : B ≤ b) (x0 x1 x2 x3 : Value) :
    Below B a ((((w.setCell ⟨b, 0, none⟩ x0).setCell ⟨b, 1, none⟩ x1).setCell ⟨b, 2, none⟩ x2).setCell ⟨b, 3, none⟩ x3) :=
  (((h.setCell (p := ⟨b, 0, none⟩) hb x0).setCell (p := ⟨b, 1, none⟩) hb x1).setCell (p := ⟨b, 2, none⟩) hb x2).setCell (p := ⟨b, 3, none⟩) hb x3
theorem gfour {B b : Nat} {a w : World} (h : Gr B a w) (hb : B ≤ b) (x0 x1 x2 x3 : Value) :
    Gr B a ((((w.setCell ⟨b, 0, none⟩ x0).setCell ⟨b, 1, none⟩ x1).setCell ⟨b, 2, none⟩ x2).setCell ⟨b, 3, none⟩ x3) := ⟨bfour h.below hb x0 x1 x2 x3, h.drawn⟩
theorem Blk.setFour {w : World} {b : Nat} {y0 y1 y2 y3 : Value} {t : TypeId} (h : Blk w b #[y0, y1, y2, y3] t) (x0 x1 x2 x3 : Value) :
    Blk ((((w.setCell ⟨b, 0, none⟩ x0).setCell ⟨b, 1, none⟩ x1).setCell ⟨b, 2, none⟩ x2).setCell ⟨b, 3, none⟩ x3) b #[x0, x1, x2, x3] t :=
  (((h.set 0 x0).set 1 x1).set 2 x2).set 3 x3
theorem Blk.otherFour {w : World} {b b' : Nat} {cs : Array Value} {t : TypeId} (h : Blk w b cs t) (hne : b ≠ b') (x0 x1 x2 x3 : Value) :
    Blk ((((w.setCell ⟨b', 0, none⟩ x0).setCell ⟨b', 1, none⟩ x1).setCell ⟨b', 2, none⟩ x2).setCell ⟨b', 3, none⟩ x3) b cs t :=
  (((h.other (p := ⟨b', 0, none⟩) hne x0).other (p := ⟨b', 1, none⟩) hne x1).other (p := ⟨b', 2, none⟩) hne x2).other (p := ⟨b', 3, none⟩) hne x3

/-- The worlds that a region with quiet calls comes to. -/
theorem gr_grown (w : World) (n : Nat) (os : Array Obj) : Gr w.heap.size w (Sort.grow (w.drewN n) os) := by
  refine ⟨⟨rfl, rfl, rfl, by simp [Sort.grow], fun k hk => ?_⟩, Nat.le_add_right _ _⟩
  simp [Sort.grow, Array.getElem?_append, hk]
theorem grown_of_gr {w w' : World} (h : Gr w.heap.size w w') : ∃ p : GrownBy, w' = Sort.grow (w.drewN p.n) p.os := by
  obtain ⟨p, hp⟩ := regrown_of_below h.below
  have hd : w'.drawn = p.d := by rw [hp]; rfl
  refine ⟨⟨p.d - w.drawn, p.os⟩, ?_⟩
  rw [hp]
  have hle := h.drawn
  have e : w.drewN (p.d - w.drawn) = redrawn w p.d := by
    show ({ w with drawn := w.drawn + (p.d - w.drawn) } : World) = { w with drawn := p.d }
    congr 1; omega
  rw [e]
theorem cellG {w : World} {a : Addr} {v : Value} (h : w.cell? a = some v) (n : Nat) (os : Array Obj) : (Sort.grow (w.drewN n) os).cell? a = some v := by
  rw [(gr_grown w n os).cell (block_lt_of_cell h)]; exact h
/-- A callee's contract, met in a world of the class. -/
theorem callsG {P : Program} {f : FuncId} {args : Array Value} {w : World} {n : Nat} {os : Array Obj} {v : Value}
    (h : Calls P f args (Sort.grow (w.drewN n) os) fun e w' => e = .returned v ∧ Gr (Sort.grow (w.drewN n) os).heap.size (Sort.grow (w.drewN n) os) w') : Calls P f args (Sort.grow (w.drewN n) os) fun e w'' => e = .returned v ∧ ∃ p : GrownBy, w'' = Sort.grow (w.drewN p.n) p.os :=
  h.mono fun _ _ ⟨he, hb⟩ => ⟨he, grown_of_gr (gthen (gr_grown w n os) hb)⟩
/-- A callee that leaves the world alone, met in a world of the class. -/
theorem callsSame {P : Program} {f : FuncId} {args : Array Value} {w : World} {n : Nat} {os : Array Obj} {v : Value}
    (h : Calls P f args (Sort.grow (w.drewN n) os) fun e w' => e = .returned v ∧ w' = Sort.grow (w.drewN n) os) : Calls P f args (Sort.grow (w.drewN n) os) fun e w'' => e = .returned v ∧ ∃ p : GrownBy, w'' = Sort.grow (w.drewN p.n) p.os :=
  h.mono fun _ _ ⟨he, hw⟩ => ⟨he, ⟨n, os⟩, hw⟩

/-- The cells of a set. -/
def setA (s : Nat) : Array Value := #[.int .u64 (Sx.wd s 0), .int .u64 (Sx.wd s 1), .int .u64 (Sx.wd s 2), .int .u64 (Sx.wd s 3)]
/-- A set, as a value. -/
def setV (s : Nat) : Value := .agg (setA s)

theorem setA_get (s : Nat) {i : Nat} (h : i < 4) : (setA s)[i]? = some (.int .u64 (Sx.wd s i)) := by
  have : i = 0 ∨ i = 1 ∨ i = 2 ∨ i = 3 := by omega
  rcases this with rfl | rfl | rfl | rfl <;> rfl
theorem setA_size (s : Nat) : (setA s).size = 4 := rfl
theorem setA_inj {s t : Nat} (hs : s < 2 ^ 256) (ht : t < 2 ^ 256) (h : setA s = setA t) : s = t := by
  simp only [setA, Array.mk.injEq, List.cons.injEq, Value.int.injEq, true_and, and_true] at h
  exact Sx.wd_ext hs ht (by omega) (by omega) (by omega) (by omega)
theorem setA_set (s c : Nat) (h : c < 256) : (setA s).setIfInBounds (c / 64) (.int .u64 ((Sx.wd s (c / 64) ||| 2 ^ (c % 64) : Nat) : Int)) = setA (Sx.or s (Sx.one c)) := by
  have hq : c / 64 = 0 ∨ c / 64 = 1 ∨ c / 64 = 2 ∨ c / 64 = 3 := by omega
  simp only [setA, Sx.wd_orOne]
  rcases hq with q | q | q | q <;> simp [q]

/-- Bit operations of the model on words. -/
theorem toNat_ofInt64 (a : Nat) (h : a < 18446744073709551616) : (BitVec.ofInt 64 (a : Int)).toNat = a := by
  rw [BitVec.ofInt_natCast, BitVec.toNat_ofNat]; exact Nat.mod_eq_of_lt (by omega)
theorem bits_or64 (a b : Nat) (ha : a < 18446744073709551616) (hb : b < 18446744073709551616) : bits .or .u64 (a : Int) (b : Int) = ((a ||| b : Nat) : Int) := by
  have hx : a ||| b < 2 ^ 64 := Nat.or_lt_two_pow (by omega) (by omega)
  show IntKind.u64.wrap ((BitVec.ofInt 64 (a : Int) ||| BitVec.ofInt 64 (b : Int)).toNat : Int) = _
  rw [BitVec.toNat_or, toNat_ofInt64 a ha, toNat_ofInt64 b hb, IntKind.wrap_u64]
  omega
theorem bits_and64 (a b : Nat) (ha : a < 18446744073709551616) (hb : b < 18446744073709551616) : bits .and .u64 (a : Int) (b : Int) = ((a &&& b : Nat) : Int) := by
  have hx : a &&& b < 2 ^ 64 := Nat.and_lt_two_pow a (by omega)
  show IntKind.u64.wrap ((BitVec.ofInt 64 (a : Int) &&& BitVec.ofInt 64 (b : Int)).toNat : Int) = _
  rw [BitVec.toNat_and, toNat_ofInt64 a ha, toNat_ofInt64 b hb, IntKind.wrap_u64]
  omega
theorem bits_andNot64 (a b : Nat) (ha : a < 18446744073709551616) (hb : b < 18446744073709551616) : bits .andNot .u64 (a : Int) (b : Int) = ((a ^^^ (a &&& b) : Nat) : Int) := by
  have hx : a ^^^ (a &&& b) < 2 ^ 64 := Nat.xor_lt_two_pow (by omega) (Nat.lt_of_le_of_lt Nat.and_le_left (by omega))
  show IntKind.u64.wrap ((BitVec.ofInt 64 (a : Int) &&& ~~~ BitVec.ofInt 64 (b : Int)).toNat : Int) = _
  have e : (BitVec.ofInt 64 (a : Int) &&& ~~~ BitVec.ofInt 64 (b : Int)).toNat = a ^^^ (a &&& b) := by
    refine Nat.eq_of_testBit_eq fun j => ?_
    rw [← BitVec.getLsbD, BitVec.getLsbD_and, BitVec.getLsbD_not, BitVec.getLsbD, BitVec.getLsbD, toNat_ofInt64 a ha, toNat_ofInt64 b hb, Nat.testBit_xor, Nat.testBit_and]
    by_cases hj : j < 64
    · cases a.testBit j <;> cases b.testBit j <;> simp [hj]
    · have : a.testBit j = false := Nat.testBit_lt_two_pow (Nat.lt_of_lt_of_le (show a < 2 ^ 64 by omega) (Nat.pow_le_pow_right (by decide) (by omega)))
      simp [this]
  rw [e, IntKind.wrap_u64]
  omega
end Go.Proofs.Ytojmkgllbhbeiaa
namespace Go.Proofs.Ytojmkgllbhbeiaa
open Go.ChangeShapes Go.WideShapes Go.ChangeAt Go.RowKit
open Go.WideMaps (ArrKey okWide_arr)

theorem own : ownKnob Try.prog.godebug = none := by kernel_rfl
theorem laidOut : laidOutB Try.prog = true := by kernel_rfl
theorem arr24 : ArrKey Try.prog 24 22 4 := ⟨by kernel_rfl, by kernel_rfl, by kernel_rfl, by kernel_rfl⟩

theorem wf_u64 {n : Int} (h : (Lit.int .u64 n).wf = true) : ∃ a : Nat, n = (a : Int) ∧ a < 18446744073709551616 := by
  have h : 0 ≤ n ∧ n ≤ 18446744073709551615 := by simpa [Lit.wf, IntKind.min, IntKind.max, IntKind.bits, IntKind.signed] using h
  exact ⟨n.toNat, by omega, by omega⟩

theorem wf_u8 {n : Int} (h : (Lit.int .u8 n).wf = true) : ∃ a : Nat, n = (a : Int) ∧ a < 256 := by
  have h : 0 ≤ n ∧ n ≤ 255 := by simpa [Lit.wf, IntKind.min, IntKind.max, IntKind.bits, IntKind.signed] using h
  exact ⟨n.toNat, by omega, by omega⟩

set_option maxRecDepth 100000 in
theorem open_set {H : Type} {enc : TypeId × Value → H} {W : World} {r : Reach} {b0 : Nat} {sp : Nat → Bool} {held : Bool} {base : Nat} {v : Value} {d : DataW H} {ps : List MemPlace}
    (hv : Value.okWide Try.prog W r b0 24 v) (hd : DataW.Trod enc Try.prog W base sp held 24 v d ps) : ∃ s, s < 2 ^ 256 ∧ v = setV s := by
  obtain ⟨xs, rfl, hn⟩ := okWide_arr arr24 hv
  obtain ⟨fuel, hf⟩ := hd
  obtain ⟨ys, m, _, _, hl, hy, hall⟩ := DataW.trod_array arr24.hu hf
  obtain ⟨xs⟩ := xs
  have hn' : xs.length = 4 := by simpa using hn
  have hone : ∀ i, i < 4 → ∃ a : Nat, xs[i]? = some (.int .u64 (a : Int)) ∧ a < 18446744073709551616 := fun i hi => by
    have h := hall i hi
    have hyi : i < ys.length := by omega
    rw [List.getElem?_eq_getElem hyi] at h
    obtain ⟨n, e, _, hw⟩ := DataW.trod_int (k := .u64) (by kernel_rfl) h
    rw [arr24.one] at e
    obtain ⟨a, rfl, ha⟩ := wf_u64 hw
    refine ⟨a, ?_, ha⟩
    have h0 : ((Value.agg ⟨xs⟩).cells.toList.drop (i * 1)).take 1 = [Value.int .u64 (a : Int)] := e
    have h1 : (xs.drop (i * 1)).take 1 = [Value.int .u64 (a : Int)] := by simpa [Value.cells] using h0
    have h2 : ((xs.drop (i * 1)).take 1)[0]? = some (Value.int .u64 (a : Int)) := by rw [h1]; rfl
    rw [List.getElem?_take, if_pos (by decide), List.getElem?_drop] at h2
    simpa using h2
  obtain ⟨a, ea, la⟩ := hone 0 (by decide)
  obtain ⟨b, eb, lb⟩ := hone 1 (by decide)
  obtain ⟨c, ec, lc⟩ := hone 2 (by decide)
  obtain ⟨e, ee, le⟩ := hone 3 (by decide)
  obtain ⟨x0, x1, x2, x3, rfl⟩ : ∃ x0 x1 x2 x3, xs = [x0, x1, x2, x3] := match xs, hn' with
    | [x0, x1, x2, x3], _ => ⟨x0, x1, x2, x3, rfl⟩
  simp only [List.getElem?_cons_zero, List.getElem?_cons_succ, Option.some.injEq] at ea eb ec ee
  subst ea eb ec ee
  refine ⟨Sx.ofW a b c e, Sx.ofW_lt la lb lc le, ?_⟩
  unfold setV setA
  rw [Sx.wd_ofW0 la, Sx.wd_ofW1 la lb, Sx.wd_ofW2 la lb lc, Sx.wd_ofW3 la lb lc le]
end Go.Proofs.Ytojmkgllbhbeiaa
namespace Go.Proofs.Ytojmkgllbhbeiaa
open Go.RowKit
section
variable {P : Program} {ops : Array Oper} {md : Region.Mode} {C : World → Prop}

/-- f steps of the head, whatever order is picked; then E. -/
def headAny (P : Program) (md : Region.Mode) (ops : Array Oper) (C : World → Prop) (n : Nat) (E : Array Bool → Act → Prop) : Nat → Array Bool → Act → Prop
  | 0, listed, a => E listed a
  | f + 1, listed, a => Region.ready md ops listed ≠ [] ∧ ∀ i ∈ Region.ready md ops listed, i < n ∧ qOp P ops C i (headAny P md ops C n E f (listed.setIfInBounds i true)) a

theorem headAny_wpAny {n g : Nat} {E : Array Bool → Act → Prop} {Q : Exit → Act → World → Prop} (hE : ∀ listed a w, C w → E listed a → wpAny P md ops Q g listed a w) :
    ∀ (f : Nat) (listed : Array Bool) (a : Act) (w : World), C w → headAny P md ops C n E f listed a → wpAny P md ops Q (f + g) listed a w := by
  intro f
  induction f with
  | zero => intro listed a w hC h; rw [Nat.zero_add]; exact hE _ _ _ hC h
  | succ f ih =>
    intro listed a w hC h
    rw [show f + 1 + g = (f + g) + 1 from by omega]
    refine ⟨fun h0 => absurd h0 h.1, fun i hi => wpOp_of_qOp hC (fun a' w' hC' h' => ih _ a' w' hC' h') (h.2 i hi).2⟩

theorem headAny_first {n i : Nat} {oi : Oper} {v : Value} {E : Array Bool → Act → Prop} (hoi : ops[i]? = some oi) (hsel : Region.noSelect ops = true)
    (hs : Region.sinkB md ops n = true) (hc : Region.chainB md ops n = true) (hn : n < ops.size) (hin : i < n)
    (hE : ∀ listed a, E listed a → ∀ j ∈ Region.ready md ops listed, n ≤ j) (f : Nat) :
    ∀ (listed : Array Bool) (a : Act), HeadInv md ops n listed →
      (∀ j oj, ops[j]? = some oj → j ≠ i → listed.getD j true = false → (∀ e ∈ oj.after, Region.binds md e = true → e.on ≠ i) → oi.apart ops oj = true) →
      i ∈ Region.ready md ops listed → YieldsIn P ops C oi v a →
      headAny P md ops C n E f (listed.setIfInBounds i true) (a.put oi.dst v) → headAny P md ops C n E (f + 1) listed a := by
  induction f with
  | zero =>
    intro listed a inv _ hr hy H
    have hun := (mem_ready.1 hr).1
    refine ⟨List.ne_nil_of_mem hr, fun j hj => ?_⟩
    have hjn : j < n := Nat.lt_of_not_le fun h => tail_waits hs hc hn inv _ i rfl hin hun j h hj
    refine ⟨hjn, ?_⟩
    by_cases hji : j = i
    · subst hji; exact hy.qOp hoi H
    · have := hE _ _ H j (ready_mono hj hji)
      omega
  | succ f ih =>
    intro listed a inv hfree hr hy H
    have hun := (mem_ready.1 hr).1
    refine ⟨List.ne_nil_of_mem hr, fun j hj => ?_⟩
    have hjn : j < n := Nat.lt_of_not_le fun h => tail_waits hs hc hn inv _ i rfl hin hun j h hj
    refine ⟨hjn, ?_⟩
    by_cases hji : j = i
    · subst hji; exact hy.qOp hoi H
    · obtain ⟨hjun, oj, hoj, hall⟩ := mem_ready.1 hj
      have hnot : ∀ e ∈ oj.after, Region.binds md e = true → e.on ≠ i := fun e he hb heq => by
        have h1 := hall e he hb
        rw [heq, getD_both hun] at h1
        cases h1
      have hstep := qOp_put hoj (hfree j oj hoj hji hjun hnot) (fun cs b => Region.noSelect_spec hsel i oi cs b hoi) (fun cs b => Region.noSelect_spec hsel j oj cs b hoj) hy (H.2 j (ready_mono hj hji)).2
      have hfree' : ∀ k ok, ops[k]? = some ok → k ≠ i → (listed.setIfInBounds j true).getD k true = false →
          (∀ e ∈ ok.after, Region.binds md e = true → e.on ≠ i) → oi.apart ops ok = true := fun k ok hk hki hunk hno => by
        by_cases hjk : j = k
        · subst hjk; exact hfree j ok hk hki hjun hno
        · rw [getD_set_ne true hjk] at hunk; exact hfree k ok hk hki hunk hno
      refine qOp_mono (fun a' h3 => ih (listed.setIfInBounds j true) a' (inv.set hj hjn) hfree' (ready_mono hr (Ne.symm hji)) h3.1 ?_) hstep
      rw [Array.setIfInBounds_comm _ _ hji]
      exact h3.2

theorem headAny_text {n g : Nat} {K : Act → Prop} (hsel : Region.noSelect ops = true) (hs : Region.sinkB md ops n = true) (hc : Region.chainB md ops n = true) (hn : n < ops.size)
    (l : List Oper) : ∀ (k : Nat) (listed : Array Bool) (a : Act), (∀ j, j < l.length → l[j]? = ops[k + j]?) → k + l.length = n → HeadInv md ops n listed →
    Region.lexHead md ops g l.length k listed = true → wpQuiet P ops C K l a →
    headAny P md ops C n (fun listed' a' => Region.seqB md ops g n listed' = true ∧ K a') l.length listed a := by
  induction l with
  | nil =>
    intro k listed a _ hk _ hB h
    obtain rfl : k = n := by simpa using hk
    exact ⟨by simpa [Region.lexHead] using hB, h⟩
  | cons o l ih =>
    intro k listed a hl hk inv hB h
    have h0 : ops[k]? = some o := by simpa using (hl 0 (by simp)).symm
    simp only [List.length_cons, Region.lexHead, Bool.and_eq_true] at hB
    obtain ⟨⟨hr, hf⟩, hB'⟩ := hB
    have hkn : k < n := by simp only [List.length_cons] at hk; omega
    have hr' : k ∈ Region.ready md ops listed := by simpa using hr
    have hst : qOp P ops C k (wpQuiet P ops C K l) a := by unfold qOp; simp only [h0]; exact h
    obtain ⟨v, hy, hK⟩ := yieldsIn_of_qOp h0 hst
    exact headAny_first h0 hsel hs hc hn hkn (fun listed' a' hL => seqB_ready hL.1) l.length listed a inv (Region.free_spec h0 hf) hr' hy
      (ih (k + 1) _ _ (fun j hj => by have := hl (j + 1) (by simp; omega); simpa [Nat.add_assoc, Nat.add_comm 1 j] using this) (by simp only [List.length_cons] at hk; omega) (inv.set hr' hkn) hB' hK)

/-- The region, for whatever class of worlds. -/
theorem wp_region_head_tail {id : Nat} {Q : Exit → Act → World → Prop} {a : Act} {w : World} {l : List Oper} (n : Nat) (hm : P.follows .mixedOrders = true) (hB : Region.lexTailB .any l.toArray n = true) (hC : C w.drew)
    (h : wpQuiet P l.toArray C (fun a' => ∀ w', C w' → wpList P l.toArray Q (l.drop n) a' w') (l.take n) a) : (Code.region id l.toArray true).wp P Q a w := by
  simp only [Region.lexTailB, Bool.and_eq_true, decide_eq_true_eq] at hB
  obtain ⟨⟨⟨⟨hsel, hn⟩, hs⟩, hc⟩, hlex⟩ := hB
  have hn' : n < l.length := by simpa using hn
  have htl : (l.take n).length = n := by simp; omega
  have hdl : (l.drop n).length = l.toArray.size - n := by simp
  have inv0 : HeadInv .any l.toArray n (Array.replicate l.toArray.size false) :=
    ⟨by simp, fun j oj _ hl => (by rw [getD_replicate_false] at hl; cases hl), fun t _ ht => getD_in (by simpa using ht) (getD_replicate_false _ _)⟩
  have H := headAny_text (P := P) (C := C) (md := .any) (g := l.toArray.size - n) hsel hs hc hn (l.take n) 0 _ a (fun j hj => by
    have hj' : j < n := by rw [htl] at hj; exact hj
    simp [hj']) (by simpa using htl) inv0 (by rw [htl]; exact hlex) h
  refine wp_region_any hm ?_
  have hfin := headAny_wpAny (Q := Q) (g := l.toArray.size - n) (fun listed a' w' hCw hL => by
    have := wpAny_of_seq (md := .any) (Q' := Q) (l.drop n) n listed a' w' (fun j => by simp [List.getElem?_drop]) (by rw [hdl]; exact hL.1) (hL.2 w' hCw)
    rwa [hdl] at this) _ _ _ _ hC H
  rw [htl, show n + (l.toArray.size - n) = l.toArray.size by omega] at hfin
  exact hfin

/-- At the class 'draws on, blocks behind'. -/
theorem wp_region_gr_tail {id : Nat} {Q : Exit → Act → World → Prop} {a : Act} {w : World} {l : List Oper} (n : Nat) (hm : P.follows .mixedOrders = true) (hB : Region.lexTailB .any l.toArray n = true)
    (h : wpQuiet P l.toArray (fun w' => ∃ p : GrownBy, w' = Sort.grow (w.drewN p.n) p.os) (fun a' => ∀ w', (∃ p : GrownBy, w' = Sort.grow (w.drewN p.n) p.os) → wpList P l.toArray Q (l.drop n) a' w') (l.take n) a) : (Code.region id l.toArray true).wp P Q a w :=
  wp_region_head_tail (C := fun w' => ∃ p : GrownBy, w' = Sort.grow (w.drewN p.n) p.os) n hm hB ⟨⟨1, #[]⟩, by rw [Sort.grow_empty]; rfl⟩ h
end
end Go.Proofs.Ytojmkgllbhbeiaa
namespace Go.Proofs.Ytojmkgllbhbeiaa
open Go.RowKit
section
variable {P : Program} (w : World)

theorem run_eqLoop (d : Nat) (e : TypeId) (k k' : IntKind) (he : P.underlying e = some (.int k')) (ha : ∀ w, (isAgg e).run P w = .ok false w)
    (xs ys : Array Value) (f g : Nat → Int) (l : List Nat) : ∀ (_ : ∀ i, i ∈ l → xs[i * 1]? = some (.int k (f i))) (_ : ∀ i, i ∈ l → ys[i * 1]? = some (.int k (g i))),
    (do
      let r ← forIn (m := Sem) l ((none, ()) : Option Bool × Unit) (fun i (_ : Option Bool × Unit) => do
        let a ← part e xs (i * 1)
        let b ← part e ys (i * 1)
        let c ← Op.equalIn (d + 1) e a b
        if (!c) = true then pure (ForInStep.done ((some false, ()) : Option Bool × Unit)) else pure (ForInStep.yield ((none, ()) : Option Bool × Unit)))
      match r.fst with
      | some b => (pure b : Sem Bool)
      | none => pure true).run P w = .ok (decide (∀ i, i ∈ l → f i = g i)) w := by
  induction l with
  | nil => intro _ _; simp
  | cons j l ih =>
    intro hx hy
    have ex := hx j (by simp)
    have ey := hy j (by simp)
    have ih' := ih (fun i hi => hx i (by simp [hi])) (fun i hi => hy i (by simp [hi]))
    have px : (part e xs (j * 1)).run P w = .ok (.int k (f j)) w := by unfold part; simp only [Sem.run_bind, ha, Result.andThen_ok, Bool.false_eq_true, if_false, ex]; rfl
    have py : (part e ys (j * 1)).run P w = .ok (.int k (g j)) w := by unfold part; simp only [Sem.run_bind, ha, Result.andThen_ok, Bool.false_eq_true, if_false, ey]; rfl
    simp only [List.forIn_cons, Sem.run_bind, px, py, Result.andThen_ok, run_equalIn_int w d e k k' _ _ he] at ih' ⊢
    by_cases h : f j = g j
    · simp only [h, beq_self_eq_true, Bool.not_true, Bool.false_eq_true, if_false, Sem.run_pure, Result.andThen_ok]
      rw [ih']
      simp [h]
    · have hb : (f j == g j) = false := by simp [h]
      simp only [hb, Bool.not_false, if_true, Sem.run_pure, Result.andThen_ok]
      simp [h]

theorem run_equalIn_arr (d : Nat) (t e : TypeId) (n : Nat) (k k' : IntKind) (ht : P.underlying t = some (.array n e)) (he : P.underlying e = some (.int k')) (ha : ∀ w, (isAgg e).run P w = .ok false w)
    (hz : ∀ w, (sizeOf e).run P w = .ok 1 w) (xs ys : Array Value) (f g : Nat → Int) (hx : ∀ i, i < n → xs[i]? = some (.int k (f i))) (hy : ∀ i, i < n → ys[i]? = some (.int k (g i))) :
    (Op.equalIn (d + 2) t (.agg xs) (.agg ys)).run P w = .ok (decide (∀ i, i < n → f i = g i)) w := by
  have h := run_eqLoop (P := P) w d e k k' he ha xs ys f g (List.range' 0 n 1) (fun i hi => by rw [Nat.mul_one]; exact hx i (by simpa [List.mem_range'] using hi)) (fun i hi => by rw [Nat.mul_one]; exact hy i (by simpa [List.mem_range'] using hi))
  unfold Op.equalIn
  simp only [Sem.run_bind, run_underlying ht, Result.andThen_ok, hz, Std.Legacy.Range.forIn_eq_forIn_range', Std.Legacy.Range.size, Nat.sub_zero, Nat.add_sub_cancel, Nat.div_one] at h ⊢
  refine Eq.trans (b := _) ?_ (h.trans ?_)
  congr 1
  · funext a w'
    rcases a with ⟨_ | b, u⟩ <;> rfl
  congr 1
  exact decide_eq_decide.2 ⟨fun hh i hi => hh i (by simpa [List.mem_range'] using hi), fun hh i hi => hh i (by simpa [List.mem_range'] using hi)⟩

/-- '==' of two arrays of integers. -/
theorem run_eql_arr (t e : TypeId) (n : Nat) (k k' : IntKind) (ht : P.underlying t = some (.array n e)) (he : P.underlying e = some (.int k')) (ha : ∀ w, (isAgg e).run P w = .ok false w)
    (hz : ∀ w, (sizeOf e).run P w = .ok 1 w) (xs ys : Array Value) (f g : Nat → Int) (hx : ∀ i, i < n → xs[i]? = some (.int k (f i))) (hy : ∀ i, i < n → ys[i]? = some (.int k (g i)))
    (b : Bool) (hb : b = true ↔ ∀ i, i < n → f i = g i) : (binOp .eql t (.agg xs) (.agg ys)).run P w = .ok (.bool b) w := by
  simp only [binOp, Op.equal, Op.maxDepth, Sem.run_bind, run_equalIn_arr w 9998 t e n k k' ht he ha hz xs ys f g hx hy, Result.andThen_ok, Sem.run_pure]
  rw [show decide (∀ i, i < n → f i = g i) = b from by rw [Bool.eq_iff_iff, decide_eq_true_eq]; exact hb.symm]
/-- '!=' of two arrays of integers. -/
theorem run_neq_arr (t e : TypeId) (n : Nat) (k k' : IntKind) (ht : P.underlying t = some (.array n e)) (he : P.underlying e = some (.int k')) (ha : ∀ w, (isAgg e).run P w = .ok false w)
    (hz : ∀ w, (sizeOf e).run P w = .ok 1 w) (xs ys : Array Value) (f g : Nat → Int) (hx : ∀ i, i < n → xs[i]? = some (.int k (f i))) (hy : ∀ i, i < n → ys[i]? = some (.int k (g i)))
    (b : Bool) (hb : b = true ↔ ∀ i, i < n → f i = g i) : (binOp .neq t (.agg xs) (.agg ys)).run P w = .ok (.bool (!b)) w := by
  simp only [binOp, Op.equal, Op.maxDepth, Sem.run_bind, run_equalIn_arr w 9998 t e n k k' ht he ha hz xs ys f g hx hy, Result.andThen_ok, Sem.run_pure]
  rw [show decide (∀ i, i < n → f i = g i) = b from by rw [Bool.eq_iff_iff, decide_eq_true_eq]; exact hb.symm]
end
end Go.Proofs.Ytojmkgllbhbeiaa
namespace Go.Proofs.Ytojmkgllbhbeiaa

/-- The bytes of a set below k, in order. -/
def upto (s k : Nat) : List Nat := (List.range k).filter s.testBit
theorem upto_yes {s k : Nat} (h : s.testBit k = true) : upto s (k + 1) = upto s k ++ [k] := by simp [upto, List.range_succ, h]
theorem upto_no {s k : Nat} (h : s.testBit k = false) : upto s (k + 1) = upto s k := by simp [upto, List.range_succ, h]
theorem upto_len (s k : Nat) : (upto s k).length ≤ k := by
  have := List.length_filter_le s.testBit (List.range k); rwa [List.length_range] at this
/-- All bytes of a set, in order. -/
def elems (s : Nat) : List Nat := upto s 256
theorem upto_prefix (s : Nat) {k m : Nat} (h : k ≤ m) : upto s k <+: upto s m := by
  refine (List.IsPrefix.filter s.testBit (?_ : List.range k <+: List.range m))
  refine ⟨List.range' k (m - k), ?_⟩
  have h2 := List.range'_append_1 (s := 0) (m := k) (n := m - k)
  rw [Nat.zero_add, show k + (m - k) = m by omega] at h2
  rw [List.range_eq_range', List.range_eq_range', h2]
theorem mem_elems {s c : Nat} : c ∈ elems s ↔ c < 256 ∧ s.testBit c = true := by simp [elems, upto]
theorem elems_lt {s c : Nat} (h : c ∈ elems s) : c < 256 := (mem_elems.1 h).1
theorem elems_zero : elems 0 = [] := by simp [elems, upto]
theorem elems_nil {s : Nat} (hs : s < 2 ^ 256) : elems s = [] ↔ s = 0 := by
  constructor
  · intro h
    refine Sx.ext hs (by decide) fun c hc => ?_
    rw [Nat.zero_testBit]
    cases ht : s.testBit c with
    | false => rfl
    | true => have : c ∈ elems s := mem_elems.2 ⟨hc, ht⟩; rw [h] at this; cases this
  · rintro rfl; exact elems_zero
theorem elems_ext {s t : Nat} (hs : s < 2 ^ 256) (ht : t < 2 ^ 256) (h : ∀ c, c ∈ elems s ↔ c ∈ elems t) : s = t := by
  refine Sx.ext hs ht fun c hc => ?_
  rw [Bool.eq_iff_iff]
  have := h c
  simp only [mem_elems, hc, true_and] at this
  exact this

/-- How many bytes. -/
def size (s : Nat) : Nat := (elems s).length
theorem size_le (s : Nat) : size s ≤ 256 := upto_len s 256
theorem size_zero : size 0 = 0 := by rw [size, elems_zero]; rfl
theorem size_pos {s : Nat} (hs : s < 2 ^ 256) (h : s ≠ 0) : 1 ≤ size s := by
  unfold size
  cases he : elems s with
  | nil => exact absurd ((elems_nil hs).1 he) h
  | cons x l => simp
theorem upto_size (a b k : Nat) : (upto (Sx.or a b) k).length + (upto (Sx.and a b) k).length = (upto a k).length + (upto b k).length := by
  induction k with
  | zero => rfl
  | succ k ih =>
    have ho := Sx.tb_or a b k
    have ha := Sx.tb_and a b k
    cases h1 : a.testBit k <;> cases h2 : b.testBit k <;> simp only [h1, h2, Bool.or_false, Bool.or_true, Bool.and_false, Bool.and_true] at ho ha
    · rw [upto_no ho, upto_no ha, upto_no h1, upto_no h2]; exact ih
    · rw [upto_yes ho, upto_no ha, upto_no h1, upto_yes h2]; simp; omega
    · rw [upto_yes ho, upto_no ha, upto_yes h1, upto_no h2]; simp; omega
    · rw [upto_yes ho, upto_yes ha, upto_yes h1, upto_yes h2]; simp; omega
theorem size_or_and (a b : Nat) : size (Sx.or a b) + size (Sx.and a b) = size a + size b := upto_size a b 256

/-- Sets that are not empty, and meet none of the others. -/
def Part (ps : List Nat) : Prop := (∀ p ∈ ps, p ≠ 0 ∧ p < 2 ^ 256) ∧ ps.Pairwise fun p q => Sx.and p q = 0
/-- All of them together. -/
def orAll : List Nat → Nat
  | [] => 0
  | p :: ps => Sx.or p (orAll ps)
theorem tb_orAll (c : Nat) : ∀ (ps : List Nat), (orAll ps).testBit c = ps.any fun p => p.testBit c
  | [] => by simp [orAll]
  | p :: ps => by rw [orAll, Sx.tb_or, tb_orAll c ps, List.any_cons]
theorem orAll_lt : ∀ (ps : List Nat), (∀ p ∈ ps, p < 2 ^ 256) → orAll ps < 2 ^ 256
  | [], _ => by decide
  | p :: ps, h => Sx.or_lt (h p (by simp)) (orAll_lt ps fun q hq => h q (by simp [hq]))
theorem and_zero {p q : Nat} : Sx.and p q = 0 ↔ ∀ c, ¬ (p.testBit c = true ∧ q.testBit c = true) := by
  constructor
  · intro h c hc
    have := Sx.tb_and p q c
    rw [h, hc.1, hc.2] at this
    simp at this
  · intro h
    refine Nat.eq_of_testBit_eq fun c => ?_
    rw [Sx.tb_and, Nat.zero_testBit]
    cases h1 : p.testBit c <;> cases h2 : q.testBit c <;> simp
    exact h c ⟨h1, h2⟩
theorem Part.len : ∀ {ps : List Nat}, Part ps → ps.length ≤ size (orAll ps)
  | [], _ => Nat.zero_le _
  | p :: ps, h => by
    obtain ⟨h1, h2⟩ := h
    rw [List.pairwise_cons] at h2
    have ih := Part.len (ps := ps) ⟨fun q hq => h1 q (by simp [hq]), h2.2⟩
    have hz : Sx.and p (orAll ps) = 0 := by
      rw [and_zero]
      rintro c ⟨hp, ho⟩
      rw [tb_orAll, List.any_eq_true] at ho
      obtain ⟨q, hq, hqc⟩ := ho
      exact and_zero.1 (h2.1 q hq) c ⟨hp, hqc⟩
    have hs := size_or_and p (orAll ps)
    rw [hz, size_zero] at hs
    have hp := size_pos (h1 p (by simp)).2 (h1 p (by simp)).1
    rw [orAll, List.length_cons]
    omega
theorem Part.len256 {ps : List Nat} (h : Part ps) : ps.length ≤ 256 := Nat.le_trans h.len (size_le _)

/-- A set, parted by another one. -/
def split (p s : Nat) : List Nat := [Sx.and p s, Sx.less p s].filter (· ≠ 0)
def partStep (ps : List Nat) (s : Nat) : List Nat := ps.flatMap fun p => split p s
/-- The classes, in the order in which they are made. -/
def rawParts (ss : List Nat) : List Nat := ss.foldl partStep [Sx.full]
theorem mem_split {p s q : Nat} (h : q ∈ split p s) : q ≠ 0 ∧ (q = Sx.and p s ∨ q = Sx.less p s) := by
  simp only [split, List.mem_filter, List.mem_cons, List.not_mem_nil, or_false, decide_eq_true_eq] at h
  exact ⟨h.2, h.1⟩
theorem split_sub {p s q c : Nat} (h : q ∈ split p s) (hc : q.testBit c = true) : p.testBit c = true := by
  rcases (mem_split h).2 with rfl | rfl
  · rw [Sx.tb_and, Bool.and_eq_true] at hc; exact hc.1
  · rw [Sx.tb_less, Bool.and_eq_true] at hc; exact hc.1
theorem split_len (p s : Nat) : (split p s).length ≤ 2 := List.length_filter_le _ _
theorem Part.step {ps : List Nat} (h : Part ps) (s : Nat) : Part (partStep ps s) := by
  obtain ⟨h1, h2⟩ := h
  refine ⟨fun q hq => ?_, ?_⟩
  · obtain ⟨p, hp, hqp⟩ := List.mem_flatMap.1 hq
    refine ⟨(mem_split hqp).1, ?_⟩
    rcases (mem_split hqp).2 with rfl | rfl
    · exact Sx.and_lt s (h1 p hp).2
    · exact Sx.less_lt s (h1 p hp).2
  · unfold partStep
    rw [List.pairwise_flatMap]
    refine ⟨fun p _ => ?_, h2.imp_of_mem fun {p p'} _ _ hd q hq q' hq' => ?_⟩
    · unfold split
      refine List.Pairwise.filter _ ?_
      refine List.pairwise_pair.2 ?_
      rw [and_zero]
      rintro c ⟨a, b⟩
      rw [Sx.tb_and, Bool.and_eq_true] at a
      rw [Sx.tb_less, Bool.and_eq_true] at b
      rw [a.2] at b
      simp at b
    · rw [and_zero]
      rintro c ⟨a, b⟩
      exact and_zero.1 hd c ⟨split_sub hq a, split_sub hq' b⟩
theorem part_raw (ss : List Nat) : Part (rawParts ss) := by
  have h0 : Part [Sx.full] := ⟨fun p hp => by rw [List.mem_singleton.1 hp]; decide, List.pairwise_singleton _ _⟩
  unfold rawParts
  generalize [Sx.full] = ps at h0
  induction ss generalizing ps with
  | nil => exact h0
  | cons s ss ih => exact ih _ (h0.step s)
theorem raw_snoc (ss : List Nat) (s : Nat) : rawParts (ss ++ [s]) = partStep (rawParts ss) s := by simp [rawParts]
theorem partStep_len (ps : List Nat) (s : Nat) : (partStep ps s).length ≤ ps.length * 2 := by
  induction ps with
  | nil => simp [partStep]
  | cons p ps ih =>
    have := split_len p s
    simp only [partStep, List.flatMap_cons, List.length_append, List.length_cons] at ih ⊢
    omega
theorem partStep_snoc (ps : List Nat) (p s : Nat) : partStep (ps ++ [p]) s = partStep ps s ++ split p s := by simp [partStep]
end Go.Proofs.Ytojmkgllbhbeiaa
namespace Go.Proofs.Ytojmkgllbhbeiaa
open Go.RowKit

/-- A function of two words that computes f and leaves the world alone. -/
def WordFn (g : Nat) (f : Nat → Nat → Nat) : Prop := ∀ (x y : Nat) (w : World), x < 18446744073709551616 → y < 18446744073709551616 →
  Calls Try.prog g #[.int .u64 x, .int .u64 y] w fun e w' => e = .returned (.int .u64 (f x y : Nat)) ∧ w' = w

theorem lessW : WordFn 76 fun x y => x ^^^ (x &&& y) := by
  intro x y w hx hy
  have hb := bits_andNot64 x y hx hy
  go_enter Try.func76, Try.ntmps76
  go_wp2
  go_ret
  exact ⟨rfl, rfl⟩
theorem orW : WordFn 86 fun x y => x ||| y := by
  intro x y w hx hy
  have hb := bits_or64 x y hx hy
  go_enter Try.func86, Try.ntmps86
  go_wp2
  go_ret
  exact ⟨rfl, rfl⟩
theorem andW : WordFn 87 fun x y => x &&& y := by
  intro x y w hx hy
  have hb := bits_and64 x y hx hy
  go_enter Try.func87, Try.ntmps87
  go_wp2
  go_ret
  exact ⟨rfl, rfl⟩
theorem notW : WordFn 88 fun x _ => 18446744073709551615 ^^^ x := by
  intro x y w hx hy
  have hb : bits .xor .u64 IntKind.u64.max (x : Int) = ((18446744073709551615 ^^^ x : Nat) : Int) := bits_xor_u64_nat 18446744073709551615 x (by decide) hx
  go_enter Try.func88, Try.ntmps88
  go_wp2
  go_ret
  exact ⟨rfl, rfl⟩

/-- The cells after k rounds of 'each': the first k words are made. -/
def eachA (f : Nat → Nat → Nat) (s t k : Nat) : Array Value :=
  #[.int .u64 (if 0 < k then f (Sx.wd s 0) (Sx.wd t 0) else 0 : Nat), .int .u64 (if 1 < k then f (Sx.wd s 1) (Sx.wd t 1) else 0 : Nat),
    .int .u64 (if 2 < k then f (Sx.wd s 2) (Sx.wd t 2) else 0 : Nat), .int .u64 (if 3 < k then f (Sx.wd s 3) (Sx.wd t 3) else 0 : Nat)]

theorem mixed : Try.prog.follows .mixedOrders = true := by kernel_rfl

theorem eachA_zero (f : Nat → Nat → Nat) (s t : Nat) : eachA f s t 0 = #[.int .u64 0, .int .u64 0, .int .u64 0, .int .u64 0] := rfl
theorem eachA_get (f : Nat → Nat → Nat) (s t k : Nat) (h : k < 4) : (eachA f s t k)[k]? = some (.int .u64 0) := by
  have : k = 0 ∨ k = 1 ∨ k = 2 ∨ k = 3 := by omega
  rcases this with rfl | rfl | rfl | rfl <;> rfl
theorem eachA_succ (f : Nat → Nat → Nat) (s t k : Nat) (h : k < 4) : (eachA f s t k).setIfInBounds k (.int .u64 (f (Sx.wd s k) (Sx.wd t k) : Nat)) = eachA f s t (k + 1) := by
  have : k = 0 ∨ k = 1 ∨ k = 2 ∨ k = 3 := by omega
  rcases this with rfl | rfl | rfl | rfl <;> rfl

set_option maxHeartbeats 1000000 in
theorem each_any (g : Nat) (f : Nat → Nat → Nat) (hf : WordFn g f) (eg : ∀ args w, (callFunc g args).run Try.prog w = .ok (.enter g args) w) (s t r : Nat) (hr : eachA f s t 4 = setA r) (w : World) :
    Calls Try.prog 75 #[setV s, setV t, .func (.func g) #[] #[]] w fun e w' => e = .returned (setV r) ∧ Gr w.heap.size w w' := by
  have H := Lib.hid hf; clear hf
  have HR := Lib.hid hr; clear hr
  unfold setV setA
  go_enter Try.func75, Try.ntmps75
  go_wp2
  go_loopw [9] (fun i wr => ∃ k : Nat, k ≤ 4 ∧ i = .int .i64 k ∧ Blk wr w.heap.size (setA s) 24 ∧ Blk wr (w.heap.size + 1) (setA t) 24 ∧ Blk wr (w.heap.size + 1 + 1) #[.int .u64 0, .int .u64 0, .int .u64 0, .int .u64 0] 24 ∧ Blk wr (w.heap.size + 1 + 1 + 1) (eachA f s t k) 24 ∧ Gr w.heap.size w wr) (fun i _ => 4 - (intOf i).toNat)
  case atStart =>
    have b0 := Blk.new w (setA s) 24
    have b1 := Blk.new (w.alloc (.cells (setA s) 24)) (setA t) 24
    have b2 := Blk.new ((w.alloc (.cells (setA s) 24)).alloc (.cells (setA t) 24)) #[.int .u64 0, .int .u64 0, .int .u64 0, .int .u64 0] 24
    have b3 := Blk.new (((w.alloc (.cells (setA s) 24)).alloc (.cells (setA t) 24)).alloc (.cells #[.int .u64 0, .int .u64 0, .int .u64 0, .int .u64 0] 24)) #[.int .u64 0, .int .u64 0, .int .u64 0, .int .u64 0] 24
    simp only [World.size_alloc] at b0 b1 b2 b3
    exact ⟨0, by omega, rfl, ((b0.alloc _).alloc _).alloc _, (b1.alloc _).alloc _, b2.alloc _, b3, gr4 w _ _ _ _⟩
  case round =>
    obtain ⟨k, hk, rfl, h0, h1, h2, h3, hB⟩ := hrel
    by_cases hlt : k < 4
    · have c0 := (h0.cell k).trans (setA_get s hlt)
      have c1 := (h1.cell k).trans (setA_get t hlt)
      have c3 := (h3.cell k).trans (eachA_get f s t k hlt)
      have f3 := h3.frozen k
      go_wp2
      have q0 := cellG c0
      have q1 := cellG c1
      refine wp_region_gr_tail 10 mixed (by kernel_rfl) ?_
      simp only [List.take_succ_cons, List.take_zero, List.drop_succ_cons, List.drop_zero]
      repeat (go_big_quiet_step (exact callsSame (H.out _ _ _ (Sx.wd_lt _ _) (Sx.wd_lt _ _))))
      refine wpQuiet_nil ?_
      intro w1 hw'
      obtain ⟨⟨d, os⟩, hw''⟩ := hw'
      have hb := gr_grown wr d os
      rw [← hw''] at hb
      clear hw'' q0 q1 c0 c1
      have e3 := h3.later hb
      have c4 := (e3.cell k).trans (eachA_get f s t k hlt)
      have f4 := e3.frozen k
      have hs0 := (h0.later hb).other (p := ⟨w.heap.size + 1 + 1 + 1, k, none⟩) (by show _ ≠ w.heap.size + 1 + 1 + 1; omega) (.int .u64 (f (Sx.wd s k) (Sx.wd t k) : Nat))
      have hs1 := (h1.later hb).other (p := ⟨w.heap.size + 1 + 1 + 1, k, none⟩) (by show _ ≠ w.heap.size + 1 + 1 + 1; omega) (.int .u64 (f (Sx.wd s k) (Sx.wd t k) : Nat))
      have hs2 := (h2.later hb).other (p := ⟨w.heap.size + 1 + 1 + 1, k, none⟩) (by show _ ≠ w.heap.size + 1 + 1 + 1; omega) (.int .u64 (f (Sx.wd s k) (Sx.wd t k) : Nat))
      have hs3 := e3.set k (.int .u64 (f (Sx.wd s k) (Sx.wd t k) : Nat))
      rw [eachA_succ f s t k hlt] at hs3
      have hB1 := (hB.trans (hb.mono hB.size)).setCell (p := ⟨w.heap.size + 1 + 1 + 1, k, none⟩) (by show _ ≤ w.heap.size + 1 + 1 + 1; omega) (.int .u64 (f (Sx.wd s k) (Sx.wd t k) : Nat))
      go_wp2
      go_roundw
      case rel => exact ⟨k + 1, by omega, by go_num, hs0, hs1, hs2, hs3, hB1⟩
      case measure => simp [intOf]; omega
    · obtain rfl : k = 4 := by omega
      rw [HR.out] at h3
      obtain ⟨c0, c1, c2, c3, _⟩ := Blk.four (show Blk wr (w.heap.size + 1 + 1 + 1) #[_, _, _, _] 24 from h3)
      obtain ⟨d0, d1, d2, d3, g0, g1, g2, g3⟩ := h2.four
      clear h0 h1 H HR eg
      go_wp2
      refine bodyPost_ret (v := .agg #[.int .u64 (Sx.wd r 0), .int .u64 (Sx.wd r 1), .int .u64 (Sx.wd r 2), .int .u64 (Sx.wd r 3)]) (by simp [results, Try.results75, go_sem, *]) rfl ⟨rfl, ?_⟩
      exact (((hB.setCell (p := ⟨w.heap.size + 1 + 1, 0, none⟩) (by show _ ≤ w.heap.size + 1 + 1; omega) _).setCell (p := ⟨w.heap.size + 1 + 1, 1, none⟩) (by show _ ≤ w.heap.size + 1 + 1; omega) _).setCell (p := ⟨w.heap.size + 1 + 1, 2, none⟩) (by show _ ≤ w.heap.size + 1 + 1; omega) _).setCell (p := ⟨w.heap.size + 1 + 1, 3, none⟩) (by show _ ≤ w.heap.size + 1 + 1; omega) _


set_option maxHeartbeats 1000000 in
theorem less_any (s t : Nat) (w : World) : Calls Try.prog 20 #[setV s, setV t] w fun e w' => e = .returned (setV (Sx.less s t)) ∧ Gr w.heap.size w w' := by
  have hr : eachA (fun x y => x ^^^ (x &&& y)) s t 4 = setA (Sx.less s t) := by simp [eachA, setA, Sx.wd_less]
  have HC := fun w => each_any 76 _ lessW (enters_of Try.func76 (by kernel_rfl) rfl) s t (Sx.less s t) hr w
  clear hr
  unfold setV setA at HC ⊢
  go_enter Try.func20, Try.ntmps20
  go_wp2_with fail
  refine (HC _).mono ?_
  clear HC
  rintro e w1 ⟨rfl, hb⟩
  have h2 := (blkOf3 w _ _ _ _).later hb
  obtain ⟨d0, d1, d2, d3, g0, g1, g2, g3⟩ := h2.four
  have hB := gthen (gr3 w _ _ _) hb
  clear hb
  go_wp2
  refine bodyPost_ret (v := .agg #[_, _, _, _]) (by simp [results, Try.results20, go_sem, *]) rfl ⟨rfl, ?_⟩
  exact gfour hB (by omega) _ _ _ _

set_option maxHeartbeats 1000000 in
theorem or_any (s t : Nat) (w : World) : Calls Try.prog 24 #[setV s, setV t] w fun e w' => e = .returned (setV (Sx.or s t)) ∧ Gr w.heap.size w w' := by
  have hr : eachA (fun x y => x ||| y) s t 4 = setA (Sx.or s t) := by simp [eachA, setA, Sx.wd_or]
  have HC := fun w => each_any 86 _ orW (enters_of Try.func86 (by kernel_rfl) rfl) s t (Sx.or s t) hr w
  clear hr
  unfold setV setA at HC ⊢
  go_enter Try.func24, Try.ntmps24
  go_wp2_with fail
  refine (HC _).mono ?_
  clear HC
  rintro e w1 ⟨rfl, hb⟩
  have h2 := (blkOf3 w _ _ _ _).later hb
  obtain ⟨d0, d1, d2, d3, g0, g1, g2, g3⟩ := h2.four
  have hB := gthen (gr3 w _ _ _) hb
  clear hb
  go_wp2
  refine bodyPost_ret (v := .agg #[_, _, _, _]) (by simp [results, Try.results24, go_sem, *]) rfl ⟨rfl, ?_⟩
  exact gfour hB (by omega) _ _ _ _

set_option maxHeartbeats 1000000 in
theorem and_any (s t : Nat) (w : World) : Calls Try.prog 25 #[setV s, setV t] w fun e w' => e = .returned (setV (Sx.and s t)) ∧ Gr w.heap.size w w' := by
  have hr : eachA (fun x y => x &&& y) s t 4 = setA (Sx.and s t) := by simp [eachA, setA, Sx.wd_and]
  have HC := fun w => each_any 87 _ andW (enters_of Try.func87 (by kernel_rfl) rfl) s t (Sx.and s t) hr w
  clear hr
  unfold setV setA at HC ⊢
  go_enter Try.func25, Try.ntmps25
  go_wp2_with fail
  refine (HC _).mono ?_
  clear HC
  rintro e w1 ⟨rfl, hb⟩
  have h2 := (blkOf3 w _ _ _ _).later hb
  obtain ⟨d0, d1, d2, d3, g0, g1, g2, g3⟩ := h2.four
  have hB := gthen (gr3 w _ _ _) hb
  clear hb
  go_wp2
  refine bodyPost_ret (v := .agg #[_, _, _, _]) (by simp [results, Try.results25, go_sem, *]) rfl ⟨rfl, ?_⟩
  exact gfour hB (by omega) _ _ _ _

set_option maxHeartbeats 1000000 in
theorem not_any (s : Nat) (w : World) : Calls Try.prog 26 #[setV s] w fun e w' => e = .returned (setV (Sx.not s)) ∧ Gr w.heap.size w w' := by
  have hr : eachA (fun x _ => 18446744073709551615 ^^^ x) s s 4 = setA (Sx.not s) := by simp [eachA, setA, Sx.wd_not]
  have HC := fun w => each_any 88 _ notW (enters_of Try.func88 (by kernel_rfl) rfl) s s (Sx.not s) hr w
  clear hr
  unfold setV setA at HC ⊢
  go_enter Try.func26, Try.ntmps26
  go_wp2_with fail
  refine (HC _).mono ?_
  clear HC
  rintro e w1 ⟨rfl, hb⟩
  have h2 := (blkOf2 w _ _ _).later hb
  obtain ⟨d0, d1, d2, d3, g0, g1, g2, g3⟩ := h2.four
  have hB := gthen (gr2 w _ _) hb
  clear hb
  go_wp2
  refine bodyPost_ret (v := .agg #[_, _, _, _]) (by simp [results, Try.results26, go_sem, *]) rfl ⟨rfl, ?_⟩
  exact gfour hB (by omega) _ _ _ _

theorem setV_zero : setV 0 = .agg #[.int .u64 0, .int .u64 0, .int .u64 0, .int .u64 0] := by simp [setV, setA, Sx.wd_zero]

set_option maxHeartbeats 1000000 in
theorem all_any (w : World) : Calls Try.prog 27 #[] w fun e w' => e = .returned (setV Sx.full) ∧ Gr w.heap.size w w' := by
  have HC := fun w => not_any 0 w
  rw [setV_zero, show Sx.not 0 = Sx.full from by decide] at HC
  unfold setV setA at HC ⊢
  go_enter Try.func27, Try.ntmps27
  go_wp2_with fail
  refine (HC _).mono ?_
  clear HC
  rintro e w1 ⟨rfl, hb⟩
  have h2 := (blkOf1 w _ _).later hb
  obtain ⟨d0, d1, d2, d3, g0, g1, g2, g3⟩ := h2.four
  have hB := gthen (gr1 w _) hb
  clear hb
  go_wp2
  refine bodyPost_ret (v := .agg #[_, _, _, _]) (by simp [results, Try.results27, go_sem, *]) rfl ⟨rfl, ?_⟩
  exact gfour hB (by omega) _ _ _ _

theorem guardSet (op : BinOp) (a b : Operand) (xs ys : Array Value) (w : World) : (eqGuard op 24 a b (.agg xs) (.agg ys)).run Try.prog w = .ok () w := run_eqGuard_agg w op 24 a b xs ys (by kernel_rfl)

theorem words_eq {s t : Nat} (hs : s < 2 ^ 256) (ht : t < 2 ^ 256) : decide (s = t) = true ↔ ∀ i, i < 4 → ((Sx.wd s i : Nat) : Int) = ((Sx.wd t i : Nat) : Int) := by
  rw [decide_eq_true_eq]
  refine ⟨fun h i _ => by rw [h], fun h => ?_⟩
  exact Sx.wd_ext hs ht (Int.ofNat_inj.1 (h 0 (by decide))) (Int.ofNat_inj.1 (h 1 (by decide))) (Int.ofNat_inj.1 (h 2 (by decide))) (Int.ofNat_inj.1 (h 3 (by decide)))
theorem eqlSet {s t : Nat} (hs : s < 2 ^ 256) (ht : t < 2 ^ 256) (w : World) : (binOp .eql 24 (setV s) (setV t)).run Try.prog w = .ok (.bool (decide (s = t))) w :=
  run_eql_arr w 24 22 4 .u64 .u64 Try.underlying24 Try.underlying22 Try.isAgg22 Try.sizeOf22 (setA s) (setA t) (fun i => (Sx.wd s i : Nat)) (fun i => (Sx.wd t i : Nat)) (fun _ hi => setA_get s hi) (fun _ hi => setA_get t hi) _ (words_eq hs ht)
theorem neqSet {s t : Nat} (hs : s < 2 ^ 256) (ht : t < 2 ^ 256) (w : World) : (binOp .neq 24 (setV s) (setV t)).run Try.prog w = .ok (.bool (!decide (s = t))) w :=
  run_neq_arr w 24 22 4 .u64 .u64 Try.underlying24 Try.underlying22 Try.isAgg22 Try.sizeOf22 (setA s) (setA t) (fun i => (Sx.wd s i : Nat)) (fun i => (Sx.wd t i : Nat)) (fun _ hi => setA_get s hi) (fun _ hi => setA_get t hi) _ (words_eq hs ht)

set_option maxHeartbeats 1000000 in
theorem within_any (s t : Nat) (hs : s < 2 ^ 256) (w : World) : Calls Try.prog 28 #[setV s, setV t] w fun e w' => e = .returned (.bool (decide (Sx.less s t = 0))) ∧ Gr w.heap.size w w' := by
  have HC := fun w => less_any s t w
  have HE := fun w => eqlSet (Sx.less_lt t hs) (show 0 < 2 ^ 256 by decide) w
  have HG := guardSet
  rw [setV_zero] at HE
  unfold setV setA at HC HE ⊢
  go_enter Try.func28, Try.ntmps28
  go_wp2_with fail
  refine (HC _).mono ?_
  clear HC
  rintro e w1 ⟨rfl, hb⟩
  have hB := gthen (gr2 w _ _) hb
  clear hb
  go_wp2
  go_ret
  exact ⟨rfl, hB⟩

set_option maxHeartbeats 1000000 in
theorem meets_any (s t : Nat) (hs : s < 2 ^ 256) (w : World) : Calls Try.prog 29 #[setV s, setV t] w fun e w' => e = .returned (.bool (!decide (Sx.and s t = 0))) ∧ Gr w.heap.size w w' := by
  have HC := fun w => and_any s t w
  have HE := fun w => neqSet (Sx.and_lt t hs) (show 0 < 2 ^ 256 by decide) w
  have HG := guardSet
  rw [setV_zero] at HE
  unfold setV setA at HC HE ⊢
  go_enter Try.func29, Try.ntmps29
  go_wp2_with fail
  refine (HC _).mono ?_
  clear HC
  rintro e w1 ⟨rfl, hb⟩
  have hB := gthen (gr2 w _ _) hb
  clear hb
  go_wp2
  go_ret
  exact ⟨rfl, hB⟩

theorem has_word (s c : Nat) : (bits .and .u64 (((Sx.wd s (c / 64) : Nat) : Int) / 2 ^ (c % 64)) 1 == 1) = s.testBit c := by
  have h64 : Sx.wd s (c / 64) / 2 ^ (c % 64) < 18446744073709551616 := Nat.lt_of_le_of_lt (Nat.div_le_self _ _) (Sx.wd_lt _ _)
  have e2 : (((Sx.wd s (c / 64) : Nat) : Int) / 2 ^ (c % 64)) = ((Sx.wd s (c / 64) / 2 ^ (c % 64) : Nat) : Int) := by
    rw [Int.natCast_ediv]; rfl
  have e3 := bits_and64 (Sx.wd s (c / 64) / 2 ^ (c % 64)) 1 h64 (by decide)
  rw [e2, show (1 : Int) = ((1 : Nat) : Int) from rfl, e3, Sx.tb_word, Nat.and_one_is_mod, Bool.eq_iff_iff]
  simp only [beq_iff_eq]
  omega

set_option maxHeartbeats 1000000 in
theorem has_any (s c : Nat) (hc : c < 256) (w : World) : Calls Try.prog 22 #[setV s, .int .u8 c] w fun e w' => e = .returned (.bool (s.testBit c)) ∧ Gr w.heap.size w w' := by
  have HW := Lib.hid (has_word s c)
  have hg : (setA s).toList[c / 64]? = some (.int .u64 (Sx.wd s (c / 64))) := by
    rw [Array.getElem?_toList]; exact setA_get s (by omega)
  have hy := Sx.wd_lt s (c / 64)
  generalize Sx.wd s (c / 64) = y at HW hg hy
  unfold setV setA at *
  go_enter Try.func22, Try.ntmps22
  go_wp2
  go_ret
  refine ⟨?_, gr1 w _⟩
  show Ending.returned (.bool _) = _
  rw [← HW.out]
end Go.Proofs.Ytojmkgllbhbeiaa
namespace Go.Proofs.Ytojmkgllbhbeiaa
open Go.RowKit

/-- A slice of n elements of k cells each, that reads cs. -/
def Sl (w : World) (v : Value) (k n : Nat) (cs : List Value) : Prop :=
  cs.length = n * k ∧ ((v = .slice none 0 0 ∧ n = 0) ∨ ∃ b o cap, v = .slice (some ⟨b, o, none⟩) n cap ∧ b < w.heap.size ∧ ∀ i, i < n * k → w.cell? ⟨b, o + i, none⟩ = cs[i]?)

theorem Sl.later {w w' : World} {v : Value} {k n : Nat} {cs : List Value} (h : Sl w v k n cs) (hb : Gr w.heap.size w w') : Sl w' v k n cs := by
  obtain ⟨hl, h | ⟨b, o, cap, rfl, hlt, hc⟩⟩ := h
  · exact ⟨hl, .inl h⟩
  · exact ⟨hl, .inr ⟨b, o, cap, rfl, Nat.lt_of_lt_of_le hlt hb.size, fun i hi => (hb.cell (p := ⟨b, o + i, none⟩) hlt).trans (hc i hi)⟩⟩

/-- Bytes as values. -/
def byteV (c : Nat) : Value := .int .u8 c

theorem shl_word (s c : Nat) : bits .or .u64 ((Sx.wd s (c / 64) : Nat) : Int) (IntKind.u64.wrap (2 ^ (c % 64))) = ((Sx.wd s (c / 64) ||| 2 ^ (c % 64) : Nat) : Int) := by
  have hp : 2 ^ (c % 64) < 18446744073709551616 := Nat.pow_lt_pow_right (by decide) (show c % 64 < 64 by omega)
  have h := bits_or64 (Sx.wd s (c / 64)) (2 ^ (c % 64)) (Sx.wd_lt _ _) hp
  have e : IntKind.u64.wrap (2 ^ (c % 64)) = ((2 ^ (c % 64) : Nat) : Int) := by
    rw [show (2 : Int) ^ (c % 64) = ((2 ^ (c % 64) : Nat) : Int) from rfl, IntKind.wrap_u64]
    clear h
    generalize 2 ^ (c % 64) = p at *
    omega
  rw [e, h]

theorem and63_i64 (c : Nat) (h : c < 256) : bits .and .i64 (c : Int) 63 = (c : Int) % 64 := by
  show IntKind.i64.wrap ((BitVec.ofInt 64 (c : Int) &&& BitVec.ofInt 64 63).toNat : Int) = _
  rw [BitVec.toNat_and, toNat_ofInt64 c (by omega), show (BitVec.ofInt 64 63).toNat = 2 ^ 6 - 1 from rfl, Nat.and_two_pow_sub_one_eq_mod, IntKind.wrap_i64]
  omega

theorem setA_zero : setA 0 = #[.int .u64 0, .int .u64 0, .int .u64 0, .int .u64 0] := by simp [setA, Sx.wd_zero]

set_option maxHeartbeats 1000000 in
theorem of_some (b o cap : Nat) (l : List Nat) (hl : ∀ c ∈ l, c < 256) (w : World) (hb : b < w.heap.size) (hc : ∀ i, i < l.length → w.cell? ⟨b, o + i, none⟩ = (l.map byteV)[i]?) (hlen : l.length ≤ maxLen) :
    Calls Try.prog 21 #[.slice (some ⟨b, o, none⟩) l.length cap] w fun e w' => e = .returned (setV (Sx.ofL l)) ∧ Gr w.heap.size w w' := by
  unfold maxLen at hlen
  unfold setV
  go_enter Try.func21, Try.ntmps21
  go_wp2
  go_loopw [8] (fun i wr => ∃ k : Nat, k ≤ l.length ∧ i = .int .i64 k ∧ Blk wr w.heap.size (setA 0) 24 ∧ Blk wr (w.heap.size + 1) (setA (Sx.ofL (l.take k))) 24 ∧ Gr w.heap.size w wr) (fun i _ => l.length - (intOf i).toNat)
  case atStart =>
    refine ⟨0, by omega, rfl, ?_, ?_, gr2 w _ _⟩
    · rw [setA_zero]; exact (blkOf1 w _ _).alloc _
    · rw [List.take_zero, Sx.ofL, setA_zero]; exact blkOf2 w _ _ _
  case round =>
    obtain ⟨k, hk, rfl, h0, h1, hB⟩ := hrel
    by_cases hlt : k < l.length
    · have cb : wr.cell? ⟨b, o + k, none⟩ = some (.int .u8 (l[k] : Nat)) := by
        rw [hB.cell (p := ⟨b, o + k, none⟩) hb, hc k hlt, List.getElem?_map, List.getElem?_eq_getElem hlt]; rfl
      have hlk : l[k] < 256 := hl _ (List.getElem_mem hlt)
      have hts : Hid (Sx.ofL (l.take (k + 1)) = Sx.or (Sx.ofL (l.take k)) (Sx.one l[k])) := by rw [List.take_succ_eq_append_getElem hlt, Sx.ofL_snoc]; exact rfl
      generalize l[k] = c at cb hlk hts
      generalize Sx.ofL (l.take k) = s at h1 hts
      have c1 := (h1.cell (c / 64)).trans (setA_get s (by omega))
      have f1 := h1.frozen (c / 64)
      have hor := Lib.hid (shl_word s c)
      have hset := Lib.hid (h1.set (c / 64) (.int .u64 ((Sx.wd s (c / 64) ||| 2 ^ (c % 64) : Nat) : Int)))
      rw [setA_set s c hlk] at hset
      generalize Sx.wd s (c / 64) = y at c1 hor hset
      go_wp2
      go_roundw
      case rel =>
        rw [hor.out]
        exact ⟨k + 1, by omega, by go_num, h0.other (by show _ ≠ w.heap.size + 1; omega) _, by rw [hts.out]; exact hset.out, hB.setCell (by show _ ≤ w.heap.size + 1; omega) _⟩
      case measure => simp [intOf]; omega
    · obtain rfl : k = l.length := by omega
      rw [List.take_length] at h1
      rw [setA_zero] at h0
      obtain ⟨c0, c1, c2, c3, _⟩ := Blk.four (show Blk wr (w.heap.size + 1) #[_, _, _, _] 24 from h1)
      obtain ⟨d0, d1, d2, d3, g0, g1, g2, g3⟩ := h0.four
      go_wp2
      refine bodyPost_ret (v := .agg #[_, _, _, _]) (by simp [results, Try.results21, go_sem, *]) rfl ⟨rfl, ?_⟩
      exact gfour hB (by omega) _ _ _ _

set_option maxHeartbeats 1000000 in
theorem range_any (lo hi : Nat) (hlo : lo < 256) (hhi : hi < 256) (w : World) :
    Calls Try.prog 50 #[.int .u8 lo, .int .u8 hi] w fun e w' => e = .returned (setV (Sx.range lo hi)) ∧ Gr w.heap.size w w' := by
  have hsr : Hid (Sx.range lo hi = Sx.ofL (List.range' lo (hi + 1 - lo))) := Lib.hid rfl
  generalize Sx.range lo hi = t at hsr ⊢
  unfold setV
  go_enter Try.func50, Try.ntmps50
  go_wp2
  go_loopw [6] (fun i wr => ∃ k : Nat, k ≤ hi + 1 - lo ∧ i = .int .i64 ((lo + k : Nat) : Int) ∧ Blk wr w.heap.size (setA 0) 24 ∧ Blk wr (w.heap.size + 1) (setA (Sx.ofL (List.range' lo k))) 24 ∧ Gr w.heap.size w wr) (fun i _ => 300 - (intOf i).toNat)
  case atStart =>
    refine ⟨0, by omega, rfl, ?_, ?_, gr2 w _ _⟩
    · rw [setA_zero]; exact (blkOf1 w _ _).alloc _
    · rw [List.range'_zero, Sx.ofL, setA_zero]; exact blkOf2 w _ _ _
  case round =>
    obtain ⟨k, hk, rfl, h0, h1, hB⟩ := hrel
    by_cases hlt : lo + k ≤ hi
    · have hts : Hid (Sx.ofL (List.range' lo (k + 1)) = Sx.or (Sx.ofL (List.range' lo k)) (Sx.one (lo + k))) := by
        rw [List.range'_concat, Sx.ofL_snoc, Nat.one_mul]; exact rfl
      have hlk : lo + k < 256 := by omega
      have hel : Hid (lo + k + 1 = lo + (k + 1)) := by show _ = _; omega
      have hm : Hid (k + 1 ≤ hi + 1 - lo) := by show _ ≤ _; omega
      clear hk
      generalize Sx.ofL (List.range' lo k) = s at h1 hts
      generalize hc : lo + k = c at hts hlk hlt hel
      clear hc
      have c1 := (h1.cell (c / 64)).trans (setA_get s (by omega))
      have f1 := h1.frozen (c / 64)
      have hor := Lib.hid (shl_word s c)
      go_wp2
      have q1 := cellG c1
      have hand := and63_i64 c hlk
      refine wp_region_gr_tail 9 mixed (by kernel_rfl) ?_
      simp only [List.take_succ_cons, List.take_zero, List.drop_succ_cons, List.drop_zero]
      repeat (go_big_quiet_step (fail))
      refine wpQuiet_nil ?_
      intro w1 hw'
      obtain ⟨⟨d, os⟩, hw''⟩ := hw'
      have hb := gr_grown wr d os
      rw [← hw''] at hb
      clear hw'' q1 c1 f1
      have e1 := h1.later hb
      have c1 := (e1.cell (c / 64)).trans (setA_get s (by omega))
      have f1 := e1.frozen (c / 64)
      have hset := Lib.hid (e1.set (c / 64) (.int .u64 ((Sx.wd s (c / 64) ||| 2 ^ (c % 64) : Nat) : Int)))
      rw [setA_set s c hlk] at hset
      have hB1 := hB.trans (hb.mono hB.size)
      have hz := h0.later hb
      clear h0 h1 hb hB
      generalize Sx.wd s (c / 64) = y at c1 hor hset
      go_wp2
      go_roundw
      case rel =>
        rw [hor.out]
        exact ⟨k + 1, hm.out, by rw [← hel.out]; go_num, hz.other (by show _ ≠ w.heap.size + 1; omega) _, by rw [hts.out]; exact hset.out, hB1.setCell (by show _ ≤ w.heap.size + 1; omega) _⟩
      case measure => simp [intOf]; omega
    · obtain rfl : k = hi + 1 - lo := by omega
      rw [setA_zero] at h0
      rw [← hsr.out] at h1
      obtain ⟨c0, c1, c2, c3, _⟩ := Blk.four (show Blk wr (w.heap.size + 1) #[_, _, _, _] 24 from h1)
      obtain ⟨d0, d1, d2, d3, g0, g1, g2, g3⟩ := h0.four
      clear hk
      generalize lo + (hi + 1 - lo) = c at hlt
      go_wp2
      refine bodyPost_ret (v := .agg #[_, _, _, _]) (by simp [results, Try.results50, go_sem, *]) rfl ⟨rfl, ?_⟩
      exact gfour hB (by omega) _ _ _ _
end Go.Proofs.Ytojmkgllbhbeiaa
namespace Go.Proofs.Ytojmkgllbhbeiaa
open Go.RowKit

/-- Block b is as it was. -/
def KeepB (b : Nat) (W W' : World) : Prop := W'.heap[b]? = W.heap[b]?
theorem keepB_t {b : Nat} {A B C : World} (h : KeepB b A B) (k : KeepB b B C) : KeepB b A C := Eq.trans k h
theorem keepB_below {b B : Nat} {W W' : World} (h : Below B W W') (hb : b < B) : KeepB b W W' := h.block b hb
theorem keepB_set {b : Nat} {W : World} {p : Addr} (v : Value) (hb : b ≠ p.block) : KeepB b W (W.setCell p v) := Below.heap_setCell _ _ _ _ hb
theorem Blk.keep {w w' : World} {b : Nat} {cs : Array Value} {t : TypeId} (h : Blk w b cs t) (hk : KeepB b w w') : Blk w' b cs t := Eq.trans hk h
theorem Blk.putObj {w : World} {b : Nat} {cs : Array Value} {t : TypeId} (h : Blk w b cs t) {D : Nat} (o : Obj) (hb : b ≠ D) : Blk (w.putObj D o) b cs t := Eq.trans (World.putObj_heap_other hb) h
theorem grown_of_below {w w' : World} (h : Below w.heap.size w w') : w.grownBy w' none := ⟨h.os, h.tape, h.output, h.size, fun k hk _ => h.block k hk⟩
theorem keepsOthers_of_below {w w' : World} (h : Below w.heap.size w w') : KeepsOthers w w' :=
  ⟨h.size, fun k _ hk _ => (h.block k (Array.getElem?_eq_some_iff.1 hk).1).trans hk⟩
theorem belowPut {n₀ : Nat} {W : World} {l : Nat} (o' : Obj) (h : n₀ ≤ l) : Below n₀ W (W.putObj l o') :=
  ⟨rfl, rfl, rfl, by simp, fun k hk => World.putObj_heap_other (by omega)⟩

theorem grPut {n₀ : Nat} {w₀ W : World} {l : Nat} (h : Gr n₀ w₀ W) (o' : Obj) (hl : n₀ ≤ l) : Gr n₀ w₀ (W.putObj l o') := ⟨h.below.trans (belowPut o' hl), h.drawn⟩

/-- An invariant that abides growth, and the turn of a block beyond B that is no cells. -/
structure Inv {β : Type} (B : Nat) (I : β → World → Prop) : Prop where
  grow : ∀ s A C, I s A → Gr A.heap.size A C → I s C
  put : ∀ s A l o o', I s A → B ≤ l → A.heap[l]? = some o → o.isCells = false → I s (A.putObj l o')
section
variable {β : Type} {B : Nat}
theorem Inv.and {I I' : β → World → Prop} (h : Inv B I) (h' : Inv B I') : Inv B (fun s W => I s W ∧ I' s W) :=
  ⟨fun s A C hs hg => ⟨h.grow s A C hs.1 hg, h'.grow s A C hs.2 hg⟩, fun s A l o o' hs hl ho hc => ⟨h.put s A l o o' hs.1 hl ho hc, h'.put s A l o o' hs.2 hl ho hc⟩⟩
theorem Inv.pure (p : β → Prop) : Inv B (fun s (_ : World) => p s) := ⟨fun _ _ _ hs _ => hs, fun _ _ _ _ _ hs _ _ _ => hs⟩
theorem Inv.no {β : Type} : Inv B (fun (_ : β) (_ : World) => False) := Inv.pure fun _ => False
theorem Inv.blk (b : Nat) (t : TypeId) (f : β → Array Value) : Inv B (fun s W => Blk W b (f s) t) :=
  ⟨fun _ _ _ hs hg => hs.later hg, fun _ A l o o' hs _ ho hc => hs.putObj o' fun e => by
    subst e
    rw [show A.heap[_]? = _ from hs] at ho; cases ho; cases hc⟩
theorem Inv.below {n₀ : Nat} {w₀ : World} (h0 : n₀ ≤ w₀.heap.size) (hB : n₀ ≤ B) : Inv B (fun (_ : β) W => Below n₀ w₀ W) :=
  ⟨fun _ _ _ hs hg => hs.trans (hg.below.mono (Nat.le_trans h0 hs.size)), fun _ _ _ _ o' hs hl _ _ => hs.trans (belowPut o' (Nat.le_trans hB hl))⟩
theorem Inv.gr {n₀ : Nat} {w₀ : World} (h0 : n₀ ≤ w₀.heap.size) (hB : n₀ ≤ B) : Inv B (fun (_ : β) W => Gr n₀ w₀ W) :=
  ⟨fun _ _ _ hs hg => hs.trans (hg.mono (Nat.le_trans h0 hs.size)), fun _ _ _ _ o' hs hl _ _ => ⟨hs.below.trans (belowPut o' (Nat.le_trans hB hl)), hs.drawn⟩⟩
theorem Inv.size (n : Nat) : Inv B (fun (_ : β) W => n ≤ W.heap.size) :=
  ⟨fun _ _ _ hs hg => Nat.le_trans hs hg.size, fun _ _ _ _ _ hs _ _ _ => by simpa using hs⟩
theorem Inv.keepB {b : Nat} {w₀ : World} (hb : b < w₀.heap.size) (hB : b < B) : Inv B (fun (_ : β) W => KeepB b w₀ W) :=
  ⟨fun _ A _ hs hg => (hg.below.block b (by
      have h1 : A.heap[b]? = w₀.heap[b]? := hs
      rw [Array.getElem?_eq_getElem hb] at h1
      exact (Array.getElem?_eq_some_iff.1 h1).1)).trans hs, fun _ _ _ _ o' hs hl _ _ => (World.putObj_heap_other (by omega)).trans hs⟩
/-- A box that holds a slice of an owned row. -/
theorem Inv.row (n₀ b : Nat) (t e : TypeId) (size : Nat) (k : β → Nat) (f : β → List Value) (G : β → Value → Prop) : Inv B (fun s W => ∃ v, Boxed W b t v ∧ W.ownsRow n₀ e size v (k s) (f s) ∧ G s v) :=
  ⟨fun s A C ⟨v, hv, hr, hG⟩ hg => ⟨v, Blk.later (show Blk A b _ t from hv) hg, hr.kept (grown_of_below hg.below) (by cases v.ownBlock <;> simp), hG⟩,
   fun s A l o o' ⟨v, hv, hr, hG⟩ _ ho hc => ⟨v, Blk.putObj (show Blk A b _ t from hv) o' (fun e' => by
      subst e'
      rw [show A.heap[_]? = _ from hv] at ho; cases ho; cases hc), ownsRow_putObj hr o' ho hc, hG⟩⟩
end

/-- What an iterator does with a loop body: 'encs x' is handed to yield; all of xs comes, or a part of it where a round has said no. -/
def SeqD {α : Type} (n : Nat) (P : Program) (g : Nat) (lb : Array Value) (encs : α → Array Value) (Kp : World → World → Prop) (xs : List α) (N : Nat) (w : World) : Prop :=
  ∀ (l : Nat) (J Jx : List α → World → Prop) (W : World), Gr w.heap.size w W → (∀ s A C, J s A → Gr A.heap.size A C → J s C) → (∀ s A C, Jx s A → Gr A.heap.size A C → Jx s C) →
    (∀ pre x W1, J pre W1 → pre.length < N → YieldAt Fence.wide (n - 1) P l (encs x) W1 fun e W' =>
      (e = .returned (.bool true) ∧ J (pre ++ [x]) W' ∧ Kp W1 W') ∨ (e = .returned (.bool false) ∧ Jx (pre ++ [x]) W')) →
    J [] W →
    CallsIn Fence.wide n P g (#[.func (.yield l) #[] #[]] ++ lb) W fun e W' => (∃ v, e = .returned v) ∧ (J xs W' ∨ (∃ pre, pre <+: xs ∧ Jx pre W'))

/-- How a round's body may be left. -/
def roundEnd {α : Type} (B : Nat) (Kp : World → World → Prop) (I : List α → World → Prop) (Ix : Code → List α → World → Prop) (xs : List α) (W : World) : Exit → Act → World → Prop
  | .normal, _, W' => KeepsFrom B W W' ∧ Kp W W' ∧ I xs W'
  | .ret, _, W' => KeepsFrom B W W' ∧ Ix .ret xs W'
  | .exit id, _, W' => KeepsFrom B W W' ∧ Ix (.exit id) xs W'
  | .goto t, _, W' => KeepsFrom B W W' ∧ Ix (.goto t) xs W'
  | .panic _, _, _ => False
  | .outgrown, _, _ => False

theorem wpIn_range {P : Program} {α : Type} {n : Nat} {g : Operand} {ps : Array Tmp} {assign body : Code} {Q : Exit → Act → World → Prop} {a : Act} {w : World}
    {gf : Nat} {lb : Array Value} (hg : a.eval g = .func (.func gf) #[] lb) (eg : ∀ args w, (callFunc gf args).run P w = .ok (.enter gf args) w)
    {encs : α → Array Value} {Kp : World → World → Prop} {xs : List α} {N : Nat} (hseq : SeqD (n - 1) P gf lb encs Kp xs N w)
    (hKt : ∀ A B C : World, Kp A B → Kp B C → Kp A C) (hKb : ∀ (W : World) (l : Nat) (o : Obj), w.heap.size ≤ l → Kp W (W.putObj l o)) (hps : ∀ x, (encs x).size = ps.size)
    (I : List α → World → Prop) (Ix : Code → List α → World → Prop) (hI : Inv w.heap.size I) (hIx : ∀ c, Inv w.heap.size (Ix c)) (h0 : I [] w) (a₁ : α → Act)
    (hassign : ∀ (l : Nat) (x : α) (W : World) (K : Act → World → Prop), K (a₁ x) W →
      assign.wpIn (Fence.wide.inRound l) (n - 1 - 1) P (Exit.then K (fun _ _ _ => False)) { tmps := (ps.zip (encs x)).foldl (fun t (p, v) => t.setIfInBounds p v) a.tmps, defers := [] } W)
    (hbody : ∀ (l : Nat) (pre : List α) (x : α) (W : World), I pre W → pre.length < N → body.wpIn (Fence.wide.inRound l) (n - 1 - 1) P (roundEnd w.heap.size Kp I Ix (pre ++ [x]) W) (a₁ x) W)
    (hdone : ∀ (D : Nat) (W : World), w.heap.size ≤ D → I xs W → W.heap[D]? = some (.deferred (some [])) → Q .normal { a with defers := { target := .collected D, args := #[] } :: a.defers } W)
    (hstop : ∀ (D : Nat) (c : Code) (pre : List α) (W : World), w.heap.size ≤ D → pre <+: xs → Ix c pre W → W.heap[D]? = some (.deferred (some [])) → c.wpIn Fence.wide n P Q { a with defers := { target := .collected D, args := #[] } :: a.defers } W) :
    (Code.rangeFunc g ps assign body).wpIn Fence.wide n P Q a w := by
  refine wpIn_rangeFunc fun fn hfn => ?_
  obtain ⟨rec, hrec⟩ : ∃ rec : LoopState → Option Code → Loop, rec = fun st pe => { state := st, pending := pe, fn, tmps := a.tmps, params := ps, assign, body, defers := w.heap.size } := ⟨_, rfl⟩
  obtain ⟨W1, hW1⟩ : ∃ W1, W1 = (w.alloc (.deferred (some []))).alloc (.loop (rec .ready none)) := ⟨_, rfl⟩
  have hG1 : Gr w.heap.size w W1 := by rw [hW1]; exact gr2 w _ _
  have hL1 : W1.heap[w.heap.size + 1]? = some (.loop (rec .ready none)) := by
    rw [hW1]; have := World.alloc_heap_new (w.alloc (.deferred (some []))) (.loop (rec .ready none)); rwa [World.size_alloc] at this
  have hK1 : W1.heap[w.heap.size]? = some (.deferred (some [])) := by
    rw [hW1]; exact (Below.heap_alloc _ _ _ (by simp)).trans (World.alloc_heap_new w _)
  have keep : ∀ {A C : World} {k : Nat} {o : Obj}, Gr A.heap.size A C → A.heap[k]? = some o → C.heap[k]? = some o := fun hg hk => (hg.below.block _ (Array.getElem?_eq_some_iff.1 hk).1).trans hk
  refine ⟨w.heap.size + 1, [{ target := .collected w.heap.size, args := #[] }], W1, { target := .fn (.func gf) lb, args := #[.func (.yield (w.heap.size + 1)) #[] #[]] }, W1, gf,
    #[.func (.yield (w.heap.size + 1)) #[] #[]] ++ lb, W1, ?_, ?_, fun _ _ => trivial, ?_, (fun h => absurd h (by decide)), ?_⟩
  · rw [hW1, hrec]; exact run_enterLoop_outer _ _ _ _ _
  · simp only [resolve, hg]
    simp [go_sem]
  · simp [invoke, go_sem, eg]
  · refine (hseq (w.heap.size + 1)
      (fun pre W => I pre W ∧ W.heap[w.heap.size + 1]? = some (.loop (rec .ready none)) ∧ W.heap[w.heap.size]? = some (.deferred (some [])))
      (fun pre W => ∃ c, Ix c pre W ∧ W.heap[w.heap.size + 1]? = some (.loop (rec .done (some c))) ∧ W.heap[w.heap.size]? = some (.deferred (some [])))
      W1 hG1 (fun s A C hs hg => ⟨hI.grow s A C hs.1 hg, keep hg hs.2.1, keep hg hs.2.2⟩)
      (fun s A C ⟨c, hc, hl, hk⟩ hg => ⟨c, (hIx c).grow s A C hc hg, keep hg hl, keep hg hk⟩) ?_ ⟨hI.grow _ _ _ h0 hG1, hL1, hK1⟩).mono ?_
    · rintro pre x W ⟨hi, hl, hk⟩ hlen
      have hlt : w.heap.size + 1 < W.heap.size := (Array.getElem?_eq_some_iff.1 hl).1
      have hy := run_yield (P := P) (args := encs x) hl (by rw [hrec]; exact hps x)
      rw [hrec] at hy
      refine ⟨fn, _, assign, body, hy, roundIn_of_wpIn hfn (hassign _ x W _ ⟨_, run_beginRound hl (by rw [hrec]), ?_⟩)⟩
      have hl2 : (W.putObj (w.heap.size + 1) (.loop { rec .ready none with state := .busy })).heap[w.heap.size + 1]? = some (.loop { rec .ready none with state := .busy }) := World.putObj_heap_same hlt
      have hk2 : (W.putObj (w.heap.size + 1) (.loop { rec .ready none with state := .busy })).heap[w.heap.size]? = some (.deferred (some [])) := (World.putObj_heap_other (by omega)).trans hk
      refine wpIn_mono (hbody _ pre x _ (hI.put _ _ _ _ _ hi (by omega) hl rfl) hlen) ?_
      have fin : ∀ (jump : Option Code) (W3 : World), KeepsFrom w.heap.size (W.putObj (w.heap.size + 1) (.loop { rec .ready none with state := .busy })) W3 →
          (Instr.endRound (w.heap.size + 1) jump).run P W3 = .ok (.bool jump.isNone) (W3.putObj (w.heap.size + 1) (.loop (rec (if jump.isNone then .ready else .done) jump))) ∧
          W3.heap[w.heap.size + 1]? = some (.loop { rec .ready none with state := .busy }) ∧
          (W3.putObj (w.heap.size + 1) (.loop (rec (if jump.isNone then .ready else .done) jump))).heap[w.heap.size + 1]? = some (.loop (rec (if jump.isNone then .ready else .done) jump)) ∧
          (W3.putObj (w.heap.size + 1) (.loop (rec (if jump.isNone then .ready else .done) jump))).heap[w.heap.size]? = some (.deferred (some [])) := fun jump W3 hk3 => by
        have hl3 := hk3.same _ _ (by omega) hl2 rfl
        have hend := run_endRound (P := P) jump hl3
        rw [hrec] at hend ⊢
        exact ⟨hend, by rw [hrec] at hl3; exact hl3, World.putObj_heap_same (Array.getElem?_eq_some_iff.1 hl3).1, (World.putObj_heap_other (by omega)).trans (hk3.same _ _ (Nat.le_refl _) hk2 rfl)⟩
      rintro e a3 W3 hp
      cases e with
      | normal =>
        obtain ⟨hk3, hkp3, hi3⟩ := hp
        obtain ⟨hr, hl3, hl4, hk4⟩ := fin none W3 hk3
        exact ⟨_, _, hr, .inl ⟨rfl, ⟨hI.put _ _ _ _ _ hi3 (by omega) hl3 rfl, hl4, hk4⟩, hKt _ _ _ (hKt _ _ _ (hKb _ _ _ (by omega)) hkp3) (hKb _ _ _ (by omega))⟩⟩
      | ret =>
        obtain ⟨hr, hl3, hl4, hk4⟩ := fin (some .ret) W3 hp.1
        exact ⟨_, _, hr, .inr ⟨rfl, .ret, (hIx _).put _ _ _ _ _ hp.2 (by omega) hl3 rfl, hl4, hk4⟩⟩
      | exit id =>
        obtain ⟨hr, hl3, hl4, hk4⟩ := fin (some (.exit id)) W3 hp.1
        exact ⟨_, _, hr, .inr ⟨rfl, .exit id, (hIx _).put _ _ _ _ _ hp.2 (by omega) hl3 rfl, hl4, hk4⟩⟩
      | goto t =>
        obtain ⟨hr, hl3, hl4, hk4⟩ := fin (some (.goto t)) W3 hp.1
        exact ⟨_, _, hr, .inr ⟨rfl, .goto t, (hIx _).put _ _ _ _ _ hp.2 (by omega) hl3 rfl, hl4, hk4⟩⟩
      | panic ch => exact hp.elim
      | outgrown => exact hp.elim
    · rintro e W2 ⟨⟨v, rfl⟩, (⟨hi, hl, hk⟩ | ⟨pre, hp, c, hi, hl, hk⟩)⟩
      · exact ⟨none, _, by have h := run_endLoop (P := P) hl (by rw [hrec]; simp); rw [hrec] at h; exact h, hdone _ _ (Nat.le_refl _) (hI.put _ _ _ _ _ hi (by omega) hl rfl) ((World.putObj_heap_other (by omega)).trans hk)⟩
      · exact ⟨some c, _, by have h := run_endLoop (P := P) hl (by rw [hrec]; simp); rw [hrec] at h; exact h, hstop _ c pre _ (Nat.le_refl _) hp ((hIx c).put _ _ _ _ _ hi (by omega) hl rfl) ((World.putObj_heap_other (by omega)).trans hk)⟩
end Go.Proofs.Ytojmkgllbhbeiaa
