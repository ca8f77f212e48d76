/-
  Arrays of 256 integers, as blocks and as values; Words, Of, Range and Both of the reference.
  Both, Size, Next, Compare of the reference; is; SameBytes.
  is, SameBytes and Compare of the reference side.
  The spans of a set, in plain Lean: they neither touch nor overlap, they cover the set, they count its bytes.
  Bytes and Spans of the reference.
-/
import Derived.Test.YtojmkgllbhbeiaaK2
import Derived.Deep.WholeRow
import Derived.Laws.Rows
import Derived.Laws.CopyOwn
import Derived.Deep.QuietTactic
import Derived.Test.YtojmkgllbhbeiaaK3
namespace Go.Proofs.Ytojmkgllbhbeiaa
open Go.RowKit

def A256 (f : Nat → Int) : Array Value := Array.ofFn (n := 256) fun c => .int .i64 (f c)
theorem A256_size (f : Nat → Int) : (A256 f).size = 256 := by simp [A256]
theorem A256_get (f : Nat → Int) {c : Nat} (h : c < 256) : (A256 f)[c]? = some (.int .i64 (f c)) := by simp [A256, h]
theorem A256_congr {f g : Nat → Int} (h : ∀ c, c < 256 → f c = g c) : A256 f = A256 g := by
  unfold A256; congr 1; funext c; rw [h c c.2]
theorem A256_inj {f g : Nat → Int} (h : A256 f = A256 g) {c : Nat} (hc : c < 256) : f c = g c := by
  have := (A256_get f hc).symm.trans ((congrArg (·[c]?) h).trans (A256_get g hc))
  simpa using this
theorem A256_set (f : Nat → Int) {c : Nat} (_ : c < 256) (v : Int) : (A256 f).setIfInBounds c (.int .i64 v) = A256 fun d => if d = c then v else f d := by
  refine Array.ext (by simp [A256]) fun i h1 h2 => ?_
  have hi : i < (A256 f).size := by rw [Array.size_setIfInBounds] at h1; exact h1
  rw [Array.getElem_setIfInBounds hi]
  by_cases e : c = i
  · subst e; simp [A256]
  · rw [if_neg e]; simp [A256, Ne.symm e]
theorem A256_one (f : Nat → Int) : (A256 f).all (·.oneCell') = true := by
  rw [Array.all_eq_true]; intro i hi; simp [A256, Value.oneCell']

/-- What is made of an array after k rounds. -/
def part (f : Nat → Int) (k : Nat) : Array Value := A256 fun d => if d < k then f d else 0
theorem part_zero (f : Nat → Int) : part f 0 = A256 fun _ => 0 := A256_congr fun c _ => by simp
theorem part_set (f : Nat → Int) {k : Nat} (h : k < 256) : (part f k).setIfInBounds k (.int .i64 (f k)) = part f (k + 1) := by
  rw [part, A256_set _ h]
  refine A256_congr fun c _ => ?_
  by_cases e : c = k
  · subst e; simp
  · by_cases h1 : c < k
    · have : c < k + 1 := by omega
      simp [e, h1, this]
    · have : ¬ c < k + 1 := by omega
      simp [e, h1, this]
theorem part_skip (f : Nat → Int) {k : Nat} (h : f k = 0) : part f (k + 1) = part f k := by
  refine A256_congr fun c _ => ?_
  by_cases e : c = k
  · subst e; simp [h]
  · by_cases h1 : c < k
    · have : c < k + 1 := by omega
      simp [h1, this]
    · have : ¬ c < k + 1 := by omega
      simp [h1, this]
theorem part_full (f : Nat → Int) : part f 256 = A256 f := A256_congr fun c h => by simp [h]
theorem part_get (f : Nat → Int) (k : Nat) {c : Nat} (h : c < 256) : (part f k)[c]? = some (.int .i64 (if c < k then f c else 0)) := A256_get _ h

def bitI (s c : Nat) : Int := if s.testBit c then 1 else 0
def refV (s : Nat) : Value := .agg (A256 (bitI s))
theorem refA_get (s : Nat) {c : Nat} (h : c < 256) : (A256 (bitI s))[c]? = some (.int .i64 (bitI s c)) := A256_get _ h
theorem bitI_cases (s c : Nat) : (bitI s c = 1 ∧ s.testBit c = true) ∨ (bitI s c = 0 ∧ s.testBit c = false) := by
  unfold bitI; cases s.testBit c <;> simp

theorem zero94 : ∀ w, (zeroValue 94).run Try.prog w = .ok (.agg (A256 fun _ => 0)) w := fun w => by kernel_rfl
theorem under94 : Try.prog.underlying 94 = some (.array 256 3) := by kernel_rfl
theorem size94 : (Try.prog.info? 94).map (·.size) = some 256 := by kernel_rfl

section
variable {P : Program} {ops : Array Oper} {rest : List Oper} {o : Oper} {a : Act} {w : World} {Q : Exit → Act → World → Prop}
/-- A whole array read. -/
theorem wp_load94 (hgd : o.guard = none) (x : Operand) (ho : o.op = .load 94 x) (g : Nat) (hx : a.eval x = .pointer (some ⟨g, 0, none⟩)) (f : Nat → Int) (hb : Blk w g (A256 f) 94)
    (h : wpList Try.prog ops Q rest (a.put o.dst (.agg (A256 f))) w) : wpList Try.prog ops Q (o :: rest) a w :=
  wpList_load_row hgd 94 x ho g hx 94 (A256 f) (0, 0) _ hb under94 rfl (by rw [size94, A256_size]) h
/-- A whole array stored. -/
theorem wp_store94 (hgd : o.guard = none) (x y : Operand) (ho : o.op = .store 94 x y) (g : Nat) (hx : a.eval x = .pointer (some ⟨g, 0, none⟩)) (f f0 : Nat → Int) (hy : a.eval y = .agg (A256 f)) (hb : Blk w g (A256 f0) 94)
    (h : wpList Try.prog ops Q rest (a.put o.dst undef) (w.setRow g (A256 f))) : wpList Try.prog ops Q (o :: rest) a w :=
  wpList_store_row hgd 94 x y ho g (A256 f) hx hy 94 (A256 f0) hb (by rw [size94, A256_size]) (by rw [A256_size, A256_size]) (A256_one f) h
end
theorem Blk.setRow {w : World} {b : Nat} {cs : Array Value} {t : TypeId} (h : Blk w b cs t) (cs' : Array Value) : Blk (w.setRow b cs') b cs' t := setRow_heap w b cs cs' t _ h
theorem Blk.otherRow {w : World} {b g : Nat} {cs : Array Value} {t : TypeId} (h : Blk w b cs t) (hne : b ≠ g) (cs' : Array Value) : Blk (w.setRow g cs') b cs t := (setRow_other w g b cs' hne).trans h
theorem Gr.setRow {B g : Nat} {a w : World} (h : Gr B a w) (hB : B ≤ g) (cs : Array Value) : Gr B a (w.setRow g cs) := ⟨below_setRow h.below hB cs, h.drawn⟩
/-- A result that is an array. -/
theorem res94 {fn : Func} {p : Tmp} (h : fn.results = #[.cell p 94]) (tmps : Array Value) (w : World) (g : Nat) (f : Nat → Int) (hp : tmps.getD p undef = .pointer (some ⟨g, 0, none⟩)) (hg : Blk w g (A256 f) 94) :
    (results fn tmps).run Try.prog w = .ok (.agg (A256 f)) w :=
  results_cell_row h tmps w g 94 (A256 f) (0, 0) _ hp hg under94 rfl (by rw [size94, A256_size])

set_option maxRecDepth 100000 in
set_option maxHeartbeats 2000000 in
theorem words_any (s : Nat) (w : World) : Calls Try.prog 77 #[setV s] w fun e w' => e = .returned (refV s) ∧ Gr w.heap.size w w' := by
  have hz := zero94
  unfold setV
  go_enter Try.func77, Try.ntmps77
  go_wp2
  go_loopw [4] (fun i wr => ∃ k : Nat, k ≤ 256 ∧ i = .int .i64 k ∧ Blk wr w.heap.size (setA s) 23 ∧ Blk wr (w.heap.size + 1) (A256 fun _ => 0) 94 ∧ Blk wr (w.heap.size + 1 + 1) (part (bitI s) k) 94 ∧ Gr w.heap.size w wr) (fun i _ => 256 - (intOf i).toNat)
  case atStart =>
    refine ⟨0, by omega, rfl, ?_, ?_, ?_, gr3 w _ _ _⟩
    · exact ((blkOf1 w _ _).alloc _).alloc _
    · exact (blkOf2 w _ _ _).alloc _
    · rw [part_zero]; exact blkOf3 w _ _ _ _
  case round =>
    obtain ⟨k, hk, rfl, h0, h1, h2, hB⟩ := hrel
    by_cases hlt : k < 256
    · have c0 := (h0.cell (k / 64)).trans (setA_get s (by omega))
      have hw := Lib.hid (Sx.tb_word s k)
      have hlt64 := Sx.wd_lt s (k / 64)
      generalize Sx.wd s (k / 64) = y at c0 hw hlt64
      go_wp2
      go_loop [5, 6] (fun x i => ∃ j : Nat, j ≤ k % 64 ∧ i = .int .i64 j ∧ x = .int .u64 (y / 2 ^ j : Nat)) (fun _ i => k % 64 - (intOf i).toNat)
      case atStart => exact ⟨0, by omega, rfl, by simp⟩
      case round =>
        obtain ⟨j, hj, rfl, rfl⟩ := hrel
        by_cases hlj : j < k % 64
        · have hx := Lib.hid (show y / 2 ^ (j + 1) = y / 2 ^ j / 2 by rw [Nat.pow_succ, Nat.div_div_eq_div_mul])
          have hyj : y / 2 ^ j ≤ y := Nat.div_le_self _ _
          generalize y / 2 ^ j = z at hx hyj
          go_wp2
          go_round
          case rel => exact ⟨j + 1, by omega, by go_num, by rw [hx.out]; go_num⟩
          case measure => simp [intOf]; omega
        · obtain rfl : j = k % 64 := by omega
          have hyj : y / 2 ^ (k % 64) ≤ y := Nat.div_le_self _ _
          have hw' : Hid (bitI s k = (((y / 2 ^ (k % 64) : Nat) : Int) % 2)) := by
            show bitI s k = _
            unfold bitI; rw [hw.out]
            generalize y / 2 ^ (k % 64) = z
            rcases Nat.mod_two_eq_zero_or_one z with h | h <;> rw [h] <;> simp <;> omega
          clear hw
          generalize y / 2 ^ (k % 64) = z at hw' hyj
          have c2 := (h2.cell k).trans (part_get (bitI s) k hlt)
          have f2 := h2.frozen k
          have hs := Lib.hid (part_set (bitI s) hlt)
          have h2' := Lib.hid h2
          clear h2
          go_wp2
          go_roundw
          case rel =>
            rw [← hw'.out]
            exact ⟨k + 1, by omega, by go_num, h0.other (by show _ ≠ w.heap.size + 1 + 1; omega) _, h1.other (by show _ ≠ w.heap.size + 1 + 1; omega) _, by rw [← hs.out]; exact h2'.out.set k _, hB.setCell (by show _ ≤ w.heap.size + 1 + 1; omega) _⟩
          case measure => simp [intOf]; omega
    · obtain rfl : k = 256 := by omega
      rw [part_full] at h2
      go_wp2_with (first | with_reducible refine wp_load94 rfl _ rfl (w.heap.size + 1 + 1) rfl (bitI s) h2 ?_ | with_reducible refine wp_store94 rfl _ _ rfl (w.heap.size + 1) rfl (bitI s) _ rfl h1 ?_)
      exact bodyPost_ret (v := refV s) (res94 rfl _ _ (w.heap.size + 1) _ rfl (h1.setRow _)) rfl ⟨rfl, hB.setRow (by omega) _⟩

theorem bitI_snoc (l : List Nat) (c d : Nat) : bitI (Sx.ofL (l ++ [c])) d = if d = c then 1 else bitI (Sx.ofL l) d := by
  unfold bitI
  rw [Sx.ofL_snoc, Sx.tb_or, Sx.tb_one]
  by_cases h : d = c
  · subst h; simp
  · have : ¬ c = d := fun e => h e.symm
    simp [h, this]
theorem bitI_zero : bitI 0 = fun _ => 0 := by funext c; simp [bitI]

set_option maxRecDepth 100000 in
set_option maxHeartbeats 2000000 in
theorem refOf_some (b o cap : Nat) (l : List Nat) (hl : ∀ c ∈ l, c < 256) (w : World) (hb : b < w.heap.size) (hc : ∀ i, i < l.length → w.cell? ⟨b, o + i, none⟩ = (l.map byteV)[i]?) (hlen : l.length ≤ maxLen) :
    Calls Try.prog 72 #[.slice (some ⟨b, o, none⟩) l.length cap] w fun e w' => e = .returned (refV (Sx.ofL l)) ∧ Gr w.heap.size w w' := by
  unfold maxLen at hlen
  have hz := zero94
  go_enter Try.func72, Try.ntmps72
  go_wp2
  go_loopw [4] (fun i wr => ∃ k : Nat, k ≤ l.length ∧ i = .int .i64 k ∧ Blk wr w.heap.size (A256 fun _ => 0) 94 ∧ Blk wr (w.heap.size + 1) (A256 (bitI (Sx.ofL (l.take k)))) 94 ∧ Gr w.heap.size w wr) (fun i _ => l.length - (intOf i).toNat)
  case atStart =>
    refine ⟨0, by omega, rfl, (blkOf1 w _ _).alloc _, ?_, gr2 w _ _⟩
    rw [List.take_zero, Sx.ofL, bitI_zero]; exact blkOf2 w _ _ _
  case round =>
    obtain ⟨k, hk, rfl, h1, h2, hB⟩ := hrel
    by_cases hlt : k < l.length
    · have cb : wr.cell? ⟨b, o + k, none⟩ = some (.int .u8 (l[k] : Nat)) := by
        rw [hB.cell (p := ⟨b, o + k, none⟩) hb, hc k hlt, List.getElem?_map, List.getElem?_eq_getElem hlt]; rfl
      have hlk : l[k] < 256 := hl _ (List.getElem_mem hlt)
      have hset : Blk (wr.setCell ⟨w.heap.size + 1, l[k], none⟩ (.int .i64 1)) (w.heap.size + 1) (A256 (bitI (Sx.ofL (l.take (k + 1))))) 94 := by
        have := h2.set l[k] (.int .i64 1)
        rw [A256_set _ hlk] at this
        rw [List.take_succ_eq_append_getElem hlt, A256_congr (fun d _ => bitI_snoc (l.take k) l[k] d)]
        exact this
      have c2 := (h2.cell l[k]).trans (A256_get _ hlk)
      have f2 := h2.frozen l[k]
      generalize l[k] = c at cb hlk hset c2 f2
      have hset := Lib.hid hset
      clear h2
      go_wp2
      go_roundw
      case rel => exact ⟨k + 1, by omega, by go_num, h1.other (by show _ ≠ w.heap.size + 1; omega) _, hset.out, hB.setCell (by show _ ≤ w.heap.size + 1; omega) _⟩
      case measure => simp [intOf]; omega
    · obtain rfl : k = l.length := by omega
      rw [List.take_length] at h2
      go_wp2_with (first | with_reducible refine wp_load94 rfl _ rfl (w.heap.size + 1) rfl _ h2 ?_ | with_reducible refine wp_store94 rfl _ _ rfl w.heap.size rfl _ _ rfl h1 ?_)
      exact bodyPost_ret (v := refV (Sx.ofL l)) (res94 rfl _ _ w.heap.size _ rfl (h1.setRow _)) rfl ⟨rfl, hB.setRow (by omega) _⟩

theorem refOf_none (w : World) : Calls Try.prog 72 #[.slice none 0 0] w fun e w' => e = .returned (refV 0) ∧ Gr w.heap.size w w' := by
  have hz := zero94
  go_enter Try.func72, Try.ntmps72
  go_wp2
  go_loopw [4] (fun i wr => i = .int .i64 0 ∧ Blk wr w.heap.size (A256 fun _ => 0) 94 ∧ Blk wr (w.heap.size + 1) (A256 (bitI 0)) 94 ∧ Gr w.heap.size w wr) (fun i _ => 0)
  case atStart =>
    refine ⟨rfl, (blkOf1 w _ _).alloc _, ?_, gr2 w _ _⟩
    rw [bitI_zero]; exact blkOf2 w _ _ _
  case round =>
    obtain ⟨rfl, h1, h2, hB⟩ := hrel
    go_wp2_with (first | with_reducible refine wp_load94 rfl _ rfl (w.heap.size + 1) rfl _ h2 ?_ | with_reducible refine wp_store94 rfl _ _ rfl w.heap.size rfl _ _ rfl h1 ?_)
    exact bodyPost_ret (v := refV 0) (res94 rfl _ _ w.heap.size _ rfl (h1.setRow _)) rfl ⟨rfl, hB.setRow (by omega) _⟩

theorem refOf_any (v : Value) (l : List Nat) (hl : ∀ c ∈ l, c < 256) (w : World) (h : Sl w v 1 l.length (l.map byteV)) (hlen : l.length ≤ maxLen) :
    Calls Try.prog 72 #[v] w fun e w' => e = .returned (refV (Sx.ofL l)) ∧ Gr w.heap.size w w' := by
  obtain ⟨_, ⟨rfl, h0⟩ | ⟨b, o, cap, rfl, hb, hc⟩⟩ := h
  · obtain rfl := List.eq_nil_of_length_eq_zero h0
    exact refOf_none w
  · exact refOf_some b o cap l hl w hb (by simpa using hc) hlen

set_option maxRecDepth 100000 in
set_option maxHeartbeats 2000000 in
theorem refRange_any (lo hi : Nat) (hlo : lo < 256) (hhi : hi < 256) (w : World) : Calls Try.prog 71 #[.int .u8 lo, .int .u8 hi] w fun e w' => e = .returned (refV (Sx.range lo hi)) ∧ Gr w.heap.size w w' := by
  have hz := zero94
  go_enter Try.func71, Try.ntmps71
  go_wp2
  go_loopw [6] (fun i wr => ∃ k : Nat, k ≤ 256 ∧ i = .int .i64 k ∧ Blk wr w.heap.size (A256 fun _ => 0) 94 ∧ Blk wr (w.heap.size + 1) (part (bitI (Sx.range lo hi)) k) 94 ∧ Gr w.heap.size w wr) (fun i _ => 256 - (intOf i).toNat)
  case atStart =>
    refine ⟨0, by omega, rfl, (blkOf1 w _ _).alloc _, ?_, gr2 w _ _⟩
    rw [part_zero]; exact blkOf2 w _ _ _
  case round =>
    obtain ⟨k, hk, rfl, h1, h2, hB⟩ := hrel
    by_cases hlt : k < 256
    · have hbit : bitI (Sx.range lo hi) k = if lo ≤ k ∧ k ≤ hi then 1 else 0 := by unfold bitI; rw [Sx.tb_range]; simp
      by_cases hin : lo ≤ k ∧ k ≤ hi
      · rw [if_pos hin] at hbit
        have hset : Blk (wr.setCell ⟨w.heap.size + 1, k, none⟩ (.int .i64 1)) (w.heap.size + 1) (part (bitI (Sx.range lo hi)) (k + 1)) 94 := by
          rw [← part_set _ hlt, hbit]; exact h2.set k _
        have c2 := (h2.cell k).trans (part_get (bitI (Sx.range lo hi)) k hlt)
        have f2 := h2.frozen k
        have hset := Lib.hid hset
        obtain ⟨g1, g2⟩ := hin
        have e1 : decide (lo ≤ k) = true := decide_eq_true g1
        have e2 : decide (k ≤ hi) = true := decide_eq_true g2
        clear hbit h2
        go_wp2
        go_roundw
        case rel => exact ⟨k + 1, by omega, by go_num, h1.other (by show _ ≠ w.heap.size + 1; omega) _, hset.out, hB.setCell (by show _ ≤ w.heap.size + 1; omega) _⟩
        case measure => simp [intOf]; omega
      · rw [if_neg hin] at hbit
        rw [← part_skip _ hbit] at h2
        have h2 := Lib.hid h2
        clear hbit
        by_cases g1 : lo ≤ k
        · have g2 : hi < k := by omega
          clear hin
          go_wp2
          go_roundw
          case rel => exact ⟨k + 1, by omega, by go_num, h1, h2.out, hB⟩
          case measure => simp [intOf]; omega
        · have g2 : k < lo := by omega
          clear hin
          go_wp2
          go_roundw
          case rel => exact ⟨k + 1, by omega, by go_num, h1, h2.out, hB⟩
          case measure => simp [intOf]; omega
    · obtain rfl : k = 256 := by omega
      rw [part_full] at h2
      go_wp2_with (first | with_reducible refine wp_load94 rfl _ rfl (w.heap.size + 1) rfl _ h2 ?_ | with_reducible refine wp_store94 rfl _ _ rfl w.heap.size rfl _ _ rfl h1 ?_)
      exact bodyPost_ret (v := refV (Sx.range lo hi)) (res94 rfl _ _ w.heap.size _ rfl (h1.setRow _)) rfl ⟨rfl, hB.setRow (by omega) _⟩
end Go.Proofs.Ytojmkgllbhbeiaa
namespace Go.Proofs.Ytojmkgllbhbeiaa
open Go.RowKit

/-- 0 Or, 1 And, 2 Less. -/
def bothF (how : Nat) (s t : Nat) : Nat := if how = 0 then Sx.or s t else if how = 1 then Sx.and s t else Sx.less s t
theorem bothF_bit (how s t c : Nat) : (bothF how s t).testBit c = if how = 0 then (s.testBit c || t.testBit c) else if how = 1 then (s.testBit c && t.testBit c) else (s.testBit c && !t.testBit c) := by
  unfold bothF
  by_cases h0 : how = 0
  · rw [if_pos h0, if_pos h0, Sx.tb_or]
  · rw [if_neg h0, if_neg h0]
    by_cases h1 : how = 1
    · rw [if_pos h1, if_pos h1, Sx.tb_and]
    · rw [if_neg h1, if_neg h1, Sx.tb_less]

theorem Gr.drewN {B : Nat} {a w : World} (h : Gr B a w) (n : Nat) : Gr B a (w.drewN n) :=
  ⟨⟨h.below.os, h.below.tape, h.below.output, h.below.size, h.below.block⟩, Nat.le_trans h.drawn (Nat.le_add_right _ _)⟩

set_option maxRecDepth 100000 in
set_option maxHeartbeats 4000000 in
theorem both_any (how : Nat) (hh : how ≤ 2) (hI : Int) (he : hI = how) (s t : Nat) (w : World) : Calls Try.prog 80 #[refV s, refV t, .int .i64 hI] w fun e w' => e = .returned (refV (bothF how s t)) ∧ Gr w.heap.size w w' := by
  have hbits : ∀ c, Hid (bitI (bothF how s t) c = if how = 0 then (if s.testBit c || t.testBit c then 1 else 0) else if how = 1 then (if s.testBit c && t.testBit c then 1 else 0) else (if s.testBit c && !t.testBit c then 1 else 0)) := fun c => by
    show _ = _
    unfold bitI; rw [bothF_bit]
    by_cases h0 : how = 0
    · simp [h0]
    · by_cases h1 : how = 1
      · simp [h1]
      · simp [h0, h1]
  generalize bothF how s t = r at hbits ⊢
  have hz := zero94
  have he' := Lib.hid he
  clear he
  have he := he'
  clear he'
  unfold refV
  go_enter Try.func80, Try.ntmps80
  go_wp2
  go_loopw [8] (fun i wr => ∃ k : Nat, k ≤ 256 ∧ i = .int .i64 k ∧ Blk wr w.heap.size (A256 (bitI s)) 94 ∧ Blk wr (w.heap.size + 1) (A256 (bitI t)) 94 ∧ Blk wr (w.heap.size + 1 + 1) (A256 fun _ => 0) 94 ∧ Blk wr (w.heap.size + 1 + 1 + 1) (part (bitI r) k) 94 ∧ Gr w.heap.size w wr) (fun i _ => 256 - (intOf i).toNat)
  case atStart =>
    refine ⟨0, by omega, rfl, ?_, ?_, ?_, ?_, gr4 w _ _ _ _⟩
    · exact (((blkOf1 w _ _).alloc _).alloc _).alloc _
    · exact ((blkOf2 w _ _ _).alloc _).alloc _
    · exact (blkOf3 w _ _ _ _).alloc _
    · rw [part_zero]; exact blkOf4 w _ _ _ _ _
  case round =>
    obtain ⟨k, hk, rfl, h0, h1, h2, h3, hB⟩ := hrel
    by_cases hlt : k < 256
    · have hr := hbits k
      clear hbits
      have c0 := (h0.cell k).trans (refA_get s hlt)
      have c1 := (h1.cell k).trans (refA_get t hlt)
      have c3 := (h3.cell k).trans (part_get (bitI r) k hlt)
      have f3 := h3.frozen k
      have hyes : bitI r k = 1 → Hid (Blk (wr.setCell ⟨w.heap.size + 1 + 1 + 1, k, none⟩ (.int .i64 1)) (w.heap.size + 1 + 1 + 1) (part (bitI r) (k + 1)) 94) := fun h => by
        show Blk _ _ _ _
        rw [← part_set _ hlt, h]; exact h3.set k _
      have hno : bitI r k = 0 → Hid (Blk wr (w.heap.size + 1 + 1 + 1) (part (bitI r) (k + 1)) 94) := fun h => by
        show Blk _ _ _ _
        rw [part_skip _ h]; exact h3
      have o0 := fun v => Lib.hid (h0.other (p := ⟨w.heap.size + 1 + 1 + 1, k, none⟩) (by show _ ≠ w.heap.size + 1 + 1 + 1; omega) v)
      have o1 := fun v => Lib.hid (h1.other (p := ⟨w.heap.size + 1 + 1 + 1, k, none⟩) (by show _ ≠ w.heap.size + 1 + 1 + 1; omega) v)
      have o2 := fun v => Lib.hid (h2.other (p := ⟨w.heap.size + 1 + 1 + 1, k, none⟩) (by show _ ≠ w.heap.size + 1 + 1 + 1; omega) v)
      clear h3
      rcases bitI_cases s k with ⟨es, bs⟩ | ⟨es, bs⟩ <;> rcases bitI_cases t k with ⟨et, bt⟩ | ⟨et, bt⟩ <;> rw [es] at c0 <;> rw [et] at c1 <;> rw [bs, bt] at hr <;> clear es bs et bt <;>
        obtain ⟨rfl, rfl⟩ | ⟨rfl, rfl⟩ | ⟨rfl, rfl⟩ : (how = 0 ∧ hI = 0) ∨ (how = 1 ∧ hI = 1) ∨ (how = 2 ∧ hI = 2) := by have := he.out; omega
      all_goals
        have hr := hr.out
        simp at hr
        first | replace hyes := hyes hr | replace hno := hno hr
        clear hr
        go_wp2
        go_quiet (fail)
        go_wp2
        try (go_quiet (fail); go_wp2)
        go_roundw
        case rel => first | exact ⟨k + 1, by omega, by go_num, (o0 _).out, (o1 _).out, (o2 _).out, hyes.out, (hB.setCell (by show _ ≤ w.heap.size + 1 + 1 + 1; omega) _).drewN _⟩ | exact ⟨k + 1, by omega, by go_num, h0, h1, h2, hno.out, hB.drewN _⟩
        case measure => simp [intOf]; omega
    · obtain rfl : k = 256 := by omega
      rw [part_full] at h3
      clear hbits
      go_wp2_with (first | with_reducible refine wp_load94 rfl _ rfl (w.heap.size + 1 + 1 + 1) rfl _ h3 ?_ | with_reducible refine wp_store94 rfl _ _ rfl (w.heap.size + 1 + 1) rfl _ _ rfl h2 ?_)
      exact bodyPost_ret (v := refV r) (res94 rfl _ _ (w.heap.size + 1 + 1) _ rfl (h2.setRow _)) rfl ⟨rfl, hB.setRow (by omega) _⟩

theorem upto_succ_len (s k : Nat) : ((upto s (k + 1)).length : Int) = (upto s k).length + bitI s k := by
  rcases bitI_cases s k with ⟨e, b⟩ | ⟨e, b⟩
  · rw [e, upto_yes b]; simp
  · rw [e, upto_no b]; simp

set_option maxRecDepth 100000 in
set_option maxHeartbeats 2000000 in
theorem refSize_any (s : Nat) (w : World) : Calls Try.prog 79 #[refV s] w fun e w' => e = .returned (.int .i64 (elems s).length) ∧ Gr w.heap.size w w' := by
  unfold refV
  go_enter Try.func79, Try.ntmps79
  go_wp2
  go_loop [3, 4] (fun n i => ∃ k : Nat, k ≤ 256 ∧ i = .int .i64 k ∧ n = .int .i64 (upto s k).length) (fun _ i => 256 - (intOf i).toNat)
  case atStart => exact ⟨0, by omega, rfl, by simp [upto]⟩
  case round =>
    obtain ⟨k, hk, rfl, rfl⟩ := hrel
    by_cases hlt : k < 256
    · have c0 := ((blkOf1 w (A256 (bitI s)) 94).cell k).trans (refA_get s hlt)
      have hs := Lib.hid (upto_succ_len s k)
      have hle := upto_len s k
      have hb : 0 ≤ bitI s k ∧ bitI s k ≤ 1 := by rcases bitI_cases s k with ⟨e, _⟩ | ⟨e, _⟩ <;> omega
      generalize bitI s k = x at c0 hs hb
      generalize (upto s k).length = n at hs hle
      go_wp2
      go_round
      case rel => exact ⟨k + 1, by omega, by go_num, by rw [hs.out]⟩
      case measure => simp [intOf]; omega
    · obtain rfl : k = 256 := by omega
      go_wp2
      go_ret
      exact ⟨rfl, gr1 w _⟩

/-- The least byte from one on. -/
def nextI (s k : Nat) : Int := match (elems s).find? (fun d => decide (k ≤ d)) with | some d => (d : Int) | none => -1
theorem upto_from (s k : Nat) (h : ∀ d, k ≤ d → d < 256 → s.testBit d = false) : nextI s k = -1 := by
  unfold nextI
  rw [List.find?_eq_none.2]
  intro d hd
  obtain ⟨h1, h2⟩ := mem_elems.1 hd
  simp only [decide_eq_true_eq]
  intro hkd
  have := h d hkd h1
  rw [h2] at this; cases this
theorem nextI_yes {s k d : Nat} (hkd : k ≤ d) (hd : d < 256) (hb : s.testBit d = true) (h : ∀ e, k ≤ e → e < d → s.testBit e = false) : nextI s k = d := by
  unfold nextI
  have hm : d ∈ elems s := mem_elems.2 ⟨hd, hb⟩
  cases hf : (elems s).find? (fun d => decide (k ≤ d)) with
  | none =>
    rw [List.find?_eq_none] at hf
    have := hf d hm
    simp at this; omega
  | some e =>
    have h1 := List.find?_some hf
    have h2 := List.mem_of_find?_eq_some hf
    obtain ⟨h3, h4⟩ := mem_elems.1 h2
    have h1 : k ≤ e := by simpa using h1
    dsimp only
    have hpw := (List.pairwise_lt_range (n := 256)).filter s.testBit
    have hde : e ≤ d := by
      rcases Nat.lt_or_ge d e with hlt | hge
      · exfalso
        obtain ⟨pre, post, hsp, hno⟩ := List.find?_eq_some_iff_append.1 hf |>.2
        have hdm : d ∈ pre ++ e :: post := by rw [← hsp]; exact hm
        rcases List.mem_append.1 hdm with h5 | h5
        · have := hno d h5
          simp at this; omega
        · rcases List.mem_cons.1 h5 with rfl | h5
          · omega
          · have hp : (pre ++ e :: post).Pairwise (· < ·) := by rw [← hsp]; exact hpw
            have := (List.pairwise_append.1 hp).2.1
            have := (List.pairwise_cons.1 this).1 d h5
            omega
      · exact hge
    by_cases he : e = d
    · rw [he]
    · have := h e h1 (by omega)
      rw [h4] at this; cases this

set_option maxRecDepth 100000 in
set_option maxHeartbeats 2000000 in
theorem refNext_any (s k0 : Nat) (hk0 : k0 ≤ 256) (w : World) : Calls Try.prog 84 #[refV s, .int .i64 k0] w fun e w' => e = .returned (.int .i64 (nextI s k0)) ∧ Gr w.heap.size w w' := by
  unfold refV
  go_enter Try.func84, Try.ntmps84
  go_wp2
  go_loop [5] (fun i => ∃ k : Nat, k ≤ 256 ∧ i = .int .i64 k ∧ k0 ≤ k ∧ Hid (∀ d, k0 ≤ d → d < k → s.testBit d = false)) (fun i => 256 - (intOf i).toNat)
  case atStart => exact ⟨k0, hk0, rfl, Nat.le_refl _, fun d h1 h2 => by omega⟩
  case round =>
    obtain ⟨k, hk, rfl, hkk, hno⟩ := hrel
    by_cases hlt : k < 256
    · have c0 := ((blkOf1 w (A256 (bitI s)) 94).cell k).trans (refA_get s hlt)
      rcases bitI_cases s k with ⟨e, b⟩ | ⟨e, b⟩ <;> rw [e] at c0 <;> clear e
      · have hn := Lib.hid (nextI_yes hkk hlt b hno.out)
        clear b
        go_wp2
        go_ret
        rw [hn.out]
        exact ⟨rfl, gr1 w _⟩
      · have hno' : Hid (∀ d, k0 ≤ d → d < k + 1 → s.testBit d = false) := by
          show ∀ d, _ → _ → _
          intro d h1 h2
          by_cases e : d = k
          · rw [e]; exact b
          · exact hno.out d h1 (by omega)
        clear b
        go_wp2
        go_round
        case rel => exact ⟨k + 1, by omega, by go_num, by omega, hno'⟩
        case measure => simp [intOf]; omega
    · obtain rfl : k = 256 := by omega
      have hn := Lib.hid (upto_from s k0 hno.out)
      go_wp2
      go_ret
      rw [hn.out]
      exact ⟨rfl, gr1 w _⟩
end Go.Proofs.Ytojmkgllbhbeiaa
namespace Go.Proofs.Ytojmkgllbhbeiaa
open Go.RowKit

theorem eval_tmp {a : Act} {t : Tmp} {v : Value} (h : a.tmps[t]? = some v) : a.eval (.tmp t) = v := by simp [Act.eval, h]
theorem eval_far {a : Act} {t : Tmp} {v : Value} (h : a.tmps.getD t undef = v) : a.eval (.tmp t) = v := h
theorem guard94 (op : BinOp) (a b : Operand) (xs ys : Array Value) (w : World) : (eqGuard op 94 a b (.agg xs) (.agg ys)).run Try.prog w = .ok () w := run_eqGuard_agg w op 94 a b xs ys (by kernel_rfl)
theorem bits_eq {s t : Nat} (hs : s < 2 ^ 256) (ht : t < 2 ^ 256) : decide (s = t) = true ↔ ∀ i, i < 256 → bitI s i = bitI t i := by
  rw [decide_eq_true_eq]
  refine ⟨fun h i _ => by rw [h], fun h => Sx.ext hs ht fun c hc => ?_⟩
  have := h c hc
  unfold bitI at this
  cases hs : s.testBit c <;> cases ht : t.testBit c <;> simp [hs, ht] at this ⊢
theorem eqlRef {s t : Nat} (hs : s < 2 ^ 256) (ht : t < 2 ^ 256) (w : World) : (binOp .eql 94 (.agg (A256 (bitI s))) (.agg (A256 (bitI t)))).run Try.prog w = .ok (.bool (decide (s = t))) w :=
  run_eql_arr w 94 3 256 .i64 .i64 under94 Try.underlying3 Try.isAgg3 Try.sizeOf3 _ _ (bitI s) (bitI t) (fun _ hi => refA_get s hi) (fun _ hi => refA_get t hi) _ (bits_eq hs ht)

set_option maxRecDepth 100000 in
set_option maxHeartbeats 1000000 in
theorem is_any (s t : Nat) (hs : s < 2 ^ 256) (ht : t < 2 ^ 256) (w : World) : Calls Try.prog 78 #[setV s, refV t] w fun e w' => e = .returned (.bool (decide (s = t))) ∧ Below w.heap.size w w' := by
  have HE := fun w => eqlRef hs ht w
  generalize decide (s = t) = b at HE ⊢
  have HE := Lib.hid HE
  unfold setV refV
  go_enter Try.func78, Try.ntmps78
  go_wp2
  obtain ⟨W, hW, b0, b1, hB⟩ : ∃ W, W = (w.alloc (.cells (setA s) 24)).alloc (.cells (A256 (bitI t)) 94) ∧ Blk W w.heap.size #[.int .u64 (Sx.wd s 0), .int .u64 (Sx.wd s 1), .int .u64 (Sx.wd s 2), .int .u64 (Sx.wd s 3)] 24 ∧ Blk W (w.heap.size + 1) (A256 (bitI t)) 94 ∧ Below w.heap.size w W :=
    ⟨_, rfl, (blkOf1 w _ _).alloc _, blkOf2 w _ _ _, below2 w _ _⟩
  rw [← hW]
  clear hW
  refine wp_region_facts 9 [.eq (setV s), .eq (.agg (A256 (bitI s))), .eq (.agg (A256 (bitI t))), .eq (.bool b), .eq (.bool b)] mixed rfl (by kernel_rfl) ?_ ?_
  · refine ⟨?_, ?_, ?_, ?_, ?_, trivial⟩
    · intro vs a w hR H hin hout hget
      refine one_free rfl ?_
      have e0 := hout 2 (by kernel_rfl)
      obtain ⟨c0, c1, c2, c3, _⟩ := (b0.laterB hR).four
      clear H hin hout hget
      dsimp only [bare]
      go_wp2
      exact ⟨_, rfl, shows0 hR rfl⟩
    · intro vs a w hR H hin hout hget
      refine one_free rfl ?_
      have e0 := (hget 0 5 (by kernel_rfl)).trans (congrArg some (H 0 (by decide)))
      clear H hin hout hget
      dsimp only [bare]
      go_wp2_with fail
      refine (words_any s w).mono ?_
      rintro e w1 ⟨rfl, hb⟩
      go_wp2
      exact ⟨_, rfl, shows hR hb.below rfl⟩
    · intro vs a w hR H hin hout hget
      refine one_free rfl ?_
      have e0 := hout 3 (by kernel_rfl)
      clear H hin hout hget
      dsimp only [bare]
      refine wp_load94 rfl _ rfl _ (eval_far e0) _ (b1.laterB hR) ?_
      exact ⟨_, rfl, shows0 hR rfl⟩
    · intro vs a w hR H hin hout hget
      refine one_free rfl ?_
      have e0 := (hget 1 6 (by kernel_rfl)).trans (congrArg some (H 1 (by decide)))
      have e1 := (hget 2 7 (by kernel_rfl)).trans (congrArg some (H 2 (by decide)))
      clear H hin hout hget
      have HE := HE.out
      have HG := guard94
      dsimp only [bare]
      go_wp2
      exact ⟨_, rfl, shows0 hR rfl⟩
    · intro vs a w hR H hin hout hget
      refine one_free rfl ?_
      have e0 := (hget 3 8 (by kernel_rfl)).trans (congrArg some (H 3 (by decide)))
      clear H hin hout hget
      dsimp only [bare]
      go_wp2
      exact ⟨_, rfl, shows0 hR rfl⟩
  · intro vs w2 hR H
    have e4 : vs 4 = .bool b := H 4 (by decide)
    simp only [putAll, Act.put, List.setIfInBounds_toArray, List.set_cons_succ, List.set_cons_zero, Nat.zero_add, Nat.reduceAdd, e4]
    clear H e4 HE
    go_wp2
    go_ret
    exact ⟨rfl, bthen hB hR⟩

theorem same_none (w : World) : Calls Try.prog 82 #[.slice none 0 0, .slice none 0 0] w fun e w' => e = .returned (.bool true) ∧ Gr w.heap.size w w' := by
  go_enter Try.func82, Try.ntmps82
  go_wp2
  go_loop [5] (fun i => i = .int .i64 0) (fun _ => 0)
  case atStart => rfl
  case round =>
    obtain rfl := hrel
    go_wp2
    go_ret
    exact ⟨rfl, Gr.refl _ _⟩

set_option maxRecDepth 100000 in
set_option maxHeartbeats 1000000 in
theorem same_some (b o cap b' o' cap' : Nat) (l : List Nat) (w : World) (hb : b < w.heap.size) (hb' : b' < w.heap.size) (hc : ∀ i, i < l.length → w.cell? ⟨b, o + i, none⟩ = (l.map byteV)[i]?) (hc' : ∀ i, i < l.length → w.cell? ⟨b', o' + i, none⟩ = (l.map byteV)[i]?) (hlen : l.length ≤ maxLen) :
    Calls Try.prog 82 #[.slice (some ⟨b, o, none⟩) l.length cap, .slice (some ⟨b', o', none⟩) l.length cap'] w fun e w' => e = .returned (.bool true) ∧ Gr w.heap.size w w' := by
  unfold maxLen at hlen
  have hc := Lib.hid hc
  have hc' := Lib.hid hc'
  go_enter Try.func82, Try.ntmps82
  go_wp2
  go_loopw [5] (fun i wr => ∃ k : Nat, k ≤ l.length ∧ i = .int .i64 k ∧ Gr w.heap.size w wr) (fun i _ => l.length - (intOf i).toNat)
  case atStart => exact ⟨0, by omega, rfl, Gr.refl _ _⟩
  case round =>
    obtain ⟨k, hk, rfl, hB⟩ := hrel
    by_cases hlt : k < l.length
    · have ca : wr.cell? ⟨b, o + k, none⟩ = some (.int .u8 (l[k] : Nat)) := by
        rw [hB.cell (p := ⟨b, o + k, none⟩) hb, hc.out k hlt, List.getElem?_map, List.getElem?_eq_getElem hlt]; rfl
      have cb : wr.cell? ⟨b', o' + k, none⟩ = some (.int .u8 (l[k] : Nat)) := by
        rw [hB.cell (p := ⟨b', o' + k, none⟩) hb', hc'.out k hlt, List.getElem?_map, List.getElem?_eq_getElem hlt]; rfl
      generalize l[k] = c at ca cb
      go_wp2
      go_quiet (fail)
      go_wp2
      go_roundw
      case rel => exact ⟨k + 1, by omega, by go_num, hB.drewN _⟩
      case measure => simp [intOf]; omega
    · obtain rfl : k = l.length := by omega
      go_wp2
      go_ret
      exact ⟨rfl, hB⟩

theorem cmp_ahead {s t c : Nat} (h : Ahead s t c) : cmpS s t = -1 := by
  rcases cmpS_cases s t with ⟨_, e⟩ | ⟨e, _⟩ | ⟨_, _, e⟩
  · exact (h.not_same e).elim
  · exact e
  · exact (h.not_both e).elim
theorem cmp_behind {s t c : Nat} (h : Ahead t s c) : cmpS s t = 1 := by
  rw [cmpS_neg, cmp_ahead h]; rfl
theorem cmp_same {s t : Nat} (h : ∀ c, c < 256 → s.testBit c = t.testBit c) : cmpS s t = 0 := by
  rcases cmpS_cases s t with ⟨e, _⟩ | ⟨_, _, e⟩ | ⟨_, _, e⟩
  · exact e
  · exact (e.not_same h).elim
  · exact (e.not_same fun c hc => (h c hc).symm).elim

set_option maxRecDepth 100000 in
set_option maxHeartbeats 2000000 in
theorem refCompare_any (s t : Nat) (w : World) : Calls Try.prog 81 #[refV s, refV t] w fun e w' => e = .returned (.int .i64 (cmpS s t)) ∧ Gr w.heap.size w w' := by
  unfold refV
  go_enter Try.func81, Try.ntmps81
  go_wp2
  go_loopw [5] (fun i wr => ∃ k : Nat, k ≤ 256 ∧ i = .int .i64 k ∧ Hid (∀ d, d < k → s.testBit d = t.testBit d) ∧ Blk wr w.heap.size (A256 (bitI s)) 94 ∧ Blk wr (w.heap.size + 1) (A256 (bitI t)) 94 ∧ Gr w.heap.size w wr) (fun i _ => 256 - (intOf i).toNat)
  case atStart => exact ⟨0, by omega, rfl, fun d h => by omega, (blkOf1 w _ _).alloc _, blkOf2 w _ _ _, gr2 w _ _⟩
  case round =>
    obtain ⟨k, hk, rfl, hs, h0, h1, hB⟩ := hrel
    by_cases hlt : k < 256
    · have c0 := (h0.cell k).trans (refA_get s hlt)
      have c1 := (h1.cell k).trans (refA_get t hlt)
      rcases bitI_cases s k with ⟨es, bs⟩ | ⟨es, bs⟩ <;> rcases bitI_cases t k with ⟨et, bt⟩ | ⟨et, bt⟩ <;> rw [es] at c0 <;> rw [et] at c1
      · have hs' : Hid (∀ d, d < k + 1 → s.testBit d = t.testBit d) := fun d hd => by
          by_cases e : d = k
          · rw [e, bs, bt]
          · exact hs.out d (by omega)
        clear es bs et bt
        go_wp2
        go_quiet (fail)
        go_wp2
        go_roundw
        case rel => exact ⟨k + 1, by omega, by go_num, hs', h0, h1, hB.drewN _⟩
        case measure => simp [intOf]; omega
      · have hn := Lib.hid (cmp_ahead ⟨hlt, bs, bt, hs.out⟩)
        clear es bs et bt
        go_wp2
        go_quiet (fail)
        go_wp2
        go_quiet (fail)
        go_wp2
        go_ret
        rw [hn.out]
        exact ⟨rfl, (hB.drewN _).drewN _⟩
      · have hn := Lib.hid (cmp_behind ⟨hlt, bt, bs, fun d hd => (hs.out d hd).symm⟩)
        clear es bs et bt
        go_wp2
        go_quiet (fail)
        go_wp2
        go_quiet (fail)
        go_wp2
        go_ret
        rw [hn.out]
        exact ⟨rfl, (hB.drewN _).drewN _⟩
      · have hs' : Hid (∀ d, d < k + 1 → s.testBit d = t.testBit d) := fun d hd => by
          by_cases e : d = k
          · rw [e, bs, bt]
          · exact hs.out d (by omega)
        clear es bs et bt
        go_wp2
        go_quiet (fail)
        go_wp2
        go_roundw
        case rel => exact ⟨k + 1, by omega, by go_num, hs', h0, h1, hB.drewN _⟩
        case measure => simp [intOf]; omega
    · obtain rfl : k = 256 := by omega
      have hn := Lib.hid (cmp_same hs.out)
      go_wp2
      go_ret
      rw [hn.out]
      exact ⟨rfl, hB⟩
end Go.Proofs.Ytojmkgllbhbeiaa
namespace Go.Proofs.Ytojmkgllbhbeiaa
open Go.RowKit

/-- How many bytes spans hold. -/
def spSum (l : List (Nat × Nat)) : Nat := (l.map fun x => x.2 + 1 - x.1).sum
theorem spSum_snoc (l : List (Nat × Nat)) (x : Nat × Nat) : spSum (l ++ [x]) = spSum l + (x.2 + 1 - x.1) := by simp [spSum]
/-- Spans that ascend, with a byte between each two, all below k. -/
def SpOk (k : Nat) (l : List (Nat × Nat)) : Prop := (∀ x ∈ l, x.1 ≤ x.2 ∧ x.2 < k) ∧ l.Pairwise fun x y => x.2 + 1 < y.1

theorem SpOk.mono {k m : Nat} {l : List (Nat × Nat)} (h : SpOk k l) (hk : k ≤ m) : SpOk m l := ⟨fun x hx => ⟨(h.1 x hx).1, by have := (h.1 x hx).2; omega⟩, h.2⟩

structure SpInv (s k : Nat) : Prop where
  ok : SpOk k (spansOf (upto s k))
  bits : ∀ d, (ofSpans (spansOf (upto s k))).testBit d = (decide (d < k) && s.testBit d)
  sum : spSum (spansOf (upto s k)) = (upto s k).length

theorem spInv (s k : Nat) (hk : k ≤ 256) : SpInv s k := by
  induction k with
  | zero => exact ⟨⟨by simp [upto, spansOf], by simp [upto, spansOf]⟩, by simp [upto, spansOf, ofSpans], by simp [upto, spansOf, spSum]⟩
  | succ k ih =>
    obtain ⟨ok, bits, sum⟩ := ih (by omega)
    cases hb : s.testBit k with
    | false =>
      have he := upto_no hb
      refine ⟨by rw [he]; exact ok.mono (by omega), fun d => ?_, by rw [he]; exact sum⟩
      rw [he, bits d]
      by_cases hd : d = k
      · subst hd; simp [hb]
      · have : decide (d < k + 1) = decide (d < k) := decide_eq_decide.2 (by omega)
        rw [this]
    | true =>
      have he := upto_yes hb
      have hbit : ∀ d, (decide (d < k + 1) && s.testBit d) = ((decide (d < k) && s.testBit d) || decide (d = k)) := fun d => by
        by_cases hd : d = k
        · subst hd; simp [hb]
        · have : decide (d < k + 1) = decide (d < k) := decide_eq_decide.2 (by omega)
          rw [this]; simp [hd]
      have hlen : (upto s (k + 1)).length = (upto s k).length + 1 := by rw [he]; simp
      have hstep : spansOf (upto s (k + 1)) = spStep (spansOf (upto s k)) k := by rw [he, spansOf_snoc, Nat.mod_eq_of_lt (by omega)]
      generalize spansOf (upto s k) = acc at ok bits sum hstep
      rcases List.eq_nil_or_concat acc with rfl | ⟨acc', ⟨lo, hi⟩, rfl⟩
      · have hv : spStep [] k = [(k, k)] := rfl
        rw [hv] at hstep
        refine ⟨?_, fun d => ?_, ?_⟩
        · rw [hstep]; exact ⟨by simp, by simp⟩
        · rw [hstep, hbit, ← bits d]
          show (Sx.or (Sx.range k k) 0).testBit d = ((0 : Nat).testBit d || decide (d = k))
          rw [Sx.tb_or, Sx.tb_range, Sx.tb_zero, Bool.or_false, Bool.false_or, Bool.eq_iff_iff]
          simp only [Bool.and_eq_true, decide_eq_true_eq]; omega
        · rw [hstep, hlen, ← sum]; simp [spSum]
      · rw [List.concat_eq_append] at *
        have hl := ok.1 (lo, hi) (by simp)
        have hpw := List.pairwise_append.1 ok.2
        have hv : spStep (acc' ++ [(lo, hi)]) k = if hi = (k + 255) % 256 then acc' ++ [(lo, k)] else acc' ++ [(lo, hi)] ++ [(k, k)] := by
          unfold spStep
          rw [List.getLast?_concat]
          dsimp only
          rw [List.dropLast_concat]
        have hk1 : hi = (k + 255) % 256 ↔ hi + 1 = k := by
          have := hl.2
          dsimp only at this
          omega
        rw [hv] at hstep
        by_cases hc : hi + 1 = k
        · rw [if_pos (hk1.2 hc)] at hstep
          refine ⟨?_, fun d => ?_, ?_⟩
          · rw [hstep]
            refine ⟨fun x hx => ?_, ?_⟩
            · rcases List.mem_append.1 hx with hx | hx
              · have := ok.1 x (List.mem_append_left _ hx); omega
              · rw [List.mem_singleton.1 hx]; exact ⟨by have := hl.1; dsimp only at this ⊢; omega, by dsimp only; omega⟩
            · refine List.pairwise_append.2 ⟨hpw.1, by simp, fun x hx y hy => ?_⟩
              rw [List.mem_singleton.1 hy]
              exact hpw.2.2 x hx (lo, hi) (by simp)
          · rw [hstep, hbit, ← bits d, ofSpans_snoc, ofSpans_snoc, Sx.tb_or, Sx.tb_or, Sx.tb_range, Sx.tb_range, Bool.or_assoc]
            congr 1
            rw [Bool.eq_iff_iff]
            have := hl.1
            simp only [Bool.or_eq_true, Bool.and_eq_true, decide_eq_true_eq] at this ⊢
            omega
          · rw [hstep, hlen, ← sum, spSum_snoc, spSum_snoc]
            have := hl.1
            dsimp only at this ⊢
            omega
        · rw [if_neg (fun h => hc (hk1.1 h))] at hstep
          refine ⟨?_, fun d => ?_, ?_⟩
          · rw [hstep]
            refine ⟨fun x hx => ?_, ?_⟩
            · rcases List.mem_append.1 hx with hx | hx
              · have := ok.1 x hx; omega
              · rw [List.mem_singleton.1 hx]; exact ⟨Nat.le_refl _, by dsimp only; omega⟩
            · refine List.pairwise_append.2 ⟨ok.2, by simp, fun x hx y hy => ?_⟩
              rw [List.mem_singleton.1 hy]
              rcases List.mem_append.1 hx with hx | hx
              · have h1 := hpw.2.2 x hx (lo, hi) (by simp)
                have := hl.1
                have := hl.2
                dsimp only at *
                omega
              · rw [List.mem_singleton.1 hx]
                have := hl.2
                dsimp only at *
                omega
          · rw [hstep, hbit, ← bits d, ofSpans_snoc, Sx.tb_or, Sx.tb_range]
            congr 1
            rw [Bool.eq_iff_iff]
            simp only [Bool.and_eq_true, decide_eq_true_eq]
            omega
          · rw [hstep, hlen, ← sum, spSum_snoc]
            dsimp only
            omega

theorem spans_ok (s : Nat) : SpOk 256 (spansOf (elems s)) := (spInv s 256 (Nat.le_refl _)).ok
theorem spans_sum (s : Nat) : spSum (spansOf (elems s)) = (elems s).length := (spInv s 256 (Nat.le_refl _)).sum
theorem ofSpans_lt {l : List (Nat × Nat)} (h : ∀ x ∈ l, x.2 < 256) : ofSpans l < 2 ^ 256 := by
  induction l with
  | nil => exact by decide
  | cons x l ih => exact Sx.or_lt (Sx.range_lt (h x (by simp))) (ih fun y hy => h y (by simp [hy]))
theorem ofSpans_spans {s : Nat} (hs : s < 2 ^ 256) : ofSpans (spansOf (elems s)) = s :=
  Sx.ext (ofSpans_lt fun x hx => ((spans_ok s).1 x hx).2) hs fun d hd => by
    have := (spInv s 256 (Nat.le_refl _)).bits d
    rw [decide_eq_true hd, Bool.true_and] at this
    exact this
theorem ofL_elems {s : Nat} (hs : s < 2 ^ 256) : Sx.ofL (elems s) = s :=
  Sx.ext (Sx.ofL_lt _ fun c hc => elems_lt hc) hs fun d hd => by
    rw [Sx.tb_ofL, Bool.eq_iff_iff, decide_eq_true_eq, mem_elems]
    exact ⟨fun h => h.2, fun h => ⟨hd, h⟩⟩

theorem upto_sorted' (s k : Nat) : (upto s k).Pairwise (· < ·) := (List.pairwise_lt_range (n := k)).filter _
theorem filter_drop (c : Nat) : ∀ (l : List Nat) (j : Nat), l.Pairwise (· < ·) → l[j]? = some c → l.filter (fun d => decide (c < d)) = l.drop (j + 1) := by
  intro l
  induction l with
  | nil => intro j _ h; cases h
  | cons x l ih =>
    intro j hp h
    obtain ⟨h1, h2⟩ := List.pairwise_cons.1 hp
    cases j with
    | zero =>
      have hx : x = c := by simpa using h
      subst hx
      rw [List.filter_cons_of_neg (by simp), List.drop_succ_cons, List.drop_zero, List.filter_eq_self]
      intro d hd
      simpa using h1 d hd
    | succ j =>
      have hj : l[j]? = some c := by simpa using h
      have hxc : x < c := h1 c (List.mem_of_getElem? hj)
      rw [List.filter_cons_of_neg (by simp; omega), List.drop_succ_cons]
      exact ih j h2 hj
theorem elems_above (s c : Nat) : elems (Sx.and s (Sx.range (c + 1) 255)) = (elems s).filter (fun d => decide (c < d)) := by
  unfold elems upto
  rw [List.filter_filter]
  refine List.filter_congr fun d hd => ?_
  have hd : d < 256 := List.mem_range.1 hd
  rw [Sx.tb_and, Sx.tb_range, Bool.eq_iff_iff]
  simp only [Bool.and_eq_true, decide_eq_true_eq]
  constructor
  · rintro ⟨h1, h2, h3⟩; exact ⟨by omega, h1⟩
  · rintro ⟨h1, h2⟩; exact ⟨h2, by omega, by omega⟩
theorem next_at (s j c : Nat) (h : (elems s)[j]? = some c) : nextB s c = ((elems s).getD (j + 1) 0, decide (j + 1 < (elems s).length)) := by
  have hs : (elems s).Pairwise (· < ·) := upto_sorted' s 256
  have hm : c ∈ elems s := List.mem_of_getElem? h
  have hc := elems_lt hm
  have hdrop := filter_drop c (elems s) j hs h
  unfold nextB
  by_cases h255 : c = 255
  · rw [if_pos h255]
    have hnil : (elems s).drop (j + 1) = [] := by
      rw [← hdrop, List.filter_eq_nil_iff]
      intro d hd
      have := elems_lt hd
      simp; omega
    have hlen := List.drop_eq_nil_iff.1 hnil
    rw [decide_eq_false (by omega), List.getD_eq_getElem?_getD, List.getElem?_eq_none hlen]; rfl
  · rw [if_neg h255, elems_above s c, hdrop]
    refine Prod.ext ?_ ?_
    · show ((elems s).drop (j + 1)).headD 0 = _
      rw [List.headD_eq_head?_getD, List.head?_drop, List.getD_eq_getElem?_getD]
    · show (!((elems s).drop (j + 1)).isEmpty) = _
      rw [Bool.eq_iff_iff, Bool.not_eq_true', decide_eq_true_eq, List.isEmpty_eq_false_iff, Ne, List.drop_eq_nil_iff]
      omega
theorem first_at (s : Nat) : (elems s).headD 0 = (elems s).getD 0 0 ∧ (!(elems s).isEmpty) = decide (0 < (elems s).length) := by
  cases elems s <;> simp
end Go.Proofs.Ytojmkgllbhbeiaa
namespace Go.Proofs.Ytojmkgllbhbeiaa
open Go.RowKit

/-- Behind an append of one cell to an owned row. -/
theorem grown_one {base : Nat} {wr w1 : World} {e : TypeId} {k n : Nat} {v : Value} {xs : List Value} {o : Obj} (hrow : wr.ownsRow base e k v n xs) (hg : (wr.alloc o).grownBy w1 v.ownBlock) (h : base ≤ wr.heap.size) : Below base wr w1 :=
  (below1 wr o).mono h |>.trans (below_grown (hrow.alloc o) hg (by simp; omega))

set_option maxRecDepth 100000 in
set_option maxHeartbeats 2000000 in
theorem refBytes_any (s : Nat) (w : World) : Calls Try.prog 83 #[refV s] w (RetBytes s w) := by
  obtain ⟨i0, hi, hz0, hz1, hz2⟩ := info_parts info5
  unfold refV
  go_enter Try.func83, Try.ntmps83
  go_wp2
  go_loopw [3, 4] (fun v i wr => ∃ k : Nat, k ≤ 256 ∧ i = .int .i64 k ∧ wr.ownsRow (w.heap.size + 1) 5 1 v (upto s k).length ((upto s k).map byteV) ∧ Hid (v = .slice none 0 0 ↔ (upto s k).length = 0) ∧ Blk wr w.heap.size (A256 (bitI s)) 94 ∧ Below w.heap.size w wr ∧ w.heap.size + 1 ≤ wr.heap.size) (fun _ i _ => 256 - (intOf i).toNat)
  case atStart => exact ⟨0, by omega, rfl, World.ownsRow_nil _ _ _ _, by show _ ↔ _; simp [upto], blkOf1 w _ _, below1 w _, by simp⟩
  case round =>
    obtain ⟨k, hk, rfl, hrow, hnil, h0, hB, hsz⟩ := hrel
    by_cases hlt : k < 256
    · have c0 := (h0.cell k).trans (refA_get s hlt)
      have hlen := upto_len s k
      rcases bitI_cases s k with ⟨e, b⟩ | ⟨e, b⟩ <;> rw [e] at c0 <;> clear e
      · have hu := Lib.hid (upto_yes b)
        generalize upto s k = l at hrow hnil hu hlen
        clear b
        go_wp2_with (at_builtin; refine wpList_append_own _ rfl _ _ 44 rfl (w.heap.size + 1) 5 i0 (.int .u8 0) 1 1 Try.underlying44 hi hz0 hz1 hz2 rfl (by decide) _ _ _ rfl (hrow.alloc _) ⟨wr.heap.size, 0, none⟩ 1 1 [.int .u8 (k : Nat)] rfl rfl (cell_news _ _ _ _ rfl) (by simp [Value.oneCell']) (by unfold maxLen; omega) (by omega) (by simp; omega) ?_; intro v' w1 hown' hgrow hn')
        have hb := grown_one hrow hgrow (by omega)
        go_roundw
        case rel => exact ⟨k + 1, by omega, by go_num, by rw [hu.out]; simpa [byteV] using hown', by show _ ↔ _; rw [hu.out]; simp [hn'], h0.below hb (by omega), hB.trans (hb.mono (by omega)), Nat.le_trans hsz hb.size⟩
        case measure => first | (simp [intOf]; done) | (simp [intOf]; omega)
      · have hu := Lib.hid (upto_no b)
        clear b
        go_wp2
        go_roundw
        case rel => exact ⟨k + 1, by omega, by go_num, by rw [hu.out]; exact hrow, by show _ ↔ _; rw [hu.out]; exact hnil.out, h0, hB, hsz⟩
        case measure => first | (simp [intOf]; done) | (simp [intOf]; omega)
    · obtain rfl : k = 256 := by omega
      go_wp2
      go_ret
      exact ⟨_, rfl, ⟨owns_mono hrow (by omega), hnil.out⟩, hB⟩

/-- The ends of spans, one after the other. -/
def flat (l : List (Nat × Nat)) : List Nat := l.flatMap fun x => [x.1, x.2]
theorem flat_snoc (l : List (Nat × Nat)) (x : Nat × Nat) : flat (l ++ [x]) = flat l ++ [x.1, x.2] := by simp [flat]
theorem flat_len (l : List (Nat × Nat)) : (flat l).length = l.length * 2 := by
  induction l with
  | nil => rfl
  | cons x l ih => show (_ :: _ :: flat l).length = _; simp [ih]; omega
/-- c begins a span; c ends one. -/
def begins (s c : Nat) : Bool := s.testBit c && (c == 0 || !s.testBit (c - 1))
def endsAt (s c : Nat) : Bool := s.testBit c && (c == 255 || !s.testBit (c + 1))
def ends (s k : Nat) : List Nat := (List.range k).flatMap fun c => (if begins s c then [c] else []) ++ (if endsAt s c then [c] else [])
theorem ends_succ (s k : Nat) : ends s (k + 1) = ends s k ++ ((if begins s k then [k] else []) ++ (if endsAt s k then [k] else [])) := by
  unfold ends; rw [List.range_succ, List.flatMap_append]; simp
theorem ends_len (s k : Nat) : (ends s k).length ≤ 2 * k := by
  induction k with
  | zero => simp [ends]
  | succ k ih =>
    rw [ends_succ, List.length_append, List.length_append]
    have : (if begins s k then [k] else []).length ≤ 1 := by split <;> simp
    have : (if endsAt s k then [k] else []).length ≤ 1 := by split <;> simp
    omega

theorem spStep_far {acc : List (Nat × Nat)} {c : Nat} (h : ∀ x ∈ acc, x.2 + 1 < c) (hc : c < 256) : spStep acc c = acc ++ [(c, c)] := by
  rcases List.eq_nil_or_concat acc with rfl | ⟨l, x, rfl⟩
  · rfl
  · rw [List.concat_eq_append] at h ⊢
    have := h x (by simp)
    unfold spStep
    rw [List.getLast?_concat]
    dsimp only
    rw [if_neg (by omega)]
theorem spStep_near {l : List (Nat × Nat)} {lo hi : Nat} (hc : hi + 1 < 256) : spStep (l ++ [(lo, hi)]) (hi + 1) = l ++ [(lo, hi + 1)] := by
  unfold spStep
  rw [List.getLast?_concat]
  dsimp only
  rw [if_pos (by omega), List.dropLast_concat]

theorem ends_inv (s k : Nat) (hk : k ≤ 256) :
    ((0 < k ∧ k < 256 ∧ s.testBit (k - 1) = true ∧ s.testBit k = true) ∧ ∃ l lo, spansOf (upto s k) = l ++ [(lo, k - 1)] ∧ ends s k = flat l ++ [lo]) ∨
    (¬ (0 < k ∧ k < 256 ∧ s.testBit (k - 1) = true ∧ s.testBit k = true) ∧ ends s k = flat (spansOf (upto s k)) ∧ ∀ x ∈ spansOf (upto s k), x.2 < k ∧ (x.2 + 1 < k ∨ s.testBit (k - 1) = true)) := by
  induction k with
  | zero => exact .inr ⟨by simp, by simp [ends, upto, spansOf, flat], by simp [upto, spansOf]⟩
  | succ k ih =>
    have hk1 : k + 1 - 1 = k := by omega
    rw [hk1]
    cases hb : s.testBit k with
    | false =>
      have hnb : begins s k = false := by simp [begins, hb]
      have hne : endsAt s k = false := by simp [endsAt, hb]
      rw [ends_succ, hnb, hne, upto_no hb]
      simp only [Bool.false_eq_true, if_false, List.append_nil]
      rcases ih (by omega) with ⟨⟨_, _, _, h⟩, _⟩ | ⟨_, h1, h2⟩
      · rw [hb] at h; cases h
      · exact .inr ⟨by simp, h1, fun x hx => ⟨by have := h2 x hx; omega, .inl (by have := h2 x hx; omega)⟩⟩
    | true =>
      rw [ends_succ, upto_yes hb, spansOf_snoc, Nat.mod_eq_of_lt (by omega)]
      have hend : endsAt s k = (k == 255 || !s.testBit (k + 1)) := by simp [endsAt, hb]
      rcases ih (by omega) with ⟨⟨h0, _, h1, _⟩, l, lo, h2, h3⟩ | ⟨h0, h1, h2⟩
      · have hnb : begins s k = false := by
          simp [begins, h1]; omega
        obtain ⟨j, rfl⟩ : ∃ j, k = j + 1 := ⟨k - 1, by omega⟩
        rw [Nat.add_sub_cancel] at h2
        rw [h2, h3, hnb, spStep_near (by omega)]
        simp only [Bool.false_eq_true, if_false, List.nil_append]
        by_cases he : j + 1 + 1 < 256 ∧ s.testBit (j + 1 + 1) = true
        · have hne : endsAt s (j + 1) = false := by rw [hend, he.2]; simp; omega
          rw [hne]
          exact .inl ⟨⟨by omega, he.1, trivial, he.2⟩, l, lo, rfl, by simp⟩
        · have hne : endsAt s (j + 1) = true := by
            rw [hend]
            by_cases h255 : j + 1 = 255
            · simp [h255]
            · have : s.testBit (j + 1 + 1) = false := by
                cases hq : s.testBit (j + 1 + 1) with
                | false => rfl
                | true => exact (he ⟨by omega, hq⟩).elim
              simp [this]
          rw [hne]
          refine .inr ⟨fun h => he ⟨h.2.1, h.2.2.2⟩, by rw [flat_snoc]; simp, fun x hx => ?_⟩
          refine ⟨?_, .inr trivial⟩
          rcases List.mem_append.1 hx with hx | hx
          · have hok := (spInv s (j + 1) (by omega)).ok
            rw [h2] at hok
            have := hok.1 x (List.mem_append_left _ hx); omega
          · rw [List.mem_singleton.1 hx]; dsimp only; omega
      · have hprev : k = 0 ∨ s.testBit (k - 1) = false := by
          by_cases hz : k = 0
          · exact .inl hz
          · refine .inr ?_
            cases hq : s.testBit (k - 1) with
            | false => rfl
            | true => exact (h0 ⟨by omega, by omega, hq, hb⟩).elim
        have hnb : begins s k = true := by
          rcases hprev with h | h
          · have : (k == 0) = true := by simp [h]
            unfold begins; rw [hb, this]; rfl
          · simp [begins, hb, h]
        have hfar : ∀ x ∈ spansOf (upto s k), x.2 + 1 < k := fun x hx => by
          have := h2 x hx
          rcases hprev with h | h
          · omega
          · rw [h] at this
            rcases this with ⟨_, h | h⟩
            · exact h
            · cases h
        rw [h1, hnb, spStep_far hfar (by omega)]
        simp only [if_true]
        by_cases he : k + 1 < 256 ∧ s.testBit (k + 1) = true
        · have hne : endsAt s k = false := by rw [hend, he.2]; simp; omega
          rw [hne]
          exact .inl ⟨⟨by omega, he.1, trivial, he.2⟩, _, k, rfl, by simp⟩
        · have hne : endsAt s k = true := by
            rw [hend]
            by_cases h255 : k = 255
            · simp [h255]
            · have : s.testBit (k + 1) = false := by
                cases hq : s.testBit (k + 1) with
                | false => rfl
                | true => exact (he ⟨by omega, hq⟩).elim
              simp [this]
          rw [hne]
          refine .inr ⟨fun h => he ⟨h.2.1, h.2.2.2⟩, by rw [flat_snoc]; simp, fun x hx => ?_⟩
          refine ⟨?_, .inr trivial⟩
          rcases List.mem_append.1 hx with hx | hx
          · have := h2 x hx; omega
          · rw [List.mem_singleton.1 hx]; dsimp only; omega
theorem ends_all (s : Nat) : ends s 256 = flat (spansOf (elems s)) := by
  rcases ends_inv s 256 (Nat.le_refl _) with ⟨⟨_, h, _⟩, _⟩ | ⟨_, h, _⟩
  · omega
  · exact h

def intV (n : Nat) : Value := .int .i64 n
theorem info3 : (Try.prog.info? 3).map (fun i => (i.zero, i.size, i.bytes)) = some (some (.int .i64 0), 1, 8) := by kernel_rfl
def RetEnds (s : Nat) (w : World) (e : Ending) (w' : World) : Prop := ∃ v, e = .returned v ∧ Fresh w.heap.size w' v 3 1 (ends s 256).length ((ends s 256).map intV) ∧ Below w.heap.size w w'

set_option maxRecDepth 100000 in
set_option maxHeartbeats 4000000 in
theorem refSpans_any (s : Nat) (w : World) : Calls Try.prog 85 #[refV s] w (RetEnds s w) := by
  obtain ⟨i0, hi, hz0, hz1, hz2⟩ := info_parts info3
  unfold refV
  go_enter Try.func85, Try.ntmps85
  go_wp2
  go_loopw [3, 4] (fun v i wr => ∃ k : Nat, k ≤ 256 ∧ i = .int .i64 k ∧ wr.ownsRow (w.heap.size + 1) 3 1 v (ends s k).length ((ends s k).map intV) ∧ Hid (v = .slice none 0 0 ↔ (ends s k).length = 0) ∧ Blk wr w.heap.size (A256 (bitI s)) 94 ∧ Below w.heap.size w wr ∧ w.heap.size + 1 ≤ wr.heap.size) (fun _ i _ => 256 - (intOf i).toNat)
  case atStart => exact ⟨0, by omega, rfl, World.ownsRow_nil _ _ _ _, by show _ ↔ _; simp [ends], blkOf1 w _ _, below1 w _, by simp⟩
  case round =>
    obtain ⟨k, hk, rfl, hrow, hnil, h0, hB, hsz⟩ := hrel
    by_cases hlt : k < 256
    · have c0 := (h0.cell k).trans (refA_get s hlt)
      have hlen := ends_len s k
      have hes := Lib.hid (ends_succ s k)
      rcases bitI_cases s k with ⟨e, b⟩ | ⟨e, b⟩ <;> rw [e] at c0 <;> clear e
      · -- the byte is in the set
        have hS : (k = 0 ∧ Hid (begins s k = true)) ∨ (0 < k ∧ ((wr.cell? ⟨w.heap.size, k - 1, none⟩ = some (.int .i64 0) ∧ Hid (begins s k = true)) ∨ (wr.cell? ⟨w.heap.size, k - 1, none⟩ = some (.int .i64 1) ∧ Hid (begins s k = false)))) := by
          rcases Nat.eq_zero_or_pos k with h | h
          · refine .inl ⟨h, ?_⟩
            show _ = _
            have : (k == 0) = true := by simp [h]
            unfold begins; rw [b, this]; rfl
          · refine .inr ⟨h, ?_⟩
            have hz : (k == 0) = false := by simp; omega
            have c1 := (h0.cell (k - 1)).trans (refA_get s (by omega))
            rcases bitI_cases s (k - 1) with ⟨e, b1⟩ | ⟨e, b1⟩ <;> rw [e] at c1
            · exact .inr ⟨c1, by show _ = _; unfold begins; rw [b, b1, hz]; rfl⟩
            · exact .inl ⟨c1, by show _ = _; unfold begins; rw [b, b1, hz]; rfl⟩
        have hE : (k = 255 ∧ Hid (endsAt s k = true)) ∨ (k < 255 ∧ ((wr.cell? ⟨w.heap.size, k + 1, none⟩ = some (.int .i64 0) ∧ Hid (endsAt s k = true)) ∨ (wr.cell? ⟨w.heap.size, k + 1, none⟩ = some (.int .i64 1) ∧ Hid (endsAt s k = false)))) := by
          by_cases h : k = 255
          · refine .inl ⟨h, ?_⟩
            show _ = _
            have : (k == 255) = true := by simp [h]
            unfold endsAt; rw [b, this]; rfl
          · refine .inr ⟨by omega, ?_⟩
            have c1 := (h0.cell (k + 1)).trans (refA_get s (by omega))
            have h255 : (k == 255) = false := by simp [h]
            rcases bitI_cases s (k + 1) with ⟨e, b1⟩ | ⟨e, b1⟩ <;> rw [e] at c1
            · exact .inr ⟨c1, by show _ = _; unfold endsAt; rw [b, b1, h255]; rfl⟩
            · exact .inl ⟨c1, by show _ = _; unfold endsAt; rw [b, b1, h255]; rfl⟩
        clear b
        rcases hS with ⟨rfl, hS⟩ | ⟨hpk, ⟨cj, hS⟩ | ⟨cj, hS⟩⟩
        · rcases hE with ⟨h255, hE⟩ | ⟨h255, ⟨ck, hE⟩ | ⟨ck, hE⟩⟩
          · omega
          · have hes' : Hid (ends s (0 + 1) = ends s (0) ++ [0, 0]) := by show _ = _; rw [hes.out, hS.out, hE.out]; rfl
            clear hes hS hE
            generalize ends s (0) = l at hrow hnil hes' hlen
            go_wp2_with (first | (at_builtin; refine wpList_append_own _ rfl _ _ 55 rfl (w.heap.size + 1) 3 i0 (.int .i64 0) 1 8 Try.underlying55 hi hz0 hz1 hz2 rfl (by decide) _ _ _ rfl (hrow.alloc _) ⟨wr.heap.size, 0, none⟩ 1 1 [intV (0)] rfl rfl (cell_news _ _ _ _ rfl) (by simp [Value.oneCell', intV]) (by unfold maxLen; omega) (by omega) (by simp; omega) ?_; intro v1 w1 hown1 hgrow1 hn1; have hb1 := grown_one hrow hgrow1 (by omega); have hs1 := hb1.size; have c01 := (hb1.cell (p := ⟨w.heap.size, 0, none⟩) (Nat.lt_succ_self _)).trans c0; try have ck1 := (hb1.cell (p := ⟨w.heap.size, 0 + 1, none⟩) (Nat.lt_succ_self _)).trans ck) | (at_builtin; refine wpList_append_own _ rfl _ _ 55 rfl (w.heap.size + 1) 3 i0 (.int .i64 0) 1 8 Try.underlying55 hi hz0 hz1 hz2 rfl (by decide) _ _ _ rfl (hown1.alloc _) ⟨w1.heap.size, 0, none⟩ 1 1 [intV (0)] rfl rfl (cell_news _ _ _ _ rfl) (by simp [Value.oneCell', intV]) (by unfold maxLen; omega) (by omega) (by simp; omega) ?_; intro v2 w2 hown2 hgrow2 hn2))
            have hb2 := grown_one hown1 hgrow2 (by omega)
            have hb := hb1.trans hb2
            go_roundw
            case rel => exact ⟨0 + 1, by omega, by go_num, by rw [hes'.out]; simpa [intV] using hown2, by show _ ↔ _; rw [hes'.out]; simp [hn2], h0.below hb (by omega), hB.trans (hb.mono (by omega)), Nat.le_trans hsz hb.size⟩
            case measure => first | (simp [intOf]; done) | (simp [intOf]; omega)
          · have hes' : Hid (ends s (0 + 1) = ends s (0) ++ [0]) := by show _ = _; rw [hes.out, hS.out, hE.out]; rfl
            clear hes hS hE
            generalize ends s (0) = l at hrow hnil hes' hlen
            go_wp2_with (at_builtin; refine wpList_append_own _ rfl _ _ 55 rfl (w.heap.size + 1) 3 i0 (.int .i64 0) 1 8 Try.underlying55 hi hz0 hz1 hz2 rfl (by decide) _ _ _ rfl (hrow.alloc _) ⟨wr.heap.size, 0, none⟩ 1 1 [intV (0)] rfl rfl (cell_news _ _ _ _ rfl) (by simp [Value.oneCell', intV]) (by unfold maxLen; omega) (by omega) (by simp; omega) ?_; intro v1 w1 hown1 hgrow1 hn1; have hb1 := grown_one hrow hgrow1 (by omega); have hs1 := hb1.size; have c01 := (hb1.cell (p := ⟨w.heap.size, 0, none⟩) (Nat.lt_succ_self _)).trans c0; try have ck1 := (hb1.cell (p := ⟨w.heap.size, 0 + 1, none⟩) (Nat.lt_succ_self _)).trans ck)
            go_roundw
            case rel => exact ⟨0 + 1, by omega, by go_num, by rw [hes'.out]; simpa [intV] using hown1, by show _ ↔ _; rw [hes'.out]; simp [hn1], h0.below hb1 (by omega), hB.trans (hb1.mono (by omega)), Nat.le_trans hsz hb1.size⟩
            case measure => first | (simp [intOf]; done) | (simp [intOf]; omega)
        · rcases hE with ⟨h255, hE⟩ | ⟨h255, ⟨ck, hE⟩ | ⟨ck, hE⟩⟩
          · have h255' : 255 ≤ k := by omega
            clear h255
            have hes' : Hid (ends s (k + 1) = ends s k ++ [k, k]) := by show _ = _; rw [hes.out, hS.out, hE.out]; rfl
            clear hes hS hE
            generalize ends s k = l at hrow hnil hes' hlen
            go_wp2_with (first | (at_builtin; refine wpList_append_own _ rfl _ _ 55 rfl (w.heap.size + 1) 3 i0 (.int .i64 0) 1 8 Try.underlying55 hi hz0 hz1 hz2 rfl (by decide) _ _ _ rfl (hrow.alloc _) ⟨wr.heap.size, 0, none⟩ 1 1 [intV k] rfl rfl (cell_news _ _ _ _ rfl) (by simp [Value.oneCell', intV]) (by unfold maxLen; omega) (by omega) (by simp; omega) ?_; intro v1 w1 hown1 hgrow1 hn1; have hb1 := grown_one hrow hgrow1 (by omega); have hs1 := hb1.size; have c01 := (hb1.cell (p := ⟨w.heap.size, k, none⟩) (Nat.lt_succ_self _)).trans c0; try have ck1 := (hb1.cell (p := ⟨w.heap.size, k + 1, none⟩) (Nat.lt_succ_self _)).trans ck) | (at_builtin; have _q := hown1; go_must (refine wpList_append_own _ rfl _ _ 55 rfl (w.heap.size + 1) 3 i0 (.int .i64 0) 1 8 Try.underlying55 hi hz0 hz1 hz2 rfl (by decide) _ _ _ rfl (hown1.alloc _) ⟨w1.heap.size, 0, none⟩ 1 1 [.int .i64 255] rfl rfl (cell_news _ _ _ _ rfl) (by simp [Value.oneCell']) (by unfold maxLen; omega) (by omega) (by simp; omega) ?_); intro v2 w2 hown2 hgrow2 hn2))
            have hb2 := grown_one hown1 hgrow2 (by omega)
            have hb := hb1.trans hb2
            have h255e : k = 255 := by omega
            go_roundw
            case rel => exact ⟨k + 1, by omega, by go_num, by rw [hes'.out]; simpa [intV, h255e] using hown2, by show _ ↔ _; rw [hes'.out]; simp [hn2], h0.below hb (by omega), hB.trans (hb.mono (by omega)), Nat.le_trans hsz hb.size⟩
            case measure => first | (simp [intOf]; done) | (simp [intOf]; omega)
          · have hes' : Hid (ends s (k + 1) = ends s k ++ [k, k]) := by show _ = _; rw [hes.out, hS.out, hE.out]; rfl
            clear hes hS hE
            generalize ends s k = l at hrow hnil hes' hlen
            go_wp2_with (first | (at_builtin; refine wpList_append_own _ rfl _ _ 55 rfl (w.heap.size + 1) 3 i0 (.int .i64 0) 1 8 Try.underlying55 hi hz0 hz1 hz2 rfl (by decide) _ _ _ rfl (hrow.alloc _) ⟨wr.heap.size, 0, none⟩ 1 1 [intV k] rfl rfl (cell_news _ _ _ _ rfl) (by simp [Value.oneCell', intV]) (by unfold maxLen; omega) (by omega) (by simp; omega) ?_; intro v1 w1 hown1 hgrow1 hn1; have hb1 := grown_one hrow hgrow1 (by omega); have hs1 := hb1.size; have c01 := (hb1.cell (p := ⟨w.heap.size, k, none⟩) (Nat.lt_succ_self _)).trans c0; try have ck1 := (hb1.cell (p := ⟨w.heap.size, k + 1, none⟩) (Nat.lt_succ_self _)).trans ck) | (at_builtin; refine wpList_append_own _ rfl _ _ 55 rfl (w.heap.size + 1) 3 i0 (.int .i64 0) 1 8 Try.underlying55 hi hz0 hz1 hz2 rfl (by decide) _ _ _ rfl (hown1.alloc _) ⟨w1.heap.size, 0, none⟩ 1 1 [intV k] rfl rfl (cell_news _ _ _ _ rfl) (by simp [Value.oneCell', intV]) (by unfold maxLen; omega) (by omega) (by simp; omega) ?_; intro v2 w2 hown2 hgrow2 hn2))
            have hb2 := grown_one hown1 hgrow2 (by omega)
            have hb := hb1.trans hb2
            go_roundw
            case rel => exact ⟨k + 1, by omega, by go_num, by rw [hes'.out]; simpa [intV] using hown2, by show _ ↔ _; rw [hes'.out]; simp [hn2], h0.below hb (by omega), hB.trans (hb.mono (by omega)), Nat.le_trans hsz hb.size⟩
            case measure => first | (simp [intOf]; done) | (simp [intOf]; omega)
          · have hes' : Hid (ends s (k + 1) = ends s k ++ [k]) := by show _ = _; rw [hes.out, hS.out, hE.out]; rfl
            clear hes hS hE
            generalize ends s k = l at hrow hnil hes' hlen
            go_wp2_with (at_builtin; refine wpList_append_own _ rfl _ _ 55 rfl (w.heap.size + 1) 3 i0 (.int .i64 0) 1 8 Try.underlying55 hi hz0 hz1 hz2 rfl (by decide) _ _ _ rfl (hrow.alloc _) ⟨wr.heap.size, 0, none⟩ 1 1 [intV k] rfl rfl (cell_news _ _ _ _ rfl) (by simp [Value.oneCell', intV]) (by unfold maxLen; omega) (by omega) (by simp; omega) ?_; intro v1 w1 hown1 hgrow1 hn1; have hb1 := grown_one hrow hgrow1 (by omega); have hs1 := hb1.size; have c01 := (hb1.cell (p := ⟨w.heap.size, k, none⟩) (Nat.lt_succ_self _)).trans c0; try have ck1 := (hb1.cell (p := ⟨w.heap.size, k + 1, none⟩) (Nat.lt_succ_self _)).trans ck)
            go_roundw
            case rel => exact ⟨k + 1, by omega, by go_num, by rw [hes'.out]; simpa [intV] using hown1, by show _ ↔ _; rw [hes'.out]; simp [hn1], h0.below hb1 (by omega), hB.trans (hb1.mono (by omega)), Nat.le_trans hsz hb1.size⟩
            case measure => first | (simp [intOf]; done) | (simp [intOf]; omega)
        · rcases hE with ⟨h255, hE⟩ | ⟨h255, ⟨ck, hE⟩ | ⟨ck, hE⟩⟩
          · have h255' : 255 ≤ k := by omega
            clear h255
            have hes' : Hid (ends s (k + 1) = ends s k ++ [k]) := by show _ = _; rw [hes.out, hS.out, hE.out]; rfl
            clear hes hS hE
            generalize ends s k = l at hrow hnil hes' hlen
            go_wp2_with (at_builtin; refine wpList_append_own _ rfl _ _ 55 rfl (w.heap.size + 1) 3 i0 (.int .i64 0) 1 8 Try.underlying55 hi hz0 hz1 hz2 rfl (by decide) _ _ _ rfl (hrow.alloc _) ⟨wr.heap.size, 0, none⟩ 1 1 [.int .i64 255] rfl rfl (cell_news _ _ _ _ rfl) (by simp [Value.oneCell']) (by unfold maxLen; omega) (by omega) (by simp; omega) ?_; intro v1 w1 hown1 hgrow1 hn1; have hb1 := grown_one hrow hgrow1 (by omega); have hs1 := hb1.size; have c01 := (hb1.cell (p := ⟨w.heap.size, k, none⟩) (Nat.lt_succ_self _)).trans c0; try have ck1 := (hb1.cell (p := ⟨w.heap.size, k + 1, none⟩) (Nat.lt_succ_self _)).trans ck)
            have h255e : k = 255 := by omega
            go_roundw
            case rel => exact ⟨k + 1, by omega, by go_num, by rw [hes'.out]; simpa [intV, h255e] using hown1, by show _ ↔ _; rw [hes'.out]; simp [hn1], h0.below hb1 (by omega), hB.trans (hb1.mono (by omega)), Nat.le_trans hsz hb1.size⟩
            case measure => first | (simp [intOf]; done) | (simp [intOf]; omega)
          · have hes' : Hid (ends s (k + 1) = ends s k ++ [k]) := by show _ = _; rw [hes.out, hS.out, hE.out]; rfl
            clear hes hS hE
            generalize ends s k = l at hrow hnil hes' hlen
            go_wp2_with (at_builtin; refine wpList_append_own _ rfl _ _ 55 rfl (w.heap.size + 1) 3 i0 (.int .i64 0) 1 8 Try.underlying55 hi hz0 hz1 hz2 rfl (by decide) _ _ _ rfl (hrow.alloc _) ⟨wr.heap.size, 0, none⟩ 1 1 [intV k] rfl rfl (cell_news _ _ _ _ rfl) (by simp [Value.oneCell', intV]) (by unfold maxLen; omega) (by omega) (by simp; omega) ?_; intro v1 w1 hown1 hgrow1 hn1; have hb1 := grown_one hrow hgrow1 (by omega); have hs1 := hb1.size; have c01 := (hb1.cell (p := ⟨w.heap.size, k, none⟩) (Nat.lt_succ_self _)).trans c0; try have ck1 := (hb1.cell (p := ⟨w.heap.size, k + 1, none⟩) (Nat.lt_succ_self _)).trans ck)
            go_roundw
            case rel => exact ⟨k + 1, by omega, by go_num, by rw [hes'.out]; simpa [intV] using hown1, by show _ ↔ _; rw [hes'.out]; simp [hn1], h0.below hb1 (by omega), hB.trans (hb1.mono (by omega)), Nat.le_trans hsz hb1.size⟩
            case measure => first | (simp [intOf]; done) | (simp [intOf]; omega)
          · have hes' : Hid (ends s (k + 1) = ends s k ++ []) := by show _ = _; rw [hes.out, hS.out, hE.out]; rfl
            clear hes hS hE
            generalize ends s k = l at hrow hnil hes' hlen
            go_wp2
            go_roundw
            case rel => exact ⟨k + 1, by omega, by go_num, by rw [hes'.out, List.append_nil]; exact hrow, by show _ ↔ _; rw [hes'.out, List.append_nil]; exact hnil.out, h0, hB, hsz⟩
            case measure => first | (simp [intOf]; done) | (simp [intOf]; omega)
      · have hes' : Hid (ends s (k + 1) = ends s k) := by
          show _ = _
          rw [hes.out]; simp [begins, endsAt, b]
        clear b hes
        go_wp2
        go_roundw
        case rel => exact ⟨k + 1, by omega, by go_num, by rw [hes'.out]; exact hrow, by show _ ↔ _; rw [hes'.out]; exact hnil.out, h0, hB, hsz⟩
        case measure => first | (simp [intOf]; done) | (simp [intOf]; omega)
    · obtain rfl : k = 256 := by omega
      go_wp2
      go_ret
      exact ⟨_, rfl, ⟨owns_mono hrow (by omega), hnil.out⟩, hB⟩
end Go.Proofs.Ytojmkgllbhbeiaa
