/-
  Arrays of 256 integers, as blocks and as values; Words, Of, Range and Both of the reference.
-/
import Derived.Test.YtojmkgllbhbeiaaW7
import Derived.Deep.WholeRow
import Derived.Laws.Rows
import Derived.Laws.CopyOwn
namespace Go.Proofs.Ytojmkgllbhbeiaa
open Go.RowKit

def A256 (f : Nat → Int) : Array Value := Array.ofFn (n := 256) fun c => .int .i64 (f c)
theorem A256_size (f : Nat → Int) : (A256 f).size = 256 := by simp [A256]
theorem A256_get (f : Nat → Int) {c : Nat} (h : c < 256) : (A256 f)[c]? = some (.int .i64 (f c)) := by simp [A256, h]
theorem A256_congr {f g : Nat → Int} (h : ∀ c, c < 256 → f c = g c) : A256 f = A256 g := by
  unfold A256; congr 1; funext c; rw [h c c.2]
theorem A256_inj {f g : Nat → Int} (h : A256 f = A256 g) {c : Nat} (hc : c < 256) : f c = g c := by
  have := (A256_get f hc).symm.trans ((congrArg (·[c]?) h).trans (A256_get g hc))
  simpa using this
theorem A256_set (f : Nat → Int) {c : Nat} (_ : c < 256) (v : Int) : (A256 f).setIfInBounds c (.int .i64 v) = A256 fun d => if d = c then v else f d := by
  refine Array.ext (by simp [A256]) fun i h1 h2 => ?_
  have hi : i < (A256 f).size := by rw [Array.size_setIfInBounds] at h1; exact h1
  rw [Array.getElem_setIfInBounds hi]
  by_cases e : c = i
  · subst e; simp [A256]
  · rw [if_neg e]; simp [A256, Ne.symm e]
theorem A256_one (f : Nat → Int) : (A256 f).all (·.oneCell') = true := by
  rw [Array.all_eq_true]; intro i hi; simp [A256, Value.oneCell']

/-- What is made of an array after k rounds. -/
def part (f : Nat → Int) (k : Nat) : Array Value := A256 fun d => if d < k then f d else 0
theorem part_zero (f : Nat → Int) : part f 0 = A256 fun _ => 0 := A256_congr fun c _ => by simp
theorem part_set (f : Nat → Int) {k : Nat} (h : k < 256) : (part f k).setIfInBounds k (.int .i64 (f k)) = part f (k + 1) := by
  rw [part, A256_set _ h]
  refine A256_congr fun c _ => ?_
  by_cases e : c = k
  · subst e; simp
  · by_cases h1 : c < k
    · have : c < k + 1 := by omega
      simp [e, h1, this]
    · have : ¬ c < k + 1 := by omega
      simp [e, h1, this]
theorem part_skip (f : Nat → Int) {k : Nat} (h : f k = 0) : part f (k + 1) = part f k := by
  refine A256_congr fun c _ => ?_
  by_cases e : c = k
  · subst e; simp [h]
  · by_cases h1 : c < k
    · have : c < k + 1 := by omega
      simp [h1, this]
    · have : ¬ c < k + 1 := by omega
      simp [h1, this]
theorem part_full (f : Nat → Int) : part f 256 = A256 f := A256_congr fun c h => by simp [h]
theorem part_get (f : Nat → Int) (k : Nat) {c : Nat} (h : c < 256) : (part f k)[c]? = some (.int .i64 (if c < k then f c else 0)) := A256_get _ h

def bitI (s c : Nat) : Int := if s.testBit c then 1 else 0
def refV (s : Nat) : Value := .agg (A256 (bitI s))
theorem refA_get (s : Nat) {c : Nat} (h : c < 256) : (A256 (bitI s))[c]? = some (.int .i64 (bitI s c)) := A256_get _ h
theorem bitI_cases (s c : Nat) : (bitI s c = 1 ∧ s.testBit c = true) ∨ (bitI s c = 0 ∧ s.testBit c = false) := by
  unfold bitI; cases s.testBit c <;> simp

theorem zero94 : ∀ w, (zeroValue 94).run Try.prog w = .ok (.agg (A256 fun _ => 0)) w := fun w => by kernel_rfl
theorem under94 : Try.prog.underlying 94 = some (.array 256 3) := by kernel_rfl
theorem size94 : (Try.prog.info? 94).map (·.size) = some 256 := by kernel_rfl

section
variable {P : Program} {ops : Array Oper} {rest : List Oper} {o : Oper} {a : Act} {w : World} {Q : Exit → Act → World → Prop}
/-- A whole array read. -/
theorem wp_load94 (hgd : o.guard = none) (x : Operand) (ho : o.op = .load 94 x) (g : Nat) (hx : a.eval x = .pointer (some ⟨g, 0, none⟩)) (f : Nat → Int) (hb : Blk w g (A256 f) 94)
    (h : wpList Try.prog ops Q rest (a.put o.dst (.agg (A256 f))) w) : wpList Try.prog ops Q (o :: rest) a w :=
  wpList_load_row hgd 94 x ho g hx 94 (A256 f) (0, 0) _ hb under94 rfl (by rw [size94, A256_size]) h
/-- A whole array stored. -/
theorem wp_store94 (hgd : o.guard = none) (x y : Operand) (ho : o.op = .store 94 x y) (g : Nat) (hx : a.eval x = .pointer (some ⟨g, 0, none⟩)) (f f0 : Nat → Int) (hy : a.eval y = .agg (A256 f)) (hb : Blk w g (A256 f0) 94)
    (h : wpList Try.prog ops Q rest (a.put o.dst undef) (w.setRow g (A256 f))) : wpList Try.prog ops Q (o :: rest) a w :=
  wpList_store_row hgd 94 x y ho g (A256 f) hx hy 94 (A256 f0) hb (by rw [size94, A256_size]) (by rw [A256_size, A256_size]) (A256_one f) h
end
theorem Blk.setRow {w : World} {b : Nat} {cs : Array Value} {t : TypeId} (h : Blk w b cs t) (cs' : Array Value) : Blk (w.setRow b cs') b cs' t := setRow_heap w b cs cs' t _ h
theorem Blk.otherRow {w : World} {b g : Nat} {cs : Array Value} {t : TypeId} (h : Blk w b cs t) (hne : b ≠ g) (cs' : Array Value) : Blk (w.setRow g cs') b cs t := (setRow_other w g b cs' hne).trans h
theorem Gr.setRow {B g : Nat} {a w : World} (h : Gr B a w) (hB : B ≤ g) (cs : Array Value) : Gr B a (w.setRow g cs) := ⟨below_setRow h.below hB cs, h.drawn⟩
/-- A result that is an array. -/
theorem res94 {fn : Func} {p : Tmp} (h : fn.results = #[.cell p 94]) (tmps : Array Value) (w : World) (g : Nat) (f : Nat → Int) (hp : tmps.getD p undef = .pointer (some ⟨g, 0, none⟩)) (hg : Blk w g (A256 f) 94) :
    (results fn tmps).run Try.prog w = .ok (.agg (A256 f)) w :=
  results_cell_row h tmps w g 94 (A256 f) (0, 0) _ hp hg under94 rfl (by rw [size94, A256_size])

set_option maxRecDepth 100000 in
set_option maxHeartbeats 2000000 in
theorem words_any (s : Nat) (w : World) : Calls Try.prog 77 #[setV s] w fun e w' => e = .returned (refV s) ∧ Gr w.heap.size w w' := by
  have hz := zero94
  unfold setV
  go_enter Try.func77, Try.ntmps77
  go_wp2
  go_loopw [4] (fun i wr => ∃ k : Nat, k ≤ 256 ∧ i = .int .i64 k ∧ Blk wr w.heap.size (setA s) 23 ∧ Blk wr (w.heap.size + 1) (A256 fun _ => 0) 94 ∧ Blk wr (w.heap.size + 1 + 1) (part (bitI s) k) 94 ∧ Gr w.heap.size w wr) (fun i _ => 256 - (intOf i).toNat)
  case atStart =>
    refine ⟨0, by omega, rfl, ?_, ?_, ?_, gr3 w _ _ _⟩
    · exact ((blkOf1 w _ _).alloc _).alloc _
    · exact (blkOf2 w _ _ _).alloc _
    · rw [part_zero]; exact blkOf3 w _ _ _ _
  case round =>
    obtain ⟨k, hk, rfl, h0, h1, h2, hB⟩ := hrel
    by_cases hlt : k < 256
    · have c0 := (h0.cell (k / 64)).trans (setA_get s (by omega))
      have hw := Lib.hid (Sx.tb_word s k)
      have hlt64 := Sx.wd_lt s (k / 64)
      generalize Sx.wd s (k / 64) = y at c0 hw hlt64
      go_wp2
      go_loop [5, 6] (fun x i => ∃ j : Nat, j ≤ k % 64 ∧ i = .int .i64 j ∧ x = .int .u64 (y / 2 ^ j : Nat)) (fun _ i => k % 64 - (intOf i).toNat)
      case atStart => exact ⟨0, by omega, rfl, by simp⟩
      case round =>
        obtain ⟨j, hj, rfl, rfl⟩ := hrel
        by_cases hlj : j < k % 64
        · have hx := Lib.hid (show y / 2 ^ (j + 1) = y / 2 ^ j / 2 by rw [Nat.pow_succ, Nat.div_div_eq_div_mul])
          have hyj : y / 2 ^ j ≤ y := Nat.div_le_self _ _
          generalize y / 2 ^ j = z at hx hyj
          go_wp2
          go_round
          case rel => exact ⟨j + 1, by omega, by go_num, by rw [hx.out]; go_num⟩
          case measure => simp [intOf]; omega
        · obtain rfl : j = k % 64 := by omega
          have hyj : y / 2 ^ (k % 64) ≤ y := Nat.div_le_self _ _
          have hw' : Hid (bitI s k = (((y / 2 ^ (k % 64) : Nat) : Int) % 2)) := by
            show bitI s k = _
            unfold bitI; rw [hw.out]
            generalize y / 2 ^ (k % 64) = z
            rcases Nat.mod_two_eq_zero_or_one z with h | h <;> rw [h] <;> simp <;> omega
          clear hw
          generalize y / 2 ^ (k % 64) = z at hw' hyj
          have c2 := (h2.cell k).trans (part_get (bitI s) k hlt)
          have f2 := h2.frozen k
          have hs := Lib.hid (part_set (bitI s) hlt)
          have h2' := Lib.hid h2
          clear h2
          go_wp2
          go_roundw
          case rel =>
            rw [← hw'.out]
            exact ⟨k + 1, by omega, by go_num, h0.other (by show _ ≠ w.heap.size + 1 + 1; omega) _, h1.other (by show _ ≠ w.heap.size + 1 + 1; omega) _, by rw [← hs.out]; exact h2'.out.set k _, hB.setCell (by show _ ≤ w.heap.size + 1 + 1; omega) _⟩
          case measure => simp [intOf]; omega
    · obtain rfl : k = 256 := by omega
      rw [part_full] at h2
      go_wp2_with (first | with_reducible refine wp_load94 rfl _ rfl (w.heap.size + 1 + 1) rfl (bitI s) h2 ?_ | with_reducible refine wp_store94 rfl _ _ rfl (w.heap.size + 1) rfl (bitI s) _ rfl h1 ?_)
      exact bodyPost_ret (v := refV s) (res94 rfl _ _ (w.heap.size + 1) _ rfl (h1.setRow _)) rfl ⟨rfl, hB.setRow (by omega) _⟩

theorem bitI_snoc (l : List Nat) (c d : Nat) : bitI (Sx.ofL (l ++ [c])) d = if d = c then 1 else bitI (Sx.ofL l) d := by
  unfold bitI
  rw [Sx.ofL_snoc, Sx.tb_or, Sx.tb_one]
  by_cases h : d = c
  · subst h; simp
  · have : ¬ c = d := fun e => h e.symm
    simp [h, this]
theorem bitI_zero : bitI 0 = fun _ => 0 := by funext c; simp [bitI]

set_option maxRecDepth 100000 in
set_option maxHeartbeats 2000000 in
theorem refOf_some (b o cap : Nat) (l : List Nat) (hl : ∀ c ∈ l, c < 256) (w : World) (hb : b < w.heap.size) (hc : ∀ i, i < l.length → w.cell? ⟨b, o + i, none⟩ = (l.map byteV)[i]?) (hlen : l.length ≤ maxLen) :
    Calls Try.prog 72 #[.slice (some ⟨b, o, none⟩) l.length cap] w fun e w' => e = .returned (refV (Sx.ofL l)) ∧ Gr w.heap.size w w' := by
  unfold maxLen at hlen
  have hz := zero94
  go_enter Try.func72, Try.ntmps72
  go_wp2
  go_loopw [4] (fun i wr => ∃ k : Nat, k ≤ l.length ∧ i = .int .i64 k ∧ Blk wr w.heap.size (A256 fun _ => 0) 94 ∧ Blk wr (w.heap.size + 1) (A256 (bitI (Sx.ofL (l.take k)))) 94 ∧ Gr w.heap.size w wr) (fun i _ => l.length - (intOf i).toNat)
  case atStart =>
    refine ⟨0, by omega, rfl, (blkOf1 w _ _).alloc _, ?_, gr2 w _ _⟩
    rw [List.take_zero, Sx.ofL, bitI_zero]; exact blkOf2 w _ _ _
  case round =>
    obtain ⟨k, hk, rfl, h1, h2, hB⟩ := hrel
    by_cases hlt : k < l.length
    · have cb : wr.cell? ⟨b, o + k, none⟩ = some (.int .u8 (l[k] : Nat)) := by
        rw [hB.cell (p := ⟨b, o + k, none⟩) hb, hc k hlt, List.getElem?_map, List.getElem?_eq_getElem hlt]; rfl
      have hlk : l[k] < 256 := hl _ (List.getElem_mem hlt)
      have hset : Blk (wr.setCell ⟨w.heap.size + 1, l[k], none⟩ (.int .i64 1)) (w.heap.size + 1) (A256 (bitI (Sx.ofL (l.take (k + 1))))) 94 := by
        have := h2.set l[k] (.int .i64 1)
        rw [A256_set _ hlk] at this
        rw [List.take_succ_eq_append_getElem hlt, A256_congr (fun d _ => bitI_snoc (l.take k) l[k] d)]
        exact this
      have c2 := (h2.cell l[k]).trans (A256_get _ hlk)
      have f2 := h2.frozen l[k]
      generalize l[k] = c at cb hlk hset c2 f2
      have hset := Lib.hid hset
      clear h2
      go_wp2
      go_roundw
      case rel => exact ⟨k + 1, by omega, by go_num, h1.other (by show _ ≠ w.heap.size + 1; omega) _, hset.out, hB.setCell (by show _ ≤ w.heap.size + 1; omega) _⟩
      case measure => simp [intOf]; omega
    · obtain rfl : k = l.length := by omega
      rw [List.take_length] at h2
      go_wp2_with (first | with_reducible refine wp_load94 rfl _ rfl (w.heap.size + 1) rfl _ h2 ?_ | with_reducible refine wp_store94 rfl _ _ rfl w.heap.size rfl _ _ rfl h1 ?_)
      exact bodyPost_ret (v := refV (Sx.ofL l)) (res94 rfl _ _ w.heap.size _ rfl (h1.setRow _)) rfl ⟨rfl, hB.setRow (by omega) _⟩

theorem refOf_none (w : World) : Calls Try.prog 72 #[.slice none 0 0] w fun e w' => e = .returned (refV 0) ∧ Gr w.heap.size w w' := by
  have hz := zero94
  go_enter Try.func72, Try.ntmps72
  go_wp2
  go_loopw [4] (fun i wr => i = .int .i64 0 ∧ Blk wr w.heap.size (A256 fun _ => 0) 94 ∧ Blk wr (w.heap.size + 1) (A256 (bitI 0)) 94 ∧ Gr w.heap.size w wr) (fun i _ => 0)
  case atStart =>
    refine ⟨rfl, (blkOf1 w _ _).alloc _, ?_, gr2 w _ _⟩
    rw [bitI_zero]; exact blkOf2 w _ _ _
  case round =>
    obtain ⟨rfl, h1, h2, hB⟩ := hrel
    go_wp2_with (first | with_reducible refine wp_load94 rfl _ rfl (w.heap.size + 1) rfl _ h2 ?_ | with_reducible refine wp_store94 rfl _ _ rfl w.heap.size rfl _ _ rfl h1 ?_)
    exact bodyPost_ret (v := refV 0) (res94 rfl _ _ w.heap.size _ rfl (h1.setRow _)) rfl ⟨rfl, hB.setRow (by omega) _⟩

theorem refOf_any (v : Value) (l : List Nat) (hl : ∀ c ∈ l, c < 256) (w : World) (h : Sl w v 1 l.length (l.map byteV)) (hlen : l.length ≤ maxLen) :
    Calls Try.prog 72 #[v] w fun e w' => e = .returned (refV (Sx.ofL l)) ∧ Gr w.heap.size w w' := by
  obtain ⟨_, ⟨rfl, h0⟩ | ⟨b, o, cap, rfl, hb, hc⟩⟩ := h
  · obtain rfl := List.eq_nil_of_length_eq_zero h0
    exact refOf_none w
  · exact refOf_some b o cap l hl w hb (by simpa using hc) hlen

set_option maxRecDepth 100000 in
set_option maxHeartbeats 2000000 in
theorem refRange_any (lo hi : Nat) (hlo : lo < 256) (hhi : hi < 256) (w : World) : Calls Try.prog 71 #[.int .u8 lo, .int .u8 hi] w fun e w' => e = .returned (refV (Sx.range lo hi)) ∧ Gr w.heap.size w w' := by
  have hz := zero94
  go_enter Try.func71, Try.ntmps71
  go_wp2
  go_loopw [6] (fun i wr => ∃ k : Nat, k ≤ 256 ∧ i = .int .i64 k ∧ Blk wr w.heap.size (A256 fun _ => 0) 94 ∧ Blk wr (w.heap.size + 1) (part (bitI (Sx.range lo hi)) k) 94 ∧ Gr w.heap.size w wr) (fun i _ => 256 - (intOf i).toNat)
  case atStart =>
    refine ⟨0, by omega, rfl, (blkOf1 w _ _).alloc _, ?_, gr2 w _ _⟩
    rw [part_zero]; exact blkOf2 w _ _ _
  case round =>
    obtain ⟨k, hk, rfl, h1, h2, hB⟩ := hrel
    by_cases hlt : k < 256
    · have hbit : bitI (Sx.range lo hi) k = if lo ≤ k ∧ k ≤ hi then 1 else 0 := by unfold bitI; rw [Sx.tb_range]; simp
      by_cases hin : lo ≤ k ∧ k ≤ hi
      · rw [if_pos hin] at hbit
        have hset : Blk (wr.setCell ⟨w.heap.size + 1, k, none⟩ (.int .i64 1)) (w.heap.size + 1) (part (bitI (Sx.range lo hi)) (k + 1)) 94 := by
          rw [← part_set _ hlt, hbit]; exact h2.set k _
        have c2 := (h2.cell k).trans (part_get (bitI (Sx.range lo hi)) k hlt)
        have f2 := h2.frozen k
        have hset := Lib.hid hset
        obtain ⟨g1, g2⟩ := hin
        have e1 : decide (lo ≤ k) = true := decide_eq_true g1
        have e2 : decide (k ≤ hi) = true := decide_eq_true g2
        clear hbit h2
        go_wp2
        go_roundw
        case rel => exact ⟨k + 1, by omega, by go_num, h1.other (by show _ ≠ w.heap.size + 1; omega) _, hset.out, hB.setCell (by show _ ≤ w.heap.size + 1; omega) _⟩
        case measure => simp [intOf]; omega
      · rw [if_neg hin] at hbit
        rw [← part_skip _ hbit] at h2
        have h2 := Lib.hid h2
        clear hbit
        by_cases g1 : lo ≤ k
        · have g2 : hi < k := by omega
          clear hin
          go_wp2
          go_roundw
          case rel => exact ⟨k + 1, by omega, by go_num, h1, h2.out, hB⟩
          case measure => simp [intOf]; omega
        · have g2 : k < lo := by omega
          clear hin
          go_wp2
          go_roundw
          case rel => exact ⟨k + 1, by omega, by go_num, h1, h2.out, hB⟩
          case measure => simp [intOf]; omega
    · obtain rfl : k = 256 := by omega
      rw [part_full] at h2
      go_wp2_with (first | with_reducible refine wp_load94 rfl _ rfl (w.heap.size + 1) rfl _ h2 ?_ | with_reducible refine wp_store94 rfl _ _ rfl w.heap.size rfl _ _ rfl h1 ?_)
      exact bodyPost_ret (v := refV (Sx.range lo hi)) (res94 rfl _ _ w.heap.size _ rfl (h1.setRow _)) rfl ⟨rfl, hB.setRow (by omega) _⟩
end Go.Proofs.Ytojmkgllbhbeiaa
