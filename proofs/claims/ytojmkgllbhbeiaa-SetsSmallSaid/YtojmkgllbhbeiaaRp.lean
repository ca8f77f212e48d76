/-
  Parts of the reference.
-/
import Derived.Test.YtojmkgllbhbeiaaRi
import Derived.Test.YtojmkgllbhbeiaaIv
namespace Go.Proofs.Ytojmkgllbhbeiaa
open Go.RowKit

/-- Two bytes are in the same of some sets. -/
def sameB (ss : List Nat) (c d : Nat) : Bool := ss.all fun s => s.testBit c == s.testBit d
theorem sameB_snoc (ss : List Nat) (s c d : Nat) : sameB (ss ++ [s]) c d = (sameB ss c d && (s.testBit c == s.testBit d)) := by simp [sameB]
theorem sameB_refl (ss : List Nat) (c : Nat) : sameB ss c c = true := by simp [sameB]
/-- The least byte in the same of some sets. -/
def rep (ss : List Nat) (c : Nat) : Nat := ((List.range (c + 1)).find? (sameB ss c)).getD 0
theorem rep_eq {ss : List Nat} {c j : Nat} (hj : j ≤ c) (h : sameB ss c j = true) (hm : ∀ d, d < j → sameB ss c d = false) : rep ss c = j := by
  unfold rep
  have : (List.range (c + 1)).find? (sameB ss c) = some j := by
    rw [List.find?_range_eq_some]
    exact ⟨h, List.mem_range.2 (by omega), fun d hd => by rw [hm d hd]; rfl⟩
  rw [this]; rfl
theorem bits_same (s c d : Nat) : (bitI s c == bitI s d) = (s.testBit c == s.testBit d) := by
  unfold bitI; cases s.testBit c <;> cases s.testBit d <;> rfl

theorem zero93 : ∀ w, (zeroValue 93).run Try.prog w = .ok (.agg (A256 fun _ => 0)) w := fun w => by kernel_rfl
theorem under93 : Try.prog.underlying 93 = some (.array 256 3) := by kernel_rfl
theorem size93 : (Try.prog.info? 93).map (·.size) = some 256 := by kernel_rfl
section
variable {ops : Array Oper} {rest : List Oper} {o : Oper} {a : Act} {w : World} {Q : Exit → Act → World → Prop}
theorem wp_load93 (hgd : o.guard = none) (x : Operand) (ho : o.op = .load 93 x) (g : Nat) (hx : a.eval x = .pointer (some ⟨g, 0, none⟩)) (f : Nat → Int) (hb : Blk w g (A256 f) 93)
    (h : wpList Try.prog ops Q rest (a.put o.dst (.agg (A256 f))) w) : wpList Try.prog ops Q (o :: rest) a w :=
  wpList_load_row hgd 93 x ho g hx 93 (A256 f) (0, 0) _ hb under93 rfl (by rw [size93, A256_size]) h
theorem wp_store93 (hgd : o.guard = none) (x y : Operand) (ho : o.op = .store 93 x y) (g : Nat) (hx : a.eval x = .pointer (some ⟨g, 0, none⟩)) (f f0 : Nat → Int) (hy : a.eval y = .agg (A256 f)) (hb : Blk w g (A256 f0) 93)
    (h : wpList Try.prog ops Q rest (a.put o.dst undef) (w.setRow g (A256 f))) : wpList Try.prog ops Q (o :: rest) a w :=
  wpList_store_row hgd 93 x y ho g (A256 f) hx hy 93 (A256 f0) hb (by rw [size93, A256_size]) (by rw [A256_size, A256_size]) (A256_one f) h
end
theorem res93 {fn : Func} {p : Tmp} (h : fn.results = #[.cell p 93]) (tmps : Array Value) (w : World) (g : Nat) (f : Nat → Int) (hp : tmps.getD p undef = .pointer (some ⟨g, 0, none⟩)) (hg : Blk w g (A256 f) 93) :
    (results fn tmps).run Try.prog w = .ok (.agg (A256 f)) w :=
  results_cell_row h tmps w g 93 (A256 f) (0, 0) _ hp hg under93 rfl (by rw [size93, A256_size])

/-- The cells of sets of the reference. -/
def RefCells (w : World) (b o : Nat) (ss : List Nat) : Prop := ∀ i (hi : i < ss.length) c, c < 256 → w.cell? ⟨b, o + i * 256 + c, none⟩ = some (.int .i64 (bitI ss[i] c))

set_option maxRecDepth 100000 in
set_option maxHeartbeats 4000000 in
theorem refParts_some (b o cap : Nat) (ss : List Nat) (w : World) (hb : b < w.heap.size) (hc : RefCells w b o ss) (hlen : ss.length ≤ 1000) :
    Calls Try.prog 91 #[.slice (some ⟨b, o, none⟩) ss.length cap] w fun e w' => e = .returned (.agg (A256 fun c => rep ss c)) ∧ Below w.heap.size w w' := by
  have hz := zero93
  replace hc := Lib.hid hc
  go_enter Try.func91, Try.ntmps91
  go_wp2
  clear hz
  go_loopw [4] (fun i wr => ∃ k : Nat, k ≤ 256 ∧ i = .int .i64 k ∧ Blk wr w.heap.size (A256 fun _ => 0) 93 ∧ Blk wr (w.heap.size + 1) (part (fun c => (rep ss c : Nat)) k) 93 ∧ Below w.heap.size w wr) (fun i _ => 256 - (intOf i).toNat)
  case atStart => exact ⟨0, by omega, rfl, (blkOf1 w _ _).alloc _, by rw [part_zero]; exact blkOf2 w _ _ _, below2 w _ _⟩
  case round =>
    obtain ⟨k, hk, rfl, h0, h1, hB⟩ := hrel
    by_cases hlt : k < 256
    · obtain ⟨wo, rfl⟩ : ∃ wo : World, wo = wr := ⟨_, rfl⟩
      go_wp2_with fail
      go_loopw [5] (fun d wr => ∃ j : Nat, j ≤ k ∧ d = .int .i64 j ∧ Hid (∀ d, d < j → sameB ss k d = false) ∧ Below wo.heap.size wo wr) (fun d _ => 256 - (intOf d).toNat)
      case atStart => exact ⟨0, by omega, rfl, fun d hd => by omega, Below.refl _ _⟩
      case round =>
        obtain ⟨j, hj, rfl, hmin, hBj⟩ := hrel
        obtain ⟨wj, rfl⟩ : ∃ wj : World, wj = wr := ⟨_, rfl⟩
        go_wp2_with fail
        go_loopw [7, 6] (fun i sm wr => ∃ r : Nat, r ≤ ss.length ∧ i = .int .i64 r ∧ sm = .bool (sameB (ss.take r) k j) ∧ Below wj.heap.size wj wr) (fun i _ _ => ss.length - (intOf i).toNat)
        case atStart => exact ⟨0, by omega, rfl, rfl, Below.refl _ _⟩
        case round =>
          obtain ⟨r, hr, rfl, rfl, hBr⟩ := hrel
          by_cases hltr : r < ss.length
          · have hBall := hB.trans ((hBj.trans (hBr.mono hBj.size)).mono hB.size)
            have hsn := Lib.hid (show sameB (ss.take (r + 1)) k j = _ by rw [List.take_succ_eq_append_getElem hltr, sameB_snoc])
            have ck := (hBall.cell (p := ⟨b, o + r * 256 + k, none⟩) hb).trans (hc.out r hltr k hlt)
            have cj := (hBall.cell (p := ⟨b, o + r * 256 + j, none⟩) hb).trans (hc.out r hltr j (by omega))
            generalize ss[r] = t at hsn ck cj
            have hbr : b < wr.heap.size := by have := hBall.size; omega
            have ce0 : ∀ w, Below wr.heap.size wr w → w.cell? ⟨b, o + r * 256 + k, none⟩ = some (.int .i64 (bitI t k)) := fun w hw => (hw.cell (p := ⟨b, o + r * 256 + k, none⟩) hbr).trans ck
            have ce1 : ∀ w, Below wr.heap.size wr w → w.cell? ⟨b, o + r * 256 + j, none⟩ = some (.int .i64 (bitI t j)) := fun w hw => (hw.cell (p := ⟨b, o + r * 256 + j, none⟩) hbr).trans cj
            clear ck cj hBall
            cases hab : sameB (ss.take r) k j <;> rw [hab] at hsn <;> clear hab
            · rw [Bool.false_and] at hsn
              go_wp2_with fail
              refine wp_region_old 44 [.eq (.bool false), .eq (.bool false), .any, .any, .any, .any, .any, .any, .any, .any, .any, .any, .any, .any, .any, .eq (.bool false), .eq (.bool false)] mixed rfl (by kernel_rfl) ?_ ?_
              · refine ⟨?_, ?_, ?_, ?_, ?_, ?_, ?_, ?_, ?_, ?_, ?_, ?_, ?_, ?_, ?_, ?_, ?_, trivial⟩
                · intro vs a w hR H hout hget hold
                  refine one_free rfl ?_
                  have e0 := hold 16 6 (by kernel_rfl) (by kernel_rfl)
                  clear H hout hget hold
                  dsimp only [bare]
                  go_wp2
                  exact ⟨_, rfl, shows0 hR rfl⟩
                · intro vs a w hR H hout hget hold
                  refine one_free rfl ?_
                  have e0 := (hget 0 23 (by kernel_rfl)).trans (congrArg some (H 0 (by decide)))
                  clear H hout hget hold
                  dsimp only [bare]
                  go_wp2
                  exact ⟨_, rfl, shows0 hR rfl⟩
                · intro vs a w hR H hout hget hold
                  exact one_skip 1 true 24 rfl (by kernel_rfl) ((hget 1 24 (by kernel_rfl)).trans (congrArg some (H 1 (by decide)))) (shows0 hR trivial)
                · intro vs a w hR H hout hget hold
                  exact one_skip 1 true 24 rfl (by kernel_rfl) ((hget 1 24 (by kernel_rfl)).trans (congrArg some (H 1 (by decide)))) (shows0 hR trivial)
                · intro vs a w hR H hout hget hold
                  exact one_skip 1 true 24 rfl (by kernel_rfl) ((hget 1 24 (by kernel_rfl)).trans (congrArg some (H 1 (by decide)))) (shows0 hR trivial)
                · intro vs a w hR H hout hget hold
                  exact one_skip 1 true 24 rfl (by kernel_rfl) ((hget 1 24 (by kernel_rfl)).trans (congrArg some (H 1 (by decide)))) (shows0 hR trivial)
                · intro vs a w hR H hout hget hold
                  exact one_skip 1 true 24 rfl (by kernel_rfl) ((hget 1 24 (by kernel_rfl)).trans (congrArg some (H 1 (by decide)))) (shows0 hR trivial)
                · intro vs a w hR H hout hget hold
                  exact one_skip 1 true 24 rfl (by kernel_rfl) ((hget 1 24 (by kernel_rfl)).trans (congrArg some (H 1 (by decide)))) (shows0 hR trivial)
                · intro vs a w hR H hout hget hold
                  exact one_skip 1 true 24 rfl (by kernel_rfl) ((hget 1 24 (by kernel_rfl)).trans (congrArg some (H 1 (by decide)))) (shows0 hR trivial)
                · intro vs a w hR H hout hget hold
                  exact one_skip 1 true 24 rfl (by kernel_rfl) ((hget 1 24 (by kernel_rfl)).trans (congrArg some (H 1 (by decide)))) (shows0 hR trivial)
                · intro vs a w hR H hout hget hold
                  exact one_skip 1 true 24 rfl (by kernel_rfl) ((hget 1 24 (by kernel_rfl)).trans (congrArg some (H 1 (by decide)))) (shows0 hR trivial)
                · intro vs a w hR H hout hget hold
                  exact one_skip 1 true 24 rfl (by kernel_rfl) ((hget 1 24 (by kernel_rfl)).trans (congrArg some (H 1 (by decide)))) (shows0 hR trivial)
                · intro vs a w hR H hout hget hold
                  exact one_skip 1 true 24 rfl (by kernel_rfl) ((hget 1 24 (by kernel_rfl)).trans (congrArg some (H 1 (by decide)))) (shows0 hR trivial)
                · intro vs a w hR H hout hget hold
                  exact one_skip 1 true 24 rfl (by kernel_rfl) ((hget 1 24 (by kernel_rfl)).trans (congrArg some (H 1 (by decide)))) (shows0 hR trivial)
                · intro vs a w hR H hout hget hold
                  exact one_skip 1 true 24 rfl (by kernel_rfl) ((hget 1 24 (by kernel_rfl)).trans (congrArg some (H 1 (by decide)))) (shows0 hR trivial)
                · intro vs a w hR H hout hget hold
                  refine one_free rfl ?_
                  have e0 := (hget 1 24 (by kernel_rfl)).trans (congrArg some (H 1 (by decide)))
                  clear H hout hget hold
                  dsimp only [bare]
                  go_wp2
                  exact ⟨_, rfl, shows0 hR rfl⟩
                · intro vs a w hR H hout hget hold
                  refine one_free rfl ?_
                  have e0 := (hget 15 38 (by kernel_rfl)).trans (congrArg some (H 15 (by decide)))
                  clear H hout hget hold
                  dsimp only [bare]
                  go_wp2
                  exact ⟨_, rfl, shows0 hR rfl⟩
              · intro vs wz hR H
                have e16 : vs 16 = .bool false := H 16 (by decide)
                have hBz := hBr.trans (hR.mono hBr.size)
                simp only [putAll, Act.put, List.setIfInBounds_toArray, List.set_cons_succ, List.set_cons_zero, Nat.zero_add, Nat.reduceAdd, e16]
                clear H hR e16 ce0 ce1
                go_wp2
                go_roundw
                case rel => exact ⟨r + 1, by omega, by go_num, by rw [hsn.out], hBz⟩
                case measure => simp [intOf]; omega
            · rw [Bool.true_and] at hsn
              go_wp2_with fail
              refine wp_region_old 44 [.eq (.bool true), .eq (.bool true), .eq (.slice (some ⟨b, o, none⟩) ss.length cap), .eq (.int .i64 r), .eq (.int .i64 k), .eq (.pointer (some ⟨b, o + r * 256, none⟩)), .eq (.pointer (some ⟨b, o + r * 256 + k, none⟩)), .eq (.int .i64 (bitI t k)), .eq (.slice (some ⟨b, o, none⟩) ss.length cap), .eq (.int .i64 r), .eq (.int .i64 j), .eq (.pointer (some ⟨b, o + r * 256, none⟩)), .eq (.pointer (some ⟨b, o + r * 256 + j, none⟩)), .eq (.int .i64 (bitI t j)), .eq (.bool (t.testBit k == t.testBit j)), .eq (.bool (t.testBit k == t.testBit j)), .eq (.bool (t.testBit k == t.testBit j))] mixed rfl (by kernel_rfl) ?_ ?_
              · refine ⟨?_, ?_, ?_, ?_, ?_, ?_, ?_, ?_, ?_, ?_, ?_, ?_, ?_, ?_, ?_, ?_, ?_, trivial⟩
                · intro vs a w hR H hout hget hold
                  refine one_free rfl ?_
                  have e0 := hold 16 6 (by kernel_rfl) (by kernel_rfl)
                  clear H hout hget hold
                  dsimp only [bare]
                  go_wp2
                  exact ⟨_, rfl, shows0 hR rfl⟩
                · intro vs a w hR H hout hget hold
                  refine one_free rfl ?_
                  have e0 := (hget 0 23 (by kernel_rfl)).trans (congrArg some (H 0 (by decide)))
                  clear H hout hget hold
                  dsimp only [bare]
                  go_wp2
                  exact ⟨_, rfl, shows0 hR rfl⟩
                · intro vs a w hR H hout hget hold
                  refine one_guard 1 true 24 rfl (by kernel_rfl) ((hget 1 24 (by kernel_rfl)).trans (congrArg some (H 1 (by decide)))) ?_
                  have e0 := hout 0 (by kernel_rfl)
                  clear H hout hget hold
                  dsimp only [bare]
                  go_wp2
                  exact ⟨_, rfl, shows0 hR rfl⟩
                · intro vs a w hR H hout hget hold
                  refine one_guard 1 true 24 rfl (by kernel_rfl) ((hget 1 24 (by kernel_rfl)).trans (congrArg some (H 1 (by decide)))) ?_
                  have e0 := hout 7 (by kernel_rfl)
                  clear H hout hget hold
                  dsimp only [bare]
                  go_wp2
                  exact ⟨_, rfl, shows0 hR rfl⟩
                · intro vs a w hR H hout hget hold
                  refine one_guard 1 true 24 rfl (by kernel_rfl) ((hget 1 24 (by kernel_rfl)).trans (congrArg some (H 1 (by decide)))) ?_
                  have e0 := hout 4 (by kernel_rfl)
                  clear H hout hget hold
                  dsimp only [bare]
                  go_wp2
                  exact ⟨_, rfl, shows0 hR rfl⟩
                · intro vs a w hR H hout hget hold
                  refine one_guard 1 true 24 rfl (by kernel_rfl) ((hget 1 24 (by kernel_rfl)).trans (congrArg some (H 1 (by decide)))) ?_
                  have e0 := (hget 2 25 (by kernel_rfl)).trans (congrArg some (H 2 (by decide)))
                  have e1 := (hget 3 26 (by kernel_rfl)).trans (congrArg some (H 3 (by decide)))
                  clear H hout hget hold
                  dsimp only [bare]
                  go_wp2
                  exact ⟨_, rfl, shows0 hR rfl⟩
                · intro vs a w hR H hout hget hold
                  refine one_guard 1 true 24 rfl (by kernel_rfl) ((hget 1 24 (by kernel_rfl)).trans (congrArg some (H 1 (by decide)))) ?_
                  have e0 := (hget 5 28 (by kernel_rfl)).trans (congrArg some (H 5 (by decide)))
                  have e1 := (hget 4 27 (by kernel_rfl)).trans (congrArg some (H 4 (by decide)))
                  clear H hout hget hold
                  dsimp only [bare]
                  go_wp2
                  exact ⟨_, rfl, shows0 hR rfl⟩
                · intro vs a w hR H hout hget hold
                  refine one_guard 1 true 24 rfl (by kernel_rfl) ((hget 1 24 (by kernel_rfl)).trans (congrArg some (H 1 (by decide)))) ?_
                  have e0 := (hget 6 29 (by kernel_rfl)).trans (congrArg some (H 6 (by decide)))
                  have d0 := ce0 w hR
                  clear H hout hget hold
                  dsimp only [bare]
                  go_wp2
                  exact ⟨_, rfl, shows0 hR rfl⟩
                · intro vs a w hR H hout hget hold
                  refine one_guard 1 true 24 rfl (by kernel_rfl) ((hget 1 24 (by kernel_rfl)).trans (congrArg some (H 1 (by decide)))) ?_
                  have e0 := hout 0 (by kernel_rfl)
                  clear H hout hget hold
                  dsimp only [bare]
                  go_wp2
                  exact ⟨_, rfl, shows0 hR rfl⟩
                · intro vs a w hR H hout hget hold
                  refine one_guard 1 true 24 rfl (by kernel_rfl) ((hget 1 24 (by kernel_rfl)).trans (congrArg some (H 1 (by decide)))) ?_
                  have e0 := hout 7 (by kernel_rfl)
                  clear H hout hget hold
                  dsimp only [bare]
                  go_wp2
                  exact ⟨_, rfl, shows0 hR rfl⟩
                · intro vs a w hR H hout hget hold
                  refine one_guard 1 true 24 rfl (by kernel_rfl) ((hget 1 24 (by kernel_rfl)).trans (congrArg some (H 1 (by decide)))) ?_
                  have e0 := hout 5 (by kernel_rfl)
                  clear H hout hget hold
                  dsimp only [bare]
                  go_wp2
                  exact ⟨_, rfl, shows0 hR rfl⟩
                · intro vs a w hR H hout hget hold
                  refine one_guard 1 true 24 rfl (by kernel_rfl) ((hget 1 24 (by kernel_rfl)).trans (congrArg some (H 1 (by decide)))) ?_
                  have e0 := (hget 8 31 (by kernel_rfl)).trans (congrArg some (H 8 (by decide)))
                  have e1 := (hget 9 32 (by kernel_rfl)).trans (congrArg some (H 9 (by decide)))
                  clear H hout hget hold
                  dsimp only [bare]
                  go_wp2
                  exact ⟨_, rfl, shows0 hR rfl⟩
                · intro vs a w hR H hout hget hold
                  refine one_guard 1 true 24 rfl (by kernel_rfl) ((hget 1 24 (by kernel_rfl)).trans (congrArg some (H 1 (by decide)))) ?_
                  have e0 := (hget 11 34 (by kernel_rfl)).trans (congrArg some (H 11 (by decide)))
                  have e1 := (hget 10 33 (by kernel_rfl)).trans (congrArg some (H 10 (by decide)))
                  clear H hout hget hold
                  dsimp only [bare]
                  go_wp2
                  exact ⟨_, rfl, shows0 hR rfl⟩
                · intro vs a w hR H hout hget hold
                  refine one_guard 1 true 24 rfl (by kernel_rfl) ((hget 1 24 (by kernel_rfl)).trans (congrArg some (H 1 (by decide)))) ?_
                  have e0 := (hget 12 35 (by kernel_rfl)).trans (congrArg some (H 12 (by decide)))
                  have d0 := ce1 w hR
                  clear H hout hget hold
                  dsimp only [bare]
                  go_wp2
                  exact ⟨_, rfl, shows0 hR rfl⟩
                · intro vs a w hR H hout hget hold
                  refine one_guard 1 true 24 rfl (by kernel_rfl) ((hget 1 24 (by kernel_rfl)).trans (congrArg some (H 1 (by decide)))) ?_
                  have e0 := (hget 7 30 (by kernel_rfl)).trans (congrArg some (H 7 (by decide)))
                  have e1 := (hget 13 36 (by kernel_rfl)).trans (congrArg some (H 13 (by decide)))
                  have q := bits_same t k j
                  clear H hout hget hold
                  dsimp only [bare]
                  go_wp2
                  exact ⟨_, rfl, shows0 hR rfl⟩
                · intro vs a w hR H hout hget hold
                  refine one_free rfl ?_
                  have e0 := (hget 1 24 (by kernel_rfl)).trans (congrArg some (H 1 (by decide)))
                  have e1 := (hget 14 37 (by kernel_rfl)).trans (congrArg some (H 14 (by decide)))
                  clear H hout hget hold
                  dsimp only [bare]
                  go_wp2
                  exact ⟨_, rfl, shows0 hR rfl⟩
                · intro vs a w hR H hout hget hold
                  refine one_free rfl ?_
                  have e0 := (hget 15 38 (by kernel_rfl)).trans (congrArg some (H 15 (by decide)))
                  clear H hout hget hold
                  dsimp only [bare]
                  go_wp2
                  exact ⟨_, rfl, shows0 hR rfl⟩
              · intro vs wz hR H
                have e16 : vs 16 = .bool (t.testBit k == t.testBit j) := H 16 (by decide)
                have hBz := hBr.trans (hR.mono hBr.size)
                simp only [putAll, Act.put, List.setIfInBounds_toArray, List.set_cons_succ, List.set_cons_zero, Nat.zero_add, Nat.reduceAdd, e16]
                clear H hR e16 ce0 ce1
                go_wp2
                go_roundw
                case rel => exact ⟨r + 1, by omega, by go_num, by rw [hsn.out], hBz⟩
                case measure => simp [intOf]; omega
          · obtain rfl : r = ss.length := by omega
            rw [List.take_length]
            have hBx := hBj.trans (hBr.mono hBj.size)
            cases hab : sameB ss k j
            · have hne : j ≠ k := fun e => by rw [e, sameB_refl] at hab; cases hab
              have hmin' : Hid (∀ d, d < j + 1 → sameB ss k d = false) := fun d hd => by
                by_cases e : d = j
                · rw [e]; exact hab
                · exact hmin.out d (by omega)
              clear hab
              go_wp2
              go_roundw
              case rel => exact ⟨j + 1, by omega, by go_num, hmin', hBx⟩
              case measure => simp [intOf]; omega
            · have hre := rep_eq hj hab hmin.out
              clear hab
              have h0' := h0.laterB hBx
              have h1' := h1.laterB hBx
              have hB' := hB.trans (hBx.mono hB.size)
              have cc := (h1'.cell k).trans (part_get _ k hlt)
              have ff := h1'.frozen k
              have hset := Lib.hid (h1'.set k (.int .i64 ((rep ss k : Nat) : Int)))
              rw [part_set (fun c => ((rep ss c : Nat) : Int)) hlt, hre] at hset
              clear h1' hre
              go_wp2
              go_roundw
              case rel => exact ⟨k + 1, by omega, by go_num, h0'.other (by show _ ≠ w.heap.size + 1; omega) _, hset.out, hB'.setCell (by show _ ≤ w.heap.size + 1; omega) _⟩
              case measure => simp [intOf]; omega
    · obtain rfl : k = 256 := by omega
      rw [part_full] at h1
      go_wp2_with (first | with_reducible refine wp_load93 rfl _ rfl (w.heap.size + 1) rfl _ h1 ?_ | with_reducible refine wp_store93 rfl _ _ rfl w.heap.size rfl _ _ rfl h0 ?_)
      exact bodyPost_ret (v := .agg (A256 fun c => rep ss c)) (res93 rfl _ _ w.heap.size _ rfl (h0.setRow _)) rfl ⟨rfl, below_setRow hB (by omega) _⟩
end Go.Proofs.Ytojmkgllbhbeiaa
