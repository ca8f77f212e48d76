/-
  WALKS: tells; its first region, which makes and fills two arrays.
-/
import Derived.Test.YtojmkgllbhbeiaaRi
import Derived.Test.YtojmkgllbhbeiaaLn
import Derived.Test.YtojmkgllbhbeiaaIv
import Derived.Test.YtojmkgllbhbeiaaT0
import Derived.Test.YtojmkgllbhbeiaaO8
namespace Go.Proofs.Ytojmkgllbhbeiaa
open Go.RowKit

/-- What is done of 'x, y := Words(a), Words(b)'. -/
def TwoArr (s t : Nat) (W : World) (L : Nat → Bool) (vs : Nat → Value) (w : World) : Prop :=
  Below W.heap.size W w ∧ ((L 0 = true → vs 0 = setV s) ∧ (L 1 = true → vs 1 = refV s) ∧ (L 2 = true → vs 2 = setV t) ∧ (L 3 = true → vs 3 = refV t)) ∧
    (L 4 = true → ∃ b, vs 4 = .pointer (some ⟨b, 0, none⟩) ∧ W.heap.size ≤ b ∧ Blk w b (A256 (if L 6 = true then bitI s else fun _ => 0)) 94) ∧
    (L 5 = true → ∃ b, vs 5 = .pointer (some ⟨b, 0, none⟩) ∧ W.heap.size ≤ b ∧ Blk w b (A256 (if L 7 = true then bitI t else fun _ => 0)) 94) ∧ (L 4 = true → L 5 = true → vs 4 ≠ vs 5) ∧ (L 6 = true → L 4 = true) ∧ (L 7 = true → L 5 = true)

theorem TwoArr.value {s t : Nat} {W w w' : World} {L : Nat → Bool} {vs : Nat → Value} (h : TwoArr s t W L vs w) (hb : Below w.heap.size w w') (i : Nat) (v : Value)
    (hv : (i = 0 ∧ v = setV s) ∨ (i = 1 ∧ v = refV s) ∨ (i = 2 ∧ v = setV t) ∨ (i = 3 ∧ v = refV t)) : TwoArr s t W (done L i) (upd vs i v) w' := by
  obtain ⟨h1, ⟨a0, a1, a2, a3⟩, h4, h5, h6, h7⟩ := h
  have hb' := h1.trans (hb.mono h1.size)
  have k4 : L 4 = true → ∃ b, vs 4 = .pointer (some ⟨b, 0, none⟩) ∧ W.heap.size ≤ b ∧ Blk w' b (A256 (if L 6 = true then bitI s else fun _ => 0)) 94 := fun h => by
    obtain ⟨b, e, l, k⟩ := h4 h; exact ⟨b, e, l, k.laterB hb⟩
  have k5 : L 5 = true → ∃ b, vs 5 = .pointer (some ⟨b, 0, none⟩) ∧ W.heap.size ≤ b ∧ Blk w' b (A256 (if L 7 = true then bitI t else fun _ => 0)) 94 := fun h => by
    obtain ⟨b, e, l, k⟩ := h5 h; exact ⟨b, e, l, k.laterB hb⟩
  rcases hv with ⟨rfl, rfl⟩ | ⟨rfl, rfl⟩ | ⟨rfl, rfl⟩ | ⟨rfl, rfl⟩
  · exact ⟨hb', ⟨fun _ => rfl, a1, a2, a3⟩, k4, k5, h6, h7⟩
  · exact ⟨hb', ⟨a0, fun _ => rfl, a2, a3⟩, k4, k5, h6, h7⟩
  · exact ⟨hb', ⟨a0, a1, fun _ => rfl, a3⟩, k4, k5, h6, h7⟩
  · exact ⟨hb', ⟨a0, a1, a2, fun _ => rfl⟩, k4, k5, h6, h7⟩

theorem TwoArr.made4 {s t : Nat} {W w : World} {L : Nat → Bool} {vs : Nat → Value} (h : TwoArr s t W L vs w) (h44 : L 4 = false) :
    TwoArr s t W (done L 4) (upd vs 4 (.pointer (some ⟨w.heap.size, 0, none⟩))) (w.alloc (.cells (A256 fun _ => 0) 94)) := by
  obtain ⟨h1, ⟨a0, a1, a2, a3⟩, h4, h5, h6, h7⟩ := h
  have hb := below1 w (.cells (A256 fun _ => 0) 94)
  refine ⟨h1.trans (hb.mono h1.size), ⟨a0, a1, a2, a3⟩, fun _ => ⟨_, rfl, h1.size, ?_⟩, fun h => ?_, fun _ h => ?_, fun _ => rfl, h7.2⟩
  · show Blk _ _ (A256 (if L 6 = true then bitI s else fun _ => 0)) 94
    have h64 : L 6 = false := by
      cases hq : L 6 with
      | false => rfl
      | true => have := h7.1 hq; rw [h44] at this; cases this
    rw [h64]; exact blkOf1 w _ _
  · obtain ⟨b, e, l, k⟩ := h5 h; exact ⟨b, e, l, k.laterB hb⟩
  · obtain ⟨b, e, l, k⟩ := h5 h
    show (Value.pointer (some ⟨w.heap.size, 0, none⟩)) ≠ vs 5
    rw [e]
    intro he
    have hlt := k.lt
    injection he with he; injection he with he; injection he with he
    omega
theorem TwoArr.made5 {s t : Nat} {W w : World} {L : Nat → Bool} {vs : Nat → Value} (h : TwoArr s t W L vs w) (h55 : L 5 = false) :
    TwoArr s t W (done L 5) (upd vs 5 (.pointer (some ⟨w.heap.size, 0, none⟩))) (w.alloc (.cells (A256 fun _ => 0) 94)) := by
  obtain ⟨h1, ⟨a0, a1, a2, a3⟩, h4, h5, h6, h7⟩ := h
  have hb := below1 w (.cells (A256 fun _ => 0) 94)
  refine ⟨h1.trans (hb.mono h1.size), ⟨a0, a1, a2, a3⟩, fun h => ?_, fun _ => ⟨_, rfl, h1.size, ?_⟩, fun h _ => ?_, h7.1, fun _ => rfl⟩
  · obtain ⟨b, e, l, k⟩ := h4 h; exact ⟨b, e, l, k.laterB hb⟩
  · show Blk _ _ (A256 (if L 7 = true then bitI t else fun _ => 0)) 94
    have h75 : L 7 = false := by
      cases hq : L 7 with
      | false => rfl
      | true => have := h7.2 hq; rw [h55] at this; cases this
    rw [h75]; exact blkOf1 w _ _
  · obtain ⟨b, e, l, k⟩ := h4 h
    show vs 4 ≠ (Value.pointer (some ⟨w.heap.size, 0, none⟩))
    rw [e]
    intro he
    have hlt := k.lt
    injection he with he; injection he with he; injection he with he
    omega
theorem TwoArr.put6 {s t b : Nat} {W w : World} {L : Nat → Bool} {vs : Nat → Value} (h : TwoArr s t W L vs w) (h4' : L 4 = true) (h5' : L 5 = true) (hv : vs 4 = .pointer (some ⟨b, 0, none⟩)) (v : Value) :
    TwoArr s t W (done L 6) (upd vs 6 v) (w.setRow b (A256 (bitI s))) := by
  obtain ⟨h1, ⟨a0, a1, a2, a3⟩, h4, h5, h6, h7⟩ := h
  obtain ⟨b4, e4, l4, k4⟩ := h4 h4'
  obtain ⟨b5, e5, l5, k5⟩ := h5 h5'
  have hne := h6 h4' h5'
  rw [hv] at e4
  obtain rfl : b = b4 := by injection e4 with e4; injection e4 with e4; injection e4
  refine ⟨below_setRow h1 l4 _, ⟨a0, a1, a2, a3⟩, fun _ => ⟨b, hv, l4, k4.setRow _⟩, fun _ => ⟨b5, e5, l5, k5.otherRow (fun e => hne (by rw [hv, e5, e])) _⟩, fun _ _ => hne, fun _ => h4', h7.2⟩
theorem TwoArr.put7 {s t b : Nat} {W w : World} {L : Nat → Bool} {vs : Nat → Value} (h : TwoArr s t W L vs w) (h4' : L 4 = true) (h5' : L 5 = true) (hv : vs 5 = .pointer (some ⟨b, 0, none⟩)) (v : Value) :
    TwoArr s t W (done L 7) (upd vs 7 v) (w.setRow b (A256 (bitI t))) := by
  obtain ⟨h1, ⟨a0, a1, a2, a3⟩, h4, h5, h6, h7⟩ := h
  obtain ⟨b4, e4, l4, k4⟩ := h4 h4'
  obtain ⟨b5, e5, l5, k5⟩ := h5 h5'
  have hne := h6 h4' h5'
  rw [hv] at e5
  obtain rfl : b = b5 := by injection e5 with e5; injection e5 with e5; injection e5
  refine ⟨below_setRow h1 l5 _, ⟨a0, a1, a2, a3⟩, fun _ => ⟨b4, e4, l4, k4.otherRow (fun e => hne (by rw [hv, e4, e])) _⟩, fun _ => ⟨b, hv, l5, k5.setRow _⟩, fun _ _ => hne, h7.1, fun _ => h5'⟩
theorem TwoArr.loc {s t : Nat} {W w : World} {L L' : Nat → Bool} {vs : Nat → Value} (hL : ∀ k, k < 8 → L k = L' k) (h : TwoArr s t W L vs w) : TwoArr s t W L' vs w := by
  obtain ⟨h1, ⟨a0, a1, a2, a3⟩, h4, h5, h6, h7⟩ := h
  rw [hL _ (by decide)] at a0 a1 a2 a3
  rw [hL 4 (by decide), hL 6 (by decide)] at h4
  rw [hL 5 (by decide), hL 7 (by decide)] at h5
  rw [hL 4 (by decide), hL 5 (by decide)] at h6
  rw [hL 4 (by decide), hL 5 (by decide), hL 6 (by decide), hL 7 (by decide)] at h7
  exact ⟨h1, ⟨a0, a1, a2, a3⟩, h4, h5, h6, h7⟩

set_option maxRecDepth 100000 in
set_option maxHeartbeats 4000000 in
theorem tells_any (s t c d : Nat) (hs : s < 2 ^ 256) (ht : t < 2 ^ 256) (hc : c < 256) (hd : d < 256) (w : World) : Calls Try.prog 23 #[setV s, setV t, .int .u8 c, .int .u8 d] w fun e w' => e = .returned (.bool true) ∧ Below w.heap.size w w' := by
  have hz := zero94
  unfold setV
  go_enter Try.func23, Try.ntmps23
  go_wp2
  obtain ⟨W, hW, b4, b5, hB⟩ : ∃ W, W = (w.alloc (.cells (setA s) 24)).alloc (.cells (setA t) 24) ∧ Blk W w.heap.size (setA s) 24 ∧ Blk W (w.heap.size + 1) (setA t) 24 ∧ Below w.heap.size w W :=
    ⟨_, rfl, (blkOf1 w _ _).alloc _, blkOf2 w _ _ _, below2 w _ _⟩
  rw [← hW]
  clear hW
  refine wp_region_inv 254 (TwoArr s t W) mixed rfl (by kernel_rfl) (fun L L' vs w h => TwoArr.loc h) (fun L vs h _ => ?_) ?_ ?_
  · have hf : ∀ k, k < 8 → L k = false := h
    refine ⟨(gr_grown W 1 #[]).below, ⟨fun e => ?_, fun e => ?_, fun e => ?_, fun e => ?_⟩, fun e => ?_, fun e => ?_, fun e => ?_, fun e => ?_, fun e => ?_⟩ <;> exact absurd (e.symm.trans (hf _ (by decide))) (by decide)
  · have c4 := fun w (h : Below W.heap.size W w) => b4.laterB h
    have c5 := fun w (h : Below W.heap.size W w) => b5.laterB h
    clear b4 b5
    refine ⟨?_, ?_, ?_, ?_, ?_, ?_, ?_, ?_, trivial⟩
    · intro L vs a w hL hp hI hout hget
      refine one_free rfl ?_
      have e0 := hout 4 (by kernel_rfl)
      obtain ⟨c0, c1, c2, c3, _⟩ := (show Blk w _ #[_, _, _, _] 24 from c4 w hI.1).four
      clear hL hp hout hget
      dsimp only [bare]
      go_wp2
      exact ⟨_, rfl, hI.value (Below.refl _ _) 0 _ (.inl ⟨rfl, rfl⟩)⟩
    · intro L vs a w hL hp hI hout hget
      refine one_free rfl ?_
      have e0 := (hget 0 23 (by kernel_rfl)).trans (congrArg some (hI.2.1.1 (hp 0 (by decide))))
      clear hL hp hout hget
      dsimp only [bare]
      go_wp2_with fail
      refine (words_any s w).mono ?_
      rintro e w1 ⟨rfl, hb⟩
      go_wp2
      exact ⟨_, rfl, hI.value hb.below 1 _ (.inr (.inl ⟨rfl, rfl⟩))⟩
    · intro L vs a w hL hp hI hout hget
      refine one_free rfl ?_
      have e0 := hout 5 (by kernel_rfl)
      obtain ⟨c0, c1, c2, c3, _⟩ := (show Blk w _ #[_, _, _, _] 24 from c5 w hI.1).four
      clear hL hp hout hget
      dsimp only [bare]
      go_wp2
      exact ⟨_, rfl, hI.value (Below.refl _ _) 2 _ (.inr (.inr (.inl ⟨rfl, rfl⟩)))⟩
    · intro L vs a w hL hp hI hout hget
      refine one_free rfl ?_
      have e0 := (hget 2 25 (by kernel_rfl)).trans (congrArg some (hI.2.1.2.2.1 (hp 2 (by decide))))
      clear hL hp hout hget
      dsimp only [bare]
      go_wp2_with fail
      refine (words_any t w).mono ?_
      rintro e w1 ⟨rfl, hb⟩
      go_wp2
      exact ⟨_, rfl, hI.value hb.below 3 _ (.inr (.inr (.inr ⟨rfl, rfl⟩)))⟩
    · intro L vs a w hL hp hI hout hget
      refine one_free rfl ?_
      clear hp hout hget
      dsimp only [bare]
      go_wp2
      exact ⟨_, rfl, hI.made4 hL⟩
    · intro L vs a w hL hp hI hout hget
      refine one_free rfl ?_
      clear hp hout hget
      dsimp only [bare]
      go_wp2
      exact ⟨_, rfl, hI.made5 hL⟩
    · intro L vs a w hL hp hI hout hget
      refine one_free rfl ?_
      obtain ⟨b, hv, _, k⟩ := hI.2.2.1 (hp 4 (by decide))
      have e0 := (hget 4 9 (by kernel_rfl)).trans (congrArg some hv)
      have e1 := (hget 1 24 (by kernel_rfl)).trans (congrArg some (hI.2.1.2.1 (hp 1 (by decide))))
      have hI' := hI.put6 (hp 4 (by decide)) (hp 5 (by decide)) hv
      clear hout hget
      dsimp only [bare]
      refine wp_store94 rfl _ _ rfl b (eval_tmp e0) (bitI s) _ (eval_tmp e1) k ?_
      exact ⟨_, rfl, hI' _⟩
    · intro L vs a w hL hp hI hout hget
      refine one_free rfl ?_
      obtain ⟨b, hv, _, k⟩ := hI.2.2.2.1 (hp 5 (by decide))
      have e0 := (hget 5 10 (by kernel_rfl)).trans (congrArg some hv)
      have e1 := (hget 3 26 (by kernel_rfl)).trans (congrArg some (hI.2.1.2.2.2 (hp 3 (by decide))))
      have hI' := hI.put7 (hp 4 (by decide)) (hp 5 (by decide)) hv
      clear hout hget
      dsimp only [bare]
      refine wp_store94 rfl _ _ rfl b (eval_tmp e0) (bitI t) _ (eval_tmp e1) k ?_
      exact ⟨_, rfl, hI' _⟩
  · intro L vs w2 hL hI
    obtain ⟨hR, ⟨e0, e1, e2, e3⟩, h4, h5, hne, _⟩ := hI
    replace e0 := e0 (hL 0 (by decide))
    replace e1 := e1 (hL 1 (by decide))
    replace e2 := e2 (hL 2 (by decide))
    replace e3 := e3 (hL 3 (by decide))
    obtain ⟨b9, e4, l9, k9⟩ := h4 (hL 4 (by decide))
    obtain ⟨b10, e5, l10, k10⟩ := h5 (hL 5 (by decide))
    rw [hL 6 (by decide), if_pos rfl] at k9
    rw [hL 7 (by decide), if_pos rfl] at k10
    simp only [putAll, Act.put, List.setIfInBounds_toArray, List.set_cons_succ, List.set_cons_zero, Nat.zero_add, Nat.reduceAdd, e0, e1, e2, e3, e4, e5]
    replace b4 := b4.laterB hR
    replace b5 := b5.laterB hR
    replace hB := hB.trans (hR.mono hB.size)
    clear e0 e1 e2 e3 e4 e5 h4 h5 hne l9 l10 hR hL
    generalize setV s = z0
    generalize refV s = z1
    generalize setV t = z2
    generalize refV t = z3
    go_wp2
    go_loopw [27] (fun i wr => ∃ k : Nat, k ≤ 256 ∧ i = .int .i64 k ∧ Below w2.heap.size w2 wr ∧ Blk wr w2.heap.size (part (fun _ => 1) k) 94) (fun i _ => 256 - (intOf i).toNat)
    case atStart => exact ⟨0, by omega, rfl, below1 w2 _, by rw [part_zero]; exact blkOf1 w2 _ _⟩
    case round =>
      obtain ⟨k, hk, rfl, hBk, hb⟩ := hrel
      by_cases hlt : k < 256
      · have c2 := (hb.cell k).trans (part_get _ k hlt)
        have f2 := hb.frozen k
        have hst := Lib.hid (part_set (fun _ => 1) hlt)
        have hb' := Lib.hid hb
        clear hb
        go_upto_if 28 with (fail)
        rw [show decide ((k : Int) < 256) = true from decide_eq_true (by omega)]
        refine wp_cond_true rfl ?_
        refine wp_skip ?_
        rename_i ha
        refine ha _ _ ?_
        clear ha
        go_upto_region 6 with (fail)
        go_upto_region 7 with (fail)
        go_wp2
        go_roundw
        case rel => exact ⟨k + 1, by omega, by go_num, hBk.setCell (Nat.le_refl _) _, by rw [← hst.out]; exact hb'.out.set k _⟩
        case measure => simp [intOf]; omega
      · obtain rfl : k = 256 := by omega
        rw [part_full] at hb
        go_upto_if 28 with (fail)
        refine wp_cond_false rfl ?_
        rename_i ha
        clear ha
        have k11 : Blk wr w2.heap.size (A256 (bitI Sx.full)) 94 := by
          rw [A256_congr (f := bitI Sx.full) (g := fun _ => 1) fun c hc => by simp [bitI, Sx.tb_full, hc]]; exact hb
        clear hb
        replace b4 := b4.laterB hBk
        replace b5 := b5.laterB hBk
        replace k9 := k9.laterB hBk
        replace k10 := k10.laterB hBk
        replace hB := hB.trans (hBk.mono hB.size)
        clear hBk hz hk hlt
        generalize w2.heap.size = b11 at k11
        have hl3 : ∀ x ∈ [c, d, c], x < 256 := by simpa using ⟨hc, hd, hc⟩
        have hl2 : ∀ x ∈ [c, d], x < 256 := by simpa using ⟨hc, hd⟩
        go_wp2_with fail
        refine wp_region_facts 254 [.eq (.int .u8 c), .eq (.int .u8 d), .eq (.int .u8 c), .sl 1 3 ([c, d, c].map byteV), .eq (setV (Sx.ofL [c, d, c])), .eq (.int .u8 c), .eq (.int .u8 d), .sl 1 2 ([c, d].map byteV), .eq (refV (Sx.ofL [c, d])), .eq (.bool true), .eq (.bool false), .eq (.bool false), .eq (.int .u8 c), .eq (.int .u8 d), .eq (setV (Sx.range c d)), .eq (.int .u8 c), .eq (.int .u8 d), .eq (refV (Sx.range c d)), .eq (.bool true), .eq (.bool false), .eq (.bool false), .eq (.bool false), .eq (setV Sx.full), .eq (refV Sx.full), .eq (.bool true), .eq (.bool false), .eq (.bool false), .eq (.bool false), .eq (setV s), .eq (.int .u8 c), .eq (.bool (s.testBit c)), .eq (.int .u8 c), .eq (.pointer (some ⟨b9, c, none⟩)), .eq (.int .i64 (bitI s c)), .eq (.bool (s.testBit c)), .eq (.bool false), .eq (.bool false), .eq (.bool false), .eq (setV s), .eq (.int .i64 ((elems s).length)), .eq (refV s), .eq (.int .i64 ((elems s).length)), .eq (.bool false), .eq (.bool false), .eq (.bool false), .eq (setV s), .eq (setV t), .eq (setV (Sx.or s t)), .eq (refV s), .eq (refV t), .eq (refV (Sx.or s t)), .eq (.bool true), .eq (.bool false), .eq (.bool false), .eq (.bool false), .eq (setV s), .eq (setV t), .eq (setV (Sx.and s t)), .eq (refV s), .eq (refV t), .eq (refV (Sx.and s t)), .eq (.bool true), .eq (.bool false), .eq (.bool false), .eq (.bool false), .eq (setV s), .eq (setV t), .eq (setV (Sx.less s t)), .eq (refV s), .eq (refV t), .eq (refV (Sx.less s t)), .eq (.bool true), .eq (.bool false), .eq (.bool false), .eq (.bool false), .eq (setV s), .eq (setV (Sx.not s)), .eq (refV Sx.full), .eq (refV s), .eq (refV (Sx.less Sx.full s)), .eq (.bool true), .eq (.bool false), .eq (.bool false)] mixed rfl (by kernel_rfl) ?_ ?_
        · refine ⟨?_, ?_, ?_, ?_, ?_, ?_, ?_, ?_, ?_, ?_, ?_, ?_, ?_, ?_, ?_, ?_, ?_, ?_, ?_, ?_, ?_, ?_, ?_, ?_, ?_, ?_, ?_, ?_, ?_, ?_, ?_, ?_, ?_, ?_, ?_, ?_, ?_, ?_, ?_, ?_, ?_, ?_, ?_, ?_, ?_, ?_, ?_, ?_, ?_, ?_, ?_, ?_, ?_, ?_, ?_, ?_, ?_, ?_, ?_, ?_, ?_, ?_, ?_, ?_, ?_, ?_, ?_, ?_, ?_, ?_, ?_, ?_, ?_, ?_, ?_, ?_, ?_, ?_, ?_, ?_, ?_, ?_, ?_, trivial⟩
          · intro vs a w hR H hin hout hget
            refine one_free rfl ?_
            have e0 := hout 2 (by kernel_rfl)
            clear H hin hout hget
            dsimp only [bare]
            go_wp2
            exact ⟨_, rfl, shows0 hR rfl⟩
          · intro vs a w hR H hin hout hget
            refine one_free rfl ?_
            have e0 := hout 3 (by kernel_rfl)
            clear H hin hout hget
            dsimp only [bare]
            go_wp2
            exact ⟨_, rfl, shows0 hR rfl⟩
          · intro vs a w hR H hin hout hget
            refine one_free rfl ?_
            have e0 := hout 2 (by kernel_rfl)
            clear H hin hout hget
            dsimp only [bare]
            go_wp2
            exact ⟨_, rfl, shows0 hR rfl⟩
          · intro vs a w hR H hin hout hget
            refine one_free rfl ?_
            have e0 := (hget 0 33 (by kernel_rfl)).trans (congrArg some (H 0 (by decide)))
            have e1 := (hget 1 34 (by kernel_rfl)).trans (congrArg some (H 1 (by decide)))
            have e2 := (hget 2 35 (by kernel_rfl)).trans (congrArg some (H 2 (by decide)))
            clear H hin hout hget
            dsimp only [bare]
            go_wp2
            exact ⟨_, rfl, shows hR (below1 w _) (slN_new w _ _ _ _ _ rfl)⟩
          · intro vs a w hR H hin hout hget
            refine one_free rfl ?_
            obtain ⟨b0, o0, cap0, h0, lt0, c0⟩ := H 3 (by decide)
            have e0 := (hget 3 36 (by kernel_rfl)).trans (congrArg some h0)
            clear H hin hout hget
            dsimp only [bare]
            go_wp2_with fail
            refine (of_any _ [c, d, c] hl3 w ⟨rfl, .inr ⟨_, _, _, rfl, lt0, c0⟩⟩ (show 3 ≤ maxLen by decide)).mono ?_
            rintro e w1 ⟨rfl, hb⟩
            go_wp2
            exact ⟨_, rfl, shows hR hb.below rfl⟩
          · intro vs a w hR H hin hout hget
            refine one_free rfl ?_
            have e0 := hout 2 (by kernel_rfl)
            clear H hin hout hget
            dsimp only [bare]
            go_wp2
            exact ⟨_, rfl, shows0 hR rfl⟩
          · intro vs a w hR H hin hout hget
            refine one_free rfl ?_
            have e0 := hout 3 (by kernel_rfl)
            clear H hin hout hget
            dsimp only [bare]
            go_wp2
            exact ⟨_, rfl, shows0 hR rfl⟩
          · intro vs a w hR H hin hout hget
            refine one_free rfl ?_
            have e0 := (hget 5 38 (by kernel_rfl)).trans (congrArg some (H 5 (by decide)))
            have e1 := (hget 6 39 (by kernel_rfl)).trans (congrArg some (H 6 (by decide)))
            clear H hin hout hget
            dsimp only [bare]
            go_wp2
            exact ⟨_, rfl, shows hR (below1 w _) (slN_new w _ _ _ _ _ rfl)⟩
          · intro vs a w hR H hin hout hget
            refine one_free rfl ?_
            obtain ⟨b0, o0, cap0, h0, lt0, c0⟩ := H 7 (by decide)
            have e0 := (hget 7 40 (by kernel_rfl)).trans (congrArg some h0)
            clear H hin hout hget
            dsimp only [bare]
            go_wp2_with fail
            refine (refOf_any _ [c, d] hl2 w ⟨rfl, .inr ⟨_, _, _, rfl, lt0, c0⟩⟩ (show 2 ≤ maxLen by decide)).mono ?_
            rintro e w1 ⟨rfl, hb⟩
            go_wp2
            exact ⟨_, rfl, shows hR hb.below rfl⟩
          · intro vs a w hR H hin hout hget
            refine one_free rfl ?_
            have e0 := (hget 4 37 (by kernel_rfl)).trans (congrArg some (H 4 (by decide)))
            have e1 := (hget 8 41 (by kernel_rfl)).trans (congrArg some (H 8 (by decide)))
            clear H hin hout hget
            dsimp only [bare]
            go_wp2_with fail
            refine (is_same (of3 c d) (Sx.ofL_lt _ hl3) w).mono ?_
            rintro e w1 ⟨rfl, hb⟩
            go_wp2
            exact ⟨_, rfl, shows hR hb rfl⟩
          · intro vs a w hR H hin hout hget
            refine one_free rfl ?_
            have e0 := (hget 9 42 (by kernel_rfl)).trans (congrArg some (H 9 (by decide)))
            clear H hin hout hget
            dsimp only [bare]
            go_wp2
            exact ⟨_, rfl, shows0 hR rfl⟩
          · intro vs a w hR H hin hout hget
            refine one_free rfl ?_
            have e0 := (hget 10 43 (by kernel_rfl)).trans (congrArg some (H 10 (by decide)))
            clear H hin hout hget
            dsimp only [bare]
            go_wp2
            exact ⟨_, rfl, shows0 hR rfl⟩
          · intro vs a w hR H hin hout hget
            refine one_guard 11 false 44 rfl (by kernel_rfl) ((hget 11 44 (by kernel_rfl)).trans (congrArg some (H 11 (by decide)))) ?_
            have e0 := hout 2 (by kernel_rfl)
            clear H hin hout hget
            dsimp only [bare]
            go_wp2
            exact ⟨_, rfl, shows0 hR rfl⟩
          · intro vs a w hR H hin hout hget
            refine one_guard 11 false 44 rfl (by kernel_rfl) ((hget 11 44 (by kernel_rfl)).trans (congrArg some (H 11 (by decide)))) ?_
            have e0 := hout 3 (by kernel_rfl)
            clear H hin hout hget
            dsimp only [bare]
            go_wp2
            exact ⟨_, rfl, shows0 hR rfl⟩
          · intro vs a w hR H hin hout hget
            refine one_guard 11 false 44 rfl (by kernel_rfl) ((hget 11 44 (by kernel_rfl)).trans (congrArg some (H 11 (by decide)))) ?_
            have e0 := (hget 12 45 (by kernel_rfl)).trans (congrArg some (H 12 (by decide)))
            have e1 := (hget 13 46 (by kernel_rfl)).trans (congrArg some (H 13 (by decide)))
            clear H hin hout hget
            dsimp only [bare]
            go_wp2_with fail
            refine (range_any c d hc hd w).mono ?_
            rintro e w1 ⟨rfl, hb⟩
            go_wp2
            exact ⟨_, rfl, shows hR hb.below rfl⟩
          · intro vs a w hR H hin hout hget
            refine one_guard 11 false 44 rfl (by kernel_rfl) ((hget 11 44 (by kernel_rfl)).trans (congrArg some (H 11 (by decide)))) ?_
            have e0 := hout 2 (by kernel_rfl)
            clear H hin hout hget
            dsimp only [bare]
            go_wp2
            exact ⟨_, rfl, shows0 hR rfl⟩
          · intro vs a w hR H hin hout hget
            refine one_guard 11 false 44 rfl (by kernel_rfl) ((hget 11 44 (by kernel_rfl)).trans (congrArg some (H 11 (by decide)))) ?_
            have e0 := hout 3 (by kernel_rfl)
            clear H hin hout hget
            dsimp only [bare]
            go_wp2
            exact ⟨_, rfl, shows0 hR rfl⟩
          · intro vs a w hR H hin hout hget
            refine one_guard 11 false 44 rfl (by kernel_rfl) ((hget 11 44 (by kernel_rfl)).trans (congrArg some (H 11 (by decide)))) ?_
            have e0 := (hget 15 48 (by kernel_rfl)).trans (congrArg some (H 15 (by decide)))
            have e1 := (hget 16 49 (by kernel_rfl)).trans (congrArg some (H 16 (by decide)))
            clear H hin hout hget
            dsimp only [bare]
            go_wp2_with fail
            refine (refRange_any c d hc hd w).mono ?_
            rintro e w1 ⟨rfl, hb⟩
            go_wp2
            exact ⟨_, rfl, shows hR hb.below rfl⟩
          · intro vs a w hR H hin hout hget
            refine one_guard 11 false 44 rfl (by kernel_rfl) ((hget 11 44 (by kernel_rfl)).trans (congrArg some (H 11 (by decide)))) ?_
            have e0 := (hget 14 47 (by kernel_rfl)).trans (congrArg some (H 14 (by decide)))
            have e1 := (hget 17 50 (by kernel_rfl)).trans (congrArg some (H 17 (by decide)))
            clear H hin hout hget
            dsimp only [bare]
            go_wp2_with fail
            refine (is_same rfl (Sx.range_lt hd) w).mono ?_
            rintro e w1 ⟨rfl, hb⟩
            go_wp2
            exact ⟨_, rfl, shows hR hb rfl⟩
          · intro vs a w hR H hin hout hget
            refine one_guard 11 false 44 rfl (by kernel_rfl) ((hget 11 44 (by kernel_rfl)).trans (congrArg some (H 11 (by decide)))) ?_
            have e0 := (hget 18 51 (by kernel_rfl)).trans (congrArg some (H 18 (by decide)))
            clear H hin hout hget
            dsimp only [bare]
            go_wp2
            exact ⟨_, rfl, shows0 hR rfl⟩
          · intro vs a w hR H hin hout hget
            refine one_free rfl ?_
            have e0 := (hget 11 44 (by kernel_rfl)).trans (congrArg some (H 11 (by decide)))
            have e1 := (hget 19 52 (by kernel_rfl)).trans (congrArg some (H 19 (by decide)))
            clear H hin hout hget
            dsimp only [bare]
            go_wp2
            exact ⟨_, rfl, shows0 hR rfl⟩
          · intro vs a w hR H hin hout hget
            refine one_free rfl ?_
            have e0 := (hget 20 53 (by kernel_rfl)).trans (congrArg some (H 20 (by decide)))
            clear H hin hout hget
            dsimp only [bare]
            go_wp2
            exact ⟨_, rfl, shows0 hR rfl⟩
          · intro vs a w hR H hin hout hget
            refine one_guard 21 false 54 rfl (by kernel_rfl) ((hget 21 54 (by kernel_rfl)).trans (congrArg some (H 21 (by decide)))) ?_
            clear H hin hout hget
            dsimp only [bare]
            go_wp2_with fail
            refine (all_any w).mono ?_
            rintro e w1 ⟨rfl, hb⟩
            go_wp2
            exact ⟨_, rfl, shows hR hb.below rfl⟩
          · intro vs a w hR H hin hout hget
            refine one_guard 21 false 54 rfl (by kernel_rfl) ((hget 21 54 (by kernel_rfl)).trans (congrArg some (H 21 (by decide)))) ?_
            have e0 := hout 11 (by kernel_rfl)
            clear H hin hout hget
            dsimp only [bare]
            refine wp_load94 rfl _ rfl _ (eval_far e0) _ (k11.laterB hR) ?_
            exact ⟨_, rfl, shows0 hR rfl⟩
          · intro vs a w hR H hin hout hget
            refine one_guard 21 false 54 rfl (by kernel_rfl) ((hget 21 54 (by kernel_rfl)).trans (congrArg some (H 21 (by decide)))) ?_
            have e0 := (hget 22 55 (by kernel_rfl)).trans (congrArg some (H 22 (by decide)))
            have e1 := (hget 23 56 (by kernel_rfl)).trans (congrArg some (H 23 (by decide)))
            clear H hin hout hget
            dsimp only [bare]
            go_wp2_with fail
            refine (is_same rfl Sx.full_lt w).mono ?_
            rintro e w1 ⟨rfl, hb⟩
            go_wp2
            exact ⟨_, rfl, shows hR hb rfl⟩
          · intro vs a w hR H hin hout hget
            refine one_guard 21 false 54 rfl (by kernel_rfl) ((hget 21 54 (by kernel_rfl)).trans (congrArg some (H 21 (by decide)))) ?_
            have e0 := (hget 24 57 (by kernel_rfl)).trans (congrArg some (H 24 (by decide)))
            clear H hin hout hget
            dsimp only [bare]
            go_wp2
            exact ⟨_, rfl, shows0 hR rfl⟩
          · intro vs a w hR H hin hout hget
            refine one_free rfl ?_
            have e0 := (hget 21 54 (by kernel_rfl)).trans (congrArg some (H 21 (by decide)))
            have e1 := (hget 25 58 (by kernel_rfl)).trans (congrArg some (H 25 (by decide)))
            clear H hin hout hget
            dsimp only [bare]
            go_wp2
            exact ⟨_, rfl, shows0 hR rfl⟩
          · intro vs a w hR H hin hout hget
            refine one_free rfl ?_
            have e0 := (hget 26 59 (by kernel_rfl)).trans (congrArg some (H 26 (by decide)))
            clear H hin hout hget
            dsimp only [bare]
            go_wp2
            exact ⟨_, rfl, shows0 hR rfl⟩
          · intro vs a w hR H hin hout hget
            refine one_guard 27 false 60 rfl (by kernel_rfl) ((hget 27 60 (by kernel_rfl)).trans (congrArg some (H 27 (by decide)))) ?_
            have e0 := hout 4 (by kernel_rfl)
            obtain ⟨c0, c1, c2, c3, _⟩ := (show Blk w _ #[_, _, _, _] 24 from b4.laterB hR).four
            clear H hin hout hget
            dsimp only [bare]
            go_wp2
            exact ⟨_, rfl, shows0 hR rfl⟩
          · intro vs a w hR H hin hout hget
            refine one_guard 27 false 60 rfl (by kernel_rfl) ((hget 27 60 (by kernel_rfl)).trans (congrArg some (H 27 (by decide)))) ?_
            have e0 := hout 2 (by kernel_rfl)
            clear H hin hout hget
            dsimp only [bare]
            go_wp2
            exact ⟨_, rfl, shows0 hR rfl⟩
          · intro vs a w hR H hin hout hget
            refine one_guard 27 false 60 rfl (by kernel_rfl) ((hget 27 60 (by kernel_rfl)).trans (congrArg some (H 27 (by decide)))) ?_
            have e0 := (hget 28 61 (by kernel_rfl)).trans (congrArg some (H 28 (by decide)))
            have e1 := (hget 29 62 (by kernel_rfl)).trans (congrArg some (H 29 (by decide)))
            clear H hin hout hget
            dsimp only [bare]
            go_wp2_with fail
            refine (has_any s c hc w).mono ?_
            rintro e w1 ⟨rfl, hb⟩
            go_wp2
            exact ⟨_, rfl, shows hR hb.below rfl⟩
          · intro vs a w hR H hin hout hget
            refine one_guard 27 false 60 rfl (by kernel_rfl) ((hget 27 60 (by kernel_rfl)).trans (congrArg some (H 27 (by decide)))) ?_
            have e0 := hout 2 (by kernel_rfl)
            clear H hin hout hget
            dsimp only [bare]
            go_wp2
            exact ⟨_, rfl, shows0 hR rfl⟩
          · intro vs a w hR H hin hout hget
            refine one_guard 27 false 60 rfl (by kernel_rfl) ((hget 27 60 (by kernel_rfl)).trans (congrArg some (H 27 (by decide)))) ?_
            have e0 := hout 9 (by kernel_rfl)
            have e1 := (hget 31 64 (by kernel_rfl)).trans (congrArg some (H 31 (by decide)))
            clear H hin hout hget
            dsimp only [bare]
            go_wp2
            exact ⟨_, rfl, shows0 hR rfl⟩
          · intro vs a w hR H hin hout hget
            refine one_guard 27 false 60 rfl (by kernel_rfl) ((hget 27 60 (by kernel_rfl)).trans (congrArg some (H 27 (by decide)))) ?_
            have e0 := (hget 32 65 (by kernel_rfl)).trans (congrArg some (H 32 (by decide)))
            have d0 := ((k9.laterB hR).cell c).trans (refA_get s hc)
            clear H hin hout hget
            dsimp only [bare]
            go_wp2
            exact ⟨_, rfl, shows0 hR rfl⟩
          · intro vs a w hR H hin hout hget
            refine one_guard 27 false 60 rfl (by kernel_rfl) ((hget 27 60 (by kernel_rfl)).trans (congrArg some (H 27 (by decide)))) ?_
            have e0 := (hget 33 66 (by kernel_rfl)).trans (congrArg some (H 33 (by decide)))
            have q := bitI_one s c
            clear H hin hout hget
            dsimp only [bare]
            go_wp2
            exact ⟨_, rfl, shows0 hR rfl⟩
          · intro vs a w hR H hin hout hget
            refine one_guard 27 false 60 rfl (by kernel_rfl) ((hget 27 60 (by kernel_rfl)).trans (congrArg some (H 27 (by decide)))) ?_
            have e0 := (hget 30 63 (by kernel_rfl)).trans (congrArg some (H 30 (by decide)))
            have e1 := (hget 34 67 (by kernel_rfl)).trans (congrArg some (H 34 (by decide)))
            clear H hin hout hget
            dsimp only [bare]
            go_wp2
            exact ⟨_, rfl, shows0 hR rfl⟩
          · intro vs a w hR H hin hout hget
            refine one_free rfl ?_
            have e0 := (hget 27 60 (by kernel_rfl)).trans (congrArg some (H 27 (by decide)))
            have e1 := (hget 35 68 (by kernel_rfl)).trans (congrArg some (H 35 (by decide)))
            clear H hin hout hget
            dsimp only [bare]
            go_wp2
            exact ⟨_, rfl, shows0 hR rfl⟩
          · intro vs a w hR H hin hout hget
            refine one_free rfl ?_
            have e0 := (hget 36 69 (by kernel_rfl)).trans (congrArg some (H 36 (by decide)))
            clear H hin hout hget
            dsimp only [bare]
            go_wp2
            exact ⟨_, rfl, shows0 hR rfl⟩
          · intro vs a w hR H hin hout hget
            refine one_guard 37 false 70 rfl (by kernel_rfl) ((hget 37 70 (by kernel_rfl)).trans (congrArg some (H 37 (by decide)))) ?_
            have e0 := hout 4 (by kernel_rfl)
            obtain ⟨c0, c1, c2, c3, _⟩ := (show Blk w _ #[_, _, _, _] 24 from b4.laterB hR).four
            clear H hin hout hget
            dsimp only [bare]
            go_wp2
            exact ⟨_, rfl, shows0 hR rfl⟩
          · intro vs a w hR H hin hout hget
            refine one_guard 37 false 70 rfl (by kernel_rfl) ((hget 37 70 (by kernel_rfl)).trans (congrArg some (H 37 (by decide)))) ?_
            have e0 := (hget 38 71 (by kernel_rfl)).trans (congrArg some (H 38 (by decide)))
            clear H hin hout hget
            dsimp only [bare]
            go_wp2_with fail
            refine (size_any _ w).mono ?_
            rintro e w1 ⟨rfl, hb⟩
            go_wp2
            exact ⟨_, rfl, shows hR hb.below rfl⟩
          · intro vs a w hR H hin hout hget
            refine one_guard 37 false 70 rfl (by kernel_rfl) ((hget 37 70 (by kernel_rfl)).trans (congrArg some (H 37 (by decide)))) ?_
            have e0 := hout 9 (by kernel_rfl)
            clear H hin hout hget
            dsimp only [bare]
            refine wp_load94 rfl _ rfl _ (eval_far e0) _ (k9.laterB hR) ?_
            exact ⟨_, rfl, shows0 hR rfl⟩
          · intro vs a w hR H hin hout hget
            refine one_guard 37 false 70 rfl (by kernel_rfl) ((hget 37 70 (by kernel_rfl)).trans (congrArg some (H 37 (by decide)))) ?_
            have e0 := (hget 40 73 (by kernel_rfl)).trans (congrArg some (H 40 (by decide)))
            clear H hin hout hget
            dsimp only [bare]
            go_wp2_with fail
            refine (refSize_any _ w).mono ?_
            rintro e w1 ⟨rfl, hb⟩
            go_wp2
            exact ⟨_, rfl, shows hR hb.below rfl⟩
          · intro vs a w hR H hin hout hget
            refine one_guard 37 false 70 rfl (by kernel_rfl) ((hget 37 70 (by kernel_rfl)).trans (congrArg some (H 37 (by decide)))) ?_
            have e0 := (hget 39 72 (by kernel_rfl)).trans (congrArg some (H 39 (by decide)))
            have e1 := (hget 41 74 (by kernel_rfl)).trans (congrArg some (H 41 (by decide)))
            clear H hin hout hget
            dsimp only [bare]
            go_wp2
            exact ⟨_, rfl, shows0 hR rfl⟩
          · intro vs a w hR H hin hout hget
            refine one_free rfl ?_
            have e0 := (hget 37 70 (by kernel_rfl)).trans (congrArg some (H 37 (by decide)))
            have e1 := (hget 42 75 (by kernel_rfl)).trans (congrArg some (H 42 (by decide)))
            clear H hin hout hget
            dsimp only [bare]
            go_wp2
            exact ⟨_, rfl, shows0 hR rfl⟩
          · intro vs a w hR H hin hout hget
            refine one_free rfl ?_
            have e0 := (hget 43 76 (by kernel_rfl)).trans (congrArg some (H 43 (by decide)))
            clear H hin hout hget
            dsimp only [bare]
            go_wp2
            exact ⟨_, rfl, shows0 hR rfl⟩
          · intro vs a w hR H hin hout hget
            refine one_guard 44 false 77 rfl (by kernel_rfl) ((hget 44 77 (by kernel_rfl)).trans (congrArg some (H 44 (by decide)))) ?_
            have e0 := hout 4 (by kernel_rfl)
            obtain ⟨c0, c1, c2, c3, _⟩ := (show Blk w _ #[_, _, _, _] 24 from b4.laterB hR).four
            clear H hin hout hget
            dsimp only [bare]
            go_wp2
            exact ⟨_, rfl, shows0 hR rfl⟩
          · intro vs a w hR H hin hout hget
            refine one_guard 44 false 77 rfl (by kernel_rfl) ((hget 44 77 (by kernel_rfl)).trans (congrArg some (H 44 (by decide)))) ?_
            have e0 := hout 5 (by kernel_rfl)
            obtain ⟨c0, c1, c2, c3, _⟩ := (show Blk w _ #[_, _, _, _] 24 from b5.laterB hR).four
            clear H hin hout hget
            dsimp only [bare]
            go_wp2
            exact ⟨_, rfl, shows0 hR rfl⟩
          · intro vs a w hR H hin hout hget
            refine one_guard 44 false 77 rfl (by kernel_rfl) ((hget 44 77 (by kernel_rfl)).trans (congrArg some (H 44 (by decide)))) ?_
            have e0 := (hget 45 78 (by kernel_rfl)).trans (congrArg some (H 45 (by decide)))
            have e1 := (hget 46 79 (by kernel_rfl)).trans (congrArg some (H 46 (by decide)))
            clear H hin hout hget
            dsimp only [bare]
            go_wp2_with fail
            refine (or_any _ _ w).mono ?_
            rintro e w1 ⟨rfl, hb⟩
            go_wp2
            exact ⟨_, rfl, shows hR hb.below rfl⟩
          · intro vs a w hR H hin hout hget
            refine one_guard 44 false 77 rfl (by kernel_rfl) ((hget 44 77 (by kernel_rfl)).trans (congrArg some (H 44 (by decide)))) ?_
            have e0 := hout 9 (by kernel_rfl)
            clear H hin hout hget
            dsimp only [bare]
            refine wp_load94 rfl _ rfl _ (eval_far e0) _ (k9.laterB hR) ?_
            exact ⟨_, rfl, shows0 hR rfl⟩
          · intro vs a w hR H hin hout hget
            refine one_guard 44 false 77 rfl (by kernel_rfl) ((hget 44 77 (by kernel_rfl)).trans (congrArg some (H 44 (by decide)))) ?_
            have e0 := hout 10 (by kernel_rfl)
            clear H hin hout hget
            dsimp only [bare]
            refine wp_load94 rfl _ rfl _ (eval_far e0) _ (k10.laterB hR) ?_
            exact ⟨_, rfl, shows0 hR rfl⟩
          · intro vs a w hR H hin hout hget
            refine one_guard 44 false 77 rfl (by kernel_rfl) ((hget 44 77 (by kernel_rfl)).trans (congrArg some (H 44 (by decide)))) ?_
            have e0 := (hget 48 81 (by kernel_rfl)).trans (congrArg some (H 48 (by decide)))
            have e1 := (hget 49 82 (by kernel_rfl)).trans (congrArg some (H 49 (by decide)))
            clear H hin hout hget
            dsimp only [bare]
            go_wp2_with fail
            refine (both_any 0 (by decide) 0 rfl _ _ w).mono ?_
            rintro e w1 ⟨rfl, hb⟩
            go_wp2
            exact ⟨_, rfl, shows hR hb.below rfl⟩
          · intro vs a w hR H hin hout hget
            refine one_guard 44 false 77 rfl (by kernel_rfl) ((hget 44 77 (by kernel_rfl)).trans (congrArg some (H 44 (by decide)))) ?_
            have e0 := (hget 47 80 (by kernel_rfl)).trans (congrArg some (H 47 (by decide)))
            have e1 := (hget 50 83 (by kernel_rfl)).trans (congrArg some (H 50 (by decide)))
            clear H hin hout hget
            dsimp only [bare]
            go_wp2_with fail
            refine (is_same rfl (Sx.or_lt hs ht) w).mono ?_
            rintro e w1 ⟨rfl, hb⟩
            go_wp2
            exact ⟨_, rfl, shows hR hb rfl⟩
          · intro vs a w hR H hin hout hget
            refine one_guard 44 false 77 rfl (by kernel_rfl) ((hget 44 77 (by kernel_rfl)).trans (congrArg some (H 44 (by decide)))) ?_
            have e0 := (hget 51 84 (by kernel_rfl)).trans (congrArg some (H 51 (by decide)))
            clear H hin hout hget
            dsimp only [bare]
            go_wp2
            exact ⟨_, rfl, shows0 hR rfl⟩
          · intro vs a w hR H hin hout hget
            refine one_free rfl ?_
            have e0 := (hget 44 77 (by kernel_rfl)).trans (congrArg some (H 44 (by decide)))
            have e1 := (hget 52 85 (by kernel_rfl)).trans (congrArg some (H 52 (by decide)))
            clear H hin hout hget
            dsimp only [bare]
            go_wp2
            exact ⟨_, rfl, shows0 hR rfl⟩
          · intro vs a w hR H hin hout hget
            refine one_free rfl ?_
            have e0 := (hget 53 86 (by kernel_rfl)).trans (congrArg some (H 53 (by decide)))
            clear H hin hout hget
            dsimp only [bare]
            go_wp2
            exact ⟨_, rfl, shows0 hR rfl⟩
          · intro vs a w hR H hin hout hget
            refine one_guard 54 false 87 rfl (by kernel_rfl) ((hget 54 87 (by kernel_rfl)).trans (congrArg some (H 54 (by decide)))) ?_
            have e0 := hout 4 (by kernel_rfl)
            obtain ⟨c0, c1, c2, c3, _⟩ := (show Blk w _ #[_, _, _, _] 24 from b4.laterB hR).four
            clear H hin hout hget
            dsimp only [bare]
            go_wp2
            exact ⟨_, rfl, shows0 hR rfl⟩
          · intro vs a w hR H hin hout hget
            refine one_guard 54 false 87 rfl (by kernel_rfl) ((hget 54 87 (by kernel_rfl)).trans (congrArg some (H 54 (by decide)))) ?_
            have e0 := hout 5 (by kernel_rfl)
            obtain ⟨c0, c1, c2, c3, _⟩ := (show Blk w _ #[_, _, _, _] 24 from b5.laterB hR).four
            clear H hin hout hget
            dsimp only [bare]
            go_wp2
            exact ⟨_, rfl, shows0 hR rfl⟩
          · intro vs a w hR H hin hout hget
            refine one_guard 54 false 87 rfl (by kernel_rfl) ((hget 54 87 (by kernel_rfl)).trans (congrArg some (H 54 (by decide)))) ?_
            have e0 := (hget 55 88 (by kernel_rfl)).trans (congrArg some (H 55 (by decide)))
            have e1 := (hget 56 89 (by kernel_rfl)).trans (congrArg some (H 56 (by decide)))
            clear H hin hout hget
            dsimp only [bare]
            go_wp2_with fail
            refine (and_any _ _ w).mono ?_
            rintro e w1 ⟨rfl, hb⟩
            go_wp2
            exact ⟨_, rfl, shows hR hb.below rfl⟩
          · intro vs a w hR H hin hout hget
            refine one_guard 54 false 87 rfl (by kernel_rfl) ((hget 54 87 (by kernel_rfl)).trans (congrArg some (H 54 (by decide)))) ?_
            have e0 := hout 9 (by kernel_rfl)
            clear H hin hout hget
            dsimp only [bare]
            refine wp_load94 rfl _ rfl _ (eval_far e0) _ (k9.laterB hR) ?_
            exact ⟨_, rfl, shows0 hR rfl⟩
          · intro vs a w hR H hin hout hget
            refine one_guard 54 false 87 rfl (by kernel_rfl) ((hget 54 87 (by kernel_rfl)).trans (congrArg some (H 54 (by decide)))) ?_
            have e0 := hout 10 (by kernel_rfl)
            clear H hin hout hget
            dsimp only [bare]
            refine wp_load94 rfl _ rfl _ (eval_far e0) _ (k10.laterB hR) ?_
            exact ⟨_, rfl, shows0 hR rfl⟩
          · intro vs a w hR H hin hout hget
            refine one_guard 54 false 87 rfl (by kernel_rfl) ((hget 54 87 (by kernel_rfl)).trans (congrArg some (H 54 (by decide)))) ?_
            have e0 := (hget 58 91 (by kernel_rfl)).trans (congrArg some (H 58 (by decide)))
            have e1 := (hget 59 92 (by kernel_rfl)).trans (congrArg some (H 59 (by decide)))
            clear H hin hout hget
            dsimp only [bare]
            go_wp2_with fail
            refine (both_any 1 (by decide) 1 rfl _ _ w).mono ?_
            rintro e w1 ⟨rfl, hb⟩
            go_wp2
            exact ⟨_, rfl, shows hR hb.below rfl⟩
          · intro vs a w hR H hin hout hget
            refine one_guard 54 false 87 rfl (by kernel_rfl) ((hget 54 87 (by kernel_rfl)).trans (congrArg some (H 54 (by decide)))) ?_
            have e0 := (hget 57 90 (by kernel_rfl)).trans (congrArg some (H 57 (by decide)))
            have e1 := (hget 60 93 (by kernel_rfl)).trans (congrArg some (H 60 (by decide)))
            clear H hin hout hget
            dsimp only [bare]
            go_wp2_with fail
            refine (is_same rfl (Sx.and_lt _ hs) w).mono ?_
            rintro e w1 ⟨rfl, hb⟩
            go_wp2
            exact ⟨_, rfl, shows hR hb rfl⟩
          · intro vs a w hR H hin hout hget
            refine one_guard 54 false 87 rfl (by kernel_rfl) ((hget 54 87 (by kernel_rfl)).trans (congrArg some (H 54 (by decide)))) ?_
            have e0 := (hget 61 94 (by kernel_rfl)).trans (congrArg some (H 61 (by decide)))
            clear H hin hout hget
            dsimp only [bare]
            go_wp2
            exact ⟨_, rfl, shows0 hR rfl⟩
          · intro vs a w hR H hin hout hget
            refine one_free rfl ?_
            have e0 := (hget 54 87 (by kernel_rfl)).trans (congrArg some (H 54 (by decide)))
            have e1 := (hget 62 95 (by kernel_rfl)).trans (congrArg some (H 62 (by decide)))
            clear H hin hout hget
            dsimp only [bare]
            go_wp2
            exact ⟨_, rfl, shows0 hR rfl⟩
          · intro vs a w hR H hin hout hget
            refine one_free rfl ?_
            have e0 := (hget 63 96 (by kernel_rfl)).trans (congrArg some (H 63 (by decide)))
            clear H hin hout hget
            dsimp only [bare]
            go_wp2
            exact ⟨_, rfl, shows0 hR rfl⟩
          · intro vs a w hR H hin hout hget
            refine one_guard 64 false 97 rfl (by kernel_rfl) ((hget 64 97 (by kernel_rfl)).trans (congrArg some (H 64 (by decide)))) ?_
            have e0 := hout 4 (by kernel_rfl)
            obtain ⟨c0, c1, c2, c3, _⟩ := (show Blk w _ #[_, _, _, _] 24 from b4.laterB hR).four
            clear H hin hout hget
            dsimp only [bare]
            go_wp2
            exact ⟨_, rfl, shows0 hR rfl⟩
          · intro vs a w hR H hin hout hget
            refine one_guard 64 false 97 rfl (by kernel_rfl) ((hget 64 97 (by kernel_rfl)).trans (congrArg some (H 64 (by decide)))) ?_
            have e0 := hout 5 (by kernel_rfl)
            obtain ⟨c0, c1, c2, c3, _⟩ := (show Blk w _ #[_, _, _, _] 24 from b5.laterB hR).four
            clear H hin hout hget
            dsimp only [bare]
            go_wp2
            exact ⟨_, rfl, shows0 hR rfl⟩
          · intro vs a w hR H hin hout hget
            refine one_guard 64 false 97 rfl (by kernel_rfl) ((hget 64 97 (by kernel_rfl)).trans (congrArg some (H 64 (by decide)))) ?_
            have e0 := (hget 65 98 (by kernel_rfl)).trans (congrArg some (H 65 (by decide)))
            have e1 := (hget 66 99 (by kernel_rfl)).trans (congrArg some (H 66 (by decide)))
            clear H hin hout hget
            dsimp only [bare]
            go_wp2_with fail
            refine (less_any _ _ w).mono ?_
            rintro e w1 ⟨rfl, hb⟩
            go_wp2
            exact ⟨_, rfl, shows hR hb.below rfl⟩
          · intro vs a w hR H hin hout hget
            refine one_guard 64 false 97 rfl (by kernel_rfl) ((hget 64 97 (by kernel_rfl)).trans (congrArg some (H 64 (by decide)))) ?_
            have e0 := hout 9 (by kernel_rfl)
            clear H hin hout hget
            dsimp only [bare]
            refine wp_load94 rfl _ rfl _ (eval_far e0) _ (k9.laterB hR) ?_
            exact ⟨_, rfl, shows0 hR rfl⟩
          · intro vs a w hR H hin hout hget
            refine one_guard 64 false 97 rfl (by kernel_rfl) ((hget 64 97 (by kernel_rfl)).trans (congrArg some (H 64 (by decide)))) ?_
            have e0 := hout 10 (by kernel_rfl)
            clear H hin hout hget
            dsimp only [bare]
            refine wp_load94 rfl _ rfl _ (eval_far e0) _ (k10.laterB hR) ?_
            exact ⟨_, rfl, shows0 hR rfl⟩
          · intro vs a w hR H hin hout hget
            refine one_guard 64 false 97 rfl (by kernel_rfl) ((hget 64 97 (by kernel_rfl)).trans (congrArg some (H 64 (by decide)))) ?_
            have e0 := (hget 68 101 (by kernel_rfl)).trans (congrArg some (H 68 (by decide)))
            have e1 := (hget 69 102 (by kernel_rfl)).trans (congrArg some (H 69 (by decide)))
            clear H hin hout hget
            dsimp only [bare]
            go_wp2_with fail
            refine (both_any 2 (by decide) 2 rfl _ _ w).mono ?_
            rintro e w1 ⟨rfl, hb⟩
            go_wp2
            exact ⟨_, rfl, shows hR hb.below rfl⟩
          · intro vs a w hR H hin hout hget
            refine one_guard 64 false 97 rfl (by kernel_rfl) ((hget 64 97 (by kernel_rfl)).trans (congrArg some (H 64 (by decide)))) ?_
            have e0 := (hget 67 100 (by kernel_rfl)).trans (congrArg some (H 67 (by decide)))
            have e1 := (hget 70 103 (by kernel_rfl)).trans (congrArg some (H 70 (by decide)))
            clear H hin hout hget
            dsimp only [bare]
            go_wp2_with fail
            refine (is_same rfl (Sx.less_lt _ hs) w).mono ?_
            rintro e w1 ⟨rfl, hb⟩
            go_wp2
            exact ⟨_, rfl, shows hR hb rfl⟩
          · intro vs a w hR H hin hout hget
            refine one_guard 64 false 97 rfl (by kernel_rfl) ((hget 64 97 (by kernel_rfl)).trans (congrArg some (H 64 (by decide)))) ?_
            have e0 := (hget 71 104 (by kernel_rfl)).trans (congrArg some (H 71 (by decide)))
            clear H hin hout hget
            dsimp only [bare]
            go_wp2
            exact ⟨_, rfl, shows0 hR rfl⟩
          · intro vs a w hR H hin hout hget
            refine one_free rfl ?_
            have e0 := (hget 64 97 (by kernel_rfl)).trans (congrArg some (H 64 (by decide)))
            have e1 := (hget 72 105 (by kernel_rfl)).trans (congrArg some (H 72 (by decide)))
            clear H hin hout hget
            dsimp only [bare]
            go_wp2
            exact ⟨_, rfl, shows0 hR rfl⟩
          · intro vs a w hR H hin hout hget
            refine one_free rfl ?_
            have e0 := (hget 73 106 (by kernel_rfl)).trans (congrArg some (H 73 (by decide)))
            clear H hin hout hget
            dsimp only [bare]
            go_wp2
            exact ⟨_, rfl, shows0 hR rfl⟩
          · intro vs a w hR H hin hout hget
            refine one_guard 74 false 107 rfl (by kernel_rfl) ((hget 74 107 (by kernel_rfl)).trans (congrArg some (H 74 (by decide)))) ?_
            have e0 := hout 4 (by kernel_rfl)
            obtain ⟨c0, c1, c2, c3, _⟩ := (show Blk w _ #[_, _, _, _] 24 from b4.laterB hR).four
            clear H hin hout hget
            dsimp only [bare]
            go_wp2
            exact ⟨_, rfl, shows0 hR rfl⟩
          · intro vs a w hR H hin hout hget
            refine one_guard 74 false 107 rfl (by kernel_rfl) ((hget 74 107 (by kernel_rfl)).trans (congrArg some (H 74 (by decide)))) ?_
            have e0 := (hget 75 108 (by kernel_rfl)).trans (congrArg some (H 75 (by decide)))
            clear H hin hout hget
            dsimp only [bare]
            go_wp2_with fail
            refine (not_any _ w).mono ?_
            rintro e w1 ⟨rfl, hb⟩
            go_wp2
            exact ⟨_, rfl, shows hR hb.below rfl⟩
          · intro vs a w hR H hin hout hget
            refine one_guard 74 false 107 rfl (by kernel_rfl) ((hget 74 107 (by kernel_rfl)).trans (congrArg some (H 74 (by decide)))) ?_
            have e0 := hout 11 (by kernel_rfl)
            clear H hin hout hget
            dsimp only [bare]
            refine wp_load94 rfl _ rfl _ (eval_far e0) _ (k11.laterB hR) ?_
            exact ⟨_, rfl, shows0 hR rfl⟩
          · intro vs a w hR H hin hout hget
            refine one_guard 74 false 107 rfl (by kernel_rfl) ((hget 74 107 (by kernel_rfl)).trans (congrArg some (H 74 (by decide)))) ?_
            have e0 := hout 9 (by kernel_rfl)
            clear H hin hout hget
            dsimp only [bare]
            refine wp_load94 rfl _ rfl _ (eval_far e0) _ (k9.laterB hR) ?_
            exact ⟨_, rfl, shows0 hR rfl⟩
          · intro vs a w hR H hin hout hget
            refine one_guard 74 false 107 rfl (by kernel_rfl) ((hget 74 107 (by kernel_rfl)).trans (congrArg some (H 74 (by decide)))) ?_
            have e0 := (hget 77 110 (by kernel_rfl)).trans (congrArg some (H 77 (by decide)))
            have e1 := (hget 78 111 (by kernel_rfl)).trans (congrArg some (H 78 (by decide)))
            clear H hin hout hget
            dsimp only [bare]
            go_wp2_with fail
            refine (both_any 2 (by decide) 2 rfl _ _ w).mono ?_
            rintro e w1 ⟨rfl, hb⟩
            go_wp2
            exact ⟨_, rfl, shows hR hb.below rfl⟩
          · intro vs a w hR H hin hout hget
            refine one_guard 74 false 107 rfl (by kernel_rfl) ((hget 74 107 (by kernel_rfl)).trans (congrArg some (H 74 (by decide)))) ?_
            have e0 := (hget 76 109 (by kernel_rfl)).trans (congrArg some (H 76 (by decide)))
            have e1 := (hget 79 112 (by kernel_rfl)).trans (congrArg some (H 79 (by decide)))
            clear H hin hout hget
            dsimp only [bare]
            go_wp2_with fail
            refine (is_same rfl (Sx.not_lt _) w).mono ?_
            rintro e w1 ⟨rfl, hb⟩
            go_wp2
            exact ⟨_, rfl, shows hR hb rfl⟩
          · intro vs a w hR H hin hout hget
            refine one_guard 74 false 107 rfl (by kernel_rfl) ((hget 74 107 (by kernel_rfl)).trans (congrArg some (H 74 (by decide)))) ?_
            have e0 := (hget 80 113 (by kernel_rfl)).trans (congrArg some (H 80 (by decide)))
            clear H hin hout hget
            dsimp only [bare]
            go_wp2
            exact ⟨_, rfl, shows0 hR rfl⟩
          · intro vs a w hR H hin hout hget
            refine one_free rfl ?_
            have e0 := (hget 74 107 (by kernel_rfl)).trans (congrArg some (H 74 (by decide)))
            have e1 := (hget 81 114 (by kernel_rfl)).trans (congrArg some (H 81 (by decide)))
            clear H hin hout hget
            dsimp only [bare]
            go_wp2
            exact ⟨_, rfl, shows0 hR rfl⟩
        · intro vs w3 hR H
          generalize hA : putAll vs _ 0 _ = A
          have K2 : A.tmps.getD 2 undef = .int .u8 c := by rw [← hA]; exact (putAll_far _ 2 0 vs _ (by decide)).trans (by kernel_rfl)
          have K3 : A.tmps.getD 3 undef = .int .u8 d := by rw [← hA]; exact (putAll_far _ 3 0 vs _ (by decide)).trans (by kernel_rfl)
          have K4 : A.tmps.getD 4 undef = .pointer (some ⟨w.heap.size, 0, none⟩) := by rw [← hA]; exact (putAll_far _ 4 0 vs _ (by decide)).trans (by kernel_rfl)
          have K5 : A.tmps.getD 5 undef = .pointer (some ⟨w.heap.size + 1, 0, none⟩) := by rw [← hA]; exact (putAll_far _ 5 0 vs _ (by decide)).trans (by kernel_rfl)
          have K8 : A.tmps.getD 8 undef = .bool false := by rw [← hA]; exact (putAll_far _ 8 0 vs _ (by decide)).trans (by kernel_rfl)
          have K9 : A.tmps.getD 9 undef = .pointer (some ⟨b9, 0, none⟩) := by rw [← hA]; exact (putAll_far _ 9 0 vs _ (by decide)).trans (by kernel_rfl)
          have K10 : A.tmps.getD 10 undef = .pointer (some ⟨b10, 0, none⟩) := by rw [← hA]; exact (putAll_far _ 10 0 vs _ (by decide)).trans (by kernel_rfl)
          have K11 : A.tmps.getD 11 undef = .pointer (some ⟨b11, 0, none⟩) := by rw [← hA]; exact (putAll_far _ 11 0 vs _ (by decide)).trans (by kernel_rfl)
          have K115 : A.tmps.getD 115 undef = .bool false := by rw [← hA]; exact (putAll_near (n := 254) _ 0 82 vs _ 115 (by kernel_rfl) rfl (by kernel_rfl)).trans (H 82 (by decide))
          have ksz : A.tmps.size = 254 := by rw [← hA]; exact (putAll_size _ 0 vs _).1
          have kd : A.defers = [] := by rw [← hA]; exact (putAll_size _ 0 vs _).2
          replace b4 := b4.laterB hR
          replace b5 := b5.laterB hR
          replace k9 := k9.laterB hR
          replace k10 := k10.laterB hR
          replace k11 := k11.laterB hR
          replace hB := hB.trans (hR.mono hB.size)
          clear H hA hR
          obtain ⟨T, D⟩ := A
          dsimp only at K2 K3 K4 K5 K8 K9 K10 K11 K115 ksz kd
          subst kd
          have hT := frame254 T ksz
          obtain ⟨f, hf⟩ : ∃ f : Nat → Value, f = fun i => T.getD i undef := ⟨_, rfl⟩
          rw [← hf] at hT
          replace K2 := (congrFun hf 2).trans K2
          replace K3 := (congrFun hf 3).trans K3
          replace K4 := (congrFun hf 4).trans K4
          replace K5 := (congrFun hf 5).trans K5
          replace K8 := (congrFun hf 8).trans K8
          replace K9 := (congrFun hf 9).trans K9
          replace K10 := (congrFun hf 10).trans K10
          replace K11 := (congrFun hf 11).trans K11
          replace K115 := (congrFun hf 115).trans K115
          clear hf ksz
          subst hT
          unfold lit254
          simp only [K2, K3, K4, K5, K8, K9, K10, K11, K115]
          clear K2 K3 K4 K5 K8 K9 K10 K11 K115
          obtain ⟨p, H28, hp⟩ := pCase s t hs
          obtain ⟨q, H29, hq⟩ := qCase s t hs
          obtain ⟨x0, ok0, lx0, HF, hx0⟩ := firstCase s
          obtain ⟨x1, ok1, lx1, HX, hx1⟩ := nextCase s c hc
          replace hx0 := Lib.hid hx0
          replace hx1 := Lib.hid hx1
          go_wp2_with fail
          refine wp_region_facts 254 [.eq (setV s), .eq (setV t), .eq (.bool p), .eq (refV s), .eq (refV t), .eq (refV (Sx.less s t)), .eq (.int .i64 ((elems (Sx.less s t)).length)), .eq (.bool p), .eq (.bool false), .eq (.bool false), .eq (setV s), .eq (setV t), .eq (.bool q), .eq (refV s), .eq (refV t), .eq (refV (Sx.and s t)), .eq (.int .i64 ((elems (Sx.and s t)).length)), .eq (.bool q), .eq (.bool false), .eq (.bool false), .eq (.bool false), .eq (setV s), .eq (setV t), .eq (.int .i64 (cmpS s t)), .eq (refV s), .eq (refV t), .eq (.int .i64 (cmpS s t)), .eq (.bool false), .eq (.bool false), .eq (.bool false), .eq (setV s), byF s, .eq (refV s), byF s, .eq (.bool true), .eq (.bool false), .eq (.bool false)] mixed rfl (by kernel_rfl) ?_ ?_
          · refine ⟨?_, ?_, ?_, ?_, ?_, ?_, ?_, ?_, ?_, ?_, ?_, ?_, ?_, ?_, ?_, ?_, ?_, ?_, ?_, ?_, ?_, ?_, ?_, ?_, ?_, ?_, ?_, ?_, ?_, ?_, ?_, ?_, ?_, ?_, ?_, ?_, ?_, trivial⟩
            · intro vs a w hR H hin hout hget
              refine one_free rfl ?_
              have e0 := hout 4 (by kernel_rfl)
              obtain ⟨c0, c1, c2, c3, _⟩ := (show Blk w _ #[_, _, _, _] 24 from b4.laterB hR).four
              clear H hin hout hget
              dsimp only [bare]
              go_wp2
              exact ⟨_, rfl, shows0 hR rfl⟩
            · intro vs a w hR H hin hout hget
              refine one_free rfl ?_
              have e0 := hout 5 (by kernel_rfl)
              obtain ⟨c0, c1, c2, c3, _⟩ := (show Blk w _ #[_, _, _, _] 24 from b5.laterB hR).four
              clear H hin hout hget
              dsimp only [bare]
              go_wp2
              exact ⟨_, rfl, shows0 hR rfl⟩
            · intro vs a w hR H hin hout hget
              refine one_free rfl ?_
              have e0 := (hget 0 116 (by kernel_rfl)).trans (congrArg some (H 0 (by decide)))
              have e1 := (hget 1 117 (by kernel_rfl)).trans (congrArg some (H 1 (by decide)))
              clear H hin hout hget
              dsimp only [bare]
              go_wp2_with fail
              refine (H28 w).mono ?_
              rintro e w1 ⟨rfl, hb⟩
              go_wp2
              exact ⟨_, rfl, shows hR hb.below rfl⟩
            · intro vs a w hR H hin hout hget
              refine one_free rfl ?_
              have e0 := hout 9 (by kernel_rfl)
              clear H hin hout hget
              dsimp only [bare]
              refine wp_load94 rfl _ rfl _ (eval_far e0) _ (k9.laterB hR) ?_
              exact ⟨_, rfl, shows0 hR rfl⟩
            · intro vs a w hR H hin hout hget
              refine one_free rfl ?_
              have e0 := hout 10 (by kernel_rfl)
              clear H hin hout hget
              dsimp only [bare]
              refine wp_load94 rfl _ rfl _ (eval_far e0) _ (k10.laterB hR) ?_
              exact ⟨_, rfl, shows0 hR rfl⟩
            · intro vs a w hR H hin hout hget
              refine one_free rfl ?_
              have e0 := (hget 3 119 (by kernel_rfl)).trans (congrArg some (H 3 (by decide)))
              have e1 := (hget 4 120 (by kernel_rfl)).trans (congrArg some (H 4 (by decide)))
              clear H hin hout hget
              dsimp only [bare]
              go_wp2_with fail
              refine (both_any 2 (by decide) 2 rfl _ _ w).mono ?_
              rintro e w1 ⟨rfl, hb⟩
              go_wp2
              exact ⟨_, rfl, shows hR hb.below rfl⟩
            · intro vs a w hR H hin hout hget
              refine one_free rfl ?_
              have e0 := (hget 5 121 (by kernel_rfl)).trans (congrArg some (H 5 (by decide)))
              clear H hin hout hget
              dsimp only [bare]
              go_wp2_with fail
              refine (refSize_any _ w).mono ?_
              rintro e w1 ⟨rfl, hb⟩
              go_wp2
              exact ⟨_, rfl, shows hR hb.below rfl⟩
            · intro vs a w hR H hin hout hget
              refine one_free rfl ?_
              have e0 := (hget 6 122 (by kernel_rfl)).trans (congrArg some (H 6 (by decide)))
              have q := hp.out
              clear H hin hout hget
              dsimp only [bare]
              go_wp2
              exact ⟨_, rfl, shows0 hR rfl⟩
            · intro vs a w hR H hin hout hget
              refine one_free rfl ?_
              have e0 := (hget 2 118 (by kernel_rfl)).trans (congrArg some (H 2 (by decide)))
              have e1 := (hget 7 123 (by kernel_rfl)).trans (congrArg some (H 7 (by decide)))
              clear H hin hout hget
              dsimp only [bare]
              go_wp2
              exact ⟨_, rfl, shows0 hR rfl⟩
            · intro vs a w hR H hin hout hget
              refine one_free rfl ?_
              have e0 := (hget 8 124 (by kernel_rfl)).trans (congrArg some (H 8 (by decide)))
              clear H hin hout hget
              dsimp only [bare]
              go_wp2
              exact ⟨_, rfl, shows0 hR rfl⟩
            · intro vs a w hR H hin hout hget
              refine one_guard 9 false 125 rfl (by kernel_rfl) ((hget 9 125 (by kernel_rfl)).trans (congrArg some (H 9 (by decide)))) ?_
              have e0 := hout 4 (by kernel_rfl)
              obtain ⟨c0, c1, c2, c3, _⟩ := (show Blk w _ #[_, _, _, _] 24 from b4.laterB hR).four
              clear H hin hout hget
              dsimp only [bare]
              go_wp2
              exact ⟨_, rfl, shows0 hR rfl⟩
            · intro vs a w hR H hin hout hget
              refine one_guard 9 false 125 rfl (by kernel_rfl) ((hget 9 125 (by kernel_rfl)).trans (congrArg some (H 9 (by decide)))) ?_
              have e0 := hout 5 (by kernel_rfl)
              obtain ⟨c0, c1, c2, c3, _⟩ := (show Blk w _ #[_, _, _, _] 24 from b5.laterB hR).four
              clear H hin hout hget
              dsimp only [bare]
              go_wp2
              exact ⟨_, rfl, shows0 hR rfl⟩
            · intro vs a w hR H hin hout hget
              refine one_guard 9 false 125 rfl (by kernel_rfl) ((hget 9 125 (by kernel_rfl)).trans (congrArg some (H 9 (by decide)))) ?_
              have e0 := (hget 10 126 (by kernel_rfl)).trans (congrArg some (H 10 (by decide)))
              have e1 := (hget 11 127 (by kernel_rfl)).trans (congrArg some (H 11 (by decide)))
              clear H hin hout hget
              dsimp only [bare]
              go_wp2_with fail
              refine (H29 w).mono ?_
              rintro e w1 ⟨rfl, hb⟩
              go_wp2
              exact ⟨_, rfl, shows hR hb.below rfl⟩
            · intro vs a w hR H hin hout hget
              refine one_guard 9 false 125 rfl (by kernel_rfl) ((hget 9 125 (by kernel_rfl)).trans (congrArg some (H 9 (by decide)))) ?_
              have e0 := hout 9 (by kernel_rfl)
              clear H hin hout hget
              dsimp only [bare]
              refine wp_load94 rfl _ rfl _ (eval_far e0) _ (k9.laterB hR) ?_
              exact ⟨_, rfl, shows0 hR rfl⟩
            · intro vs a w hR H hin hout hget
              refine one_guard 9 false 125 rfl (by kernel_rfl) ((hget 9 125 (by kernel_rfl)).trans (congrArg some (H 9 (by decide)))) ?_
              have e0 := hout 10 (by kernel_rfl)
              clear H hin hout hget
              dsimp only [bare]
              refine wp_load94 rfl _ rfl _ (eval_far e0) _ (k10.laterB hR) ?_
              exact ⟨_, rfl, shows0 hR rfl⟩
            · intro vs a w hR H hin hout hget
              refine one_guard 9 false 125 rfl (by kernel_rfl) ((hget 9 125 (by kernel_rfl)).trans (congrArg some (H 9 (by decide)))) ?_
              have e0 := (hget 13 129 (by kernel_rfl)).trans (congrArg some (H 13 (by decide)))
              have e1 := (hget 14 130 (by kernel_rfl)).trans (congrArg some (H 14 (by decide)))
              clear H hin hout hget
              dsimp only [bare]
              go_wp2_with fail
              refine (both_any 1 (by decide) 1 rfl _ _ w).mono ?_
              rintro e w1 ⟨rfl, hb⟩
              go_wp2
              exact ⟨_, rfl, shows hR hb.below rfl⟩
            · intro vs a w hR H hin hout hget
              refine one_guard 9 false 125 rfl (by kernel_rfl) ((hget 9 125 (by kernel_rfl)).trans (congrArg some (H 9 (by decide)))) ?_
              have e0 := (hget 15 131 (by kernel_rfl)).trans (congrArg some (H 15 (by decide)))
              clear H hin hout hget
              dsimp only [bare]
              go_wp2_with fail
              refine (refSize_any _ w).mono ?_
              rintro e w1 ⟨rfl, hb⟩
              go_wp2
              exact ⟨_, rfl, shows hR hb.below rfl⟩
            · intro vs a w hR H hin hout hget
              refine one_guard 9 false 125 rfl (by kernel_rfl) ((hget 9 125 (by kernel_rfl)).trans (congrArg some (H 9 (by decide)))) ?_
              have e0 := (hget 16 132 (by kernel_rfl)).trans (congrArg some (H 16 (by decide)))
              have q := hq.out
              clear H hin hout hget
              dsimp only [bare]
              go_wp2
              exact ⟨_, rfl, shows0 hR rfl⟩
            · intro vs a w hR H hin hout hget
              refine one_guard 9 false 125 rfl (by kernel_rfl) ((hget 9 125 (by kernel_rfl)).trans (congrArg some (H 9 (by decide)))) ?_
              have e0 := (hget 12 128 (by kernel_rfl)).trans (congrArg some (H 12 (by decide)))
              have e1 := (hget 17 133 (by kernel_rfl)).trans (congrArg some (H 17 (by decide)))
              clear H hin hout hget
              dsimp only [bare]
              go_wp2
              exact ⟨_, rfl, shows0 hR rfl⟩
            · intro vs a w hR H hin hout hget
              refine one_free rfl ?_
              have e0 := (hget 9 125 (by kernel_rfl)).trans (congrArg some (H 9 (by decide)))
              have e1 := (hget 18 134 (by kernel_rfl)).trans (congrArg some (H 18 (by decide)))
              clear H hin hout hget
              dsimp only [bare]
              go_wp2
              exact ⟨_, rfl, shows0 hR rfl⟩
            · intro vs a w hR H hin hout hget
              refine one_free rfl ?_
              have e0 := (hget 19 135 (by kernel_rfl)).trans (congrArg some (H 19 (by decide)))
              clear H hin hout hget
              dsimp only [bare]
              go_wp2
              exact ⟨_, rfl, shows0 hR rfl⟩
            · intro vs a w hR H hin hout hget
              refine one_guard 20 false 136 rfl (by kernel_rfl) ((hget 20 136 (by kernel_rfl)).trans (congrArg some (H 20 (by decide)))) ?_
              have e0 := hout 4 (by kernel_rfl)
              obtain ⟨c0, c1, c2, c3, _⟩ := (show Blk w _ #[_, _, _, _] 24 from b4.laterB hR).four
              clear H hin hout hget
              dsimp only [bare]
              go_wp2
              exact ⟨_, rfl, shows0 hR rfl⟩
            · intro vs a w hR H hin hout hget
              refine one_guard 20 false 136 rfl (by kernel_rfl) ((hget 20 136 (by kernel_rfl)).trans (congrArg some (H 20 (by decide)))) ?_
              have e0 := hout 5 (by kernel_rfl)
              obtain ⟨c0, c1, c2, c3, _⟩ := (show Blk w _ #[_, _, _, _] 24 from b5.laterB hR).four
              clear H hin hout hget
              dsimp only [bare]
              go_wp2
              exact ⟨_, rfl, shows0 hR rfl⟩
            · intro vs a w hR H hin hout hget
              refine one_guard 20 false 136 rfl (by kernel_rfl) ((hget 20 136 (by kernel_rfl)).trans (congrArg some (H 20 (by decide)))) ?_
              have e0 := (hget 21 137 (by kernel_rfl)).trans (congrArg some (H 21 (by decide)))
              have e1 := (hget 22 138 (by kernel_rfl)).trans (congrArg some (H 22 (by decide)))
              clear H hin hout hget
              dsimp only [bare]
              go_wp2_with fail
              refine (compare_any s t w).mono ?_
              rintro e w1 ⟨rfl, hb⟩
              go_wp2
              exact ⟨_, rfl, shows hR hb.below rfl⟩
            · intro vs a w hR H hin hout hget
              refine one_guard 20 false 136 rfl (by kernel_rfl) ((hget 20 136 (by kernel_rfl)).trans (congrArg some (H 20 (by decide)))) ?_
              have e0 := hout 9 (by kernel_rfl)
              clear H hin hout hget
              dsimp only [bare]
              refine wp_load94 rfl _ rfl _ (eval_far e0) _ (k9.laterB hR) ?_
              exact ⟨_, rfl, shows0 hR rfl⟩
            · intro vs a w hR H hin hout hget
              refine one_guard 20 false 136 rfl (by kernel_rfl) ((hget 20 136 (by kernel_rfl)).trans (congrArg some (H 20 (by decide)))) ?_
              have e0 := hout 10 (by kernel_rfl)
              clear H hin hout hget
              dsimp only [bare]
              refine wp_load94 rfl _ rfl _ (eval_far e0) _ (k10.laterB hR) ?_
              exact ⟨_, rfl, shows0 hR rfl⟩
            · intro vs a w hR H hin hout hget
              refine one_guard 20 false 136 rfl (by kernel_rfl) ((hget 20 136 (by kernel_rfl)).trans (congrArg some (H 20 (by decide)))) ?_
              have e0 := (hget 24 140 (by kernel_rfl)).trans (congrArg some (H 24 (by decide)))
              have e1 := (hget 25 141 (by kernel_rfl)).trans (congrArg some (H 25 (by decide)))
              clear H hin hout hget
              dsimp only [bare]
              go_wp2_with fail
              refine (refCompare_any s t w).mono ?_
              rintro e w1 ⟨rfl, hb⟩
              go_wp2
              exact ⟨_, rfl, shows hR hb.below rfl⟩
            · intro vs a w hR H hin hout hget
              refine one_guard 20 false 136 rfl (by kernel_rfl) ((hget 20 136 (by kernel_rfl)).trans (congrArg some (H 20 (by decide)))) ?_
              have e0 := (hget 23 139 (by kernel_rfl)).trans (congrArg some (H 23 (by decide)))
              have e1 := (hget 26 142 (by kernel_rfl)).trans (congrArg some (H 26 (by decide)))
              clear H hin hout hget
              dsimp only [bare]
              go_wp2
              exact ⟨_, rfl, shows0 hR rfl⟩
            · intro vs a w hR H hin hout hget
              refine one_free rfl ?_
              have e0 := (hget 20 136 (by kernel_rfl)).trans (congrArg some (H 20 (by decide)))
              have e1 := (hget 27 143 (by kernel_rfl)).trans (congrArg some (H 27 (by decide)))
              clear H hin hout hget
              dsimp only [bare]
              go_wp2
              exact ⟨_, rfl, shows0 hR rfl⟩
            · intro vs a w hR H hin hout hget
              refine one_free rfl ?_
              have e0 := (hget 28 144 (by kernel_rfl)).trans (congrArg some (H 28 (by decide)))
              clear H hin hout hget
              dsimp only [bare]
              go_wp2
              exact ⟨_, rfl, shows0 hR rfl⟩
            · intro vs a w hR H hin hout hget
              refine one_guard 29 false 145 rfl (by kernel_rfl) ((hget 29 145 (by kernel_rfl)).trans (congrArg some (H 29 (by decide)))) ?_
              have e0 := hout 4 (by kernel_rfl)
              obtain ⟨c0, c1, c2, c3, _⟩ := (show Blk w _ #[_, _, _, _] 24 from b4.laterB hR).four
              clear H hin hout hget
              dsimp only [bare]
              go_wp2
              exact ⟨_, rfl, shows0 hR rfl⟩
            · intro vs a w hR H hin hout hget
              refine one_guard 29 false 145 rfl (by kernel_rfl) ((hget 29 145 (by kernel_rfl)).trans (congrArg some (H 29 (by decide)))) ?_
              have e0 := (hget 30 146 (by kernel_rfl)).trans (congrArg some (H 30 (by decide)))
              clear H hin hout hget
              dsimp only [bare]
              go_wp2_with fail
              refine (bytes_any s w).mono ?_
              rintro e w1 ⟨v, rfl, hf, hb⟩
              go_wp2
              exact ⟨_, rfl, shows hR hb (byF_fresh hf)⟩
            · intro vs a w hR H hin hout hget
              refine one_guard 29 false 145 rfl (by kernel_rfl) ((hget 29 145 (by kernel_rfl)).trans (congrArg some (H 29 (by decide)))) ?_
              have e0 := hout 9 (by kernel_rfl)
              clear H hin hout hget
              dsimp only [bare]
              refine wp_load94 rfl _ rfl _ (eval_far e0) _ (k9.laterB hR) ?_
              exact ⟨_, rfl, shows0 hR rfl⟩
            · intro vs a w hR H hin hout hget
              refine one_guard 29 false 145 rfl (by kernel_rfl) ((hget 29 145 (by kernel_rfl)).trans (congrArg some (H 29 (by decide)))) ?_
              have e0 := (hget 32 148 (by kernel_rfl)).trans (congrArg some (H 32 (by decide)))
              clear H hin hout hget
              dsimp only [bare]
              go_wp2_with fail
              refine (refBytes_any s w).mono ?_
              rintro e w1 ⟨v, rfl, hf, hb⟩
              go_wp2
              exact ⟨_, rfl, shows hR hb (byF_fresh hf)⟩
            · intro vs a w hR H hin hout hget
              refine one_guard 29 false 145 rfl (by kernel_rfl) ((hget 29 145 (by kernel_rfl)).trans (congrArg some (H 29 (by decide)))) ?_
              have e0 := hget 31 147 (by kernel_rfl)
              have f0 := H 31 (by decide)
              have e1 := hget 33 149 (by kernel_rfl)
              have f1 := H 33 (by decide)
              clear H hin hout hget
              dsimp only [bare]
              go_wp2_with fail
              refine (same_facts f0 f1 w rfl).mono ?_
              rintro e w1 ⟨rfl, hb⟩
              go_wp2
              exact ⟨_, rfl, shows hR hb.below rfl⟩
            · intro vs a w hR H hin hout hget
              refine one_guard 29 false 145 rfl (by kernel_rfl) ((hget 29 145 (by kernel_rfl)).trans (congrArg some (H 29 (by decide)))) ?_
              have e0 := (hget 34 150 (by kernel_rfl)).trans (congrArg some (H 34 (by decide)))
              clear H hin hout hget
              dsimp only [bare]
              go_wp2
              exact ⟨_, rfl, shows0 hR rfl⟩
            · intro vs a w hR H hin hout hget
              refine one_free rfl ?_
              have e0 := (hget 29 145 (by kernel_rfl)).trans (congrArg some (H 29 (by decide)))
              have e1 := (hget 35 151 (by kernel_rfl)).trans (congrArg some (H 35 (by decide)))
              clear H hin hout hget
              dsimp only [bare]
              go_wp2
              exact ⟨_, rfl, shows0 hR rfl⟩
          · intro vs w4 hR H
            have e36 : vs 36 = (.bool false) := H 36 (by decide)
            replace b4 := b4.laterB hR
            replace b5 := b5.laterB hR
            replace k9 := k9.laterB hR
            replace k10 := k10.laterB hR
            replace k11 := k11.laterB hR
            replace hB := hB.trans (hR.mono hB.size)
            simp only [putAll, Act.put, List.setIfInBounds_toArray, List.set_cons_succ, List.set_cons_zero, Nat.zero_add, Nat.reduceAdd, e36]
            clear H hR e36
            generalize vs 0 = p0
            generalize vs 1 = p1
            generalize vs 2 = p2
            generalize vs 3 = p3
            generalize vs 4 = p4
            generalize vs 5 = p5
            generalize vs 6 = p6
            generalize vs 7 = p7
            generalize vs 8 = p8
            generalize vs 9 = p9
            generalize vs 10 = p10
            generalize vs 11 = p11
            generalize vs 12 = p12
            generalize vs 13 = p13
            generalize vs 14 = p14
            generalize vs 15 = p15
            generalize vs 16 = p16
            generalize vs 17 = p17
            generalize vs 18 = p18
            generalize vs 19 = p19
            generalize vs 20 = p20
            generalize vs 21 = p21
            generalize vs 22 = p22
            generalize vs 23 = p23
            generalize vs 24 = p24
            generalize vs 25 = p25
            generalize vs 26 = p26
            generalize vs 27 = p27
            generalize vs 28 = p28
            generalize vs 29 = p29
            generalize vs 30 = p30
            generalize vs 31 = p31
            generalize vs 32 = p32
            generalize vs 33 = p33
            generalize vs 34 = p34
            generalize vs 35 = p35
            clear H28 H29 hp hq k10 k11 b5 hl3 hl2
            obtain ⟨d0, d1, d2, d3, _⟩ := (show Blk w4 _ #[_, _, _, _] 24 from b4).four
            unfold setV setA at HF HX
            go_wp2_with fail
            refine (HF _).mono ?_
            rintro e w5 ⟨rfl, hb⟩
            replace b4 := b4.laterB hb.below
            replace k9 := k9.laterB hb.below
            replace hB := hB.trans (hb.below.mono hB.size)
            clear hb d0 d1 d2 d3 HF
            obtain ⟨d0, d1, d2, d3, _⟩ := (show Blk w5 _ #[_, _, _, _] 24 from b4).four
            go_wp2_with fail
            refine (HX _).mono ?_
            rintro e w6 ⟨rfl, hb⟩
            replace b4 := b4.laterB hb.below
            replace k9 := k9.laterB hb.below
            replace hB := hB.trans (hb.below.mono hB.size)
            clear hb d0 d1 d2 d3 HX
            go_wp2_with fail
            refine wp_region_facts 254 [.eq (refV s), .eq (.int .i64 (nextI s 0)), .eq (refV s), .eq (.int .u8 c), .eq (.int .i64 (c : Nat)), .eq (.int .i64 (c + 1 : Nat)), .eq (.int .i64 (nextI s (c + 1))), .eq (.int .i64 (nextI s 0)), .eq (.int .i64 (nextI s (c + 1)))] mixed rfl (by kernel_rfl) ?_ ?_
            · refine ⟨?_, ?_, ?_, ?_, ?_, ?_, ?_, ?_, ?_, trivial⟩
              · intro vs a w hR H hin hout hget
                refine one_free rfl ?_
                have e0 := hout 9 (by kernel_rfl)
                clear H hin hout hget
                dsimp only [bare]
                refine wp_load94 rfl _ rfl _ (eval_far e0) _ (k9.laterB hR) ?_
                exact ⟨_, rfl, shows0 hR rfl⟩
              · intro vs a w hR H hin hout hget
                refine one_free rfl ?_
                have e0 := (hget 0 164 (by kernel_rfl)).trans (congrArg some (H 0 (by decide)))
                clear H hin hout hget
                dsimp only [bare]
                go_wp2_with fail
                refine (refNext_any s 0 (by omega) w).mono ?_
                rintro e w1 ⟨rfl, hb⟩
                go_wp2
                exact ⟨_, rfl, shows hR hb.below rfl⟩
              · intro vs a w hR H hin hout hget
                refine one_free rfl ?_
                have e0 := hout 9 (by kernel_rfl)
                clear H hin hout hget
                dsimp only [bare]
                refine wp_load94 rfl _ rfl _ (eval_far e0) _ (k9.laterB hR) ?_
                exact ⟨_, rfl, shows0 hR rfl⟩
              · intro vs a w hR H hin hout hget
                refine one_free rfl ?_
                have e0 := hout 2 (by kernel_rfl)
                clear H hin hout hget
                dsimp only [bare]
                go_wp2
                exact ⟨_, rfl, shows0 hR rfl⟩
              · intro vs a w hR H hin hout hget
                refine one_free rfl ?_
                have e0 := (hget 3 167 (by kernel_rfl)).trans (congrArg some (H 3 (by decide)))
                clear H hin hout hget
                dsimp only [bare]
                go_wp2
                exact ⟨_, rfl, shows0 hR rfl⟩
              · intro vs a w hR H hin hout hget
                refine one_free rfl ?_
                have e0 := (hget 4 168 (by kernel_rfl)).trans (congrArg some (H 4 (by decide)))
                clear H hin hout hget
                dsimp only [bare]
                go_wp2
                exact ⟨_, rfl, shows0 hR rfl⟩
              · intro vs a w hR H hin hout hget
                refine one_free rfl ?_
                have e0 := (hget 2 166 (by kernel_rfl)).trans (congrArg some (H 2 (by decide)))
                have e1 := (hget 5 169 (by kernel_rfl)).trans (congrArg some (H 5 (by decide)))
                clear H hin hout hget
                dsimp only [bare]
                go_wp2_with fail
                refine (refNext_any s (c + 1) (by omega) w).mono ?_
                rintro e w1 ⟨rfl, hb⟩
                go_wp2
                exact ⟨_, rfl, shows hR hb.below rfl⟩
              · intro vs a w hR H hin hout hget
                refine one_free rfl ?_
                have e0 := (hget 1 165 (by kernel_rfl)).trans (congrArg some (H 1 (by decide)))
                clear H hin hout hget
                dsimp only [bare]
                go_wp2
                exact ⟨_, rfl, shows0 hR rfl⟩
              · intro vs a w hR H hin hout hget
                refine one_free rfl ?_
                have e0 := (hget 6 170 (by kernel_rfl)).trans (congrArg some (H 6 (by decide)))
                clear H hin hout hget
                dsimp only [bare]
                go_wp2
                exact ⟨_, rfl, shows0 hR rfl⟩
            · intro vs w7 hR H
              have e7 : vs 7 = (.int .i64 (nextI s 0)) := H 7 (by decide)
              have e8 : vs 8 = (.int .i64 (nextI s (c + 1))) := H 8 (by decide)
              replace b4 := b4.laterB hR
              replace k9 := k9.laterB hR
              replace hB := hB.trans (hR.mono hB.size)
              simp only [putAll, Act.put, List.setIfInBounds_toArray, List.set_cons_succ, List.set_cons_zero, Nat.zero_add, Nat.reduceAdd, e7, e8]
              clear H hR e7 e8
              generalize vs 0 = q0
              generalize vs 1 = q1
              generalize vs 2 = q2
              generalize vs 3 = q3
              generalize vs 4 = q4
              generalize vs 5 = q5
              generalize vs 6 = q6
              have hx0 := hx0.out
              have hx1 := hx1.out
              generalize nextI s 0 = i0 at hx0
              generalize nextI s (c + 1) = i1 at hx1
              have fin : True := trivial
              rcases hx0 with ⟨rfl, rfl⟩ | ⟨rfl, rfl, rfl⟩ <;> rcases hx1 with ⟨rfl, rfl⟩ | ⟨rfl, rfl, rfl⟩
              all_goals
                go_wp2_with fail
                refine wp_region_facts 254 [.eq (setV s), spF s, .eq (refV s), enF s, spF s, enF s] mixed rfl (by kernel_rfl) ?_ ?_
                · refine ⟨?_, ?_, ?_, ?_, ?_, ?_, trivial⟩
                  · intro vs a w hR H hin hout hget
                    refine one_free rfl ?_
                    have e0 := hout 4 (by kernel_rfl)
                    obtain ⟨c0, c1, c2, c3, _⟩ := (show Blk w _ #[_, _, _, _] 24 from b4.laterB hR).four
                    clear H hin hout hget
                    dsimp only [bare]
                    go_wp2
                    exact ⟨_, rfl, shows0 hR rfl⟩
                  · intro vs a w hR H hin hout hget
                    refine one_free rfl ?_
                    have e0 := (hget 0 215 (by kernel_rfl)).trans (congrArg some (H 0 (by decide)))
                    clear H hin hout hget
                    dsimp only [bare]
                    go_wp2_with fail
                    refine (spans_any s w).mono ?_
                    rintro e w1 ⟨v, rfl, hf, hb⟩
                    go_wp2
                    exact ⟨_, rfl, shows hR hb (spF_fresh hf)⟩
                  · intro vs a w hR H hin hout hget
                    refine one_free rfl ?_
                    have e0 := hout 9 (by kernel_rfl)
                    clear H hin hout hget
                    dsimp only [bare]
                    refine wp_load94 rfl _ rfl _ (eval_far e0) _ (k9.laterB hR) ?_
                    exact ⟨_, rfl, shows0 hR rfl⟩
                  · intro vs a w hR H hin hout hget
                    refine one_free rfl ?_
                    have e0 := (hget 2 217 (by kernel_rfl)).trans (congrArg some (H 2 (by decide)))
                    clear H hin hout hget
                    dsimp only [bare]
                    go_wp2_with fail
                    refine (refSpans_any s w).mono ?_
                    rintro e w1 ⟨v, rfl, hf, hb⟩
                    go_wp2
                    exact ⟨_, rfl, shows hR hb (enF_fresh hf)⟩
                  · intro vs a w hR H hin hout hget
                    refine one_free rfl ?_
                    have e0 := hget 1 216 (by kernel_rfl)
                    have f0 := H 1 (by decide)
                    clear H hin hout hget
                    dsimp only [bare]
                    go_wp2
                    exact ⟨_, rfl, shows0 hR f0⟩
                  · intro vs a w hR H hin hout hget
                    refine one_free rfl ?_
                    have e0 := hget 3 218 (by kernel_rfl)
                    have f0 := H 3 (by decide)
                    clear H hin hout hget
                    dsimp only [bare]
                    go_wp2
                    exact ⟨_, rfl, shows0 hR f0⟩
                · intro vs w8 hR H
                  have f4 : (spF s).says (vs 4) w8 := H 4 (by decide)
                  have f5 : (enF s).says (vs 5) w8 := H 5 (by decide)
                  replace hB := hB.trans (hR.mono hB.size)
                  simp only [putAll, Act.put, List.setIfInBounds_toArray, List.set_cons_succ, List.set_cons_zero, Nat.zero_add, Nat.reduceAdd]
                  clear H hR b4 k9
                  generalize vs 0 = r0
                  generalize vs 1 = r1
                  generalize vs 2 = r2
                  generalize vs 3 = r3
                  generalize vs 4 = vl at f4
                  generalize vs 5 = ve at f5
                  unfold spF at f4
                  unfold enF at f5
                  by_cases he : elems s = []
                  · rw [if_pos he] at f4 f5
                    obtain rfl : vl = _ := f4
                    obtain rfl : ve = _ := f5
                    clear he
                    go_wp2_with fail
                    go_loopw [227] (fun i wr => i = .int .i64 0 ∧ Below w8.heap.size w8 wr) (fun _ _ => 0)
                    case atStart => exact ⟨rfl, Below.refl _ _⟩
                    case round =>
                      obtain ⟨rfl, hBk⟩ := hrel
                      go_wp2
                      go_ret
                      exact ⟨rfl, hB.trans (hBk.mono hB.size)⟩
                  · rw [if_neg he] at f4 f5
                    have hll : (flat (spansOf (elems s))).length = (spansOf (elems s)).length * 2 := flat_len _
                    rw [hll] at f5
                    have hok := spans_ok s
                    have hln : (spansOf (elems s)).length ≤ 256 := Nat.le_trans (spansOf_len _) (size_le s)
                    clear he hll
                    generalize spansOf (elems s) = l at f4 f5 hok hln
                    obtain ⟨bS, oS, capS, rfl, ltS, cS⟩ := f4
                    obtain ⟨bE, oE, capE, rfl, ltE, cE⟩ := f5
                    replace hok := Lib.hid hok
                    replace cS := Lib.hid cS
                    replace cE := Lib.hid cE
                    go_wp2_with fail
                    go_loopw [227] (fun i wr => ∃ k : Nat, k ≤ l.length ∧ i = .int .i64 k ∧ Below w8.heap.size w8 wr) (fun i _ => l.length - (intOf i).toNat)
                    case atStart => exact ⟨0, by omega, rfl, Below.refl _ _⟩
                    case round =>
                      obtain ⟨k, hk, rfl, hBk⟩ := hrel
                      by_cases hlt : k < l.length
                      · obtain ⟨g1, g2⟩ := spanCells_get l k hlt
                        obtain ⟨g3, g4⟩ := flat_get l k hlt
                        have ca : wr.cell? ⟨bS, oS + k * 2, none⟩ = some (.int .u8 (l[k].1 : Nat)) := by rw [hBk.cell (p := ⟨bS, oS + k * 2, none⟩) ltS, cS.out (k * 2) (by omega), g1]; rfl
                        have cb : wr.cell? ⟨bS, oS + k * 2 + 1, none⟩ = some (.int .u8 (l[k].2 : Nat)) := by rw [hBk.cell (p := ⟨bS, oS + k * 2 + 1, none⟩) ltS, Nat.add_assoc, cS.out (k * 2 + 1) (by omega), g2]; rfl
                        have cc : wr.cell? ⟨bE, oE + 2 * k, none⟩ = some (.int .i64 (l[k].1 : Nat)) := by rw [hBk.cell (p := ⟨bE, oE + 2 * k, none⟩) ltE, cE.out (2 * k) (by omega), List.getElem?_map, g3]; rfl
                        have cd : wr.cell? ⟨bE, oE + (2 * k + 1), none⟩ = some (.int .i64 (l[k].2 : Nat)) := by rw [hBk.cell (p := ⟨bE, oE + (2 * k + 1), none⟩) ltE, cE.out (2 * k + 1) (by omega), List.getElem?_map, g4]; rfl
                        have hxk := hok.out.1 _ (List.getElem_mem hlt)
                        clear g1 g2 g3 g4
                        generalize l[k].1 = lo at ca cc hxk
                        generalize l[k].2 = hi at cb cd hxk
                        have hwr := hBk.size
                        have hkl : k < 256 := by omega
                        have ltE' : bE < wr.heap.size := by omega
                        go_upto_if 228 with (fail)
                        refine wp_cond_true rfl ?_
                        refine wp_skip ?_
                        rename_i ha
                        refine ha _ _ ?_
                        clear ha
                        go_wp2_with fail
                        obtain ⟨W7, hW7⟩ : ∃ W7, W7 = wr.alloc (.cells #[.int .u8 lo, .int .u8 hi] 49) := ⟨_, rfl⟩
                        have b7 : Blk W7 wr.heap.size #[.int .u8 lo, .int .u8 hi] 49 := by rw [hW7]; exact blkOf1 wr _ _
                        have hB7 : Below wr.heap.size wr W7 := by rw [hW7]; exact below1 wr _
                        rw [← hW7]
                        have ce0 : ∀ w, Below W7.heap.size W7 w → w.cell? ⟨bE, oE + 2 * k, none⟩ = some (.int .i64 (lo : Nat)) := fun w hw => by
                          rw [hw.cell (p := ⟨bE, oE + 2 * k, none⟩) (by have := hB7.size; show bE < _; omega), hB7.cell (p := ⟨bE, oE + 2 * k, none⟩) ltE', cc]
                        have ce1 : ∀ w, Below W7.heap.size W7 w → w.cell? ⟨bE, oE + (2 * k + 1), none⟩ = some (.int .i64 (hi : Nat)) := fun w hw => by
                          rw [hw.cell (p := ⟨bE, oE + (2 * k + 1), none⟩) (by have := hB7.size; show bE < _; omega), hB7.cell (p := ⟨bE, oE + (2 * k + 1), none⟩) ltE', cd]
                        clear hW7 ca cb cc cd
                        refine wp_region_facts 254 [.eq (.pointer (some ⟨wr.heap.size, 0, none⟩)), .eq (.int .u8 lo), .eq (.int .i64 lo), .eq (.slice (some ⟨bE, oE, none⟩) (l.length * 2) capE), .eq (.int .i64 k), .eq (.int .i64 (2 * k : Nat)), .eq (.pointer (some ⟨bE, oE + 2 * k, none⟩)), .eq (.int .i64 lo), .eq (.bool false), .eq (.bool false), .eq (.pointer (some ⟨wr.heap.size, 1, none⟩)), .eq (.int .u8 hi), .eq (.int .i64 hi), .eq (.slice (some ⟨bE, oE, none⟩) (l.length * 2) capE), .eq (.int .i64 k), .eq (.int .i64 (2 * k : Nat)), .eq (.int .i64 (2 * k + 1 : Nat)), .eq (.pointer (some ⟨bE, oE + (2 * k + 1), none⟩)), .eq (.int .i64 hi), .eq (.bool false), .eq (.bool false)] mixed rfl (by kernel_rfl) ?_ ?_
                        · refine ⟨?_, ?_, ?_, ?_, ?_, ?_, ?_, ?_, ?_, ?_, ?_, ?_, ?_, ?_, ?_, ?_, ?_, ?_, ?_, ?_, ?_, trivial⟩
                          · intro vs a w hR H hin hout hget
                            refine one_free rfl ?_
                            have e0 := hout 22 (by kernel_rfl)
                            clear H hin hout hget
                            dsimp only [bare]
                            go_wp2
                            exact ⟨_, rfl, shows0 hR rfl⟩
                          · intro vs a w hR H hin hout hget
                            refine one_free rfl ?_
                            have e0 := (hget 0 232 (by kernel_rfl)).trans (congrArg some (H 0 (by decide)))
                            obtain ⟨d0, d1⟩ := two_cells (b7.laterB hR)
                            clear H hin hout hget
                            dsimp only [bare]
                            go_wp2
                            exact ⟨_, rfl, shows0 hR rfl⟩
                          · intro vs a w hR H hin hout hget
                            refine one_free rfl ?_
                            have e0 := (hget 1 233 (by kernel_rfl)).trans (congrArg some (H 1 (by decide)))
                            clear H hin hout hget
                            dsimp only [bare]
                            go_wp2
                            exact ⟨_, rfl, shows0 hR rfl⟩
                          · intro vs a w hR H hin hout hget
                            refine one_free rfl ?_
                            have e0 := hout 20 (by kernel_rfl)
                            clear H hin hout hget
                            dsimp only [bare]
                            go_wp2
                            exact ⟨_, rfl, shows0 hR rfl⟩
                          · intro vs a w hR H hin hout hget
                            refine one_free rfl ?_
                            have e0 := hout 21 (by kernel_rfl)
                            clear H hin hout hget
                            dsimp only [bare]
                            go_wp2
                            exact ⟨_, rfl, shows0 hR rfl⟩
                          · intro vs a w hR H hin hout hget
                            refine one_free rfl ?_
                            have e0 := (hget 4 236 (by kernel_rfl)).trans (congrArg some (H 4 (by decide)))
                            have hk256 := hkl
                            clear H hin hout hget
                            dsimp only [bare]
                            go_wp2
                            exact ⟨_, rfl, shows0 hR rfl⟩
                          · intro vs a w hR H hin hout hget
                            refine one_free rfl ?_
                            have e0 := (hget 3 235 (by kernel_rfl)).trans (congrArg some (H 3 (by decide)))
                            have e1 := (hget 5 237 (by kernel_rfl)).trans (congrArg some (H 5 (by decide)))
                            clear H hin hout hget
                            dsimp only [bare]
                            go_wp2
                            exact ⟨_, rfl, shows0 hR rfl⟩
                          · intro vs a w hR H hin hout hget
                            refine one_free rfl ?_
                            have e0 := (hget 6 238 (by kernel_rfl)).trans (congrArg some (H 6 (by decide)))
                            have d0 := ce0 w hR
                            clear H hin hout hget
                            dsimp only [bare]
                            go_wp2
                            exact ⟨_, rfl, shows0 hR rfl⟩
                          · intro vs a w hR H hin hout hget
                            refine one_free rfl ?_
                            have e0 := (hget 2 234 (by kernel_rfl)).trans (congrArg some (H 2 (by decide)))
                            have e1 := (hget 7 239 (by kernel_rfl)).trans (congrArg some (H 7 (by decide)))
                            clear H hin hout hget
                            dsimp only [bare]
                            go_wp2
                            exact ⟨_, rfl, shows0 hR rfl⟩
                          · intro vs a w hR H hin hout hget
                            refine one_free rfl ?_
                            have e0 := (hget 8 240 (by kernel_rfl)).trans (congrArg some (H 8 (by decide)))
                            clear H hin hout hget
                            dsimp only [bare]
                            go_wp2
                            exact ⟨_, rfl, shows0 hR rfl⟩
                          · intro vs a w hR H hin hout hget
                            refine one_guard 9 false 241 rfl (by kernel_rfl) ((hget 9 241 (by kernel_rfl)).trans (congrArg some (H 9 (by decide)))) ?_
                            have e0 := hout 22 (by kernel_rfl)
                            clear H hin hout hget
                            dsimp only [bare]
                            go_wp2
                            exact ⟨_, rfl, shows0 hR rfl⟩
                          · intro vs a w hR H hin hout hget
                            refine one_guard 9 false 241 rfl (by kernel_rfl) ((hget 9 241 (by kernel_rfl)).trans (congrArg some (H 9 (by decide)))) ?_
                            have e0 := (hget 10 242 (by kernel_rfl)).trans (congrArg some (H 10 (by decide)))
                            obtain ⟨d0, d1⟩ := two_cells (b7.laterB hR)
                            clear H hin hout hget
                            dsimp only [bare]
                            go_wp2
                            exact ⟨_, rfl, shows0 hR rfl⟩
                          · intro vs a w hR H hin hout hget
                            refine one_guard 9 false 241 rfl (by kernel_rfl) ((hget 9 241 (by kernel_rfl)).trans (congrArg some (H 9 (by decide)))) ?_
                            have e0 := (hget 11 243 (by kernel_rfl)).trans (congrArg some (H 11 (by decide)))
                            clear H hin hout hget
                            dsimp only [bare]
                            go_wp2
                            exact ⟨_, rfl, shows0 hR rfl⟩
                          · intro vs a w hR H hin hout hget
                            refine one_guard 9 false 241 rfl (by kernel_rfl) ((hget 9 241 (by kernel_rfl)).trans (congrArg some (H 9 (by decide)))) ?_
                            have e0 := hout 20 (by kernel_rfl)
                            clear H hin hout hget
                            dsimp only [bare]
                            go_wp2
                            exact ⟨_, rfl, shows0 hR rfl⟩
                          · intro vs a w hR H hin hout hget
                            refine one_guard 9 false 241 rfl (by kernel_rfl) ((hget 9 241 (by kernel_rfl)).trans (congrArg some (H 9 (by decide)))) ?_
                            have e0 := hout 21 (by kernel_rfl)
                            clear H hin hout hget
                            dsimp only [bare]
                            go_wp2
                            exact ⟨_, rfl, shows0 hR rfl⟩
                          · intro vs a w hR H hin hout hget
                            refine one_guard 9 false 241 rfl (by kernel_rfl) ((hget 9 241 (by kernel_rfl)).trans (congrArg some (H 9 (by decide)))) ?_
                            have e0 := (hget 14 246 (by kernel_rfl)).trans (congrArg some (H 14 (by decide)))
                            have hk256 := hkl
                            clear H hin hout hget
                            dsimp only [bare]
                            go_wp2
                            exact ⟨_, rfl, shows0 hR rfl⟩
                          · intro vs a w hR H hin hout hget
                            refine one_guard 9 false 241 rfl (by kernel_rfl) ((hget 9 241 (by kernel_rfl)).trans (congrArg some (H 9 (by decide)))) ?_
                            have e0 := (hget 15 247 (by kernel_rfl)).trans (congrArg some (H 15 (by decide)))
                            have hk256 := hkl
                            clear H hin hout hget
                            dsimp only [bare]
                            go_wp2
                            exact ⟨_, rfl, shows0 hR rfl⟩
                          · intro vs a w hR H hin hout hget
                            refine one_guard 9 false 241 rfl (by kernel_rfl) ((hget 9 241 (by kernel_rfl)).trans (congrArg some (H 9 (by decide)))) ?_
                            have e0 := (hget 13 245 (by kernel_rfl)).trans (congrArg some (H 13 (by decide)))
                            have e1 := (hget 16 248 (by kernel_rfl)).trans (congrArg some (H 16 (by decide)))
                            clear H hin hout hget
                            dsimp only [bare]
                            go_wp2
                            exact ⟨_, rfl, shows0 hR rfl⟩
                          · intro vs a w hR H hin hout hget
                            refine one_guard 9 false 241 rfl (by kernel_rfl) ((hget 9 241 (by kernel_rfl)).trans (congrArg some (H 9 (by decide)))) ?_
                            have e0 := (hget 17 249 (by kernel_rfl)).trans (congrArg some (H 17 (by decide)))
                            have d0 := ce1 w hR
                            clear H hin hout hget
                            dsimp only [bare]
                            go_wp2
                            exact ⟨_, rfl, shows0 hR rfl⟩
                          · intro vs a w hR H hin hout hget
                            refine one_guard 9 false 241 rfl (by kernel_rfl) ((hget 9 241 (by kernel_rfl)).trans (congrArg some (H 9 (by decide)))) ?_
                            have e0 := (hget 12 244 (by kernel_rfl)).trans (congrArg some (H 12 (by decide)))
                            have e1 := (hget 18 250 (by kernel_rfl)).trans (congrArg some (H 18 (by decide)))
                            clear H hin hout hget
                            dsimp only [bare]
                            go_wp2
                            exact ⟨_, rfl, shows0 hR rfl⟩
                          · intro vs a w hR H hin hout hget
                            refine one_free rfl ?_
                            have e0 := (hget 9 241 (by kernel_rfl)).trans (congrArg some (H 9 (by decide)))
                            have e1 := (hget 19 251 (by kernel_rfl)).trans (congrArg some (H 19 (by decide)))
                            clear H hin hout hget
                            dsimp only [bare]
                            go_wp2
                            exact ⟨_, rfl, shows0 hR rfl⟩
                        · intro vs w9 hR H
                          have e20 : vs 20 = .bool false := H 20 (by decide)
                          have hB9 := hBk.trans ((hB7.trans (hR.mono hB7.size)).mono hBk.size)
                          simp only [putAll, Act.put, List.setIfInBounds_toArray, List.set_cons_succ, List.set_cons_zero, Nat.zero_add, Nat.reduceAdd, e20]
                          clear H hR e20 ce0 ce1 b7 hB7
                          go_wp2
                          go_roundw
                          case rel => exact ⟨k + 1, by omega, by go_num, hB9⟩
                          case measure => simp [intOf]; omega
                      · obtain rfl : k = l.length := by omega
                        go_wp2
                        go_ret
                        exact ⟨rfl, hB.trans (hBk.mono hB.size)⟩
end Go.Proofs.Ytojmkgllbhbeiaa
