/-
  WALKS: AlphabetJoins.
-/
import Derived.Test.YtojmkgllbhbeiaaE2b
namespace Go.Proofs.Ytojmkgllbhbeiaa
open Go.RowKit

theorem app_sl {w : World} {B : Nat} {v : Value} {a b : List Nat} (h : w.ownsRow B 24 4 v (a.length + b.length) (setCells a ++ setCells b)) : Sl w v 4 (a ++ b).length (setCells (a ++ b)) := by
  have := sl_of_owns h
  rw [setCells_append, List.length_append]
  exact this
theorem told_swap (k l : List Nat) : toldB (k ++ l) (l ++ k) = true := toldB_iff.2 fun c d _ _ => by rw [sameB_append, sameB_append, Bool.and_comm]
theorem told_twice (k : List Nat) : toldB (k ++ k) k = true := toldB_iff.2 fun c d _ _ => by rw [sameB_append, Bool.and_self]
theorem ref_both (k l m : List Nat) : refB m (k ++ l) = (refB m k && refB m l) := by
  rw [Bool.eq_iff_iff, Bool.and_eq_true, refB_iff, refB_iff, refB_iff, Ref.both]
theorem told_and (k l : List Nat) : toldB k l = (refB k l && refB l k) := rfl
theorem told_left (k l : List Nat) : toldB (k ++ l) k = refB k l := by
  unfold toldB
  rw [ref_both, refB_iff.2 (Ref.left k l), refB_self]; rfl
theorem len_one {w : World} {b : Nat} (h : AlphOf w b []) : Calls Try.prog 41 #[.pointer (some ⟨b, 0, none⟩)] w fun e w' => e = .returned (.int .i64 1) ∧ w = w' := by
  obtain ⟨ds, h1, h2⟩ := h
  have := len_any h2 h1.pos
  rw [one_class h1] at this
  exact this

set_option maxRecDepth 100000 in
set_option maxHeartbeats 4000000 in
theorem joins_core (A1 A2 A3 : Option Addr) (c1 c2 c3 n1 n2 n3 : Nat) (k l m : List Nat) (hk : ∀ s ∈ k, s < 2 ^ 256) (hl : ∀ s ∈ l, s < 2 ^ 256) (hm : ∀ s ∈ m, s < 2 ^ 256) (w : World)
    (HF1 : ∀ w', Below w.heap.size w w' → Calls Try.prog 40 #[.slice A1 n1 c1] w' fun e w'' => e = .returned (.slice A1 k.length c1) ∧ w' = w'')
    (HF2 : ∀ w', Below w.heap.size w w' → Calls Try.prog 40 #[.slice A2 n2 c2] w' fun e w'' => e = .returned (.slice A2 l.length c2) ∧ w' = w'')
    (HF3 : ∀ w', Below w.heap.size w w' → Calls Try.prog 40 #[.slice A3 n3 c3] w' fun e w'' => e = .returned (.slice A3 m.length c3) ∧ w' = w'')
    (h1 : Sl w (.slice A1 k.length c1) 4 k.length (setCells k)) (h2 : Sl w (.slice A2 l.length c2) 4 l.length (setCells l)) (h3 : Sl w (.slice A3 m.length c3) 4 m.length (setCells m)) (hn1 : k.length ≤ 6) (hn2 : l.length ≤ 6) (hn3 : m.length ≤ 6) :
    Calls Try.prog 14 #[.slice A1 n1 c1, .slice A2 n2 c2, .slice A3 n3 c3] w fun e w' => e = .returned (.bool true) ∧ Below w.heap.size w w' := by
  obtain ⟨i24, hi, hz0, hz1, hz2⟩ := info_parts info24
  have HA := fun w => awakeA_any w
  replace HF1 := Lib.hid HF1
  replace HF2 := Lib.hid HF2
  replace HF3 := Lib.hid HF3
  have HO1 := Lib.hid fun w' (h : Below w.heap.size w w') => of_of (.slice A1 k.length c1) k hk w' (h1.laterB h) (by omega)
  have HO2 := Lib.hid fun w' (h : Below w.heap.size w w') => of_of (.slice A2 l.length c2) l hl w' (h2.laterB h) (by omega)
  have HO3 := Lib.hid fun w' (h : Below w.heap.size w w') => of_of (.slice A3 m.length c3) m hm w' (h3.laterB h) (by omega)
  have HO0 := Lib.hid fun w' => of_of (.slice none 0 0) [] (by simp) w' ⟨rfl, .inl ⟨rfl, rfl⟩⟩ (by decide)
  have hkl : Hid (∀ s ∈ k ++ l, s < 2 ^ 256) := fun s hs => by
    rcases List.mem_append.1 hs with h | h
    · exact hk s h
    · exact hl s h
  replace h1 := Lib.hid h1
  replace h2 := Lib.hid h2
  replace h3 := Lib.hid h3
  go_enter Try.func14, Try.ntmps14
  go_wp2_with fail
  refine (HA _).mono ?_
  rintro e w1 ⟨rfl, hB⟩
  clear HA
  go_wp2_with fail
  refine (HF1.out _ hB).mono ?_
  rintro e w' ⟨rfl, rfl⟩
  go_wp2_with fail
  refine (HO1.out _ hB).mono ?_
  rintro e w2 ⟨a, rfl, ha, hb0⟩
  replace hB := bthen hB hb0
  clear hb0 HO1
  go_wp2_with fail
  refine (HF2.out _ hB).mono ?_
  rintro e w' ⟨rfl, rfl⟩
  go_wp2_with fail
  refine (HO2.out _ hB).mono ?_
  rintro e w3 ⟨b, rfl, hb, hb0⟩
  replace hB := bthen hB hb0
  replace ha := ha.later hb0
  clear hb0 HO2
  go_wp2_with fail
  refine (HF3.out _ hB).mono ?_
  rintro e w' ⟨rfl, rfl⟩
  go_wp2_with fail
  refine (HO3.out _ hB).mono ?_
  rintro e w4 ⟨c, rfl, hc, hb0⟩
  replace hB := bthen hB hb0
  replace ha := ha.later hb0
  replace hb := hb.later hb0
  clear hb0 HO3 HF3 h3
  go_wp2_with fail
  refine (join_of a b _ ha hb).mono ?_
  rintro e w5 ⟨ab, rfl, hab, hb0⟩
  replace hB := bthen hB hb0
  replace ha := ha.later hb0
  replace hb := hb.later hb0
  replace hc := hc.later hb0
  clear hb0
  go_wp2_with fail
  refine (join_of b a _ hb ha).mono ?_
  rintro e w6 ⟨ba, rfl, hba, hb0⟩
  replace hB := bthen hB hb0
  replace ha := ha.later hb0
  replace hb := hb.later hb0
  replace hc := hc.later hb0
  replace hab := hab.later hb0
  clear hb0
  go_wp2_with fail
  refine (join_of b c _ hb hc).mono ?_
  rintro e w7 ⟨bc, rfl, hbc, hb0⟩
  replace hB := bthen hB hb0
  replace ha := ha.later hb0
  replace hb := hb.later hb0
  replace hc := hc.later hb0
  replace hab := hab.later hb0
  replace hba := hba.later hb0
  clear hb0
  go_wp2_with fail
  refine (join_of ab c _ hab hc).mono ?_
  rintro e w8 ⟨le, rfl, hle, hb0⟩
  replace hB := bthen hB hb0
  replace ha := ha.later hb0
  replace hb := hb.later hb0
  replace hc := hc.later hb0
  replace hab := hab.later hb0
  replace hba := hba.later hb0
  replace hbc := hbc.later hb0
  clear hb0
  go_wp2_with fail
  refine (join_of a bc _ ha hbc).mono ?_
  rintro e w9 ⟨ri, rfl, hri, hb0⟩
  replace hB := bthen hB hb0
  replace ha := ha.later hb0
  replace hb := hb.later hb0
  replace hc := hc.later hb0
  replace hab := hab.later hb0
  replace hba := hba.later hb0
  replace hbc := hbc.later hb0
  replace hle := hle.later hb0
  clear hb0
  go_wp2_with fail
  refine (all_of _).mono ?_
  rintro e w10 ⟨al, rfl, hal, hb0⟩
  replace hB := bthen hB hb0
  replace ha := ha.later hb0
  replace hb := hb.later hb0
  replace hc := hc.later hb0
  replace hab := hab.later hb0
  replace hba := hba.later hb0
  replace hbc := hbc.later hb0
  replace hle := hle.later hb0
  replace hri := hri.later hb0
  clear hb0
  go_wp2_with fail
  refine (HO0.out _).mono ?_
  rintro e w11 ⟨on, rfl, hon, hb0⟩
  replace hB := bthen hB hb0
  replace ha := ha.later hb0
  replace hb := hb.later hb0
  replace hc := hc.later hb0
  replace hab := hab.later hb0
  replace hba := hba.later hb0
  replace hbc := hbc.later hb0
  replace hle := hle.later hb0
  replace hri := hri.later hb0
  replace hal := hal.later hb0
  clear hb0 HO0
  go_wp2_with fail
  obtain ⟨W, hW, k9, hb0⟩ : ∃ W, W = w11.alloc (.cells #[.pointer (some ⟨a, 0, none⟩), .pointer (some ⟨b, 0, none⟩), .pointer (some ⟨c, 0, none⟩), .pointer (some ⟨ab, 0, none⟩), .pointer (some ⟨ba, 0, none⟩), .pointer (some ⟨bc, 0, none⟩), .pointer (some ⟨le, 0, none⟩), .pointer (some ⟨ri, 0, none⟩), .pointer (some ⟨al, 0, none⟩), .pointer (some ⟨on, 0, none⟩)] 52) ∧ Blk W w11.heap.size #[.pointer (some ⟨a, 0, none⟩), .pointer (some ⟨b, 0, none⟩), .pointer (some ⟨c, 0, none⟩), .pointer (some ⟨ab, 0, none⟩), .pointer (some ⟨ba, 0, none⟩), .pointer (some ⟨bc, 0, none⟩), .pointer (some ⟨le, 0, none⟩), .pointer (some ⟨ri, 0, none⟩), .pointer (some ⟨al, 0, none⟩), .pointer (some ⟨on, 0, none⟩)] 52 ∧ Below w11.heap.size w11 W := ⟨_, rfl, blkOf1 w11 _ _, below1 w11 _⟩
  rw [← hW]
  clear hW
  replace ha := ha.later hb0
  replace hb := hb.later hb0
  replace hc := hc.later hb0
  replace hab := hab.later hb0
  replace hba := hba.later hb0
  replace hbc := hbc.later hb0
  replace hle := hle.later hb0
  replace hri := hri.later hb0
  replace hal := hal.later hb0
  replace hon := hon.later hb0
  replace hB := bthen hB hb0
  clear hb0
  have hcell : Hid (∀ i, i < 10 → ∃ ss p, AlphOf W p ss ∧ W.cell? ⟨w11.heap.size, i, none⟩ = some (.pointer (some ⟨p, 0, none⟩))) := fun i hi => by
    rcases (by omega : i = 0 ∨ i = 1 ∨ i = 2 ∨ i = 3 ∨ i = 4 ∨ i = 5 ∨ i = 6 ∨ i = 7 ∨ i = 8 ∨ i = 9) with rfl | rfl | rfl | rfl | rfl | rfl | rfl | rfl | rfl | rfl
    · exact ⟨_, a, ha, k9.cell _⟩
    · exact ⟨_, b, hb, k9.cell _⟩
    · exact ⟨_, c, hc, k9.cell _⟩
    · exact ⟨_, ab, hab, k9.cell _⟩
    · exact ⟨_, ba, hba, k9.cell _⟩
    · exact ⟨_, bc, hbc, k9.cell _⟩
    · exact ⟨_, le, hle, k9.cell _⟩
    · exact ⟨_, ri, hri, k9.cell _⟩
    · exact ⟨_, al, hal, k9.cell _⟩
    · exact ⟨_, on, hon, k9.cell _⟩
  have k9lt := k9.lt
  clear k9
  generalize w11.heap.size = g at hcell k9lt ⊢
  go_loopw [60] (fun i wr => ∃ q : Nat, q ≤ 10 ∧ i = .int .i64 q ∧ Below W.heap.size W wr) (fun i _ => 10 - (intOf i).toNat)
  case atStart => exact ⟨0, by omega, rfl, Below.refl _ _⟩
  case round =>
    obtain ⟨q, hq, rfl, hR⟩ := hrel
    by_cases hlt : q < 10
    · obtain ⟨ss, p, hp, hpc⟩ := hcell.out q hlt
      replace hpc := (hR.cell (p := ⟨g, q, none⟩) k9lt).trans hpc
      replace hp := hp.later hR
      have hal1 := hal.later hR
      have hon1 := hon.later hR
      have hq0 : (0 : Int) ≤ (q : Int) := Int.natCast_nonneg _
      have hq1 : (q : Int) < 10 := by omega
      clear hcell ha hb hc hab hba hbc hle hri hal hon
      have F1 := Lib.hid fun w (h1 : AlphOf w al (ones 256)) (h2 : AlphOf w p ss) => finer_of al p w h1 h2
      rw [refB_all] at F1
      have F2 := Lib.hid fun w (h1 : AlphOf w p ss) (h2 : AlphOf w on []) => finer_of p on w h1 h2
      rw [refB_none] at F2
      have F3 := Lib.hid fun w (h1 : AlphOf w p ss) => finer_of p p w h1 h1
      rw [refB_self] at F3
      have F4 := Lib.hid fun w (h1 : AlphOf w p ss) => same_of p p w h1 h1
      rw [toldB_self] at F4
      go_wp2_with fail
      refine (F1.out _ hal1 hp).mono ?_
      rintro e v1 ⟨rfl, hb0⟩
      replace hp := hp.later hb0
      replace hon1 := hon1.later hb0
      replace hR := hR.trans (hb0.mono hR.size)
      clear hb0 F1
      go_wp2_with fail
      refine (F2.out _ hp hon1).mono ?_
      rintro e v2 ⟨rfl, hb0⟩
      replace hp := hp.later hb0
      replace hR := hR.trans (hb0.mono hR.size)
      clear hb0 F2
      go_wp2_with fail
      refine (F3.out _ hp).mono ?_
      rintro e v3 ⟨rfl, hb0⟩
      replace hp := hp.later hb0
      replace hR := hR.trans (hb0.mono hR.size)
      clear hb0 F3
      go_wp2_with fail
      refine (F4.out _ hp).mono ?_
      rintro e v4 ⟨rfl, hb0⟩
      replace hR := hR.trans (hb0.mono hR.size)
      clear hb0 F4
      go_wp2
      exact ⟨⟨q + 1, by omega, by go_num, hR⟩, by simp [intOf]; omega⟩
    · obtain rfl : q = 10 := by omega
      clear hcell k9lt hal hbc
      replace ha := ha.later hR
      replace hb := hb.later hR
      replace hc := hc.later hR
      replace hab := hab.later hR
      replace hba := hba.later hR
      replace hle := hle.later hR
      replace hri := hri.later hR
      replace hon := hon.later hR
      have T1 := Lib.hid fun w (h1 : AlphOf w ab (k ++ l)) (h2 : AlphOf w ba (l ++ k)) => same_of ab ba w h1 h2
      rw [told_swap] at T1
      have T2 := Lib.hid fun w (h1 : AlphOf w le (k ++ l ++ m)) (h2 : AlphOf w ri (k ++ (l ++ m))) => same_of le ri w h1 h2
      rw [List.append_assoc, toldB_self] at T2
      rw [List.append_assoc] at hle
      have T3 := Lib.hid fun w (h1 : AlphOf w ab (k ++ l)) (h2 : AlphOf w a k) => finer_of ab a w h1 h2
      rw [refB_iff.2 (Ref.left k l)] at T3
      have T4 := Lib.hid fun w (h1 : AlphOf w ab (k ++ l)) (h2 : AlphOf w b l) => finer_of ab b w h1 h2
      rw [refB_iff.2 (Ref.right k l)] at T4
      have T5 := Lib.hid fun w p (h1 : AlphOf w p (k ++ k)) (h2 : AlphOf w a k) => same_of p a w h1 h2
      rw [told_twice] at T5
      go_wp2_with fail
      refine (T1.out _ hab hba).mono ?_
      rintro e y1 ⟨rfl, hb0⟩
      replace ha := ha.later hb0
      replace hb := hb.later hb0
      replace hc := hc.later hb0
      replace hab := hab.later hb0
      replace hle := hle.later hb0
      replace hri := hri.later hb0
      replace hon := hon.later hb0
      replace hR := hR.trans (hb0.mono hR.size)
      clear hb0 T1 hba
      go_wp2_with fail
      refine (T2.out _ hle hri).mono ?_
      rintro e y2 ⟨rfl, hb0⟩
      replace ha := ha.later hb0
      replace hb := hb.later hb0
      replace hc := hc.later hb0
      replace hab := hab.later hb0
      replace hon := hon.later hb0
      replace hR := hR.trans (hb0.mono hR.size)
      clear hb0 T2 hle hri
      go_wp2_with fail
      refine (T3.out _ hab ha).mono ?_
      rintro e y3 ⟨rfl, hb0⟩
      replace ha := ha.later hb0
      replace hb := hb.later hb0
      replace hc := hc.later hb0
      replace hab := hab.later hb0
      replace hon := hon.later hb0
      replace hR := hR.trans (hb0.mono hR.size)
      clear hb0 T3
      go_wp2_with fail
      refine (T4.out _ hab hb).mono ?_
      rintro e y4 ⟨rfl, hb0⟩
      replace ha := ha.later hb0
      replace hb := hb.later hb0
      replace hc := hc.later hb0
      replace hab := hab.later hb0
      replace hon := hon.later hb0
      replace hR := hR.trans (hb0.mono hR.size)
      clear hb0 T4
      go_wp2_with fail
      refine (join_of a a _ ha ha).mono ?_
      rintro e y5 ⟨aa, rfl, haa, hb0⟩
      replace ha := ha.later hb0
      replace hb := hb.later hb0
      replace hc := hc.later hb0
      replace hab := hab.later hb0
      replace hon := hon.later hb0
      replace hR := hR.trans (hb0.mono hR.size)
      clear hb0 
      go_wp2_with fail
      refine (T5.out _ _ haa ha).mono ?_
      rintro e y6 ⟨rfl, hb0⟩
      replace ha := ha.later hb0
      replace hb := hb.later hb0
      replace hc := hc.later hb0
      replace hab := hab.later hb0
      replace hon := hon.later hb0
      replace hR := hR.trans (hb0.mono hR.size)
      clear hb0 T5 haa
      go_wp2_with fail
      refine (len_one hon).mono ?_
      rintro e w' ⟨rfl, rfl⟩
      clear hon
      have U1 := Lib.hid fun w (h1 : AlphOf w c m) (h2 : AlphOf w a k) => finer_of c a w h1 h2
      have U2 := Lib.hid fun w (h1 : AlphOf w c m) (h2 : AlphOf w b l) => finer_of c b w h1 h2
      have U3 := Lib.hid fun w (h1 : AlphOf w c m) (h2 : AlphOf w ab (k ++ l)) => finer_of c ab w h1 h2
      have e3 := ref_both k l m
      have V1 := Lib.hid fun w (h1 : AlphOf w a k) (h2 : AlphOf w b l) => finer_of a b w h1 h2
      have V2 := Lib.hid fun w (h1 : AlphOf w a k) (h2 : AlphOf w b l) => finer_of b a w h2 h1
      have V3 := Lib.hid fun w (h1 : AlphOf w a k) (h2 : AlphOf w b l) => same_of a b w h1 h2
      have V4 := Lib.hid fun w (h1 : AlphOf w ab (k ++ l)) (h2 : AlphOf w a k) => same_of ab a w h1 h2
      have V5 := Lib.hid fun w p (h1 : AlphOf w p (k ++ l)) (h2 : AlphOf w ab (k ++ l)) => same_of p ab w h1 h2
      rw [toldB_self] at V5
      rw [told_and] at V3
      rw [told_left] at V4
      rw [e3] at U3
      clear e3
      generalize refB m k = p1 at U1 U3
      generalize refB m l = p2 at U2 U3
      generalize refB k l = p3 at V1 V3 V4
      generalize refB l k = p4 at V2 V3
      cases p1
      · go_wp2_with fail
        refine (U1.out _ hc ha).mono ?_
        rintro e y7 ⟨rfl, hb0⟩
        replace ha := ha.later hb0
        replace hb := hb.later hb0
        replace hc := hc.later hb0
        replace hab := hab.later hb0
        replace hR := hR.trans (hb0.mono hR.size)
        clear hb0 U1 U2
        go_wp2_with fail
        refine (U3.out _ hc hab).mono ?_
        rintro e y9 ⟨rfl, hb0⟩
        replace ha := ha.later hb0
        replace hb := hb.later hb0
        replace hab := hab.later hb0
        replace hR := hR.trans (hb0.mono hR.size)
        clear hb0 U3 hc
        cases p3
        · go_wp2_with fail
          refine (V1.out _ ha hb).mono ?_
          rintro e z1 ⟨rfl, hb0⟩
          replace ha := ha.later hb0
          replace hb := hb.later hb0
          replace hab := hab.later hb0
          replace hR := hR.trans (hb0.mono hR.size)
          clear hb0 
          go_wp2_with fail
          refine (V3.out _ ha hb).mono ?_
          rintro e z3 ⟨rfl, hb0⟩
          replace ha := ha.later hb0
          replace hb := hb.later hb0
          replace hab := hab.later hb0
          replace hR := hR.trans (hb0.mono hR.size)
          clear hb0 
          go_wp2_with fail
          refine (V1.out _ ha hb).mono ?_
          rintro e z4 ⟨rfl, hb0⟩
          replace ha := ha.later hb0
          replace hb := hb.later hb0
          replace hab := hab.later hb0
          replace hR := hR.trans (hb0.mono hR.size)
          clear hb0 
          go_wp2_with fail
          refine (V4.out _ hab ha).mono ?_
          rintro e z5 ⟨rfl, hb0⟩
          replace hab := hab.later hb0
          replace hR := hR.trans (hb0.mono hR.size)
          clear hb0 ha hb V1 V2 V3 V4
          go_wp2_with fail
          refine (HF1.out _ (hB.trans (hR.mono hB.size))).mono ?_
          rintro e w' ⟨rfl, rfl⟩
          go_wp2_with fail
          refine (cloneSets_any _ k _ (h1.out.laterB (hB.trans (hR.mono hB.size))) (by omega)).mono ?_
          rintro e z1 ⟨v1, rfl, hown, hb0⟩
          have hR2 := hR.trans (hb0.mono hR.size)
          go_wp2_with fail
          refine (HF2.out _ (hB.trans (hR2.mono hB.size))).mono ?_
          rintro e w' ⟨rfl, rfl⟩
          have h2' := Lib.hid (h2.out.laterB (hB.trans (hR2.mono hB.size)))
          go_wp2_with (at_builtin; go_must (refine wpList_append_sl rfl _ _ 37 rfl _ 24 i24 (.agg #[.int .u64 0, .int .u64 0, .int .u64 0, .int .u64 0]) 4 32 Try.underlying37 hi hz0 hz1 hz2 rfl (by decide) v1 k.length (setCells k) rfl hown _ l.length (setCells l) rfl h2'.out (setCells_one l) (by unfold maxLen; omega) (by omega) hb0.size ?_); intro v2 z2 hown2 hb1 _)
          have hB3 := hb0.trans hb1
          replace hab := hab.later hB3
          clear h2' hb0 hb1 hown
          refine (of_of v2 (k ++ l) hkl.out z2 (app_sl hown2) (by rw [List.length_append]; omega)).mono ?_
          rintro e z3 ⟨q, rfl, hq, hb0⟩
          replace hab := hab.later hb0
          replace hB3 := bthen hB3 hb0
          clear hown2 hb0
          go_wp2_with fail
          refine (V5.out _ _ hq hab).mono ?_
          rintro e z4 ⟨rfl, hb0⟩
          replace hB3 := bthen hB3 hb0
          go_wp2
          go_ret
          exact ⟨rfl, hB.trans ((hR.trans (hB3.mono hR.size)).mono hB.size)⟩
        · cases p4
          · go_wp2_with fail
            refine (V1.out _ ha hb).mono ?_
            rintro e z1 ⟨rfl, hb0⟩
            replace ha := ha.later hb0
            replace hb := hb.later hb0
            replace hab := hab.later hb0
            replace hR := hR.trans (hb0.mono hR.size)
            clear hb0 
            go_wp2_with fail
            refine (V2.out _ ha hb).mono ?_
            rintro e z2 ⟨rfl, hb0⟩
            replace ha := ha.later hb0
            replace hb := hb.later hb0
            replace hab := hab.later hb0
            replace hR := hR.trans (hb0.mono hR.size)
            clear hb0 
            go_wp2_with fail
            refine (V3.out _ ha hb).mono ?_
            rintro e z3 ⟨rfl, hb0⟩
            replace ha := ha.later hb0
            replace hb := hb.later hb0
            replace hab := hab.later hb0
            replace hR := hR.trans (hb0.mono hR.size)
            clear hb0 
            go_wp2_with fail
            refine (V1.out _ ha hb).mono ?_
            rintro e z4 ⟨rfl, hb0⟩
            replace ha := ha.later hb0
            replace hb := hb.later hb0
            replace hab := hab.later hb0
            replace hR := hR.trans (hb0.mono hR.size)
            clear hb0 
            go_wp2_with fail
            refine (V4.out _ hab ha).mono ?_
            rintro e z5 ⟨rfl, hb0⟩
            replace hab := hab.later hb0
            replace hR := hR.trans (hb0.mono hR.size)
            clear hb0 ha hb V1 V2 V3 V4
            go_wp2_with fail
            refine (HF1.out _ (hB.trans (hR.mono hB.size))).mono ?_
            rintro e w' ⟨rfl, rfl⟩
            go_wp2_with fail
            refine (cloneSets_any _ k _ (h1.out.laterB (hB.trans (hR.mono hB.size))) (by omega)).mono ?_
            rintro e z1 ⟨v1, rfl, hown, hb0⟩
            have hR2 := hR.trans (hb0.mono hR.size)
            go_wp2_with fail
            refine (HF2.out _ (hB.trans (hR2.mono hB.size))).mono ?_
            rintro e w' ⟨rfl, rfl⟩
            have h2' := Lib.hid (h2.out.laterB (hB.trans (hR2.mono hB.size)))
            go_wp2_with (at_builtin; go_must (refine wpList_append_sl rfl _ _ 37 rfl _ 24 i24 (.agg #[.int .u64 0, .int .u64 0, .int .u64 0, .int .u64 0]) 4 32 Try.underlying37 hi hz0 hz1 hz2 rfl (by decide) v1 k.length (setCells k) rfl hown _ l.length (setCells l) rfl h2'.out (setCells_one l) (by unfold maxLen; omega) (by omega) hb0.size ?_); intro v2 z2 hown2 hb1 _)
            have hB3 := hb0.trans hb1
            replace hab := hab.later hB3
            clear h2' hb0 hb1 hown
            refine (of_of v2 (k ++ l) hkl.out z2 (app_sl hown2) (by rw [List.length_append]; omega)).mono ?_
            rintro e z3 ⟨q, rfl, hq, hb0⟩
            replace hab := hab.later hb0
            replace hB3 := bthen hB3 hb0
            clear hown2 hb0
            go_wp2_with fail
            refine (V5.out _ _ hq hab).mono ?_
            rintro e z4 ⟨rfl, hb0⟩
            replace hB3 := bthen hB3 hb0
            go_wp2
            go_ret
            exact ⟨rfl, hB.trans ((hR.trans (hB3.mono hR.size)).mono hB.size)⟩
          · go_wp2_with fail
            refine (V1.out _ ha hb).mono ?_
            rintro e z1 ⟨rfl, hb0⟩
            replace ha := ha.later hb0
            replace hb := hb.later hb0
            replace hab := hab.later hb0
            replace hR := hR.trans (hb0.mono hR.size)
            clear hb0 
            go_wp2_with fail
            refine (V2.out _ ha hb).mono ?_
            rintro e z2 ⟨rfl, hb0⟩
            replace ha := ha.later hb0
            replace hb := hb.later hb0
            replace hab := hab.later hb0
            replace hR := hR.trans (hb0.mono hR.size)
            clear hb0 
            go_wp2_with fail
            refine (V3.out _ ha hb).mono ?_
            rintro e z3 ⟨rfl, hb0⟩
            replace ha := ha.later hb0
            replace hb := hb.later hb0
            replace hab := hab.later hb0
            replace hR := hR.trans (hb0.mono hR.size)
            clear hb0 
            go_wp2_with fail
            refine (V1.out _ ha hb).mono ?_
            rintro e z4 ⟨rfl, hb0⟩
            replace ha := ha.later hb0
            replace hb := hb.later hb0
            replace hab := hab.later hb0
            replace hR := hR.trans (hb0.mono hR.size)
            clear hb0 
            go_wp2_with fail
            refine (V4.out _ hab ha).mono ?_
            rintro e z5 ⟨rfl, hb0⟩
            replace hab := hab.later hb0
            replace hR := hR.trans (hb0.mono hR.size)
            clear hb0 ha hb V1 V2 V3 V4
            go_wp2_with fail
            refine (HF1.out _ (hB.trans (hR.mono hB.size))).mono ?_
            rintro e w' ⟨rfl, rfl⟩
            go_wp2_with fail
            refine (cloneSets_any _ k _ (h1.out.laterB (hB.trans (hR.mono hB.size))) (by omega)).mono ?_
            rintro e z1 ⟨v1, rfl, hown, hb0⟩
            have hR2 := hR.trans (hb0.mono hR.size)
            go_wp2_with fail
            refine (HF2.out _ (hB.trans (hR2.mono hB.size))).mono ?_
            rintro e w' ⟨rfl, rfl⟩
            have h2' := Lib.hid (h2.out.laterB (hB.trans (hR2.mono hB.size)))
            go_wp2_with (at_builtin; go_must (refine wpList_append_sl rfl _ _ 37 rfl _ 24 i24 (.agg #[.int .u64 0, .int .u64 0, .int .u64 0, .int .u64 0]) 4 32 Try.underlying37 hi hz0 hz1 hz2 rfl (by decide) v1 k.length (setCells k) rfl hown _ l.length (setCells l) rfl h2'.out (setCells_one l) (by unfold maxLen; omega) (by omega) hb0.size ?_); intro v2 z2 hown2 hb1 _)
            have hB3 := hb0.trans hb1
            replace hab := hab.later hB3
            clear h2' hb0 hb1 hown
            refine (of_of v2 (k ++ l) hkl.out z2 (app_sl hown2) (by rw [List.length_append]; omega)).mono ?_
            rintro e z3 ⟨q, rfl, hq, hb0⟩
            replace hab := hab.later hb0
            replace hB3 := bthen hB3 hb0
            clear hown2 hb0
            go_wp2_with fail
            refine (V5.out _ _ hq hab).mono ?_
            rintro e z4 ⟨rfl, hb0⟩
            replace hB3 := bthen hB3 hb0
            go_wp2
            go_ret
            exact ⟨rfl, hB.trans ((hR.trans (hB3.mono hR.size)).mono hB.size)⟩
      · cases p2
        · go_wp2_with fail
          refine (U1.out _ hc ha).mono ?_
          rintro e y7 ⟨rfl, hb0⟩
          replace ha := ha.later hb0
          replace hb := hb.later hb0
          replace hc := hc.later hb0
          replace hab := hab.later hb0
          replace hR := hR.trans (hb0.mono hR.size)
          clear hb0 U1
          go_wp2_with fail
          refine (U2.out _ hc hb).mono ?_
          rintro e y8 ⟨rfl, hb0⟩
          replace ha := ha.later hb0
          replace hb := hb.later hb0
          replace hc := hc.later hb0
          replace hab := hab.later hb0
          replace hR := hR.trans (hb0.mono hR.size)
          clear hb0 U2
          go_wp2_with fail
          refine (U3.out _ hc hab).mono ?_
          rintro e y9 ⟨rfl, hb0⟩
          replace ha := ha.later hb0
          replace hb := hb.later hb0
          replace hab := hab.later hb0
          replace hR := hR.trans (hb0.mono hR.size)
          clear hb0 U3 hc
          cases p3
          · go_wp2_with fail
            refine (V1.out _ ha hb).mono ?_
            rintro e z1 ⟨rfl, hb0⟩
            replace ha := ha.later hb0
            replace hb := hb.later hb0
            replace hab := hab.later hb0
            replace hR := hR.trans (hb0.mono hR.size)
            clear hb0 
            go_wp2_with fail
            refine (V3.out _ ha hb).mono ?_
            rintro e z3 ⟨rfl, hb0⟩
            replace ha := ha.later hb0
            replace hb := hb.later hb0
            replace hab := hab.later hb0
            replace hR := hR.trans (hb0.mono hR.size)
            clear hb0 
            go_wp2_with fail
            refine (V1.out _ ha hb).mono ?_
            rintro e z4 ⟨rfl, hb0⟩
            replace ha := ha.later hb0
            replace hb := hb.later hb0
            replace hab := hab.later hb0
            replace hR := hR.trans (hb0.mono hR.size)
            clear hb0 
            go_wp2_with fail
            refine (V4.out _ hab ha).mono ?_
            rintro e z5 ⟨rfl, hb0⟩
            replace hab := hab.later hb0
            replace hR := hR.trans (hb0.mono hR.size)
            clear hb0 ha hb V1 V2 V3 V4
            go_wp2_with fail
            refine (HF1.out _ (hB.trans (hR.mono hB.size))).mono ?_
            rintro e w' ⟨rfl, rfl⟩
            go_wp2_with fail
            refine (cloneSets_any _ k _ (h1.out.laterB (hB.trans (hR.mono hB.size))) (by omega)).mono ?_
            rintro e z1 ⟨v1, rfl, hown, hb0⟩
            have hR2 := hR.trans (hb0.mono hR.size)
            go_wp2_with fail
            refine (HF2.out _ (hB.trans (hR2.mono hB.size))).mono ?_
            rintro e w' ⟨rfl, rfl⟩
            have h2' := Lib.hid (h2.out.laterB (hB.trans (hR2.mono hB.size)))
            go_wp2_with (at_builtin; go_must (refine wpList_append_sl rfl _ _ 37 rfl _ 24 i24 (.agg #[.int .u64 0, .int .u64 0, .int .u64 0, .int .u64 0]) 4 32 Try.underlying37 hi hz0 hz1 hz2 rfl (by decide) v1 k.length (setCells k) rfl hown _ l.length (setCells l) rfl h2'.out (setCells_one l) (by unfold maxLen; omega) (by omega) hb0.size ?_); intro v2 z2 hown2 hb1 _)
            have hB3 := hb0.trans hb1
            replace hab := hab.later hB3
            clear h2' hb0 hb1 hown
            refine (of_of v2 (k ++ l) hkl.out z2 (app_sl hown2) (by rw [List.length_append]; omega)).mono ?_
            rintro e z3 ⟨q, rfl, hq, hb0⟩
            replace hab := hab.later hb0
            replace hB3 := bthen hB3 hb0
            clear hown2 hb0
            go_wp2_with fail
            refine (V5.out _ _ hq hab).mono ?_
            rintro e z4 ⟨rfl, hb0⟩
            replace hB3 := bthen hB3 hb0
            go_wp2
            go_ret
            exact ⟨rfl, hB.trans ((hR.trans (hB3.mono hR.size)).mono hB.size)⟩
          · cases p4
            · go_wp2_with fail
              refine (V1.out _ ha hb).mono ?_
              rintro e z1 ⟨rfl, hb0⟩
              replace ha := ha.later hb0
              replace hb := hb.later hb0
              replace hab := hab.later hb0
              replace hR := hR.trans (hb0.mono hR.size)
              clear hb0 
              go_wp2_with fail
              refine (V2.out _ ha hb).mono ?_
              rintro e z2 ⟨rfl, hb0⟩
              replace ha := ha.later hb0
              replace hb := hb.later hb0
              replace hab := hab.later hb0
              replace hR := hR.trans (hb0.mono hR.size)
              clear hb0 
              go_wp2_with fail
              refine (V3.out _ ha hb).mono ?_
              rintro e z3 ⟨rfl, hb0⟩
              replace ha := ha.later hb0
              replace hb := hb.later hb0
              replace hab := hab.later hb0
              replace hR := hR.trans (hb0.mono hR.size)
              clear hb0 
              go_wp2_with fail
              refine (V1.out _ ha hb).mono ?_
              rintro e z4 ⟨rfl, hb0⟩
              replace ha := ha.later hb0
              replace hb := hb.later hb0
              replace hab := hab.later hb0
              replace hR := hR.trans (hb0.mono hR.size)
              clear hb0 
              go_wp2_with fail
              refine (V4.out _ hab ha).mono ?_
              rintro e z5 ⟨rfl, hb0⟩
              replace hab := hab.later hb0
              replace hR := hR.trans (hb0.mono hR.size)
              clear hb0 ha hb V1 V2 V3 V4
              go_wp2_with fail
              refine (HF1.out _ (hB.trans (hR.mono hB.size))).mono ?_
              rintro e w' ⟨rfl, rfl⟩
              go_wp2_with fail
              refine (cloneSets_any _ k _ (h1.out.laterB (hB.trans (hR.mono hB.size))) (by omega)).mono ?_
              rintro e z1 ⟨v1, rfl, hown, hb0⟩
              have hR2 := hR.trans (hb0.mono hR.size)
              go_wp2_with fail
              refine (HF2.out _ (hB.trans (hR2.mono hB.size))).mono ?_
              rintro e w' ⟨rfl, rfl⟩
              have h2' := Lib.hid (h2.out.laterB (hB.trans (hR2.mono hB.size)))
              go_wp2_with (at_builtin; go_must (refine wpList_append_sl rfl _ _ 37 rfl _ 24 i24 (.agg #[.int .u64 0, .int .u64 0, .int .u64 0, .int .u64 0]) 4 32 Try.underlying37 hi hz0 hz1 hz2 rfl (by decide) v1 k.length (setCells k) rfl hown _ l.length (setCells l) rfl h2'.out (setCells_one l) (by unfold maxLen; omega) (by omega) hb0.size ?_); intro v2 z2 hown2 hb1 _)
              have hB3 := hb0.trans hb1
              replace hab := hab.later hB3
              clear h2' hb0 hb1 hown
              refine (of_of v2 (k ++ l) hkl.out z2 (app_sl hown2) (by rw [List.length_append]; omega)).mono ?_
              rintro e z3 ⟨q, rfl, hq, hb0⟩
              replace hab := hab.later hb0
              replace hB3 := bthen hB3 hb0
              clear hown2 hb0
              go_wp2_with fail
              refine (V5.out _ _ hq hab).mono ?_
              rintro e z4 ⟨rfl, hb0⟩
              replace hB3 := bthen hB3 hb0
              go_wp2
              go_ret
              exact ⟨rfl, hB.trans ((hR.trans (hB3.mono hR.size)).mono hB.size)⟩
            · go_wp2_with fail
              refine (V1.out _ ha hb).mono ?_
              rintro e z1 ⟨rfl, hb0⟩
              replace ha := ha.later hb0
              replace hb := hb.later hb0
              replace hab := hab.later hb0
              replace hR := hR.trans (hb0.mono hR.size)
              clear hb0 
              go_wp2_with fail
              refine (V2.out _ ha hb).mono ?_
              rintro e z2 ⟨rfl, hb0⟩
              replace ha := ha.later hb0
              replace hb := hb.later hb0
              replace hab := hab.later hb0
              replace hR := hR.trans (hb0.mono hR.size)
              clear hb0 
              go_wp2_with fail
              refine (V3.out _ ha hb).mono ?_
              rintro e z3 ⟨rfl, hb0⟩
              replace ha := ha.later hb0
              replace hb := hb.later hb0
              replace hab := hab.later hb0
              replace hR := hR.trans (hb0.mono hR.size)
              clear hb0 
              go_wp2_with fail
              refine (V1.out _ ha hb).mono ?_
              rintro e z4 ⟨rfl, hb0⟩
              replace ha := ha.later hb0
              replace hb := hb.later hb0
              replace hab := hab.later hb0
              replace hR := hR.trans (hb0.mono hR.size)
              clear hb0 
              go_wp2_with fail
              refine (V4.out _ hab ha).mono ?_
              rintro e z5 ⟨rfl, hb0⟩
              replace hab := hab.later hb0
              replace hR := hR.trans (hb0.mono hR.size)
              clear hb0 ha hb V1 V2 V3 V4
              go_wp2_with fail
              refine (HF1.out _ (hB.trans (hR.mono hB.size))).mono ?_
              rintro e w' ⟨rfl, rfl⟩
              go_wp2_with fail
              refine (cloneSets_any _ k _ (h1.out.laterB (hB.trans (hR.mono hB.size))) (by omega)).mono ?_
              rintro e z1 ⟨v1, rfl, hown, hb0⟩
              have hR2 := hR.trans (hb0.mono hR.size)
              go_wp2_with fail
              refine (HF2.out _ (hB.trans (hR2.mono hB.size))).mono ?_
              rintro e w' ⟨rfl, rfl⟩
              have h2' := Lib.hid (h2.out.laterB (hB.trans (hR2.mono hB.size)))
              go_wp2_with (at_builtin; go_must (refine wpList_append_sl rfl _ _ 37 rfl _ 24 i24 (.agg #[.int .u64 0, .int .u64 0, .int .u64 0, .int .u64 0]) 4 32 Try.underlying37 hi hz0 hz1 hz2 rfl (by decide) v1 k.length (setCells k) rfl hown _ l.length (setCells l) rfl h2'.out (setCells_one l) (by unfold maxLen; omega) (by omega) hb0.size ?_); intro v2 z2 hown2 hb1 _)
              have hB3 := hb0.trans hb1
              replace hab := hab.later hB3
              clear h2' hb0 hb1 hown
              refine (of_of v2 (k ++ l) hkl.out z2 (app_sl hown2) (by rw [List.length_append]; omega)).mono ?_
              rintro e z3 ⟨q, rfl, hq, hb0⟩
              replace hab := hab.later hb0
              replace hB3 := bthen hB3 hb0
              clear hown2 hb0
              go_wp2_with fail
              refine (V5.out _ _ hq hab).mono ?_
              rintro e z4 ⟨rfl, hb0⟩
              replace hB3 := bthen hB3 hb0
              go_wp2
              go_ret
              exact ⟨rfl, hB.trans ((hR.trans (hB3.mono hR.size)).mono hB.size)⟩
        · go_wp2_with fail
          refine (U1.out _ hc ha).mono ?_
          rintro e y7 ⟨rfl, hb0⟩
          replace ha := ha.later hb0
          replace hb := hb.later hb0
          replace hc := hc.later hb0
          replace hab := hab.later hb0
          replace hR := hR.trans (hb0.mono hR.size)
          clear hb0 U1
          go_wp2_with fail
          refine (U2.out _ hc hb).mono ?_
          rintro e y8 ⟨rfl, hb0⟩
          replace ha := ha.later hb0
          replace hb := hb.later hb0
          replace hc := hc.later hb0
          replace hab := hab.later hb0
          replace hR := hR.trans (hb0.mono hR.size)
          clear hb0 U2
          go_wp2_with fail
          refine (U3.out _ hc hab).mono ?_
          rintro e y9 ⟨rfl, hb0⟩
          replace ha := ha.later hb0
          replace hb := hb.later hb0
          replace hab := hab.later hb0
          replace hR := hR.trans (hb0.mono hR.size)
          clear hb0 U3 hc
          cases p3
          · go_wp2_with fail
            refine (V1.out _ ha hb).mono ?_
            rintro e z1 ⟨rfl, hb0⟩
            replace ha := ha.later hb0
            replace hb := hb.later hb0
            replace hab := hab.later hb0
            replace hR := hR.trans (hb0.mono hR.size)
            clear hb0 
            go_wp2_with fail
            refine (V3.out _ ha hb).mono ?_
            rintro e z3 ⟨rfl, hb0⟩
            replace ha := ha.later hb0
            replace hb := hb.later hb0
            replace hab := hab.later hb0
            replace hR := hR.trans (hb0.mono hR.size)
            clear hb0 
            go_wp2_with fail
            refine (V1.out _ ha hb).mono ?_
            rintro e z4 ⟨rfl, hb0⟩
            replace ha := ha.later hb0
            replace hb := hb.later hb0
            replace hab := hab.later hb0
            replace hR := hR.trans (hb0.mono hR.size)
            clear hb0 
            go_wp2_with fail
            refine (V4.out _ hab ha).mono ?_
            rintro e z5 ⟨rfl, hb0⟩
            replace hab := hab.later hb0
            replace hR := hR.trans (hb0.mono hR.size)
            clear hb0 ha hb V1 V2 V3 V4
            go_wp2_with fail
            refine (HF1.out _ (hB.trans (hR.mono hB.size))).mono ?_
            rintro e w' ⟨rfl, rfl⟩
            go_wp2_with fail
            refine (cloneSets_any _ k _ (h1.out.laterB (hB.trans (hR.mono hB.size))) (by omega)).mono ?_
            rintro e z1 ⟨v1, rfl, hown, hb0⟩
            have hR2 := hR.trans (hb0.mono hR.size)
            go_wp2_with fail
            refine (HF2.out _ (hB.trans (hR2.mono hB.size))).mono ?_
            rintro e w' ⟨rfl, rfl⟩
            have h2' := Lib.hid (h2.out.laterB (hB.trans (hR2.mono hB.size)))
            go_wp2_with (at_builtin; go_must (refine wpList_append_sl rfl _ _ 37 rfl _ 24 i24 (.agg #[.int .u64 0, .int .u64 0, .int .u64 0, .int .u64 0]) 4 32 Try.underlying37 hi hz0 hz1 hz2 rfl (by decide) v1 k.length (setCells k) rfl hown _ l.length (setCells l) rfl h2'.out (setCells_one l) (by unfold maxLen; omega) (by omega) hb0.size ?_); intro v2 z2 hown2 hb1 _)
            have hB3 := hb0.trans hb1
            replace hab := hab.later hB3
            clear h2' hb0 hb1 hown
            refine (of_of v2 (k ++ l) hkl.out z2 (app_sl hown2) (by rw [List.length_append]; omega)).mono ?_
            rintro e z3 ⟨q, rfl, hq, hb0⟩
            replace hab := hab.later hb0
            replace hB3 := bthen hB3 hb0
            clear hown2 hb0
            go_wp2_with fail
            refine (V5.out _ _ hq hab).mono ?_
            rintro e z4 ⟨rfl, hb0⟩
            replace hB3 := bthen hB3 hb0
            go_wp2
            go_ret
            exact ⟨rfl, hB.trans ((hR.trans (hB3.mono hR.size)).mono hB.size)⟩
          · cases p4
            · go_wp2_with fail
              refine (V1.out _ ha hb).mono ?_
              rintro e z1 ⟨rfl, hb0⟩
              replace ha := ha.later hb0
              replace hb := hb.later hb0
              replace hab := hab.later hb0
              replace hR := hR.trans (hb0.mono hR.size)
              clear hb0 
              go_wp2_with fail
              refine (V2.out _ ha hb).mono ?_
              rintro e z2 ⟨rfl, hb0⟩
              replace ha := ha.later hb0
              replace hb := hb.later hb0
              replace hab := hab.later hb0
              replace hR := hR.trans (hb0.mono hR.size)
              clear hb0 
              go_wp2_with fail
              refine (V3.out _ ha hb).mono ?_
              rintro e z3 ⟨rfl, hb0⟩
              replace ha := ha.later hb0
              replace hb := hb.later hb0
              replace hab := hab.later hb0
              replace hR := hR.trans (hb0.mono hR.size)
              clear hb0 
              go_wp2_with fail
              refine (V1.out _ ha hb).mono ?_
              rintro e z4 ⟨rfl, hb0⟩
              replace ha := ha.later hb0
              replace hb := hb.later hb0
              replace hab := hab.later hb0
              replace hR := hR.trans (hb0.mono hR.size)
              clear hb0 
              go_wp2_with fail
              refine (V4.out _ hab ha).mono ?_
              rintro e z5 ⟨rfl, hb0⟩
              replace hab := hab.later hb0
              replace hR := hR.trans (hb0.mono hR.size)
              clear hb0 ha hb V1 V2 V3 V4
              go_wp2_with fail
              refine (HF1.out _ (hB.trans (hR.mono hB.size))).mono ?_
              rintro e w' ⟨rfl, rfl⟩
              go_wp2_with fail
              refine (cloneSets_any _ k _ (h1.out.laterB (hB.trans (hR.mono hB.size))) (by omega)).mono ?_
              rintro e z1 ⟨v1, rfl, hown, hb0⟩
              have hR2 := hR.trans (hb0.mono hR.size)
              go_wp2_with fail
              refine (HF2.out _ (hB.trans (hR2.mono hB.size))).mono ?_
              rintro e w' ⟨rfl, rfl⟩
              have h2' := Lib.hid (h2.out.laterB (hB.trans (hR2.mono hB.size)))
              go_wp2_with (at_builtin; go_must (refine wpList_append_sl rfl _ _ 37 rfl _ 24 i24 (.agg #[.int .u64 0, .int .u64 0, .int .u64 0, .int .u64 0]) 4 32 Try.underlying37 hi hz0 hz1 hz2 rfl (by decide) v1 k.length (setCells k) rfl hown _ l.length (setCells l) rfl h2'.out (setCells_one l) (by unfold maxLen; omega) (by omega) hb0.size ?_); intro v2 z2 hown2 hb1 _)
              have hB3 := hb0.trans hb1
              replace hab := hab.later hB3
              clear h2' hb0 hb1 hown
              refine (of_of v2 (k ++ l) hkl.out z2 (app_sl hown2) (by rw [List.length_append]; omega)).mono ?_
              rintro e z3 ⟨q, rfl, hq, hb0⟩
              replace hab := hab.later hb0
              replace hB3 := bthen hB3 hb0
              clear hown2 hb0
              go_wp2_with fail
              refine (V5.out _ _ hq hab).mono ?_
              rintro e z4 ⟨rfl, hb0⟩
              replace hB3 := bthen hB3 hb0
              go_wp2
              go_ret
              exact ⟨rfl, hB.trans ((hR.trans (hB3.mono hR.size)).mono hB.size)⟩
            · go_wp2_with fail
              refine (V1.out _ ha hb).mono ?_
              rintro e z1 ⟨rfl, hb0⟩
              replace ha := ha.later hb0
              replace hb := hb.later hb0
              replace hab := hab.later hb0
              replace hR := hR.trans (hb0.mono hR.size)
              clear hb0 
              go_wp2_with fail
              refine (V2.out _ ha hb).mono ?_
              rintro e z2 ⟨rfl, hb0⟩
              replace ha := ha.later hb0
              replace hb := hb.later hb0
              replace hab := hab.later hb0
              replace hR := hR.trans (hb0.mono hR.size)
              clear hb0 
              go_wp2_with fail
              refine (V3.out _ ha hb).mono ?_
              rintro e z3 ⟨rfl, hb0⟩
              replace ha := ha.later hb0
              replace hb := hb.later hb0
              replace hab := hab.later hb0
              replace hR := hR.trans (hb0.mono hR.size)
              clear hb0 
              go_wp2_with fail
              refine (V1.out _ ha hb).mono ?_
              rintro e z4 ⟨rfl, hb0⟩
              replace ha := ha.later hb0
              replace hb := hb.later hb0
              replace hab := hab.later hb0
              replace hR := hR.trans (hb0.mono hR.size)
              clear hb0 
              go_wp2_with fail
              refine (V4.out _ hab ha).mono ?_
              rintro e z5 ⟨rfl, hb0⟩
              replace hab := hab.later hb0
              replace hR := hR.trans (hb0.mono hR.size)
              clear hb0 ha hb V1 V2 V3 V4
              go_wp2_with fail
              refine (HF1.out _ (hB.trans (hR.mono hB.size))).mono ?_
              rintro e w' ⟨rfl, rfl⟩
              go_wp2_with fail
              refine (cloneSets_any _ k _ (h1.out.laterB (hB.trans (hR.mono hB.size))) (by omega)).mono ?_
              rintro e z1 ⟨v1, rfl, hown, hb0⟩
              have hR2 := hR.trans (hb0.mono hR.size)
              go_wp2_with fail
              refine (HF2.out _ (hB.trans (hR2.mono hB.size))).mono ?_
              rintro e w' ⟨rfl, rfl⟩
              have h2' := Lib.hid (h2.out.laterB (hB.trans (hR2.mono hB.size)))
              go_wp2_with (at_builtin; go_must (refine wpList_append_sl rfl _ _ 37 rfl _ 24 i24 (.agg #[.int .u64 0, .int .u64 0, .int .u64 0, .int .u64 0]) 4 32 Try.underlying37 hi hz0 hz1 hz2 rfl (by decide) v1 k.length (setCells k) rfl hown _ l.length (setCells l) rfl h2'.out (setCells_one l) (by unfold maxLen; omega) (by omega) hb0.size ?_); intro v2 z2 hown2 hb1 _)
              have hB3 := hb0.trans hb1
              replace hab := hab.later hB3
              clear h2' hb0 hb1 hown
              refine (of_of v2 (k ++ l) hkl.out z2 (app_sl hown2) (by rw [List.length_append]; omega)).mono ?_
              rintro e z3 ⟨q, rfl, hq, hb0⟩
              replace hab := hab.later hb0
              replace hB3 := bthen hB3 hb0
              clear hown2 hb0
              go_wp2_with fail
              refine (V5.out _ _ hq hab).mono ?_
              rintro e z4 ⟨rfl, hb0⟩
              replace hB3 := bthen hB3 hb0
              go_wp2
              go_ret
              exact ⟨rfl, hB.trans ((hR.trans (hB3.mono hR.size)).mono hB.size)⟩

/-- few, at a slice that came in. -/
theorem few_c {A : Option Addr} {c : Nat} {ss : List Nat} {w : World} (h : Sl w (.slice A ss.length c) 4 ss.length (setCells ss)) (hc : ss.length ≤ c) (hA : A = none → c = 0) :
    Sl w (.slice A (ss.take 6).length c) 4 (ss.take 6).length (setCells (ss.take 6)) ∧ (ss.take 6).length ≤ 6 ∧ ∀ w', Below w.heap.size w w' → Calls Try.prog 40 #[.slice A ss.length c] w' fun e w'' => e = .returned (.slice A (ss.take 6).length c) ∧ w' = w'' := by
  refine ⟨sl_take h (by rw [List.length_take]; omega) ?_ c hA, by rw [List.length_take]; omega, fun w' hb => few_any A c ss w' (h.laterB hb) hc⟩
  rw [List.length_take, Nat.min_def]
  split
  · exact setCells_take ss 6
  · rw [List.take_of_length_le (by omega), List.take_of_length_le (by rw [setCells_len]; omega)]
theorem joins_any (v1 v2 v3 : Value) (k l m : List Nat) (hk : ∀ s ∈ k, s < 2 ^ 256) (hl : ∀ s ∈ l, s < 2 ^ 256) (hm : ∀ s ∈ m, s < 2 ^ 256) (w : World)
    (h1 : SlC w v1 4 k.length (setCells k)) (h2 : SlC w v2 4 l.length (setCells l)) (h3 : SlC w v3 4 m.length (setCells m)) :
    Calls Try.prog 14 #[v1, v2, v3] w fun e w' => e = .returned (.bool true) ∧ Below w.heap.size w w' := by
  obtain ⟨A1, c1, rfl, h1, hc1, hA1⟩ := h1
  obtain ⟨A2, c2, rfl, h2, hc2, hA2⟩ := h2
  obtain ⟨A3, c3, rfl, h3, hc3, hA3⟩ := h3
  obtain ⟨f1, g1, k1⟩ := few_c h1 hc1 hA1
  obtain ⟨f2, g2, k2⟩ := few_c h2 hc2 hA2
  obtain ⟨f3, g3, k3⟩ := few_c h3 hc3 hA3
  exact joins_core A1 A2 A3 c1 c2 c3 _ _ _ (k.take 6) (l.take 6) (m.take 6) (fun s hs => hk s (List.mem_of_mem_take hs)) (fun s hs => hl s (List.mem_of_mem_take hs)) (fun s hs => hm s (List.mem_of_mem_take hs)) w k1 k2 k3 f1 f2 f3 g1 g2 g3
end Go.Proofs.Ytojmkgllbhbeiaa
