/-
  slices.ContainsFunc at the sets: the library's contract, laid at this program (written by the kit's lay-plain.mjs, names turned).
  slices.Sort and slices.Compact at ints: the library's contracts, laid at this program (written by the kit's lay-plain.mjs, names turned).
  slices.Insert at ints: the library's contract, laid at this program (written by the kit's lay-plain.mjs, names turned).
  Plain laws of words, and slices.ContainsFunc at sets, whatever slice.
-/
import Derived.Shelf.SlicesQ.IndexFunc
import Derived.Ground.SlgfProg
import Derived.Test.YtojmkgllbhbeiaaProg
import Derived.Shelf.Sort.Plain
import Derived.Shelf.Slices.CompactI
import Derived.Shelf.Spec.SlicesInsertGrow
import Derived.Test.YtojmkgllbhbeiaaK8
import Derived.Test.YtojmkgllbhbeiaaK7
namespace Go.Proofs.Ytojmkgllbhbeiaa
open Go.Shelf
def hasSet_ren : Go.Shelf.Ren := ⟨fun | 8 => 62 | 6 => 107 | n => n, fun | 22 => 37 | 23 => 24 | 25 => 51 | 4 => 4 | 3 => 3 | 0 => 0 | n => n, fun | n => n⟩
theorem hasSet : Go.Proofs.SlLaysH0.n8 Try.prog hasSet_ren := {
  mixed := by kernel_rfl
  f6 := ⟨Try.f107.name, by decide, Try.func107.trans (congrArg some (by kernel_rfl))⟩
  f8 := ⟨Try.f62.name, by decide, Try.func62.trans (congrArg some (by kernel_rfl))⟩
  t0 := Try.underlying0
  a0 := Try.isAgg0
  z0 := Try.sizeOf0
  v0 := Try.zeroValue0
  t3 := Try.underlying3
  a3 := Try.isAgg3
  z3 := Try.sizeOf3
  v3 := Try.zeroValue3
  t4 := Try.underlying4
  a4 := Try.isAgg4
  z4 := Try.sizeOf4
  v4 := Try.zeroValue4
  t22 := Try.underlying37
  a22 := Try.isAgg37
  z22 := Try.sizeOf37
  v22 := Try.zeroValue37
  t25 := Try.underlying51
  a25 := Try.isAgg51
  z25 := Try.sizeOf51
  v25 := Try.zeroValue51 }
end Go.Proofs.Ytojmkgllbhbeiaa
namespace Go.Proofs.Ytojmkgllbhbeiaa
open Go.Shelf
def sortInts_ren : Go.Shelf.Ren := ⟨fun | 189 => 53 | 125 => 105 | 257 => 104 | 128 => 131 | 129 => 132 | 294 => 123 | 295 => 124 | 296 => 125 | 297 => 126 | 298 => 127 | 299 => 128 | 216 => 113 | 300 => 129 | 301 => 130 | 328 => 144 | 329 => 145 | 330 => 146 | 331 => 147 | 332 => 148 | 215 => 133 | 343 => 152 | n => n, fun | 28 => 55 | 3 => 3 | 46 => 102 | 0 => 0 | 51 => 159 | 53 => 22 | 4 => 4 | 183 => 152 | 182 => 151 | 131 => 156 | 5 => 5 | 9 => 9 | 218 => 167 | 222 => 171 | 228 => 175 | 229 => 176 | n => n, fun | n => n⟩
theorem sortInts : Go.Proofs.Lays.n189 Try.prog sortInts_ren := {
  mixed := by kernel_rfl
  f125 := Try.func105.trans (congrArg some (by kernel_rfl))
  f128 := Try.func131.trans (congrArg some (by kernel_rfl))
  f129 := Try.func132.trans (congrArg some (by kernel_rfl))
  f189 := Try.func53.trans (congrArg some (by kernel_rfl))
  f215 := Try.func133.trans (congrArg some (by kernel_rfl))
  f216 := Try.func113.trans (congrArg some (by kernel_rfl))
  f257 := Try.func104.trans (congrArg some (by kernel_rfl))
  f294 := Try.func123.trans (congrArg some (by kernel_rfl))
  f295 := Try.func124.trans (congrArg some (by kernel_rfl))
  f296 := Try.func125.trans (congrArg some (by kernel_rfl))
  f297 := Try.func126.trans (congrArg some (by kernel_rfl))
  f298 := Try.func127.trans (congrArg some (by kernel_rfl))
  f299 := Try.func128.trans (congrArg some (by kernel_rfl))
  f300 := Try.func129.trans (congrArg some (by kernel_rfl))
  f301 := Try.func130.trans (congrArg some (by kernel_rfl))
  f328 := Try.func144.trans (congrArg some (by kernel_rfl))
  f329 := Try.func145.trans (congrArg some (by kernel_rfl))
  f330 := Try.func146.trans (congrArg some (by kernel_rfl))
  f331 := Try.func147.trans (congrArg some (by kernel_rfl))
  f332 := Try.func148.trans (congrArg some (by kernel_rfl))
  f343 := Try.func152.trans (congrArg some (by kernel_rfl))
  t0 := Try.underlying0
  a0 := Try.isAgg0
  z0 := Try.sizeOf0
  v0 := Try.zeroValue0
  t3 := Try.underlying3
  a3 := Try.isAgg3
  z3 := Try.sizeOf3
  v3 := Try.zeroValue3
  t4 := Try.underlying4
  a4 := Try.isAgg4
  z4 := Try.sizeOf4
  v4 := Try.zeroValue4
  t5 := Try.underlying5
  a5 := Try.isAgg5
  z5 := Try.sizeOf5
  v5 := Try.zeroValue5
  t9 := Try.underlying9
  a9 := Try.isAgg9
  z9 := Try.sizeOf9
  v9 := Try.zeroValue9
  t28 := Try.underlying55
  a28 := Try.isAgg55
  z28 := Try.sizeOf55
  v28 := Try.zeroValue55
  t46 := Try.underlying102
  a46 := Try.isAgg102
  z46 := Try.sizeOf102
  v46 := Try.zeroValue102
  t51 := Try.underlying159
  a51 := Try.isAgg159
  z51 := Try.sizeOf159
  v51 := Try.zeroValue159
  t53 := Try.underlying22
  a53 := Try.isAgg22
  z53 := Try.sizeOf22
  v53 := Try.zeroValue22
  t131 := Try.underlying156
  a131 := Try.isAgg156
  z131 := Try.sizeOf156
  v131 := Try.zeroValue156
  t182 := Try.underlying151
  a182 := Try.isAgg151
  z182 := Try.sizeOf151
  v182 := Try.zeroValue151
  t183 := Try.underlying152
  a183 := Try.isAgg152
  z183 := Try.sizeOf152
  v183 := Try.zeroValue152
  t218 := Try.underlying167
  a218 := Try.isAgg167
  z218 := Try.sizeOf167
  v218 := Try.zeroValue167
  t222 := Try.underlying171
  a222 := Try.isAgg171
  z222 := Try.sizeOf171
  v222 := Try.zeroValue171
  t228 := Try.underlying175
  a228 := Try.isAgg175
  z228 := Try.sizeOf175
  v228 := Try.zeroValue175
  t229 := Try.underlying176
  a229 := Try.isAgg176
  z229 := Try.sizeOf176
  v229 := Try.zeroValue176 }
def compInts_ren : Go.Shelf.Ren := ⟨fun | 20 => 54 | n => n, fun | 22 => 55 | 3 => 3 | 4 => 4 | 0 => 0 | n => n, fun | n => n⟩
theorem compInts : Go.Proofs.Lays2.n20 Try.prog compInts_ren := {
  mixed := by kernel_rfl
  f20 := Try.func54.trans (congrArg some (by kernel_rfl))
  t0 := Try.underlying0
  a0 := Try.isAgg0
  z0 := Try.sizeOf0
  v0 := Try.zeroValue0
  t3 := Try.underlying3
  a3 := Try.isAgg3
  z3 := Try.sizeOf3
  v3 := Try.zeroValue3
  t4 := Try.underlying4
  a4 := Try.isAgg4
  z4 := Try.sizeOf4
  v4 := Try.zeroValue4
  t22 := Try.underlying55
  a22 := Try.isAgg55
  z22 := Try.sizeOf55
  v22 := Try.zeroValue55
  i3 := by kernel_rfl }
end Go.Proofs.Ytojmkgllbhbeiaa
namespace Go.Proofs.Ytojmkgllbhbeiaa
open Go.Shelf
def insInts_ren : Go.Shelf.Ren := ⟨fun | 21 => 42 | 27 => 95 | 28 => 96 | 35 => 118 | 39 => 143 | n => n, fun | 22 => 55 | 3 => 3 | 4 => 4 | 0 => 0 | n => n, fun | n => n⟩
theorem insInts : Go.Proofs.Lays2.n21 Try.prog insInts_ren := {
  mixed := by kernel_rfl
  f21 := Try.func42.trans (congrArg some (by kernel_rfl))
  f27 := Try.func95.trans (congrArg some (by kernel_rfl))
  f28 := Try.func96.trans (congrArg some (by kernel_rfl))
  f35 := Try.func118.trans (congrArg some (by kernel_rfl))
  f39 := Try.func143.trans (congrArg some (by kernel_rfl))
  t0 := Try.underlying0
  a0 := Try.isAgg0
  z0 := Try.sizeOf0
  v0 := Try.zeroValue0
  t3 := Try.underlying3
  a3 := Try.isAgg3
  z3 := Try.sizeOf3
  v3 := Try.zeroValue3
  t4 := Try.underlying4
  a4 := Try.isAgg4
  z4 := Try.sizeOf4
  v4 := Try.zeroValue4
  t22 := Try.underlying55
  a22 := Try.isAgg55
  z22 := Try.sizeOf55
  v22 := Try.zeroValue55
  i3 := by kernel_rfl }
end Go.Proofs.Ytojmkgllbhbeiaa
namespace Go.Proofs.Ytojmkgllbhbeiaa
open Go.RowKit

theorem PartsOk.cls_spec {ss ds : List Nat} (h : PartsOk ss ds) {c : Nat} (hc : c < 256) : ∃ hi : cls ds c < ds.length, ds[cls ds c].testBit c = true := by
  obtain ⟨p, hp, hpc⟩ := h.has hc
  obtain ⟨i, hi, rfl⟩ := List.getElem_of_mem hp
  have e := cls_at h.disj hi hpc
  refine ⟨by omega, ?_⟩
  simp only [e]; exact hpc
theorem setAt_nat {ds : List Nat} {i : Nat} (hi : i < ds.length) : setAt ds (i : Int) = ds[i] := by
  unfold setAt
  rw [if_pos ⟨by omega, by omega⟩, Int.toNat_natCast, List.getD_eq_getElem?_getD, List.getElem?_eq_getElem hi]; rfl
theorem isAt_nat {ds : List Nat} {i : Nat} (hi : i < ds.length) : isAt ds (i : Int) = true := by
  unfold isAt
  rw [decide_eq_true (by omega), decide_eq_true (by omega)]; rfl
theorem PartsOk.cls_least {ss ds : List Nat} (h : PartsOk ss ds) {i : Nat} (hi : i < ds.length) : cls ds (least ds[i]) = i := by
  obtain ⟨h0, h1⟩ := h.lt _ (List.getElem_mem hi)
  exact cls_at h.disj hi (least_at h1 h0).2.2.1
theorem PartsOk.least_lt {ss ds : List Nat} (h : PartsOk ss ds) {i : Nat} (hi : i < ds.length) : least ds[i] < 256 := by
  obtain ⟨h0, h1⟩ := h.lt _ (List.getElem_mem hi)
  exact (least_at h1 h0).2.1
theorem PartsOk.least_le {ss ds : List Nat} (h : PartsOk ss ds) {c : Nat} (hc : c < 256) : least (setAt ds (cls ds c : Nat)) ≤ c := by
  obtain ⟨hi, hb⟩ := h.cls_spec hc
  rw [setAt_nat hi]
  obtain ⟨h0, h1⟩ := h.lt _ (List.getElem_mem hi)
  have := (least_at h1 h0).2.2.2 c
  by_cases hlt : c < least ds[cls ds c]
  · rw [this hlt] at hb; cases hb
  · omega

/-- The classes of bytes, and their least bytes. -/
def wordsZ (ds bs : List Nat) : List Int := (bs.map (cls ds)).map fun k : Nat => (k : Int)
theorem wordsZ_cells (ds bs : List Nat) : (bs.map (cls ds)).map intN = (wordsZ ds bs).map intZ := by unfold wordsZ; rw [List.map_map, List.map_map, List.map_map]; rfl
theorem wordsZ_len (ds bs : List Nat) : (wordsZ ds bs).length = bs.length := by unfold wordsZ; simp
theorem PartsOk.words_all {ss ds : List Nat} (h : PartsOk ss ds) {bs : List Nat} (hb : ∀ c ∈ bs, c < 256) : (wordsZ ds bs).all (isAt ds) = true := by
  unfold wordsZ
  rw [List.all_eq_true]
  intro x hx
  simp only [List.mem_map] at hx
  obtain ⟨_, ⟨c, hc, rfl⟩, rfl⟩ := hx
  obtain ⟨hi, _⟩ := h.cls_spec (hb c hc)
  exact isAt_nat hi
def leastsOf (ds bs : List Nat) : List Nat := bs.map fun c => least (setAt ds (cls ds c : Nat))
theorem leasts_words (ds bs : List Nat) : leasts ds (wordsZ ds bs) = leastsOf ds bs := by unfold leasts wordsZ leastsOf; simp
theorem leastsOf_len (ds bs : List Nat) : (leastsOf ds bs).length = bs.length := by unfold leastsOf; simp
theorem PartsOk.leastsOf_lt {ss ds : List Nat} (h : PartsOk ss ds) {bs : List Nat} (hb : ∀ c ∈ bs, c < 256) : ∀ c ∈ leastsOf ds bs, c < 256 := by
  unfold leastsOf
  intro x hx
  obtain ⟨c, hc, rfl⟩ := List.mem_map.1 hx
  have := h.least_le (hb c hc)
  have := hb c hc
  omega
theorem PartsOk.word_leasts {ss ds : List Nat} (h : PartsOk ss ds) {bs : List Nat} (hb : ∀ c ∈ bs, c < 256) : (leastsOf ds bs).map (cls ds) = bs.map (cls ds) := by
  unfold leastsOf
  rw [List.map_map]
  refine List.map_congr_left fun c hc => ?_
  obtain ⟨hi, _⟩ := h.cls_spec (hb c hc)
  show cls ds (least (setAt ds (cls ds c : Nat))) = cls ds c
  rw [setAt_nat hi, h.cls_least hi]

theorem isAgg24 (w : World) : (isAgg 24).run Try.prog w = .ok true w := by kernel_rfl
theorem sizeOf24 (w : World) : (Go.sizeOf 24).run Try.prog w = .ok 4 w := by kernel_rfl

theorem find_none {p : Value} (w : World) : Calls Try.prog 107 #[.slice none 0 0, p] w fun e w' => e = .returned (.int .i64 (-1)) ∧ Below w.heap.size w w' := by
  go_enter Try.func107, Try.ntmps107
  go_wp2_with fail
  go_loopw [5, 8] (fun _ i wr => i = .int .i64 0 ∧ Below w.heap.size w wr) (fun _ _ _ => 0)
  case atStart => exact ⟨rfl, Below.refl _ _⟩
  case round =>
    obtain ⟨rfl, hB⟩ := hrel
    go_wp2
    go_ret
    exact ⟨rfl, hB⟩
theorem hasSet_any (v : Value) (ss : List Nat) (g : Nat) (lb : Array Value) (p : Nat → Bool) (eg : ∀ args w, (callFunc g args).run Try.prog w = .ok (.enter g args) w) (w : World) (h : Sl w v 4 ss.length (setCells ss)) (hlen : ss.length ≤ 1000000)
    (hp : PredBelow Try.prog g lb setV p w) : Calls Try.prog 62 #[v, .func (.func g) #[] lb] w fun e w' => e = .returned (.bool (ss.any p)) ∧ Below w.heap.size w w' := by
  obtain ⟨hl, ⟨rfl, h0⟩ | ⟨b, o, cap, rfl, hb, hc⟩⟩ := h
  · obtain rfl := List.eq_nil_of_length_eq_zero h0
    have HN := fun w => find_none (p := .func (.func g) #[] lb) w
    clear eg hp hlen hl h0
    go_enter Try.func62, Try.ntmps62
    go_wp2_with fail
    refine (HN _).mono ?_
    rintro e w1 ⟨rfl, hB⟩
    go_wp2
    go_ret
    exact ⟨rfl, hB⟩
  · have := AnyQ.slices_ContainsFunc hasSet 4 isAgg24 sizeOf24 (fun s => (setA s).toList) (fun s => rfl) p g lb eg b o ss.length cap ss w (by
      intro W x hb'
      have := hp W x hb'
      exact this) (Nat.le_refl _) (by omega) hb (fun j hj i v hi => by
      have hi4 : i < 4 := by
        obtain ⟨hh, _⟩ := List.getElem?_eq_some_iff.1 hi
        exact hh
      have h1 := hc (j * 4 + i) (by omega)
      rw [show o + j * 4 + i = o + (j * 4 + i) by omega, h1, setCells_get ss j i hj hi4]
      rw [← hi, Array.getElem?_toList, setA_get _ hi4]
      simp [hj])
    rw [List.take_length] at this
    exact this
/-- A slice that came in: its parts, its capacity. -/
def SlC (w : World) (v : Value) (k n : Nat) (cs : List Value) : Prop := ∃ A cap, v = .slice A n cap ∧ Sl w (.slice A n cap) k n cs ∧ n ≤ cap ∧ (A = none → cap = 0)
end Go.Proofs.Ytojmkgllbhbeiaa
