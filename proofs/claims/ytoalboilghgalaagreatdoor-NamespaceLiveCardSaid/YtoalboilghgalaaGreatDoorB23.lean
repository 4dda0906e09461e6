/- Lemmas for this claim, in parts: Sortx. -/
import Derived.Test.YtoalboilghgalaaGreatDoorB22
import Derived.Shelf.SlSortCmp.WholeK
import Derived.Ground.SlsfProg
set_option maxRecDepth 100000
set_option maxHeartbeats 4000000
set_option linter.unusedVariables false
set_option linter.unusedSimpArgs false
/- slices.SortFunc at the exports of a namespace. -/
namespace Go.Proofs.YtoalboilghgalaaGreatDoor
open Go.RowKit
open Go.Proofs.Dc (V Ds Ky)
attribute [local go_sem] run_store_float

open Go.Shelf
open Go.Sort hiding Below
def Tryz.sortEx_ren : Go.Shelf.Ren := ⟨fun | 6 => 89 | 15 => 130 | 14 => 129 | 28 => 162 | 29 => 163 | 20 => 154 | 21 => 155 | 22 => 156 | 23 => 157 | 24 => 158 | 25 => 159 | 26 => 160 | 27 => 161 | 46 => 179 | 47 => 180 | 48 => 181 | 49 => 182 | 50 => 183 | 57 => 188 | n => n, fun | 22 => 158 | 24 => 162 | 25 => 164 | 3 => 3 | 39 => 122 | 0 => 0 | 53 => 61 | 55 => 76 | 4 => 4 | 46 => 238 | 45 => 237 | 50 => 92 | 5 => 5 | 9 => 9 | 66 => 259 | 70 => 263 | 76 => 271 | 77 => 272 | n => n, fun | n => n⟩
theorem Tryz.sortEx : Go.Proofs.SlLaysF0.n6 Tryz.prog Tryz.sortEx_ren := {
  mixed := by kernel_rfl
  f6 := ⟨Tryz.f89.name, by decide, Tryz.func89.trans (congrArg some (by kernel_rfl))⟩
  f14 := ⟨Tryz.f129.name, by decide, Tryz.func129.trans (congrArg some (by kernel_rfl))⟩
  f15 := Tryz.func130.trans (congrArg some (by kernel_rfl))
  f20 := ⟨Tryz.f154.name, by decide, Tryz.func154.trans (congrArg some (by kernel_rfl))⟩
  f21 := ⟨Tryz.f155.name, by decide, Tryz.func155.trans (congrArg some (by kernel_rfl))⟩
  f22 := ⟨Tryz.f156.name, by decide, Tryz.func156.trans (congrArg some (by kernel_rfl))⟩
  f23 := ⟨Tryz.f157.name, by decide, Tryz.func157.trans (congrArg some (by kernel_rfl))⟩
  f24 := ⟨Tryz.f158.name, by decide, Tryz.func158.trans (congrArg some (by kernel_rfl))⟩
  f25 := ⟨Tryz.f159.name, by decide, Tryz.func159.trans (congrArg some (by kernel_rfl))⟩
  f26 := ⟨Tryz.f160.name, by decide, Tryz.func160.trans (congrArg some (by kernel_rfl))⟩
  f27 := ⟨Tryz.f161.name, by decide, Tryz.func161.trans (congrArg some (by kernel_rfl))⟩
  f28 := Tryz.func162.trans (congrArg some (by kernel_rfl))
  f29 := Tryz.func163.trans (congrArg some (by kernel_rfl))
  f46 := ⟨Tryz.f179.name, by decide, Tryz.func179.trans (congrArg some (by kernel_rfl))⟩
  f47 := Tryz.func180.trans (congrArg some (by kernel_rfl))
  f48 := Tryz.func181.trans (congrArg some (by kernel_rfl))
  f49 := ⟨Tryz.f182.name, by decide, Tryz.func182.trans (congrArg some (by kernel_rfl))⟩
  f50 := ⟨Tryz.f183.name, by decide, Tryz.func183.trans (congrArg some (by kernel_rfl))⟩
  f57 := ⟨Tryz.f188.name, by decide, Tryz.func188.trans (congrArg some (by kernel_rfl))⟩
  t0 := Tryz.underlying0
  a0 := Tryz.isAgg0
  z0 := Tryz.sizeOf0
  v0 := Tryz.zeroValue0
  t3 := Tryz.underlying3
  a3 := Tryz.isAgg3
  z3 := Tryz.sizeOf3
  v3 := Tryz.zeroValue3
  t4 := Tryz.underlying4
  a4 := Tryz.isAgg4
  z4 := Tryz.sizeOf4
  v4 := Tryz.zeroValue4
  t5 := Tryz.underlying5
  a5 := Tryz.isAgg5
  z5 := Tryz.sizeOf5
  v5 := Tryz.zeroValue5
  t9 := Tryz.underlying9
  a9 := Tryz.isAgg9
  z9 := Tryz.sizeOf9
  v9 := Tryz.zeroValue9
  t22 := Tryz.underlying158
  a22 := Tryz.isAgg158
  z22 := Tryz.sizeOf158
  v22 := Tryz.zeroValue158
  t25 := Tryz.underlying164
  a25 := Tryz.isAgg164
  z25 := Tryz.sizeOf164
  v25 := Tryz.zeroValue164
  t39 := Tryz.underlying122
  a39 := Tryz.isAgg122
  z39 := Tryz.sizeOf122
  v39 := Tryz.zeroValue122
  t45 := Tryz.underlying237
  a45 := Tryz.isAgg237
  z45 := Tryz.sizeOf237
  v45 := Tryz.zeroValue237
  t46 := Tryz.underlying238
  a46 := Tryz.isAgg238
  z46 := Tryz.sizeOf238
  v46 := Tryz.zeroValue238
  t50 := Tryz.underlying92
  a50 := Tryz.isAgg92
  z50 := Tryz.sizeOf92
  v50 := Tryz.zeroValue92
  t53 := Tryz.underlying61
  a53 := Tryz.isAgg61
  z53 := Tryz.sizeOf61
  v53 := Tryz.zeroValue61
  t55 := Tryz.underlying76
  a55 := Tryz.isAgg76
  z55 := Tryz.sizeOf76
  v55 := Tryz.zeroValue76
  t66 := Tryz.underlying259
  a66 := Tryz.isAgg259
  z66 := Tryz.sizeOf259
  v66 := Tryz.zeroValue259
  t70 := Tryz.underlying263
  a70 := Tryz.isAgg263
  z70 := Tryz.sizeOf263
  v70 := Tryz.zeroValue263
  t76 := Tryz.underlying271
  a76 := Tryz.isAgg271
  z76 := Tryz.sizeOf271
  v76 := Tryz.zeroValue271
  t77 := Tryz.underlying272
  a77 := Tryz.isAgg272
  z77 := Tryz.sizeOf272
  v77 := Tryz.zeroValue272 }
attribute [local go_sem] Oper.semAt_some
theorem Grw.isGrow {w w' : World} (h : Grw w w') : ∃ q os, w' = grow (w.drewN q) os := by
  refine ⟨w'.drawn - w.drawn, w'.heap.extract w.heap.size, ?_⟩
  have hd := h.dr
  obtain ⟨h1, h2, h3, h4, h5⟩ := h.below
  obtain ⟨heap, tape, drawn, os, output⟩ := w
  obtain ⟨heap', tape', drawn', os', output'⟩ := w'
  dsimp only at *
  subst h1 h2 h3
  unfold grow World.drewN
  dsimp only
  congr 1
  · apply Array.ext_getElem?
    intro i
    by_cases hi : i < heap.size
    · rw [Array.getElem?_append_left hi]; exact h5 i hi
    · rw [Array.getElem?_append_right (by omega), Array.getElem?_extract]
      by_cases h6 : i < heap'.size
      · rw [if_pos (by simp; omega)]
        congr 1
        omega
      · rw [if_neg (by simp; omega), Array.getElem?_eq_none (by omega)]
  · omega

/-- so the exports lie in their row -/
structure ExRow (W : World) (g : Nat) (C : Array Value) (l : List Ex) : Prop where
  blk : Blk W g C 162
  le : l.length * 6 ≤ C.size
  at_ : ∀ i x, l[i]? = some x → ∀ j, j < 6 → C[i * 6 + j]? = (xC x)[j]?
theorem lget {l : List Value} {j : Nat} (h : j < l.length) : l[j]? = some l[j]! := by simp [h]
theorem dget {d : Array Ex} {i : Nat} {x : Ex} (hi : i < d.size) (hx : d.toList[i]? = some x) : d[i]! = x := by
  rw [getElem!_pos d i hi]
  simpa using (List.getElem?_eq_some_iff.1 hx).2
theorem xC_len (x : Ex) : (xC x).length = 6 := rfl
theorem ExRow.holds {W : World} {g : Nat} {C : Array Value} {l : List Ex} (h : ExRow W g C l) : HoldsK xC 6 W g 0 l.toArray := by
  intro j hj
  have hj' : j < l.length * 6 := by simpa using hj
  have hx : l[j / 6]? = some (l[j / 6]'(by omega)) := List.getElem?_eq_getElem (by omega)
  refine ⟨?_, h.blk.frozen _⟩
  rw [h.blk.cell, Nat.zero_add]
  have h1 := h.at_ _ _ hx (j % 6) (Nat.mod_lt _ (by decide))
  rw [show j / 6 * 6 + j % 6 = j by omega] at h1
  rw [h1, get_flatK _ _ _ _ (by simpa using hj')]
  have h2 : (l.toArray)[j / 6]! = l[j / 6]'(by omega) := by
    rw [getElem!_pos _ _ (by simp; omega)]; simp
  rw [h2]
  have h3 : j % 6 < (xC (l[j / 6]'(by omega))).length := Nat.mod_lt _ (by decide)
  exact lget h3
theorem sortWorld_only {W : World} {g : Nat} {C : Array Value} {t : TypeId} (h : Blk W g C t) (n : Nat) (d : Array Ex) (os : Array Obj) :
    Only [g] W (sortWorldK xC 6 W g 0 n d os) ∧ ∃ C', C'.size = C.size ∧ Blk (sortWorldK xC 6 W g 0 n d os) g C' t := by
  have hlt := h.lt
  have hs : (sortWorldK xC 6 W g 0 n d os).heap = (W.heap.modify g (onCells (putCells id 0 (flatK xC 6 d)))) ++ os := rfl
  refine ⟨⟨rfl, rfl, rfl, ?_, ?_⟩, putCells id 0 (flatK xC 6 d) C, by simp [putCells], ?_⟩
  · rw [hs]; simp
  · intro k hk hne
    rw [hs, Array.getElem?_append_left (by simpa using hk), Array.getElem?_modify, if_neg (by simp at hne; omega)]
  · unfold Blk
    rw [hs, Array.getElem?_append_left (by simpa using hlt), Array.getElem?_modify, if_pos rfl, show W.heap[g]? = some (.cells C t (0, 0)) from h]
    rfl
theorem ltX (x y : Ex) : Go.Proofs.ltOf cmpX x y = decide (cmpX x y < 0) := rfl
theorem swoX : Go.Sort.SWO (Go.Proofs.ltOf cmpX) where
  irrefl x := by rw [ltX]; unfold cmpX; rw [cmpU_refl]; rfl
  trans x y z h1 h2 := by
    rw [ltX] at *
    simp only [decide_eq_true_eq] at *
    exact cmpU_trans h1 h2
  ntrans x y z h1 h2 := by
    rw [ltX] at *
    simp only [decide_eq_false_iff_not] at *
    intro h3
    have s1 := cmpU_swap (unitsL x.name) (unitsL y.name)
    have s2 := cmpU_swap (unitsL y.name) (unitsL z.name)
    have r1 := cmpU_range (unitsL x.name) (unitsL y.name)
    have r2 := cmpU_range (unitsL y.name) (unitsL z.name)
    unfold cmpX at h1 h2 h3
    rcases r1 with r1 | r1 | r1
    · omega
    · rw [cmpU_zero r1] at h3; omega
    · rcases r2 with r2 | r2 | r2
      · omega
      · rw [← cmpU_zero r2] at h3; omega
      · have h4 := cmpU_trans (a := unitsL z.name) (b := unitsL y.name) (c := unitsL x.name) (by omega) (by omega)
        rw [cmpU_swap] at h4
        omega
theorem isAgg162 (w : World) : (isAgg 162).run Tryz.prog w = .ok true w := by kernel_rfl
theorem sizeOf162 (w : World) : (Go.sizeOf 162).run Tryz.prog w = .ok 6 w := by kernel_rfl
set_option maxHeartbeats 1000000 in
theorem sort_g {W : World} {g : Nat} {C : Array Value} {l : List Ex} (cap : Nat) (hT : Tabs W) (hg3 : Tryz.lays197_ren.g 3 ≠ g) (hg4 : Tryz.lays197_ren.g 4 ≠ g) (h : ExRow W g C l) (hl : l.length < 4611686018427387904) :
    Calls Tryz.prog 89 #[.slice (some ⟨g, 0, none⟩) l.length cap, .func (.func 90) #[] #[]] W fun e w' => e = .returned (.tuple #[]) ∧ ∃ l' C', ExRow w' g C' l' ∧ Only [g] W w' ∧ C'.size = C.size ∧ l'.Perm l ∧ ∀ (i j : Nat) (x y : Ex), i < j → l'[i]? = some x → l'[j]? = some y → ¬ cmpX y x < 0 := by
  have eg : ∀ args w, (callFunc 90 args).run Tryz.prog w = .ok (.enter 90 args) w := enters_of Tryz.func90 (by kernel_rfl) rfl
  have hcmp : CmpLays Tryz.prog 90 #[] xC 6 cmpX g 0 l.toArray.size W := fun m os dk _ x y => by
    refine (new90 x y _ (hT.only (sortWorld_only h.blk m dk os).1 (by simpa using hg3) (by simpa using hg4))).mono fun e w' ⟨he, hG⟩ => ⟨he, hG.isGrow⟩
  have hcon := AnyQ.slices_SortFunc Tryz.sortEx 6 isAgg162 sizeOf162 xC xC_len (fun x v hv => by simp [xC] at hv; rcases hv with rfl | rfl | rfl | rfl | rfl | rfl <;> rfl) cmpX swoX 90 #[] g 0 cap l.toArray W eg hcmp h.holds h.blk.lt (by simpa using hl)
  change Calls Tryz.prog 89 #[.slice (some ⟨g, 0, none⟩) l.length cap, .func (.func 90) #[] #[]] W _ at hcon
  refine hcon.mono fun e w' ⟨he, d', n, os, hp, hs, hw⟩ => ?_
  subst hw
  obtain ⟨hO, C', hC, hB⟩ := sortWorld_only h.blk n d' os
  obtain ⟨p1, _, p3⟩ := hp
  have hsz : d'.size = l.length := by simpa using p1
  refine ⟨he, d'.toList, C', ⟨hB, by have := h.le; simp; omega, ?_⟩, hO, hC, ?_, ?_⟩
  · intro i x hx j hj
    have hH := holdsK_sortWorldK xC 6 W g 0 n l.toArray d' os h.blk.lt h.holds p1
    have hi : i < d'.size := by have := (List.getElem?_eq_some_iff.1 hx).1; simpa using this
    have h1 := (hH (i * 6 + j) (by simp; omega)).1
    rw [hB.cell, Nat.zero_add, get_flatK _ _ _ _ (by omega)] at h1
    rw [show (i * 6 + j) / 6 = i by omega, show (i * 6 + j) % 6 = j by omega] at h1
    rw [h1]
    have h2 : d'[i]! = x := dget hi hx
    rw [h2]
    have h3 : j < (xC x).length := hj
    exact (lget h3).symm
  · have e1 : (d'.extract 0 l.toArray.size).toList = d'.toList := by rw [show l.toArray.size = d'.size by rw [p1]]; simp
    have e2 : (l.toArray.extract 0 l.toArray.size).toList = l := by simp
    rw [e1, e2] at p3
    exact p3
  · intro i j x y hij hx hy
    have hj : j < d'.size := by have := (List.getElem?_eq_some_iff.1 hy).1; simpa using this
    have h1 := hs i j (Nat.zero_le _) hij (by rw [← p1]; exact hj)
    have h2 : d'[i]! = x := dget (by omega) hx
    have h3 : d'[j]! = y := dget hj hy
    rw [h2, h3, ltX] at h1
    simpa using h1
theorem len130 (w : World) : Calls Tryz.prog 130 #[.int .u64 0] w fun e w' => e = .returned (.int .i64 0) ∧ w = w' := by
  have h := Any.bits_Len (SlLaysF0.n15.bits (P := Tryz.prog) (ρ := Tryz.sortEx_ren) { Tryz.sortEx with }) 0 w (by omega) (by omega)
  change Calls Tryz.prog 130 #[.int .u64 0] w _ at h
  exact h.mono fun e w' ⟨he, hw⟩ => ⟨he, hw.symm⟩
theorem ins154 (a b : Value) (w : World) : Calls Tryz.prog 154 #[a, .int .i64 0, .int .i64 0, b] w fun e w' => e = .returned (.tuple #[]) ∧ w = w' := by
  go_enter Tryz.func154, Tryz.ntmps154
  go_wp2_with fail
  go_loopw [8] (fun i wr => i = .int .i64 1 ∧ w = wr) (fun i wr => 0)
  case atStart => exact ⟨rfl, rfl⟩
  case round =>
    obtain ⟨rfl, rfl⟩ := hrel
    go_wp2
    go_end0
    exact ⟨rfl, rfl⟩
theorem pdq129 (a b : Value) (w : World) : Calls Tryz.prog 129 #[a, .int .i64 0, .int .i64 0, .int .i64 0, b] w fun e w' => e = .returned (.tuple #[]) ∧ w = w' := by
  have c := ins154
  go_enter Tryz.func129, Tryz.ntmps129
  go_wp2_with fail
  go_loopw [1, 2] (fun x y wr => x = .int .i64 0 ∧ y = .int .i64 0 ∧ w = wr) (fun x y wr => 0)
  case atStart => exact ⟨rfl, rfl, rfl⟩
  case round =>
    obtain ⟨rfl, rfl, rfl⟩ := hrel
    go_wp2_with (go_at_call 154; refine (c _ _ _).mono ?_; rintro e w' ⟨rfl, rfl⟩)
    refine bodyPost_ret (results_none rfl _ _ _) rfl ?_
    exact ⟨rfl, rfl⟩
theorem sort_nil (w : World) : Calls Tryz.prog 89 #[.slice none 0 0, .func (.func 90) #[] #[]] w fun e w' => e = .returned (.tuple #[]) ∧ w = w' := by
  have c1 := len130
  have c2 := pdq129
  go_enter Tryz.func89, Tryz.ntmps89
  go_wp2_with (first | (go_at_call 130; refine (c1 _).mono ?_; rintro e w' ⟨rfl, rfl⟩) | (go_at_call 129; refine (c2 _ _ _).mono ?_; rintro e w' ⟨rfl, rfl⟩))
  go_end0
  exact ⟨rfl, rfl⟩

end Go.Proofs.YtoalboilghgalaaGreatDoor
