/- Lemmas for this claim, in parts: Nsworks. -/
import Derived.Test.YtoalboilghgalaaGreatDoorB01
import Derived.Test.YtoalboilghgalaaGreatDoorB44
set_option maxRecDepth 100000
set_option maxHeartbeats 4000000
set_option linter.unusedVariables false
set_option linter.unusedSimpArgs false
/- works: the chapter's first example. -/
namespace Go.Proofs.YtoalboilghgalaaGreatDoor
open Go.RowKit
open Go.Proofs.Dc (V Ds Ky)
attribute [local go_sem] run_store_float

attribute [local go_sem] Oper.semAt_some
def sB : ByteArray := ⟨#[98]⟩
def sA : ByteArray := ⟨#[97]⟩
def s10 : ByteArray := ⟨#[49, 48]⟩
def s2 : ByteArray := ⟨#[50]⟩
def wNames : List ByteArray := [sB, sA, s10, s2]
def wSort : List ByteArray := [s10, s2, sA, sB]
theorem wPerm : wNames.Perm wSort := by
  have h1 : [sB, sA, s10, s2].Perm ([s10, s2] ++ [sB, sA]) := (List.perm_append_comm : ([sB, sA] ++ [s10, s2]).Perm _)
  exact h1.trans (((List.Perm.swap sA sB []).cons s2).cons s10)
theorem wRel : wSort.Pairwise (fun a b => cmpU (unitsL a) (unitsL b) < 0) := by
  have h : ∀ a b : ByteArray, decide (cmpU (unitsL a) (unitsL b) < 0) = true → cmpU (unitsL a) (unitsL b) < 0 := fun a b h => of_decide_eq_true h
  unfold wSort
  simp only [List.pairwise_cons, List.mem_cons, List.not_mem_nil, or_false, forall_eq_or_imp, forall_eq, false_implies, implies_true, List.Pairwise.nil, and_true]
  exact ⟨⟨h _ _ (by kernel_rfl), h _ _ (by kernel_rfl), h _ _ (by kernel_rfl)⟩, ⟨h _ _ (by kernel_rfl), h _ _ (by kernel_rfl)⟩, h _ _ (by kernel_rfl)⟩
theorem wGood : NamesGood wNames := by
  refine ⟨fun q hq => ?_, ?_⟩
  · have h : ∀ q : ByteArray, (decide (q.size ≤ 1048576) && uvalid q) = true → okN q := fun q h => by
      simp only [Bool.and_eq_true, decide_eq_true_eq] at h; exact h
    unfold wNames at hq
    simp only [List.mem_cons, List.not_mem_nil, or_false] at hq
    rcases hq with rfl | rfl | rfl | rfl
    · exact h _ (by kernel_rfl)
    · exact h _ (by kernel_rfl)
    · exact h _ (by kernel_rfl)
    · exact h _ (by kernel_rfl)
  · exact (List.Perm.nodup_iff wPerm).2 (wRel.imp fun {a b} h e => by rw [e, cmpU_refl] at h; omega)
theorem names_sorted {l : List Ex} (hs : StrictX l) (hp : (l.map Ex.name).Perm wNames) : l.map Ex.name = wSort := by
  refine List.Perm.eq_of_pairwise (le := fun a b => cmpU (unitsL a) (unitsL b) < 0) (fun a b _ _ h1 h2 => ?_) ?_ wRel (hp.trans wPerm)
  · have := cmpU_swap (unitsL a) (unitsL b); omega
  · rw [List.pairwise_iff_getElem]
    intro i j hi hj hij
    rw [List.getElem_map, List.getElem_map]
    rw [List.length_map] at hi hj
    exact hs i j _ _ hij (List.getElem?_eq_getElem hi) (List.getElem?_eq_getElem hj)
theorem works_keys {l : List Ex} (hn : l.map Ex.name = wSort) : lawKeys l = [⟨s10, 0⟩, ⟨s2, 0⟩, ⟨sA, 0⟩, ⟨sB, 0⟩, kTag] := by
  have : l.map xKey = (l.map Ex.name).map (fun q => (⟨q, 0⟩ : Ky)) := by rw [List.map_map]; rfl
  unfold lawKeys
  rw [this, hn]; rfl
theorem works_a {l : List Ex} (hn : l.map Ex.name = wSort) : ∃ x, l[2]? = some x ∧ x.name = sA := by
  have h : (l.map Ex.name)[2]? = some sA := by rw [hn]; rfl
  rw [List.getElem?_map] at h
  obtain ⟨x, h1, h2⟩ := Option.map_eq_some_iff.1 h
  exact ⟨x, h1, h2⟩
def vOne : V := ⟨4, false, 4607182418800017408, ByteArray.empty, 0⟩
theorem eqOne (w : World) : (binOp .eql 36 (.agg #[.int .i64 4, .bool false, .float .f64 4607182418800017408, .string ByteArray.empty, .int .i64 0]) (.agg #[.int .i64 4, .bool false, .float .f64 4607182418800017408, .string ByteArray.empty, .int .i64 0])).run Tryz.prog w = .ok (.bool true) w := by kernel_rfl
theorem field83T (w : World) : (Instr.field 83 (.agg fArrT) 1).run Tryz.prog w = .ok (.int .i64 5) w := by kernel_rfl
theorem bs86 (w : World) : (Instr.buildSlice 86 4 #[(0, .string ⟨#[98]⟩), (1, .string ⟨#[97]⟩), (2, .string ⟨#[49, 48]⟩), (3, .string ⟨#[50]⟩)]).run Tryz.prog w = .ok (.slice (some ⟨w.heap.size, 0, none⟩) 4 4) (w.alloc (.cells #[.string sB, .string sA, .string s10, .string s2] 9)) := by kernel_rfl
theorem wNamesAt {n0 : Nat} {W : World} {b : Nat} (h : Blk W b #[.string sB, .string sA, .string s10, .string s2] 9) (hn : b < n0) : NamesAt n0 W (some ⟨b, 0, none⟩) wNames := fun i q hi => by
  refine ⟨b, 0, rfl, hn, h.lt, ?_⟩
  rw [h.cell, Nat.zero_add]
  unfold wNames at hi
  match i, hi with
  | 0, hi => cases hi; rfl
  | 1, hi => cases hi; rfl
  | 2, hi => cases hi; rfl
  | 3, hi => cases hi; rfl
  | i + 4, hi => simp at hi
theorem works_any (w : World) (hT0 : Tabs w) (htn : Tryz.lays197_ren.g 3 < w.heap.size ∧ Tryz.lays197_ren.g 4 < w.heap.size) : Calls Tryz.prog 38 #[] w fun e w' => e = .returned (.bool true) ∧ Below w.heap.size w w' := by
  have HT : Hid (∀ W, Below w.heap.size w W → Tabs W) := Lib.hid fun W h => hT0.below h
  have HTN := Lib.hid htn
  clear hT0 htn
  go_enter Tryz.func38, Tryz.ntmps38
  go_upto_region 5 with (first | (go_at_call 8; refine (new_any 1 100 _ (by decide) (by decide) (by decide)).mono ?_; rintro e w1 ⟨rfl, hH, hL⟩) | (go_at_call 39; refine (num39 _ _).mono ?_; rintro e w' ⟨rfl, rfl⟩) | ((with_reducible show wpList _ _ _ (⟨_, .buildSlice 86 _ _, _, _, _, _⟩ :: _) _ _); refine wpList_bs_g rfl 86 9 _ _ rfl #[.string sB, .string sA, .string s10, .string s2] (fun w => bs86 w) ?_; intro w2 hN hG; have hL2 := more hL hG.below; have hH2 := hH.next hG.below) | (go_at_call 41; refine (new41 w.heap.size w.heap.size 1 100 _ hL2.size (Nat.le_refl _) (HT.out _ hL2) HTN.out (by decide) hH2 _ wNames 4 (wNamesAt hN hN.lt) (by decide)).mono ?_; rintro e w3 (⟨xb, g, xc, a, l, ov, ob, tp, rfl, s3, hX3, hpm, hv0, hgl, k3⟩ | ⟨_, hbad, _⟩); rotate_left; exact absurd wGood hbad))
  have hns := names_sorted hX3.strict hpm
  have hlk := works_keys hns
  obtain ⟨x, hx, hxn⟩ := works_a hns
  have hxm := List.mem_of_getElem? hx
  have hI := xIdx_at hX3.strict hx
  have hL3 : Below w.heap.size w w3 := hL2.trans k3.below
  have hs2 := hL2.size
  have HX0 := Lib.hid (show w.heap.size ≤ g ∧ x.val = Dc.v0 ∧ okN x.name from ⟨Nat.le_trans hs2 hgl, (hv0 x hxm).1, (hv0 x hxm).2⟩)
  have HN0 := Lib.hid (show NsAt w.heap.size w3 w.heap.size ov ob xb g xc a l 100 from ⟨tp, _, s3, tagMod, hX3⟩)
  clear hpm hv0 hgl k3 s3 hX3 hs2 hH hL hN hG hL2 hH2
  have hka : kArr (xKey x) = #[.string sA, .int .i64 0] := by unfold kArr xKey; rw [hxn]
  have HG1 : Hid (∀ W (F : Int), NsAt w.heap.size W w.heap.size ov ob xb g xc a l F → 3 < F ∧ F ≤ 9223372036854775807 → Calls Tryz.prog 21 #[.pointer (some ⟨w.heap.size, 0, none⟩), .int .i64 1, .agg #[.string sA, .int .i64 0], .agg (vArr vN)] W fun e w' => ∃ b, e = .returned (.tuple #[.agg (vArr Dc.v0), errT b]) ∧ Blk w' b thrArr 206 ∧ NsAt w.heap.size w' w.heap.size ov ob xb g xc a l (F - 1) ∧ Keeps w.heap.size W w') := Lib.hid fun W F h hf => by
    have := rd_get_thr h hf hxm HX0.out.2.2 vN (by decide) (by kernel_rfl) (by rw [HX0.out.2.1]; rfl)
    rw [hka] at this
    exact this
  have HB1 : Hid (∀ W (F : Int), NsAt w.heap.size W w.heap.size ov ob xb g xc a l F → Calls Tryz.prog 44 #[.pointer (some ⟨w.heap.size, 0, none⟩), .int .i64 1, .string sA, .agg (vArr vOne)] W fun e w' => e = .returned (.int .i64 0) ∧ NsAt w.heap.size w' w.heap.size ov ob xb g xc a (l.set 2 (x.bind vOne)) F ∧ Only [g] W w' ∧ ∃ C, Blk W g C 162) := Lib.hid fun W F h => by
    obtain ⟨tp, L, s, hL, hX⟩ := h
    have hI9 := hI
    rw [hxn] at hI9
    refine (bind_some s hX sA (by decide) hI9 hx vOne (by decide) (by kernel_rfl) (by kernel_rfl)).mono ?_
    rintro e w' ⟨rfl, hX', hO, C, C', hC, _⟩
    exact ⟨rfl, ⟨tp, L, s.free hC rfl hO HX0.out.1, hL, hX'⟩, hO, C, hC⟩
  have hx2 : x.bind vOne ∈ l.set 2 (x.bind vOne) := List.mem_of_getElem? (i := 2) (by rw [List.getElem?_set]; simp [(List.getElem?_eq_some_iff.1 hx).1])
  have HG2 : Hid (∀ W (F : Int), NsAt w.heap.size W w.heap.size ov ob xb g xc a (l.set 2 (x.bind vOne)) F → 3 < F ∧ F ≤ 9223372036854775807 → Calls Tryz.prog 21 #[.pointer (some ⟨w.heap.size, 0, none⟩), .int .i64 1, .agg #[.string sA, .int .i64 0], .agg (vArr vN)] W fun e w' => e = .returned (.tuple #[.agg (vArr vOne), .nilIface]) ∧ NsAt w.heap.size w' w.heap.size ov ob xb g xc a (l.set 2 (x.bind vOne)) (F - 1) ∧ Keeps w.heap.size W w') := Lib.hid fun W F h hf => by
    have := rd_get_some h hf hx2 HX0.out.2.2 vN (by decide) (by kernel_rfl) (show ¬ (4 : Int) = 0 by decide)
    rw [show kArr (xKey (x.bind vOne)) = #[.string sA, .int .i64 0] from hka] at this
    exact this
  have HLK := Lib.hid hlk
  clear hns hlk hx hxn hxm hI hka hx2
  go_upto_region 9 with (first | (go_at_call 20; refine (rd_keys HN0.out ⟨by decide, by decide⟩).mono ?_; rintro e w4 ⟨vk, rfl, hk, hN4, k4⟩; have hL4 := hL3.trans k4.below; obtain ⟨AK, cK, hvk, hAK⟩ := hk.form; subst hvk) | (go_at_call 11; refine (null11 w4).mono ?_; rintro e w5 ⟨rfl, hb5⟩; have hN5 := hN4.keeps hb5; have hk5 := hk.next hb5; have hL5 := more hL4 hb5) | (go_at_call 11; refine (null11 w10).mono ?_; rintro e w11 ⟨rfl, hb11⟩; have hN11 := hN10.keeps hb11; have hk11 := hk10.next hb11; have hL11 := more hL10 hb11; have hbb11 := Blk.next hbb10 hb11) | (go_at_call 21; refine (HG1.out w5 _ hN5 ⟨by decide, by decide⟩).mono ?_; rintro e w6 ⟨bt, rfl, hbb6, hN6, k6⟩; have hk6 := hk5.keeps k6; have hL6 := hL5.trans k6.below) | (go_at_call 21; refine (HG2.out w11 _ hN11 ⟨by decide, by decide⟩).mono ?_; rintro e w12 ⟨rfl, hN12, k12⟩; have hk12 := hk11.keeps k12; have hbb12 := Blk.keeps hbb11 k12 rfl; have hL12 := hL11.trans k12.below) | ((with_reducible show wpList _ _ _ (⟨some 7, .alloc 36, _, _, _, _⟩ :: _) _ _); refine wpList_alloc_blk rfl 36 rfl _ zero36 ?_; intro wA hA7 hLA7 hsA7; clear hsA7) | ((with_reducible show wpList _ _ _ (⟨_, .store 36 (.tmp 7) _, _, _, _, _⟩ :: _) _ _); refine wpList_store_blk rfl 36 _ _ rfl _ (vArr Dc.v0) _ 36 rfl rfl hA7 Tryz.size36 rfl (vArr_one _) ?_; intro w8 hB8 hO8; have hb68 : Below w6.heap.size w6 w8 := hLA7.trans (hO8.below _ hLA7.size (by simp)); have hN8 := hN6.keeps hb68; have hk8 := hk6.next hb68; have hbb8 := Blk.next hbb6 hb68; have hL8 := more hL6 hb68) | ((with_reducible show wpList _ _ _ (⟨some 10, .alloc 36, _, _, _, _⟩ :: _) _ _); refine wpList_alloc_blk rfl 36 rfl _ zero36 ?_; intro wC hA10 hLA10 hsA10; clear hsA10) | ((with_reducible show wpList _ _ _ (⟨_, .store 36 (.tmp 10) _, _, _, _, _⟩ :: _) _ _); refine wpList_store_blk rfl 36 _ _ rfl _ (vArr vOne) _ 36 rfl rfl hA10 Tryz.size36 rfl (vArr_one _) ?_; intro w14 hB14 hO14; have hb14 : Below w12.heap.size w12 w14 := hLA10.trans (hO14.below _ hLA10.size (by simp)); have hk14 := hk12.next hb14; have hbb14 := Blk.next hbb12 hb14; have hL14 := more hL12 hb14) | (go_at_call 28; refine (num28 4607182418800017408 w8).mono ?_; rintro e w9 ⟨rfl, hb9⟩; have hN9 := hN8.keeps hb9; have hk9 := hk8.next hb9; have hbb9 := Blk.next hbb8 hb9; have hL9 := more hL8 hb9) | (go_at_call 44; refine (HB1.out w9 _ hN9).mono ?_; rintro e w10 ⟨rfl, hN10, hO10, C10, hC10⟩; have hk10 := hk9.only hC10 (by decide) hO10; have hbb10 := Blk.only hbb9 hO10 (by simpa using Blk.ne hbb9 hC10 (by decide)); have hL10 := hL9.trans (hO10.below _ hL9.size (by simpa using HX0.out.1))))
  have hrow : ∀ W (i : Nat) (k : Ky), (lawKeys l)[i]? = some k → KeysAt W 0 (.slice AK (lawKeys l).length cK) (lawKeys l) → ∃ g2, AK = some ⟨g2, 0, none⟩ ∧ W.rangeAt g2 (i * 2) [.string k.str, .int .i64 k.sym] := hAK
  obtain ⟨g2, hg2, _⟩ := hrow _ 0 ⟨s10, 0⟩ (by rw [HLK.out]; rfl) hk14
  subst hg2
  have hl5 : (lawKeys l).length = 5 := by rw [HLK.out]; rfl
  have HC0 : Hid (∀ W, KeysAt W 0 (.slice (some ⟨g2, 0, none⟩) 5 cK) (lawKeys l) → W.cell? ⟨g2, 0, none⟩ = some (.string ⟨#[49, 48]⟩) ∧ W.cell? ⟨g2, 9, none⟩ = some (.int .i64 12)) := Lib.hid fun W h => by
    rw [← hl5] at h
    obtain ⟨g3, e3, h3⟩ := hrow W 0 ⟨s10, 0⟩ (by rw [HLK.out]; rfl) h
    obtain ⟨g4, e4, h4⟩ := hrow W 4 kTag (by rw [HLK.out]; rfl) h
    cases e3; cases e4
    exact ⟨h3 0 _ rfl, h4 1 _ rfl⟩
  rw [hl5] at hk14 ⊢
  clear hrow hAK hl5
  have hkk := hk14
  have hbb := hbb14
  have h10 := hB14
  have hLz := hL14
  have hq1 := eqOne
  have hq2 := field83T
  clear hk14 hbb14 hB14 hL14 hk hk6 hk8 hk10 hk12 hbb6 hbb8 hbb10 hbb12
  refine Ord.region (fun W => (W.cell? ⟨g2, 0, none⟩ = some (.string ⟨#[49, 48]⟩) ∧ W.cell? ⟨g2, 9, none⟩ = some (.int .i64 12)) ∧ Blk W w12.heap.size (vArr vOne) 36) [44, 45, 46, 47, 48, 49] (by kernel_rfl) ⟨HC0.out _ (show KeysAt (World.drew _) _ _ _ from hkk), (show Blk (World.drew _) _ _ _ from h10)⟩ ?_
  intro hS
  replace hkk := hkk.next (Below.refl _ _).drew
  replace hbb := Blk.next hbb (Below.refl _ _).drew
  replace h10 := Blk.next h10 (Below.refl _ _).drew
  replace hLz := more hLz (Below.refl _ _).drew
  refine Ord.tp 0 51 rfl rfl ?_
  refine Ord.tp 1 52 rfl rfl ?_
  refine Ord.tp 2 53 rfl rfl ?_
  refine Ord.tp 3 54 rfl rfl ?_
  refine Ord.tp 4 55 rfl rfl ?_
  refine Ord.tp 5 56 rfl rfl ?_
  refine Ord.tp 6 57 rfl rfl ?_
  refine Ord.tp 7 58 rfl rfl ?_
  refine Ord.tp 8 59 rfl rfl ?_
  refine Ord.tp 9 60 rfl rfl ?_
  refine Ord.tp 10 61 rfl rfl ?_
  refine Ord.tp 11 62 rfl rfl ?_
  refine Ord.tp 12 63 rfl rfl ?_
  refine Ord.tp 13 64 rfl rfl ?_
  refine Ord.tp 14 65 rfl rfl ?_
  refine Ord.tp 15 66 rfl rfl ?_
  refine Ord.tp 16 67 rfl rfl ?_
  refine Ord.tp 17 68 rfl rfl ?_
  refine Ord.tp 18 69 rfl rfl ?_
  refine Ord.tk 19 70 rfl rfl (yields_load1 (by rfl) 9 _ rfl g2 0 rfl (.string ⟨#[49, 48]⟩) Tryz.isAgg9 (fun W hSW => hSW.1.1)) ?_
  refine Ord.tp 20 71 rfl rfl ?_
  refine Ord.tp 21 72 rfl rfl ?_
  refine Ord.tp 22 73 rfl rfl ?_
  refine Ord.tp 23 74 rfl rfl ?_
  refine Ord.tp 24 75 rfl rfl ?_
  refine Ord.tp 25 76 rfl rfl ?_
  refine Ord.tk 26 77 rfl rfl (yields_load1 (by rfl) 3 _ rfl g2 9 rfl (.int .i64 12) Tryz.isAgg3 (fun W hSW => hSW.1.2)) ?_
  refine Ord.tp 27 78 rfl rfl ?_
  refine Ord.tp 28 79 rfl rfl ?_
  refine Ord.tp 29 80 rfl rfl ?_
  refine Ord.tp 30 81 rfl rfl ?_
  refine Ord.step (i := 31) rfl (by kernel_rfl) (by rfl) ?_
  intro K HK
  go_simp
  go_at_call 37
  refine (faultT bt _ hbb).mono ?_
  rintro e wF ⟨rfl, hbF⟩
  replace hkk := hkk.next hbF
  replace hbb := Blk.next hbb hbF
  replace h10 := Blk.next h10 hbF
  replace hLz := more hLz hbF
  refine HK.out _ _ ?_
  clear HK
  refine Ord.kp ?_ ?_
  · exact ⟨HC0.out _ hkk, h10⟩
  clear hS
  intro hS
  try simp only [List.setIfInBounds_toArray, List.set_cons_zero, List.set_cons_succ]
  refine Ord.tp 32 83 rfl rfl ?_
  refine Ord.tp 33 84 rfl rfl ?_
  refine Ord.tp 34 85 rfl rfl ?_
  refine Ord.tp 35 86 rfl rfl ?_
  refine Ord.tp 36 87 rfl rfl ?_
  refine Ord.step (i := 37) rfl (by kernel_rfl) (by rfl) ?_
  intro K HK
  go_simp
  go_at_call 39
  refine (num39 _ _).mono ?_
  rintro e w9x ⟨rfl, rfl⟩
  refine HK.out _ _ ?_
  clear HK
  refine Ord.kp ?_ ?_
  · exact ⟨HC0.out _ hkk, h10⟩
  clear hS
  intro hS
  try simp only [List.setIfInBounds_toArray, List.set_cons_zero, List.set_cons_succ]
  refine Ord.tp 38 89 rfl rfl ?_
  refine Ord.tp 39 90 rfl rfl ?_
  refine Ord.tp 40 91 rfl rfl ?_
  refine Ord.tk 41 92 rfl rfl (yieldsIf_load_mid (by rfl) 36 _ rfl w12.heap.size 0 rfl ([.int .i64 4, .bool false, .float .f64 4607182418800017408, .string ByteArray.empty, .int .i64 0]) _ (fun W hSW => range_all hSW.2) Tryz.underlying36 rfl Tryz.size36) ?_
  refine Ord.step (i := 42) rfl (by kernel_rfl) (by rfl) ?_
  intro K HK
  go_simp
  go_at_call 28
  refine (num28 4607182418800017408 _).mono ?_
  rintro e wG ⟨rfl, hbG⟩
  replace hkk := hkk.next hbG
  replace hbb := Blk.next hbb hbG
  replace h10 := Blk.next h10 hbG
  replace hLz := more hLz hbG
  refine HK.out _ _ ?_
  clear HK
  refine Ord.kp ?_ ?_
  · exact ⟨HC0.out _ hkk, h10⟩
  clear hS
  intro hS
  try simp only [List.setIfInBounds_toArray, List.set_cons_zero, List.set_cons_succ]
  refine Ord.step (i := 43) rfl (by kernel_rfl) (by rfl) ?_
  intro K HK
  go_simp
  refine HK.out _ _ ?_
  clear HK
  refine ⟨Ord.np (by kernel_rfl), ?_⟩
  try simp only [List.setIfInBounds_toArray, List.set_cons_zero, List.set_cons_succ]
  refine Ord.tf 44 95 rfl rfl ?_
  refine Ord.tf 45 96 rfl rfl ?_
  refine Ord.tf 46 97 rfl rfl ?_
  refine Ord.tf 47 98 rfl rfl ?_
  refine Ord.tf 48 99 rfl rfl ?_
  refine Ord.tf 49 0 rfl rfl ?_
  refine Ord.done (by kernel_rfl) ?_ _
  clear hS
  go_wp2
  go_ret
  exact ⟨rfl, hLz⟩

end Go.Proofs.YtoalboilghgalaaGreatDoor
