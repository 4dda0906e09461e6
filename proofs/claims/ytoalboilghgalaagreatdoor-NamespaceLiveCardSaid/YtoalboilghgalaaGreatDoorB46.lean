/- Lemmas for this claim, in parts: Eqd. -/
import Derived.Test.YtoalboilghgalaaGreatDoorB01
import Derived.Test.YtoalboilghgalaaGreatDoorB19
import Derived.Test.YtoalboilghgalaaGreatDoorB29
set_option maxRecDepth 100000
set_option maxHeartbeats 4000000
set_option linter.unusedVariables false
set_option linter.unusedSimpArgs false
/- The law's comparison of values and descriptors, of two that are the same. -/
namespace Go.Proofs.YtoalboilghgalaaGreatDoor
open Go.RowKit
open Go.Proofs.Dc (V Ds Ky)
attribute [local go_sem] run_store_float

attribute [local go_sem] Oper.semAt_some
theorem Tryz.isAgg34 (w : World) : (isAgg 34).run Tryz.prog w = .ok false w := by kernel_rfl
theorem Tryz.isAgg41 (w : World) : (isAgg 41).run Tryz.prog w = .ok false w := by kernel_rfl
theorem eqv_refl (v : V) (w : World) : Calls Tryz.prog 49 #[.agg (vArr v), .agg (vArr v)] w fun e w' => e = .returned (.bool true) ∧ Below w.heap.size w w' := by
  have hBI := fun x w => bits_any x w
  go_enter Tryz.func49, Tryz.ntmps49
  go_wp2_with (first | ((with_reducible show wpList _ _ _ (⟨some 2, .box 36 _, _, _, _, _⟩ :: _) _ _); refine wpList_box_blk rfl 36 _ rfl (vArr v) rfl ?_; intro w1 hA hL1 hs1; clear hs1) | ((with_reducible show wpList _ _ _ (⟨some 3, .box 36 _, _, _, _, _⟩ :: _) _ _); refine wpList_box_blk rfl 36 _ rfl (vArr v) rfl ?_; intro w2 hB hL2 hs2; clear hs2; replace hA := hA.next hL2; have hL := more hL1 hL2))
  clear hL1 hL2
  refine Ord.region (fun W => Blk W w.heap.size (vArr v) 36 ∧ Blk W w1.heap.size (vArr v) 36) [7, 8, 9, 10, 11, 12, 13, 14, 15, 16, 17, 18, 19, 20, 21] (by kernel_rfl) ⟨(hA.next (Below.refl _ _).drew), (hB.next (Below.refl _ _).drew)⟩ ?_
  intro hS
  refine Ord.tp 0 6 rfl rfl ?_
  refine Ord.tk 1 7 rfl rfl (yields_load1 (by rfl) 34 _ rfl w.heap.size 2 rfl (.float .f64 v.num) Tryz.isAgg34 (fun W hSW => (hSW.1.cell 2))) ?_
  refine Ord.tp 2 8 rfl rfl ?_
  refine Ord.tp 3 9 rfl rfl ?_
  refine Ord.tk 4 10 rfl rfl (yields_load1 (by rfl) 34 _ rfl w1.heap.size 2 rfl (.float .f64 v.num) Tryz.isAgg34 (fun W hSW => (hSW.2.cell 2))) ?_
  refine Ord.tp 5 11 rfl rfl ?_
  refine Ord.step (i := 6) rfl (by kernel_rfl) (by rfl) ?_
  intro K HK
  go_simp
  refine HK.out _ _ ?_
  clear HK
  refine ⟨Ord.np (by kernel_rfl), ?_⟩
  try simp only [List.setIfInBounds_toArray, List.set_cons_zero, List.set_cons_succ]
  refine Ord.tf 7 13 rfl rfl ?_
  refine Ord.take_free (i := 8) (v := undef) 14 rfl rfl (by kernel_rfl) (by kernel_rfl) (by kernel_rfl) (by kernel_rfl) (fun _ _ _ h => h) (by first | (intro _; assumption) | exact Ord.no_pend (S := fun W => Blk W w.heap.size (vArr v) 36 ∧ Blk W w1.heap.size (vArr v) 36) (by kernel_rfl)) (Or.inr ⟨by rfl, rfl⟩) ?_
  try simp only [List.setIfInBounds_toArray, List.set_cons_zero, List.set_cons_succ]
  refine Ord.take_free (i := 9) (v := undef) 15 rfl rfl (by kernel_rfl) (by kernel_rfl) (by kernel_rfl) (by kernel_rfl) (fun _ _ _ h => h) (by first | (intro _; assumption) | exact Ord.no_pend (S := fun W => Blk W w.heap.size (vArr v) 36 ∧ Blk W w1.heap.size (vArr v) 36) (by kernel_rfl)) (Or.inr ⟨by rfl, rfl⟩) ?_
  try simp only [List.setIfInBounds_toArray, List.set_cons_zero, List.set_cons_succ]
  refine Ord.take_free (i := 10) (v := undef) 16 rfl rfl (by kernel_rfl) (by kernel_rfl) (by kernel_rfl) (by kernel_rfl) (fun _ _ _ h => h) (by first | (intro _; assumption) | exact Ord.no_pend (S := fun W => Blk W w.heap.size (vArr v) 36 ∧ Blk W w1.heap.size (vArr v) 36) (by kernel_rfl)) (Or.inr ⟨by rfl, rfl⟩) ?_
  try simp only [List.setIfInBounds_toArray, List.set_cons_zero, List.set_cons_succ]
  refine Ord.take_free (i := 11) (v := undef) 17 rfl rfl (by kernel_rfl) (by kernel_rfl) (by kernel_rfl) (by kernel_rfl) (fun _ _ _ h => h) (by first | (intro _; assumption) | exact Ord.no_pend (S := fun W => Blk W w.heap.size (vArr v) 36 ∧ Blk W w1.heap.size (vArr v) 36) (by kernel_rfl)) (Or.inr ⟨by rfl, rfl⟩) ?_
  try simp only [List.setIfInBounds_toArray, List.set_cons_zero, List.set_cons_succ]
  refine Ord.take_free (i := 12) (v := undef) 18 rfl rfl (by kernel_rfl) (by kernel_rfl) (by kernel_rfl) (by kernel_rfl) (fun _ _ _ h => h) (by first | (intro _; assumption) | exact Ord.no_pend (S := fun W => Blk W w.heap.size (vArr v) 36 ∧ Blk W w1.heap.size (vArr v) 36) (by kernel_rfl)) (Or.inr ⟨by rfl, rfl⟩) ?_
  try simp only [List.setIfInBounds_toArray, List.set_cons_zero, List.set_cons_succ]
  refine Ord.take_free (i := 13) (v := undef) 19 rfl rfl (by kernel_rfl) (by kernel_rfl) (by kernel_rfl) (by kernel_rfl) (fun _ _ _ h => h) (by first | (intro _; assumption) | exact Ord.no_pend (S := fun W => Blk W w.heap.size (vArr v) 36 ∧ Blk W w1.heap.size (vArr v) 36) (by kernel_rfl)) (Or.inr ⟨by rfl, rfl⟩) ?_
  try simp only [List.setIfInBounds_toArray, List.set_cons_zero, List.set_cons_succ]
  refine Ord.take_free (i := 14) (v := undef) 20 rfl rfl (by kernel_rfl) (by kernel_rfl) (by kernel_rfl) (by kernel_rfl) (fun _ _ _ h => h) (by first | (intro _; assumption) | exact Ord.no_pend (S := fun W => Blk W w.heap.size (vArr v) 36 ∧ Blk W w1.heap.size (vArr v) 36) (by kernel_rfl)) (Or.inr ⟨by rfl, rfl⟩) ?_
  try simp only [List.setIfInBounds_toArray, List.set_cons_zero, List.set_cons_succ]
  refine Ord.take_free (i := 15) (v := undef) 21 rfl rfl (by kernel_rfl) (by kernel_rfl) (by kernel_rfl) (by kernel_rfl) (fun _ _ _ h => h) (by first | (intro _; assumption) | exact Ord.no_pend (S := fun W => Blk W w.heap.size (vArr v) 36 ∧ Blk W w1.heap.size (vArr v) 36) (by kernel_rfl)) (Or.inr ⟨by rfl, rfl⟩) ?_
  try simp only [List.setIfInBounds_toArray, List.set_cons_zero, List.set_cons_succ]
  refine Ord.take_free (i := 16) (v := undef) 22 rfl rfl (by kernel_rfl) (by kernel_rfl) (by kernel_rfl) (by kernel_rfl) (fun _ _ _ h => h) (by first | (intro _; assumption) | exact Ord.no_pend (S := fun W => Blk W w.heap.size (vArr v) 36 ∧ Blk W w1.heap.size (vArr v) 36) (by kernel_rfl)) (Or.inr ⟨by rfl, rfl⟩) ?_
  try simp only [List.setIfInBounds_toArray, List.set_cons_zero, List.set_cons_succ]
  refine Ord.take_free (i := 17) (v := undef) 23 rfl rfl (by kernel_rfl) (by kernel_rfl) (by kernel_rfl) (by kernel_rfl) (fun _ _ _ h => h) (by first | (intro _; assumption) | exact Ord.no_pend (S := fun W => Blk W w.heap.size (vArr v) 36 ∧ Blk W w1.heap.size (vArr v) 36) (by kernel_rfl)) (Or.inr ⟨by rfl, rfl⟩) ?_
  try simp only [List.setIfInBounds_toArray, List.set_cons_zero, List.set_cons_succ]
  refine Ord.take_free (i := 18) (v := undef) 24 rfl rfl (by kernel_rfl) (by kernel_rfl) (by kernel_rfl) (by kernel_rfl) (fun _ _ _ h => h) (by first | (intro _; assumption) | exact Ord.no_pend (S := fun W => Blk W w.heap.size (vArr v) 36 ∧ Blk W w1.heap.size (vArr v) 36) (by kernel_rfl)) (Or.inr ⟨by rfl, rfl⟩) ?_
  try simp only [List.setIfInBounds_toArray, List.set_cons_zero, List.set_cons_succ]
  refine Ord.take_free (i := 19) (v := undef) 25 rfl rfl (by kernel_rfl) (by kernel_rfl) (by kernel_rfl) (by kernel_rfl) (fun _ _ _ h => h) (by first | (intro _; assumption) | exact Ord.no_pend (S := fun W => Blk W w.heap.size (vArr v) 36 ∧ Blk W w1.heap.size (vArr v) 36) (by kernel_rfl)) (Or.inr ⟨by rfl, rfl⟩) ?_
  try simp only [List.setIfInBounds_toArray, List.set_cons_zero, List.set_cons_succ]
  refine Ord.tf 20 26 rfl rfl ?_
  refine Ord.tf 21 5 rfl rfl ?_
  refine Ord.done (by kernel_rfl) ?_ _
  clear hS
  have hcA := (hA.next (Below.refl _ _).drew).cellV
  have hcB := (hB.next (Below.refl _ _).drew).cellV
  go_wp2
  go_ret
  exact ⟨ret_b (by simp), hL.drew⟩

theorem eqd_refl (d : Ds) (w : World) : Calls Tryz.prog 86 #[.agg (dArr d), .agg (dArr d)] w fun e w' => e = .returned (.bool true) ∧ Below w.heap.size w w' := by
  go_enter Tryz.func86, Tryz.ntmps86
  go_wp2_with (first | ((with_reducible show wpList _ _ _ (⟨some 2, .box 43 _, _, _, _, _⟩ :: _) _ _); refine wpList_box_blk rfl 43 _ rfl (dArr d) rfl ?_; intro w1 hA hL1 hs1; clear hs1) | ((with_reducible show wpList _ _ _ (⟨some 3, .box 43 _, _, _, _, _⟩ :: _) _ _); refine wpList_box_blk rfl 43 _ rfl (dArr d) rfl ?_; intro w2 hB hL2 hs2; clear hs2; replace hA := hA.next hL2; have hL := more hL1 hL2) | ((with_reducible show wpList _ _ _ (⟨_, .load 36 (.tmp 5), _, _, _, _⟩ :: _) _ _); refine wpList_load_midW (by rfl) 36 _ rfl w.heap.size 0 rfl (vArr d.val).toList _ (range_val hA) Tryz.underlying36 rfl Tryz.size36 ?_) | ((with_reducible show wpList _ _ _ (⟨_, .load 36 (.tmp 7), _, _, _, _⟩ :: _) _ _); refine wpList_load_midW (by rfl) 36 _ rfl w1.heap.size 0 rfl (vArr d.val).toList _ (range_val hB) Tryz.underlying36 rfl Tryz.size36 ?_) | ((with_reducible show wpList _ _ _ (⟨_, .load 36 (.tmp 11), _, _, _, _⟩ :: _) _ _); refine wpList_load_midW (by rfl) 36 _ rfl w.heap.size 5 rfl (vArr d.get).toList _ (range_get hA) Tryz.underlying36 rfl Tryz.size36 ?_) | ((with_reducible show wpList _ _ _ (⟨_, .load 36 (.tmp 13), _, _, _, _⟩ :: _) _ _); refine wpList_load_midW (by rfl) 36 _ rfl w1.heap.size 5 rfl (vArr d.get).toList _ (range_get hB) Tryz.underlying36 rfl Tryz.size36 ?_) | ((with_reducible show wpList _ _ _ (⟨_, .load 36 (.tmp 18), _, _, _, _⟩ :: _) _ _); refine wpList_load_midW (by rfl) 36 _ rfl w.heap.size 10 rfl (vArr d.set).toList _ (range_set hA) Tryz.underlying36 rfl Tryz.size36 ?_) | ((with_reducible show wpList _ _ _ (⟨_, .load 36 (.tmp 20), _, _, _, _⟩ :: _) _ _); refine wpList_load_midW (by rfl) 36 _ rfl w1.heap.size 10 rfl (vArr d.set).toList _ (range_set hB) Tryz.underlying36 rfl Tryz.size36 ?_) | ((with_reducible show wpList _ _ _ (⟨_, .load 41 (.tmp 25), _, _, _, _⟩ :: _) _ _); refine wpList_load1 (by rfl) 41 _ rfl w.heap.size 15 rfl (.int .i64 d.w) (Tryz.isAgg41 _) (hA.cell 15) ?_) | ((with_reducible show wpList _ _ _ (⟨_, .load 41 (.tmp 27), _, _, _, _⟩ :: _) _ _); refine wpList_load1 (by rfl) 41 _ rfl w1.heap.size 15 rfl (.int .i64 d.w) (Tryz.isAgg41 _) (hB.cell 15) ?_) | ((with_reducible show wpList _ _ _ (⟨_, .load 41 (.tmp 32), _, _, _, _⟩ :: _) _ _); refine wpList_load1 (by rfl) 41 _ rfl w.heap.size 16 rfl (.int .i64 d.e) (Tryz.isAgg41 _) (hA.cell 16) ?_) | ((with_reducible show wpList _ _ _ (⟨_, .load 41 (.tmp 34), _, _, _, _⟩ :: _) _ _); refine wpList_load1 (by rfl) 41 _ rfl w1.heap.size 16 rfl (.int .i64 d.e) (Tryz.isAgg41 _) (hB.cell 16) ?_) | ((with_reducible show wpList _ _ _ (⟨_, .load 41 (.tmp 39), _, _, _, _⟩ :: _) _ _); refine wpList_load1 (by rfl) 41 _ rfl w.heap.size 17 rfl (.int .i64 d.c) (Tryz.isAgg41 _) (hA.cell 17) ?_) | ((with_reducible show wpList _ _ _ (⟨_, .load 41 (.tmp 41), _, _, _, _⟩ :: _) _ _); refine wpList_load1 (by rfl) 41 _ rfl w1.heap.size 17 rfl (.int .i64 d.c) (Tryz.isAgg41 _) (hB.cell 17) ?_) | (go_at_call 49; refine (eqv_refl _ _).mono ?_; rintro e wX ⟨rfl, hb⟩; replace hA := hA.next hb; replace hB := hB.next hb; replace hL := more hL hb; clear hb))
  go_ret
  exact ⟨ret_b (by simp), hL⟩

end Go.Proofs.YtoalboilghgalaaGreatDoor
