/- Lemmas for this claim, in parts: OrdDef, Ord2. -/
import Derived.Test.YtoalboilghgalaaGreatDoorC01
import Derived.Test.YtoalboilghgalaaGreatDoorC18
import Derived.Test.YtoalboilghgalaaGreatDoorC19
set_option maxRecDepth 100000
set_option maxHeartbeats 4000000
set_option linter.unusedVariables false
set_option linter.unusedSimpArgs false
/- An ordinary object: DefineOwnProperty. -/
namespace Go.Proofs.YtoalboilghgalaaGreatDoor
open Go.RowKit
open Go.Proofs.Dc (V Ds Ky)
attribute [local go_sem] run_store_float

theorem orddef_no {n0 : Nat} {w : World} {hb : Nat} {ov : Value} {ob : Nat} {tp : Option Addr} {cap fuel deep : Int} {kd : Kd} {ext : Bool} {L : List (Ky × Ds)} (s : StX n0 w hb ov ob tp cap fuel deep kd ext L) (k : Ky) (d : Ds) (hg : kgood k = true) (hlen : kd.b < 1000000) (hd : Nums d) (hkd : Dc.kindB uvalid d = true) (hn : Nums ((getL L k).getD Dc.d0)) (hw : Dc.zero ((getL L k).getD Dc.d0) = true ∨ Dc.Whole uvalid ((getL L k).getD Dc.d0)) (hok : (Dc.apply uvalid ext ((getL L k).getD Dc.d0) d).2 = false) : Calls Tryz.prog 219 #[.agg #[], .pointer (some ⟨hb, 0, none⟩), .int .i64 1, .agg (kArr k), .agg (dArr d)] w fun e w' => DefPost n0 w hb ov ob cap fuel deep kd ext false L e w' := by
  have cA := fun W hT => apply_any ext ((getL L k).getD Dc.d0) d W hT hn hd hkd hw
  rw [hok] at cA
  have HN := Lib.hid hlen
  have cur := Bag.start s
  clear hlen s hok
  go_enter Tryz.func219, Tryz.ntmps219
  go_wp2_with (first | ((with_reducible show wpList _ _ _ (⟨_, .box 105 _, _, _, _, _⟩ :: _) _ _); refine wpList_box_blk rfl 105 _ rfl (#[]) rfl ?_; intro wa hB hL hs; replace cur := cur.push hL hB (Nat.le_refl _) rfl; clear hB hL hs) | ((with_reducible show wpList _ _ _ (⟨_, .box 40 _, _, _, _, _⟩ :: _) _ _); refine wpList_box_blk rfl 40 _ rfl (kArr k) rfl ?_; intro wb hB hL hs; replace cur := cur.push hL hB (Nat.le_refl _) rfl; clear hB hL hs) | ((with_reducible show wpList _ _ _ (⟨_, .box 43 _, _, _, _, _⟩ :: _) _ _); refine wpList_box_blk rfl 43 _ rfl (dArr d) rfl ?_; intro wc hB hL hs; replace cur := cur.push hL hB (Nat.le_refl _) rfl; clear hB hL hs) | ((with_reducible show wpList _ _ _ (⟨_, .load 40 (.tmp 8), _, _, _, _⟩ :: _) _ _); refine wpList_load_blk rfl 40 _ rfl _ rfl (cur.blk 1 rfl) Tryz.row40 Tryz.size40 ?_) | (go_at_call 227; refine (lies_any cur.s k).mono ?_; rintro e wd ⟨rfl, hb'⟩; replace cur := cur.next hb'; clear hb'; have hle := cur.k.size) | ((with_reducible show wpList _ _ _ (⟨_, .alloc 43, _, _, _, _⟩ :: _) _ _); refine wpList_alloc_blk rfl 43 rfl (dArr Dc.d0) zero43 ?_; intro we hB hL hs; replace cur := cur.push hL hB (Nat.le_refl _) rfl; clear hB hL hs) | ((with_reducible show wpList _ _ _ (⟨_, .store 43 (.tmp 12) _, _, _, _, _⟩ :: _) _ _); refine wpList_store_blk rfl 43 _ _ rfl _ (dArr ((getL L k).getD Dc.d0)) (dArr Dc.d0) 43 rfl rfl (cur.blk 0 rfl) Tryz.size43 rfl (dCells_one _) ?_; intro wf hB hO; replace cur := cur.set 0 rfl hO hB hle; clear hB hO))
  refine Ord.region (fun W => Has W ([(wd.heap.size, dArr ((getL L k).getD Dc.d0), 43), (wb.heap.size, dArr d, 43)])) [8, 9, 12, 13] (by kernel_rfl) (cur.drew.has (by simp)) ?_
  intro hS
  replace cur := cur.drew
  refine Ord.tp 0 25 rfl rfl ?_
  refine Ord.tp 1 26 rfl rfl ?_
  refine Ord.tk 3 28 rfl rfl (yieldsIf_load_mid (by rfl) 43 _ rfl wd.heap.size 0 rfl ([.int .i64 ((getL L k).getD Dc.d0).val.kind, .bool ((getL L k).getD Dc.d0).val.bool, .float .f64 ((getL L k).getD Dc.d0).val.num, .string ((getL L k).getD Dc.d0).val.str, .int .i64 ((getL L k).getD Dc.d0).val.id, .int .i64 ((getL L k).getD Dc.d0).get.kind, .bool ((getL L k).getD Dc.d0).get.bool, .float .f64 ((getL L k).getD Dc.d0).get.num, .string ((getL L k).getD Dc.d0).get.str, .int .i64 ((getL L k).getD Dc.d0).get.id, .int .i64 ((getL L k).getD Dc.d0).set.kind, .bool ((getL L k).getD Dc.d0).set.bool, .float .f64 ((getL L k).getD Dc.d0).set.num, .string ((getL L k).getD Dc.d0).set.str, .int .i64 ((getL L k).getD Dc.d0).set.id, .int .i64 ((getL L k).getD Dc.d0).w, .int .i64 ((getL L k).getD Dc.d0).e, .int .i64 ((getL L k).getD Dc.d0).c]) _ (fun W hSW => range_all (hSW.blk 0 rfl)) Tryz.underlying43 rfl Tryz.size43) ?_
  refine Ord.tk 4 29 rfl rfl (yieldsIf_load_mid (by rfl) 43 _ rfl wb.heap.size 0 rfl ([.int .i64 d.val.kind, .bool d.val.bool, .float .f64 d.val.num, .string d.val.str, .int .i64 d.val.id, .int .i64 d.get.kind, .bool d.get.bool, .float .f64 d.get.num, .string d.get.str, .int .i64 d.get.id, .int .i64 d.set.kind, .bool d.set.bool, .float .f64 d.set.num, .string d.set.str, .int .i64 d.set.id, .int .i64 d.w, .int .i64 d.e, .int .i64 d.c]) _ (fun W hSW => range_all (hSW.blk 1 rfl)) Tryz.underlying43 rfl Tryz.size43) ?_
  refine Ord.two (i := 2) (j := 10) rfl rfl (by kernel_rfl) (by rfl) (by rfl) ?_ ?_
  · intro K HK
    go_simp
    go_at_call 221
    refine (open_any cur.s).mono ?_
    rintro e wX ⟨rfl, rfl⟩
    refine HK.out _ _ ?_
    clear HK
    refine Ord.kp ?_ ?_
    · exact cur.has (by simp)
    clear hS
    intro hS
    try simp only [List.setIfInBounds_toArray, List.set_cons_zero, List.set_cons_succ]
    refine Ord.two (i := 5) (j := 10) rfl rfl (by kernel_rfl) (by rfl) (by rfl) ?_ ?_
    · intro K HK
      go_simp
      go_at_call 220
      refine (cA _ cur.s.tabs).mono ?_
      rintro e wg ⟨rfl, hb'⟩
      replace cur := cur.next hb'
      clear hb'
      refine HK.out _ _ ?_
      clear HK
      refine Ord.kp ?_ ?_
      · exact cur.has (by simp)
      clear hS
      intro hS
      try simp only [List.setIfInBounds_toArray, List.set_cons_zero, List.set_cons_succ]
      refine Ord.tp 6 24 rfl rfl ?_
      refine Ord.tp 7 31 rfl rfl ?_
      refine Ord.tf 8 32 rfl rfl ?_
      refine Ord.tf 9 33 rfl rfl ?_
      refine Ord.step (i := 10) rfl (by kernel_rfl) (by rfl) ?_
      intro K HK
      refine alloc_op 43 rfl (dArr Dc.d0) zero43 ?_
      intro wh bA hBA hbe hLA
      have hgeA : w.heap.size ≤ bA := by have := cur.k.size; omega
      replace cur := cur.push hLA hBA (Nat.le_of_eq hbe.symm) rfl
      clear hbe hLA hBA
      refine HK.out _ _ ?_
      clear HK
      refine Ord.kp ?_ ?_
      · exact cur.has (by simp)
      clear hS
      intro hS
      try simp only [List.setIfInBounds_toArray, List.set_cons_zero, List.set_cons_succ]
      refine Ord.step (i := 11) rfl (by kernel_rfl) (by rfl) ?_
      intro K HK
      refine store_blk_op 43 (.tmp 14) (.tmp 31) rfl bA (dArr (Dc.apply uvalid ext ((getL L k).getD Dc.d0) d).1) (dArr Dc.d0) 43 rfl rfl (cur.blk 0 rfl) Tryz.size43 rfl (dCells_one _) ?_
      intro wi hBi hOi
      replace cur := cur.set 0 rfl hOi hBi hgeA
      clear hBi hOi
      refine HK.out _ _ ?_
      clear HK
      refine ⟨Ord.np (by kernel_rfl), ?_⟩
      try simp only [List.setIfInBounds_toArray, List.set_cons_zero, List.set_cons_succ]
      refine Ord.tf 12 15 rfl rfl ?_
      refine Ord.tf 13 16 rfl rfl ?_
      refine Ord.done (by kernel_rfl) ?_ _
      clear hS
      go_wp2
      go_ret2
      exact ⟨rfl, tp, cur.s, cur.k⟩
    · intro K HK
      refine alloc_op 43 rfl (dArr Dc.d0) zero43 ?_
      intro wh bA hBA hbe hLA
      have hgeA : w.heap.size ≤ bA := by have := cur.k.size; omega
      replace cur := cur.push hLA hBA (Nat.le_of_eq hbe.symm) rfl
      clear hbe hLA hBA
      refine HK.out _ _ ?_
      clear HK
      refine Ord.kp ?_ ?_
      · exact cur.has (by simp)
      clear hS
      intro hS
      try simp only [List.setIfInBounds_toArray, List.set_cons_zero, List.set_cons_succ]
      refine Ord.step (i := 5) rfl (by kernel_rfl) (by rfl) ?_
      intro K HK
      go_simp
      go_at_call 220
      refine (cA _ cur.s.tabs).mono ?_
      rintro e wg ⟨rfl, hb'⟩
      replace cur := cur.next hb'
      clear hb'
      refine HK.out _ _ ?_
      clear HK
      refine Ord.kp ?_ ?_
      · exact cur.has (by simp)
      clear hS
      intro hS
      try simp only [List.setIfInBounds_toArray, List.set_cons_zero, List.set_cons_succ]
      refine Ord.tp 6 24 rfl rfl ?_
      refine Ord.tp 7 31 rfl rfl ?_
      refine Ord.tf 8 32 rfl rfl ?_
      refine Ord.tf 9 33 rfl rfl ?_
      refine Ord.step (i := 11) rfl (by kernel_rfl) (by rfl) ?_
      intro K HK
      refine store_blk_op 43 (.tmp 14) (.tmp 31) rfl bA (dArr (Dc.apply uvalid ext ((getL L k).getD Dc.d0) d).1) (dArr Dc.d0) 43 rfl rfl (cur.blk 0 rfl) Tryz.size43 rfl (dCells_one _) ?_
      intro wi hBi hOi
      replace cur := cur.set 0 rfl hOi hBi hgeA
      clear hBi hOi
      refine HK.out _ _ ?_
      clear HK
      refine ⟨Ord.np (by kernel_rfl), ?_⟩
      try simp only [List.setIfInBounds_toArray, List.set_cons_zero, List.set_cons_succ]
      refine Ord.tf 12 15 rfl rfl ?_
      refine Ord.tf 13 16 rfl rfl ?_
      refine Ord.done (by kernel_rfl) ?_ _
      clear hS
      go_wp2
      go_ret2
      exact ⟨rfl, tp, cur.s, cur.k⟩
  · intro K HK
    refine alloc_op 43 rfl (dArr Dc.d0) zero43 ?_
    intro wh bA hBA hbe hLA
    have hgeA : w.heap.size ≤ bA := by have := cur.k.size; omega
    replace cur := cur.push hLA hBA (Nat.le_of_eq hbe.symm) rfl
    clear hbe hLA hBA
    refine HK.out _ _ ?_
    clear HK
    refine Ord.kp ?_ ?_
    · exact cur.has (by simp)
    clear hS
    intro hS
    try simp only [List.setIfInBounds_toArray, List.set_cons_zero, List.set_cons_succ]
    refine Ord.step (i := 2) rfl (by kernel_rfl) (by rfl) ?_
    intro K HK
    go_simp
    go_at_call 221
    refine (open_any cur.s).mono ?_
    rintro e wX ⟨rfl, rfl⟩
    refine HK.out _ _ ?_
    clear HK
    refine Ord.kp ?_ ?_
    · exact cur.has (by simp)
    clear hS
    intro hS
    try simp only [List.setIfInBounds_toArray, List.set_cons_zero, List.set_cons_succ]
    refine Ord.step (i := 5) rfl (by kernel_rfl) (by rfl) ?_
    intro K HK
    go_simp
    go_at_call 220
    refine (cA _ cur.s.tabs).mono ?_
    rintro e wg ⟨rfl, hb'⟩
    replace cur := cur.next hb'
    clear hb'
    refine HK.out _ _ ?_
    clear HK
    refine Ord.kp ?_ ?_
    · exact cur.has (by simp)
    clear hS
    intro hS
    try simp only [List.setIfInBounds_toArray, List.set_cons_zero, List.set_cons_succ]
    refine Ord.tp 6 24 rfl rfl ?_
    refine Ord.tp 7 31 rfl rfl ?_
    refine Ord.tf 8 32 rfl rfl ?_
    refine Ord.tf 9 33 rfl rfl ?_
    refine Ord.step (i := 11) rfl (by kernel_rfl) (by rfl) ?_
    intro K HK
    refine store_blk_op 43 (.tmp 14) (.tmp 31) rfl bA (dArr (Dc.apply uvalid ext ((getL L k).getD Dc.d0) d).1) (dArr Dc.d0) 43 rfl rfl (cur.blk 0 rfl) Tryz.size43 rfl (dCells_one _) ?_
    intro wi hBi hOi
    replace cur := cur.set 0 rfl hOi hBi hgeA
    clear hBi hOi
    refine HK.out _ _ ?_
    clear HK
    refine ⟨Ord.np (by kernel_rfl), ?_⟩
    try simp only [List.setIfInBounds_toArray, List.set_cons_zero, List.set_cons_succ]
    refine Ord.tf 12 15 rfl rfl ?_
    refine Ord.tf 13 16 rfl rfl ?_
    refine Ord.done (by kernel_rfl) ?_ _
    clear hS
    go_wp2
    go_ret2
    exact ⟨rfl, tp, cur.s, cur.k⟩


theorem orddef_yes {n0 : Nat} {w : World} {hb : Nat} {ov : Value} {ob : Nat} {tp : Option Addr} {cap fuel deep : Int} {kd : Kd} {ext : Bool} {L : List (Ky × Ds)} (s : StX n0 w hb ov ob tp cap fuel deep kd ext L) (k : Ky) (d : Ds) (hg : kgood k = true) (hlen : kd.b < 1000000) (hd : Nums d) (hkd : Dc.kindB uvalid d = true) (hn : Nums ((getL L k).getD Dc.d0)) (hw : Dc.zero ((getL L k).getD Dc.d0) = true ∨ Dc.Whole uvalid ((getL L k).getD Dc.d0)) (hok : (Dc.apply uvalid ext ((getL L k).getD Dc.d0) d).2 = true) : Calls Tryz.prog 219 #[.agg #[], .pointer (some ⟨hb, 0, none⟩), .int .i64 1, .agg (kArr k), .agg (dArr d)] w fun e w' => DefPost n0 w hb ov ob cap fuel deep kd.up ext true (putL L k (Dc.apply uvalid ext ((getL L k).getD Dc.d0) d).1) e w' := by
  have cA := fun W hT => apply_any ext ((getL L k).getD Dc.d0) d W hT hn hd hkd hw
  rw [hok] at cA
  have HN := Lib.hid hlen
  have cur := Bag.start s
  clear hlen s hok
  go_enter Tryz.func219, Tryz.ntmps219
  go_wp2_with (first | ((with_reducible show wpList _ _ _ (⟨_, .box 105 _, _, _, _, _⟩ :: _) _ _); refine wpList_box_blk rfl 105 _ rfl (#[]) rfl ?_; intro wa hB hL hs; replace cur := cur.push hL hB (Nat.le_refl _) rfl; clear hB hL hs) | ((with_reducible show wpList _ _ _ (⟨_, .box 40 _, _, _, _, _⟩ :: _) _ _); refine wpList_box_blk rfl 40 _ rfl (kArr k) rfl ?_; intro wb hB hL hs; replace cur := cur.push hL hB (Nat.le_refl _) rfl; clear hB hL hs) | ((with_reducible show wpList _ _ _ (⟨_, .box 43 _, _, _, _, _⟩ :: _) _ _); refine wpList_box_blk rfl 43 _ rfl (dArr d) rfl ?_; intro wc hB hL hs; replace cur := cur.push hL hB (Nat.le_refl _) rfl; clear hB hL hs) | ((with_reducible show wpList _ _ _ (⟨_, .load 40 (.tmp 8), _, _, _, _⟩ :: _) _ _); refine wpList_load_blk rfl 40 _ rfl _ rfl (cur.blk 1 rfl) Tryz.row40 Tryz.size40 ?_) | (go_at_call 227; refine (lies_any cur.s k).mono ?_; rintro e wd ⟨rfl, hb'⟩; replace cur := cur.next hb'; clear hb'; have hle := cur.k.size) | ((with_reducible show wpList _ _ _ (⟨_, .alloc 43, _, _, _, _⟩ :: _) _ _); refine wpList_alloc_blk rfl 43 rfl (dArr Dc.d0) zero43 ?_; intro we hB hL hs; replace cur := cur.push hL hB (Nat.le_refl _) rfl; clear hB hL hs) | ((with_reducible show wpList _ _ _ (⟨_, .store 43 (.tmp 12) _, _, _, _, _⟩ :: _) _ _); refine wpList_store_blk rfl 43 _ _ rfl _ (dArr ((getL L k).getD Dc.d0)) (dArr Dc.d0) 43 rfl rfl (cur.blk 0 rfl) Tryz.size43 rfl (dCells_one _) ?_; intro wf hB hO; replace cur := cur.set 0 rfl hO hB hle; clear hB hO))
  refine Ord.region (fun W => Has W ([(wd.heap.size, dArr ((getL L k).getD Dc.d0), 43), (wb.heap.size, dArr d, 43)])) [8, 9, 12, 13] (by kernel_rfl) (cur.drew.has (by simp)) ?_
  intro hS
  replace cur := cur.drew
  refine Ord.tp 0 25 rfl rfl ?_
  refine Ord.tp 1 26 rfl rfl ?_
  refine Ord.tk 3 28 rfl rfl (yieldsIf_load_mid (by rfl) 43 _ rfl wd.heap.size 0 rfl ([.int .i64 ((getL L k).getD Dc.d0).val.kind, .bool ((getL L k).getD Dc.d0).val.bool, .float .f64 ((getL L k).getD Dc.d0).val.num, .string ((getL L k).getD Dc.d0).val.str, .int .i64 ((getL L k).getD Dc.d0).val.id, .int .i64 ((getL L k).getD Dc.d0).get.kind, .bool ((getL L k).getD Dc.d0).get.bool, .float .f64 ((getL L k).getD Dc.d0).get.num, .string ((getL L k).getD Dc.d0).get.str, .int .i64 ((getL L k).getD Dc.d0).get.id, .int .i64 ((getL L k).getD Dc.d0).set.kind, .bool ((getL L k).getD Dc.d0).set.bool, .float .f64 ((getL L k).getD Dc.d0).set.num, .string ((getL L k).getD Dc.d0).set.str, .int .i64 ((getL L k).getD Dc.d0).set.id, .int .i64 ((getL L k).getD Dc.d0).w, .int .i64 ((getL L k).getD Dc.d0).e, .int .i64 ((getL L k).getD Dc.d0).c]) _ (fun W hSW => range_all (hSW.blk 0 rfl)) Tryz.underlying43 rfl Tryz.size43) ?_
  refine Ord.tk 4 29 rfl rfl (yieldsIf_load_mid (by rfl) 43 _ rfl wb.heap.size 0 rfl ([.int .i64 d.val.kind, .bool d.val.bool, .float .f64 d.val.num, .string d.val.str, .int .i64 d.val.id, .int .i64 d.get.kind, .bool d.get.bool, .float .f64 d.get.num, .string d.get.str, .int .i64 d.get.id, .int .i64 d.set.kind, .bool d.set.bool, .float .f64 d.set.num, .string d.set.str, .int .i64 d.set.id, .int .i64 d.w, .int .i64 d.e, .int .i64 d.c]) _ (fun W hSW => range_all (hSW.blk 1 rfl)) Tryz.underlying43 rfl Tryz.size43) ?_
  refine Ord.two (i := 2) (j := 10) rfl rfl (by kernel_rfl) (by rfl) (by rfl) ?_ ?_
  · intro K HK
    go_simp
    go_at_call 221
    refine (open_any cur.s).mono ?_
    rintro e wX ⟨rfl, rfl⟩
    refine HK.out _ _ ?_
    clear HK
    refine Ord.kp ?_ ?_
    · exact cur.has (by simp)
    clear hS
    intro hS
    try simp only [List.setIfInBounds_toArray, List.set_cons_zero, List.set_cons_succ]
    refine Ord.two (i := 5) (j := 10) rfl rfl (by kernel_rfl) (by rfl) (by rfl) ?_ ?_
    · intro K HK
      go_simp
      go_at_call 220
      refine (cA _ cur.s.tabs).mono ?_
      rintro e wg ⟨rfl, hb'⟩
      replace cur := cur.next hb'
      clear hb'
      refine HK.out _ _ ?_
      clear HK
      refine Ord.kp ?_ ?_
      · exact cur.has (by simp)
      clear hS
      intro hS
      try simp only [List.setIfInBounds_toArray, List.set_cons_zero, List.set_cons_succ]
      refine Ord.tp 6 24 rfl rfl ?_
      refine Ord.tp 7 31 rfl rfl ?_
      refine Ord.tf 8 32 rfl rfl ?_
      refine Ord.tf 9 33 rfl rfl ?_
      refine Ord.step (i := 10) rfl (by kernel_rfl) (by rfl) ?_
      intro K HK
      refine alloc_op 43 rfl (dArr Dc.d0) zero43 ?_
      intro wh bA hBA hbe hLA
      have hgeA : w.heap.size ≤ bA := by have := cur.k.size; omega
      replace cur := cur.push hLA hBA (Nat.le_of_eq hbe.symm) rfl
      clear hbe hLA hBA
      refine HK.out _ _ ?_
      clear HK
      refine Ord.kp ?_ ?_
      · exact cur.has (by simp)
      clear hS
      intro hS
      try simp only [List.setIfInBounds_toArray, List.set_cons_zero, List.set_cons_succ]
      refine Ord.step (i := 11) rfl (by kernel_rfl) (by rfl) ?_
      intro K HK
      refine store_blk_op 43 (.tmp 14) (.tmp 31) rfl bA (dArr (Dc.apply uvalid ext ((getL L k).getD Dc.d0) d).1) (dArr Dc.d0) 43 rfl rfl (cur.blk 0 rfl) Tryz.size43 rfl (dCells_one _) ?_
      intro wi hBi hOi
      replace cur := cur.set 0 rfl hOi hBi hgeA
      clear hBi hOi
      refine HK.out _ _ ?_
      clear HK
      refine ⟨Ord.np (by kernel_rfl), ?_⟩
      try simp only [List.setIfInBounds_toArray, List.set_cons_zero, List.set_cons_succ]
      refine Ord.tf 12 15 rfl rfl ?_
      refine Ord.tf 13 16 rfl rfl ?_
      refine Ord.done (by kernel_rfl) ?_ _
      clear hS
      go_wp2_with (first | ((with_reducible show wpList _ _ _ (⟨_, .load 40 (.tmp 8), _, _, _, _⟩ :: _) _ _); refine wpList_load_blk rfl 40 _ rfl _ rfl (cur.blk 3 rfl) Tryz.row40 Tryz.size40 ?_) | ((with_reducible show wpList _ _ _ (⟨_, .load 43 (.tmp 14), _, _, _, _⟩ :: _) _ _); refine wpList_load_blk rfl 43 _ rfl _ rfl (cur.blk 0 rfl) Tryz.row43 Tryz.size43 ?_) | (go_at_call 51; refine (lay_any cur.s k _ hg HN.out).mono ?_; rintro e wj ⟨rfl, tp', s9, k9⟩; replace cur := cur.go s9 k9))
      go_ret2
      exact ⟨rfl, tp', cur.s, cur.k⟩
    · intro K HK
      refine alloc_op 43 rfl (dArr Dc.d0) zero43 ?_
      intro wh bA hBA hbe hLA
      have hgeA : w.heap.size ≤ bA := by have := cur.k.size; omega
      replace cur := cur.push hLA hBA (Nat.le_of_eq hbe.symm) rfl
      clear hbe hLA hBA
      refine HK.out _ _ ?_
      clear HK
      refine Ord.kp ?_ ?_
      · exact cur.has (by simp)
      clear hS
      intro hS
      try simp only [List.setIfInBounds_toArray, List.set_cons_zero, List.set_cons_succ]
      refine Ord.step (i := 5) rfl (by kernel_rfl) (by rfl) ?_
      intro K HK
      go_simp
      go_at_call 220
      refine (cA _ cur.s.tabs).mono ?_
      rintro e wg ⟨rfl, hb'⟩
      replace cur := cur.next hb'
      clear hb'
      refine HK.out _ _ ?_
      clear HK
      refine Ord.kp ?_ ?_
      · exact cur.has (by simp)
      clear hS
      intro hS
      try simp only [List.setIfInBounds_toArray, List.set_cons_zero, List.set_cons_succ]
      refine Ord.tp 6 24 rfl rfl ?_
      refine Ord.tp 7 31 rfl rfl ?_
      refine Ord.tf 8 32 rfl rfl ?_
      refine Ord.tf 9 33 rfl rfl ?_
      refine Ord.step (i := 11) rfl (by kernel_rfl) (by rfl) ?_
      intro K HK
      refine store_blk_op 43 (.tmp 14) (.tmp 31) rfl bA (dArr (Dc.apply uvalid ext ((getL L k).getD Dc.d0) d).1) (dArr Dc.d0) 43 rfl rfl (cur.blk 0 rfl) Tryz.size43 rfl (dCells_one _) ?_
      intro wi hBi hOi
      replace cur := cur.set 0 rfl hOi hBi hgeA
      clear hBi hOi
      refine HK.out _ _ ?_
      clear HK
      refine ⟨Ord.np (by kernel_rfl), ?_⟩
      try simp only [List.setIfInBounds_toArray, List.set_cons_zero, List.set_cons_succ]
      refine Ord.tf 12 15 rfl rfl ?_
      refine Ord.tf 13 16 rfl rfl ?_
      refine Ord.done (by kernel_rfl) ?_ _
      clear hS
      go_wp2_with (first | ((with_reducible show wpList _ _ _ (⟨_, .load 40 (.tmp 8), _, _, _, _⟩ :: _) _ _); refine wpList_load_blk rfl 40 _ rfl _ rfl (cur.blk 3 rfl) Tryz.row40 Tryz.size40 ?_) | ((with_reducible show wpList _ _ _ (⟨_, .load 43 (.tmp 14), _, _, _, _⟩ :: _) _ _); refine wpList_load_blk rfl 43 _ rfl _ rfl (cur.blk 0 rfl) Tryz.row43 Tryz.size43 ?_) | (go_at_call 51; refine (lay_any cur.s k _ hg HN.out).mono ?_; rintro e wj ⟨rfl, tp', s9, k9⟩; replace cur := cur.go s9 k9))
      go_ret2
      exact ⟨rfl, tp', cur.s, cur.k⟩
  · intro K HK
    refine alloc_op 43 rfl (dArr Dc.d0) zero43 ?_
    intro wh bA hBA hbe hLA
    have hgeA : w.heap.size ≤ bA := by have := cur.k.size; omega
    replace cur := cur.push hLA hBA (Nat.le_of_eq hbe.symm) rfl
    clear hbe hLA hBA
    refine HK.out _ _ ?_
    clear HK
    refine Ord.kp ?_ ?_
    · exact cur.has (by simp)
    clear hS
    intro hS
    try simp only [List.setIfInBounds_toArray, List.set_cons_zero, List.set_cons_succ]
    refine Ord.step (i := 2) rfl (by kernel_rfl) (by rfl) ?_
    intro K HK
    go_simp
    go_at_call 221
    refine (open_any cur.s).mono ?_
    rintro e wX ⟨rfl, rfl⟩
    refine HK.out _ _ ?_
    clear HK
    refine Ord.kp ?_ ?_
    · exact cur.has (by simp)
    clear hS
    intro hS
    try simp only [List.setIfInBounds_toArray, List.set_cons_zero, List.set_cons_succ]
    refine Ord.step (i := 5) rfl (by kernel_rfl) (by rfl) ?_
    intro K HK
    go_simp
    go_at_call 220
    refine (cA _ cur.s.tabs).mono ?_
    rintro e wg ⟨rfl, hb'⟩
    replace cur := cur.next hb'
    clear hb'
    refine HK.out _ _ ?_
    clear HK
    refine Ord.kp ?_ ?_
    · exact cur.has (by simp)
    clear hS
    intro hS
    try simp only [List.setIfInBounds_toArray, List.set_cons_zero, List.set_cons_succ]
    refine Ord.tp 6 24 rfl rfl ?_
    refine Ord.tp 7 31 rfl rfl ?_
    refine Ord.tf 8 32 rfl rfl ?_
    refine Ord.tf 9 33 rfl rfl ?_
    refine Ord.step (i := 11) rfl (by kernel_rfl) (by rfl) ?_
    intro K HK
    refine store_blk_op 43 (.tmp 14) (.tmp 31) rfl bA (dArr (Dc.apply uvalid ext ((getL L k).getD Dc.d0) d).1) (dArr Dc.d0) 43 rfl rfl (cur.blk 0 rfl) Tryz.size43 rfl (dCells_one _) ?_
    intro wi hBi hOi
    replace cur := cur.set 0 rfl hOi hBi hgeA
    clear hBi hOi
    refine HK.out _ _ ?_
    clear HK
    refine ⟨Ord.np (by kernel_rfl), ?_⟩
    try simp only [List.setIfInBounds_toArray, List.set_cons_zero, List.set_cons_succ]
    refine Ord.tf 12 15 rfl rfl ?_
    refine Ord.tf 13 16 rfl rfl ?_
    refine Ord.done (by kernel_rfl) ?_ _
    clear hS
    go_wp2_with (first | ((with_reducible show wpList _ _ _ (⟨_, .load 40 (.tmp 8), _, _, _, _⟩ :: _) _ _); refine wpList_load_blk rfl 40 _ rfl _ rfl (cur.blk 3 rfl) Tryz.row40 Tryz.size40 ?_) | ((with_reducible show wpList _ _ _ (⟨_, .load 43 (.tmp 14), _, _, _, _⟩ :: _) _ _); refine wpList_load_blk rfl 43 _ rfl _ rfl (cur.blk 0 rfl) Tryz.row43 Tryz.size43 ?_) | (go_at_call 51; refine (lay_any cur.s k _ hg HN.out).mono ?_; rintro e wj ⟨rfl, tp', s9, k9⟩; replace cur := cur.go s9 k9))
    go_ret2
    exact ⟨rfl, tp', cur.s, cur.k⟩



end Go.Proofs.YtoalboilghgalaaGreatDoor

/- An ordinary object: GetOwnProperty, GetPrototypeOf, PreventExtensions, IsExtensible. -/
namespace Go.Proofs.YtoalboilghgalaaGreatDoor
open Go.RowKit
open Go.Proofs.Dc (V Ds Ky)
attribute [local go_sem] run_store_float

theorem orddef_any {n0 : Nat} {w : World} {hb : Nat} {ov : Value} {ob : Nat} {tp : Option Addr} {cap fuel deep : Int} {kd : Kd} {ext : Bool} {L : List (Ky × Ds)} (s : StX n0 w hb ov ob tp cap fuel deep kd ext L) (k : Ky) (d : Ds) (hg : kgood k = true) (hlen : kd.b < 1000000) (hd : Nums d) (hkd : Dc.kindB uvalid d = true) (hn : LNums L) (hl : LOk L) :
    Calls Tryz.prog 219 #[.agg #[], .pointer (some ⟨hb, 0, none⟩), .int .i64 1, .agg (kArr k), .agg (dArr d)] w fun e w' => DefPost n0 w hb ov ob cap fuel deep kd.up ext (defB ext L k d) (defL ext L k d) e w' := by
  unfold defB defL
  cases h : (Dc.apply uvalid ext ((getL L k).getD Dc.d0) d).2
  · refine (orddef_no s k d hg hlen hd hkd (hn.get k) (hl.now k) h).mono ?_
    rintro e w' ⟨rfl, tp', s', k'⟩
    exact ⟨rfl, tp', by simpa using s'.up hlen, k'⟩
  · simpa using orddef_yes s k d hg hlen hd hkd (hn.get k) (hl.now k) h

/-- a value, and the heap as it was -/
def Rd (v : Value) (n0 : Nat) (w : World) (hb : Nat) (ov : Value) (ob : Nat) (tp : Option Addr) (cap fuel deep : Int) (kd : Kd) (ext : Bool) (L : List (Ky × Ds)) (e : Ending) (w' : World) : Prop :=
  e = .returned v ∧ StX n0 w' hb ov ob tp cap fuel deep kd ext L ∧ Keeps n0 w w'

theorem proto_any {n0 : Nat} {w : World} {hb : Nat} {ov : Value} {ob : Nat} {tp : Option Addr} {cap fuel deep : Int} {kd : Kd} {ext : Bool} {L : List (Ky × Ds)} (s : StX n0 w hb ov ob tp cap fuel deep kd ext L) : Calls Tryz.prog 223 #[.pointer (some ⟨hb, 0, none⟩), .int .i64 1] w fun e w' => Rd (.agg (vArr kd.proto)) n0 w hb ov ob tp cap fuel deep kd ext L e w' := by
  have hP : ∀ {W : World}, StX n0 W hb ov ob tp cap fuel deep kd ext L → W.rangeAt ob 1 (vArr kd.proto).toList := fun {W} s j v hv => by
    rw [s.o.cell]; have : j < 5 := (List.getElem?_eq_some_iff.1 hv).1
    obtain rfl | rfl | rfl | rfl | rfl : j = 0 ∨ j = 1 ∨ j = 2 ∨ j = 3 ∨ j = 4 := by omega
    all_goals exact hv
  have cur := Bag.start s
  clear s
  go_enter Tryz.func223, Tryz.ntmps223
  go_wp2_with (first | ((with_reducible show wpList _ _ _ (⟨_, .alloc 36, _, _, _, _⟩ :: _) _ _); refine wpList_alloc_blk rfl 36 rfl (vArr Dc.v0) zero36 ?_; intro wa hB hL hs; replace cur := cur.push hL hB (Nat.le_refl _) rfl; clear hB hL hs) | (go_at_call 84; refine (at_any cur.s).mono ?_; rintro e wX ⟨rfl, rfl⟩) | ((with_reducible show wpList _ _ _ (⟨_, .load 36 _, _, _, _, _⟩ :: _) _ _); refine wpList_load_mid rfl 36 _ rfl ob 1 rfl (vArr kd.proto).toList _ (hP cur.s) Tryz.underlying36 rfl Tryz.size36 ?_) | ((with_reducible show wpList _ _ _ (⟨_, .store 36 _ _, _, _, _, _⟩ :: _) _ _); refine wpList_store_blk rfl 36 _ _ rfl _ (vArr kd.proto) _ 36 rfl rfl (cur.blk 0 rfl) Tryz.size36 rfl (vArr_one _) ?_; intro wz hB hO; replace cur := cur.set 0 rfl hO hB (Nat.le_refl _); clear hB hO))
  exact bodyPost_ret (results_cell Tryz.results223 rfl (cur.blk 0 rfl) Tryz.row36 Tryz.size36) rfl ⟨rfl, cur.s, cur.k⟩

theorem ordproto_any {n0 : Nat} {w : World} {hb : Nat} {ov : Value} {ob : Nat} {tp : Option Addr} {cap fuel deep : Int} {kd : Kd} {ext : Bool} {L : List (Ky × Ds)} (s : StX n0 w hb ov ob tp cap fuel deep kd ext L) : Calls Tryz.prog 211 #[.agg #[], .pointer (some ⟨hb, 0, none⟩), .int .i64 1] w fun e w' => Rd (.tuple #[.agg (vArr kd.proto), .nilIface]) n0 w hb ov ob tp cap fuel deep kd ext L e w' := by
  have cur := Bag.start s
  clear s
  go_enter Tryz.func211, Tryz.ntmps211
  go_wp2_with (first | ((with_reducible show wpList _ _ _ (⟨_, .box 105 _, _, _, _, _⟩ :: _) _ _); refine wpList_box_blk rfl 105 _ rfl (#[]) rfl ?_; intro wz hB hL hs; replace cur := cur.push hL hB (Nat.le_refl _) rfl; clear hB hL hs) | ((with_reducible show wpList _ _ _ (⟨_, .alloc 36, _, _, _, _⟩ :: _) _ _); refine wpList_alloc_blk rfl 36 rfl (vArr Dc.v0) zero36 ?_; intro wa hB hL hs; have hle := cur.k.size; replace cur := cur.push hL hB (Nat.le_refl _) rfl; clear hB hL hs) | (go_at_call 223; refine (proto_any cur.s).mono ?_; rintro e wX ⟨rfl, s9, k9⟩; replace cur := cur.go s9 k9) | ((with_reducible show wpList _ _ _ (⟨_, .store 36 _ _, _, _, _, _⟩ :: _) _ _); refine wpList_store_blk rfl 36 _ _ rfl _ (vArr kd.proto) _ 36 rfl rfl (cur.blk 0 rfl) Tryz.size36 rfl (vArr_one _) ?_; intro wz hB hO; replace cur := cur.set 0 rfl hO hB hle; clear hB hO))
  exact bodyPost_ret (results_cell_tmp Tryz.results211 rfl (cur.blk 0 rfl) Tryz.row36 Tryz.size36) rfl ⟨rfl, cur.s, cur.k⟩

theorem ordprev_any {n0 : Nat} {w : World} {hb : Nat} {ov : Value} {ob : Nat} {tp : Option Addr} {cap fuel deep : Int} {kd : Kd} {ext : Bool} {L : List (Ky × Ds)} (s : StX n0 w hb ov ob tp cap fuel deep kd ext L) : Calls Tryz.prog 215 #[.agg #[], .pointer (some ⟨hb, 0, none⟩), .int .i64 1] w fun e w' => Rd (.tuple #[.bool true, .nilIface]) n0 w hb ov ob tp cap fuel deep kd false L e w' := by
  have cur := Bag.start s
  clear s
  go_enter Tryz.func215, Tryz.ntmps215
  go_wp2_with (first | ((with_reducible show wpList _ _ _ (⟨_, .box 105 _, _, _, _, _⟩ :: _) _ _); refine wpList_box_blk rfl 105 _ rfl (#[]) rfl ?_; intro wz hB hL hs; replace cur := cur.push hL hB (Nat.le_refl _) rfl; clear hB hL hs) | (go_at_call 91; refine (shut_any cur.s).mono ?_; rintro e wX ⟨rfl, s9, k9⟩; replace cur := cur.go s9 k9))
  go_ret2
  exact ⟨rfl, cur.s, cur.k⟩

theorem ordext_any {n0 : Nat} {w : World} {hb : Nat} {ov : Value} {ob : Nat} {tp : Option Addr} {cap fuel deep : Int} {kd : Kd} {ext : Bool} {L : List (Ky × Ds)} (s : StX n0 w hb ov ob tp cap fuel deep kd ext L) : Calls Tryz.prog 213 #[.agg #[], .pointer (some ⟨hb, 0, none⟩), .int .i64 1] w fun e w' => Rd (.tuple #[.bool ext, .nilIface]) n0 w hb ov ob tp cap fuel deep kd ext L e w' := by
  have cur := Bag.start s
  clear s
  go_enter Tryz.func213, Tryz.ntmps213
  go_wp2_with (first | ((with_reducible show wpList _ _ _ (⟨_, .box 105 _, _, _, _, _⟩ :: _) _ _); refine wpList_box_blk rfl 105 _ rfl (#[]) rfl ?_; intro wz hB hL hs; replace cur := cur.push hL hB (Nat.le_refl _) rfl; clear hB hL hs) | (go_at_call 221; refine (open_any cur.s).mono ?_; rintro e wX ⟨rfl, rfl⟩))
  go_ret2
  exact ⟨rfl, cur.s, cur.k⟩

theorem ordget_any {n0 : Nat} {w : World} {hb : Nat} {ov : Value} {ob : Nat} {tp : Option Addr} {cap fuel deep : Int} {kd : Kd} {ext : Bool} {L : List (Ky × Ds)} (s : StX n0 w hb ov ob tp cap fuel deep kd ext L) (k : Ky) : Calls Tryz.prog 276 #[.agg #[], .pointer (some ⟨hb, 0, none⟩), .int .i64 1, .agg (kArr k)] w fun e w' => Rd (.tuple #[.agg (dArr ((getL L k).getD Dc.d0)), .bool (getL L k).isSome, .nilIface]) n0 w hb ov ob tp cap fuel deep kd ext L e w' := by
  have cur := Bag.start s
  clear s
  go_enter Tryz.func276, Tryz.ntmps276
  go_wp2_with (first | ((with_reducible show wpList _ _ _ (⟨_, .box 105 _, _, _, _, _⟩ :: _) _ _); refine wpList_box_blk rfl 105 _ rfl (#[]) rfl ?_; intro wz hB hL hs; replace cur := cur.push hL hB (Nat.le_refl _) rfl; clear hB hL hs) | ((with_reducible show wpList _ _ _ (⟨_, .box 40 _, _, _, _, _⟩ :: _) _ _); refine wpList_box_blk rfl 40 _ rfl (kArr k) rfl ?_; intro wk hB hL hs; replace cur := cur.push hL hB (Nat.le_refl _) rfl; clear hB hL hs) | ((with_reducible show wpList _ _ _ (⟨some 8, .alloc 43, _, _, _, _⟩ :: _) _ _); refine wpList_alloc_blk rfl 43 rfl (dArr Dc.d0) zero43 ?_; intro wr hB hL hs; have hler := cur.k.size; replace cur := cur.push hL hB (Nat.le_refl _) rfl; clear hB hL hs) | ((with_reducible show wpList _ _ _ (⟨_, .load 40 (.tmp 7), _, _, _, _⟩ :: _) _ _); refine wpList_load_blk rfl 40 _ rfl _ rfl (cur.blk 1 rfl) Tryz.row40 Tryz.size40 ?_) | (go_at_call 227; refine (lies_any cur.s k).mono ?_; rintro e wd ⟨rfl, hb'⟩; replace cur := cur.next hb'; clear hb'; have hle := cur.k.size) | ((with_reducible show wpList _ _ _ (⟨some 11, .alloc 43, _, _, _, _⟩ :: _) _ _); refine wpList_alloc_blk rfl 43 rfl (dArr Dc.d0) zero43 ?_; intro we hB hL hs; replace cur := cur.push hL hB (Nat.le_refl _) rfl; clear hB hL hs) | ((with_reducible show wpList _ _ _ (⟨_, .store 43 (.tmp 11) _, _, _, _, _⟩ :: _) _ _); refine wpList_store_blk rfl 43 _ _ rfl _ (dArr ((getL L k).getD Dc.d0)) _ 43 rfl rfl (cur.blk 0 rfl) Tryz.size43 rfl (dCells_one _) ?_; intro wf hB hO; replace cur := cur.set 0 rfl hO hB hle; clear hB hO) | ((with_reducible show wpList _ _ _ (⟨_, .load 43 (.tmp 11), _, _, _, _⟩ :: _) _ _); refine wpList_load_blk rfl 43 _ rfl _ rfl (cur.blk 0 rfl) Tryz.row43 Tryz.size43 ?_) | ((with_reducible show wpList _ _ _ (⟨_, .store 43 (.tmp 8) _, _, _, _, _⟩ :: _) _ _); refine wpList_store_blk rfl 43 _ _ rfl _ (dArr ((getL L k).getD Dc.d0)) _ 43 rfl rfl (cur.blk 1 rfl) Tryz.size43 rfl (dCells_one _) ?_; intro wg hB hO; replace cur := cur.set 1 rfl hO hB hler; clear hB hO))
  exact bodyPost_ret (results_cell_tmp2 Tryz.results276 rfl (cur.blk 1 rfl) Tryz.row43 Tryz.size43) rfl ⟨rfl, cur.s, cur.k⟩


end Go.Proofs.YtoalboilghgalaaGreatDoor
